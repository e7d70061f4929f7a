/- The walk of CallerOnce: each Go function that it calls, as a plain function, and the proof that the call computes it. Printed by the program gen.py.
   Conditions: those that each theorem states ahead of its colon, and no other. -/
import Derived.Test.YteiinkhbgpldeaaGreatDoorWCallerOnce0
namespace Go.Proofs.YteiinkhbgpldeaaGreatDoor.Sx
open Go Go.Proofs
set_option maxRecDepth 100000
set_option linter.unusedVariables false
def letter_bare_r46 (x1 : M48) (x1827 : Int) (x1846 : Int) (x1865 : Int) (x1941 : Int) (x1884 : Int) (x1903 : Int) (x1998 : Int) (x1922 : Int) (x1979 : Int) (x1960 : Int) (x2017 : Int) (x2018 : Int) (x2019 : Int) (x2020 : Int) (x2051 : Int) (x2052 : Int) (x2053 : List Int) (x2057 : Bool) (x2058 : Int) (x2089 : List M156) (x2123 : List M96) (x2157 : List Int) : Option M48 :=
  some (M48.mk x1.f0 x1.f1 x1.f2 x1827 x1846 x1865 x1941 x1884 x1903 x1998 x1922 x1979 x1960 (M41.mk x2017 x2018 x2019 x2020) (M44.mk x2051 x2052 x2053 x2057 x2058) x2089 x2123 x2157)
def letter_bare_r47 (x1228 : Int) (x1 : M48) (x1827 : Int) (x1846 : Int) (x1865 : Int) (x1941 : Int) (x1884 : Int) (x1903 : Int) (x1998 : Int) (x1922 : Int) (x1979 : Int) (x1960 : Int) (x2017 : Int) (x2018 : Int) (x2019 : Int) (x2020 : Int) (x2051 : Int) (x2052 : Int) (x2053 : List Int) (x2057 : Bool) (x2058 : Int) (x2089 : List M156) (x2123 : List M96) : Option M48 :=
  (if ((bAnd .i64 x1228 16384) != 0) = true then (
      (letter_bare_15 x1.f17).bind fun y2174 =>
      some y2174)
    else some ([]) : Option (List Int)).bind fun s2179 => letter_bare_r46 x1 x1827 x1846 x1865 x1941 x1884 x1903 x1998 x1922 x1979 x1960 x2017 x2018 x2019 x2020 x2051 x2052 x2053 x2057 x2058 x2089 x2123 s2179
def letter_bare_r48 (x1228 : Int) (x1 : M48) (x1827 : Int) (x1846 : Int) (x1865 : Int) (x1941 : Int) (x1884 : Int) (x1903 : Int) (x1998 : Int) (x1922 : Int) (x1979 : Int) (x1960 : Int) (x2017 : Int) (x2018 : Int) (x2019 : Int) (x2020 : Int) (x2051 : Int) (x2052 : Int) (x2053 : List Int) (x2057 : Bool) (x2058 : Int) (x2089 : List M156) : Option M48 :=
  (if ((bAnd .i64 x1228 8192) != 0) = true then (
      (letter_bare_14 x1.f16).bind fun y2193 =>
      some y2193)
    else some ([]) : Option (List M96)).bind fun s2198 => letter_bare_r47 x1228 x1 x1827 x1846 x1865 x1941 x1884 x1903 x1998 x1922 x1979 x1960 x2017 x2018 x2019 x2020 x2051 x2052 x2053 x2057 x2058 x2089 s2198
def letter_bare_r49 (x1228 : Int) (x1 : M48) (x1827 : Int) (x1846 : Int) (x1865 : Int) (x1941 : Int) (x1884 : Int) (x1903 : Int) (x1998 : Int) (x1922 : Int) (x1979 : Int) (x1960 : Int) (x2017 : Int) (x2018 : Int) (x2019 : Int) (x2020 : Int) (x2051 : Int) (x2052 : Int) (x2053 : List Int) (x2057 : Bool) (x2058 : Int) : Option M48 :=
  (if ((bAnd .i64 x1228 4096) != 0) = true then (
      (letter_bare_13 x1.f15).bind fun y2212 =>
      some y2212)
    else some ([]) : Option (List M156)).bind fun s2217 => letter_bare_r48 x1228 x1 x1827 x1846 x1865 x1941 x1884 x1903 x1998 x1922 x1979 x1960 x2017 x2018 x2019 x2020 x2051 x2052 x2053 x2057 x2058 s2217
def letter_bare_r50 (x1228 : Int) (x1 : M48) (x1827 : Int) (x1846 : Int) (x1865 : Int) (x1941 : Int) (x1884 : Int) (x1903 : Int) (x1998 : Int) (x1922 : Int) (x1979 : Int) (x1960 : Int) (x2017 : Int) (x2018 : Int) (x2019 : Int) (x2020 : Int) : Option M48 :=
  (if ((bAnd .i64 x1228 2048) != 0) = true then (
      (letter_bare_12 x1.f14.f0 x1.f14.f1 x1.f14.f2 x1.f14.f3 x1.f14.f4).bind fun y2231 =>
      some (y2231.1, y2231.2.1, y2231.2.2.1, y2231.2.2.2.1, y2231.2.2.2.2))
    else some (0, 0, [], false, 0) : Option (Int × Int × (List Int) × Bool × Int)).bind fun s2236 => letter_bare_r49 x1228 x1 x1827 x1846 x1865 x1941 x1884 x1903 x1998 x1922 x1979 x1960 x2017 x2018 x2019 x2020 s2236.1 s2236.2.1 s2236.2.2.1 s2236.2.2.2.1 s2236.2.2.2.2
def letter_bare_r51 (x1228 : Int) (x1 : M48) (x1827 : Int) (x1846 : Int) (x1865 : Int) (x1941 : Int) (x1884 : Int) (x1903 : Int) (x1922 : Int) (x1979 : Int) (x1960 : Int) (x1998 : Int) : Option M48 :=
  (if ((bAnd .i64 x1228 1024) != 0) = true then (
      (letter_bare_11 x1.f13.f0 x1.f13.f1 x1.f13.f2 x1.f13.f3).bind fun y2247 =>
      some (y2247.1, y2247.2.1, y2247.2.2.1, y2247.2.2.2))
    else some (0, 0, 0, 0) : Option (Int × Int × Int × Int)).bind fun s2249 => letter_bare_r50 x1228 x1 x1827 x1846 x1865 x1941 x1884 x1903 x1998 x1922 x1979 x1960 s2249.1 s2249.2.1 s2249.2.2.1 s2249.2.2.2
def letter_bare_r52 (x1228 : Int) (x1 : M48) (x1827 : Int) (x1846 : Int) (x1865 : Int) (x1941 : Int) (x1884 : Int) (x1903 : Int) (x1922 : Int) (x1960 : Int) (x1979 : Int) : Option M48 :=
  (if ((bAnd .i64 x1228 512) != 0) = true then (
      (letter_bare_10 x1.f9).bind fun y2260 =>
      some y2260)
    else some 0 : Option Int).bind fun s2262 => letter_bare_r51 x1228 x1 x1827 x1846 x1865 x1941 x1884 x1903 x1922 x1979 x1960 s2262
def letter_bare_r53 (x1228 : Int) (x1 : M48) (x1827 : Int) (x1846 : Int) (x1865 : Int) (x1941 : Int) (x1884 : Int) (x1903 : Int) (x1922 : Int) (x1960 : Int) : Option M48 :=
  (if ((bAnd .i64 x1228 256) != 0) = true then (
      (letter_bare_9 x1.f11).bind fun y2273 =>
      some y2273)
    else some 0 : Option Int).bind fun s2275 => letter_bare_r52 x1228 x1 x1827 x1846 x1865 x1941 x1884 x1903 x1922 x1960 s2275
def letter_bare_r54 (x1228 : Int) (x1 : M48) (x1827 : Int) (x1846 : Int) (x1865 : Int) (x1884 : Int) (x1903 : Int) (x1922 : Int) (x1941 : Int) : Option M48 :=
  (if ((bAnd .i64 x1228 128) != 0) = true then (
      (letter_bare_8 x1.f12).bind fun y2286 =>
      some y2286)
    else some 0 : Option Int).bind fun s2288 => letter_bare_r53 x1228 x1 x1827 x1846 x1865 x1941 x1884 x1903 x1922 s2288
def letter_bare_r55 (x1228 : Int) (x1 : M48) (x1827 : Int) (x1846 : Int) (x1865 : Int) (x1884 : Int) (x1903 : Int) (x1922 : Int) : Option M48 :=
  (if ((bAnd .i64 x1228 64) != 0) = true then (
      (letter_bare_7 x1.f6).bind fun y2299 =>
      some y2299)
    else some 0 : Option Int).bind fun s2301 => letter_bare_r54 x1228 x1 x1827 x1846 x1865 x1884 x1903 x1922 s2301
def letter_bare_r56 (x1228 : Int) (x1 : M48) (x1827 : Int) (x1846 : Int) (x1865 : Int) (x1884 : Int) (x1903 : Int) : Option M48 :=
  (if ((bAnd .i64 x1228 32) != 0) = true then (
      (letter_bare_6 x1.f10).bind fun y2312 =>
      some y2312)
    else some 0 : Option Int).bind fun s2314 => letter_bare_r55 x1228 x1 x1827 x1846 x1865 x1884 x1903 s2314
def letter_bare_r57 (x1228 : Int) (x1 : M48) (x1827 : Int) (x1846 : Int) (x1865 : Int) (x1884 : Int) : Option M48 :=
  (if ((bAnd .i64 x1228 16) != 0) = true then (
      (letter_bare_5 x1.f8).bind fun y2325 =>
      some y2325)
    else some 0 : Option Int).bind fun s2327 => letter_bare_r56 x1228 x1 x1827 x1846 x1865 x1884 s2327
def letter_bare_r58 (x1228 : Int) (x1 : M48) (x1827 : Int) (x1846 : Int) (x1865 : Int) : Option M48 :=
  (if ((bAnd .i64 x1228 8) != 0) = true then (
      (letter_bare_4 x1.f7).bind fun y2338 =>
      some y2338)
    else some 0 : Option Int).bind fun s2340 => letter_bare_r57 x1228 x1 x1827 x1846 x1865 s2340
def letter_bare_r59 (x1228 : Int) (x1 : M48) (x1827 : Int) (x1846 : Int) : Option M48 :=
  (if ((bAnd .i64 x1228 4) != 0) = true then (
      (letter_bare_3 x1.f5).bind fun y2351 =>
      some y2351)
    else some 0 : Option Int).bind fun s2353 => letter_bare_r58 x1228 x1 x1827 x1846 s2353
def letter_bare_r60 (x1228 : Int) (x1 : M48) (x1827 : Int) : Option M48 :=
  (if ((bAnd .i64 x1228 2) != 0) = true then (
      (letter_bare_2 x1.f4).bind fun y2364 =>
      some y2364)
    else some 0 : Option Int).bind fun s2366 => letter_bare_r59 x1228 x1 x1827 s2366
def letter_bare (x1 : M48) : Option M48 :=
  (ix gtab161 x1.f0).bind fun x1210 =>
  (some (bOr .i64 (bOr .i64 (bOr .i64 0 x1210.f1.f0) x1210.f1.f1) x1210.f1.f2)).bind fun x1224 =>
  (some (bOr .i64 (bOr .i64 (bOr .i64 x1224 x1210.f1.f3) x1210.f1.f4) x1210.f1.f5)).bind fun x1228 =>
  (if ((bAnd .i64 x1228 1) != 0) = true then (
      (letter_bare_1 x1.f3).bind fun y2377 =>
      some y2377)
    else some 0 : Option Int).bind fun s2379 => letter_bare_r60 x1228 x1 s2379
theorem letter_bare_s {x1 : M48} {p2 : Option Addr} {c3 : Nat} {p5 : Option Addr} {c6 : Nat} {p8 : Option Addr} {c9 : Nat} {p11 : Option Addr} {c12 : Nat} {r : M48} (hk : letter_bare x1 = some r) {g w : World} {F : Ch} {ih : IH} (h4 : RSl e3 ih [] p2 c3 x1.f14.f2) (h7 : RSl e156 ih [] p5 c6 x1.f15) (h10 : RSl e96 ih [] p8 c9 x1.f16) (h13 : RSl e5 ih [] p11 c12 x1.f17) (hG : Glob 0 gl0 162 ih) (hw : St g w [F] ih) :
    CallsR Tryz.prog 60 #[.agg #[vi64 x1.f0, vi64 x1.f1, vi64 x1.f2, vi64 x1.f3, vu64 x1.f4, vu64 x1.f5, vu64 x1.f6, vu64 x1.f7, vu64 x1.f8, vu64 x1.f9, vi64 x1.f10, vu32 x1.f11, vi64 x1.f12, vi64 x1.f13.f0, vi64 x1.f13.f1, vu64 x1.f13.f2, vi64 x1.f13.f3, vi64 x1.f14.f0, vu64 x1.f14.f1, .slice p2 x1.f14.f2.length c3, .bool x1.f14.f3, vi64 x1.f14.f4, .slice p5 x1.f15.length c6, .slice p8 x1.f16.length c9, .slice p11 x1.f17.length c12]] w fun v w' => ∃ (p2380 : Option Addr) (c2381 : Nat) (p2383 : Option Addr) (c2384 : Nat) (p2386 : Option Addr) (c2387 : Nat) (p2389 : Option Addr) (c2390 : Nat), v = .agg #[vi64 r.f0, vi64 r.f1, vi64 r.f2, vi64 r.f3, vu64 r.f4, vu64 r.f5, vu64 r.f6, vu64 r.f7, vu64 r.f8, vu64 r.f9, vi64 r.f10, vu32 r.f11, vi64 r.f12, vi64 r.f13.f0, vi64 r.f13.f1, vu64 r.f13.f2, vi64 r.f13.f3, vi64 r.f14.f0, vu64 r.f14.f1, .slice p2380 r.f14.f2.length c2381, .bool r.f14.f3, vi64 r.f14.f4, .slice p2383 r.f15.length c2384, .slice p2386 r.f16.length c2387, .slice p2389 r.f17.length c2390] ∧ St g w' [F] ih ∧ RSl e3 ih [] p2380 c2381 r.f14.f2 ∧ RSl e156 ih [] p2383 c2384 r.f15 ∧ RSl e96 ih [] p2386 c2387 r.f16 ∧ RSl e5 ih [] p2389 c2390 r.f17 := by
  refine f_in (vs := [.agg #[vi64 x1.f0, vi64 x1.f1, vi64 x1.f2, vi64 x1.f3, vu64 x1.f4, vu64 x1.f5, vu64 x1.f6, vu64 x1.f7, vu64 x1.f8, vu64 x1.f9, vi64 x1.f10, vu32 x1.f11, vi64 x1.f12, vi64 x1.f13.f0, vi64 x1.f13.f1, vu64 x1.f13.f2, vi64 x1.f13.f3, vi64 x1.f14.f0, vu64 x1.f14.f1, .slice p2 x1.f14.f2.length c3, .bool x1.f14.f3, vi64 x1.f14.f4, .slice p5 x1.f15.length c6, .slice p8 x1.f16.length c9, .slice p11 x1.f17.length c12]]) Tryz.func60 rfl 74 rfl (by kernel_rfl) [(0, .agg #[vi64 x1.f0, vi64 x1.f1, vi64 x1.f2, vi64 x1.f3, vu64 x1.f4, vu64 x1.f5, vu64 x1.f6, vu64 x1.f7, vu64 x1.f8, vu64 x1.f9, vi64 x1.f10, vu32 x1.f11, vi64 x1.f12, vi64 x1.f13.f0, vi64 x1.f13.f1, vu64 x1.f13.f2, vi64 x1.f13.f3, vi64 x1.f14.f0, vu64 x1.f14.f1, .slice p2 x1.f14.f2.length c3, .bool x1.f14.f3, vi64 x1.f14.f4, .slice p5 x1.f15.length c6, .slice p8 x1.f16.length c9, .slice p11 x1.f17.length c12])] (by kernel_rfl) fun a Qf hQ hQn hs => ?_
  refine c_seq ?_
  refine c_region ?_
  refine s_new hs hw [vi64 x1.f0, vi64 x1.f1, vi64 x1.f2, vi64 x1.f3, vu64 x1.f4, vu64 x1.f5, vu64 x1.f6, vu64 x1.f7, vu64 x1.f8, vu64 x1.f9, vi64 x1.f10, vu32 x1.f11, vi64 x1.f12, vi64 x1.f13.f0, vi64 x1.f13.f1, vu64 x1.f13.f2, vi64 x1.f13.f3, vi64 x1.f14.f0, vu64 x1.f14.f1, .slice p2 x1.f14.f2.length c3, .bool x1.f14.f3, vi64 x1.f14.f4, .slice p5 x1.f15.length c6, .slice p8 x1.f16.length c9, .slice p11 x1.f17.length c12] 48 (fun b => (pt b 0)) (by kernel_rfl) (fun _ => by kernel_rfl) fun a w b1202 hs hw => ?_
  refine s_new hs hw [vi64 0, vi64 0, vi64 0, vi64 0, vu64 0, vu64 0, vu64 0, vu64 0, vu64 0, vu64 0, vi64 0, vu32 0, vi64 0, vi64 0, vi64 0, vu64 0, vi64 0, vi64 0, vu64 0, .slice none 0 0, .bool false, vi64 0, .slice none 0 0, .slice none 0 0, .slice none 0 0] 48 (fun b => (pt b 0)) (by kernel_rfl) (fun _ => by kernel_rfl) fun a w b1204 hs hw => ?_
  refine s_end ?_
  refine c_seq ?_
  refine c_region ?_
  refine pures hs 1 [1, 2, 3] [(1, (pt b1202 0)), (2, (pt b1204 0)), (3, vi64 0)] (by kernel_rfl) fun a hs => ?_
  refine s_end ?_
  refine c_seq ?_
  refine c_seq ?_
  refine c_region ?_
  refine pures hs 1 [1, 2, 3, 9] [(1, (pt b1202 0)), (2, (pt b1204 0)), (3, vi64 0), (9, (pt b1202 0))] (by kernel_rfl) fun a hs => ?_
  refine s_load hs (hw.at_ 1 rfl) 0 (by kernel_rfl) (by kernel_rfl) (v := vi64 x1.f0) (by kernel_rfl) fun a hs => ?_
  obtain ⟨x1210, h1211, hk⟩ := bindE hk
  refine s_indexA hs (gtab161_row hG) (by kernel_rfl) (by kernel_rfl) (k := .i64) (by kernel_rfl) 161 (by kernel_rfl) (by kernel_rfl) h1211 fun a r1212 cs henc at1213 hs => ?_
  obtain rfl := henc
  refine pures hs 1 [1, 2, 3, 12] [(1, (pt b1202 0)), (2, (pt b1204 0)), (3, vi64 0), (12, .pointer (some (r1212.add 1)))] (by kernel_rfl) fun a hs => ?_
  refine s_load hs (at1213 _ (hw.vwAll.nil.anti (Le.refl _))) 1 (by kernel_rfl) (by kernel_rfl) (v := .agg #[vi64 x1210.f1.f0, vi64 x1210.f1.f1, vi64 x1210.f1.f2, vi64 x1210.f1.f3, vi64 x1210.f1.f4, vi64 x1210.f1.f5]) (by kernel_rfl) fun a hs => ?_
  refine pures hs 1 [1, 2, 3, 13, 14] [(1, (pt b1202 0)), (2, (pt b1204 0)), (3, vi64 0), (13, .agg #[vi64 x1210.f1.f0, vi64 x1210.f1.f1, vi64 x1210.f1.f2, vi64 x1210.f1.f3, vi64 x1210.f1.f4, vi64 x1210.f1.f5]), (14, vi64 0)] (by kernel_rfl) fun a hs => ?_
  refine s_end ?_
  refine c_block ?_
  refine wpIn_loop_rounds 7 ?_
  refine c_unr ?_
  refine c_seq ?_
  refine c_region ?_
  refine pures hs 1 [1, 2, 3, 13, 14, 15] [(1, (pt b1202 0)), (2, (pt b1204 0)), (3, vi64 0), (13, .agg #[vi64 x1210.f1.f0, vi64 x1210.f1.f1, vi64 x1210.f1.f2, vi64 x1210.f1.f3, vi64 x1210.f1.f4, vi64 x1210.f1.f5]), (14, vi64 0), (15, .bool true)] (by kernel_rfl) fun a hs => ?_
  refine s_end ?_
  refine c_seq ?_
  refine c_condT hs (by kernel_rfl) (by kernel_rfl) ?_
  refine c_skip ?_
  refine c_seq ?_
  refine c_block ?_
  refine c_seq ?_
  refine c_region ?_
  refine pures hs 2 [1, 2, 3, 13, 14, 5] [(1, (pt b1202 0)), (2, (pt b1204 0)), (3, vi64 0), (13, .agg #[vi64 x1210.f1.f0, vi64 x1210.f1.f1, vi64 x1210.f1.f2, vi64 x1210.f1.f3, vi64 x1210.f1.f4, vi64 x1210.f1.f5]), (14, vi64 0), (5, vi64 x1210.f1.f0)] (by kernel_rfl) fun a hs => ?_
  refine s_end ?_
  refine c_region ?_
  refine pures hs 4 [1, 2, 3, 13, 14] [(1, (pt b1202 0)), (2, (pt b1204 0)), (3, vi64 (bOr .i64 0 x1210.f1.f0)), (13, .agg #[vi64 x1210.f1.f0, vi64 x1210.f1.f1, vi64 x1210.f1.f2, vi64 x1210.f1.f3, vi64 x1210.f1.f4, vi64 x1210.f1.f5]), (14, vi64 0)] (by kernel_rfl) fun a hs => ?_
  refine s_end ?_
  refine c_region ?_
  refine pures hs 2 [1, 2, 3, 13, 14] [(1, (pt b1202 0)), (2, (pt b1204 0)), (3, vi64 (bOr .i64 0 x1210.f1.f0)), (13, .agg #[vi64 x1210.f1.f0, vi64 x1210.f1.f1, vi64 x1210.f1.f2, vi64 x1210.f1.f3, vi64 x1210.f1.f4, vi64 x1210.f1.f5]), (14, vi64 1)] (by kernel_rfl) fun a hs => ?_
  refine s_end ?_
  refine c_unr ?_
  refine c_seq ?_
  refine c_region ?_
  refine pures hs 1 [1, 2, 3, 13, 14, 15] [(1, (pt b1202 0)), (2, (pt b1204 0)), (3, vi64 (bOr .i64 0 x1210.f1.f0)), (13, .agg #[vi64 x1210.f1.f0, vi64 x1210.f1.f1, vi64 x1210.f1.f2, vi64 x1210.f1.f3, vi64 x1210.f1.f4, vi64 x1210.f1.f5]), (14, vi64 1), (15, .bool true)] (by kernel_rfl) fun a hs => ?_
  refine s_end ?_
  refine c_seq ?_
  refine c_condT hs (by kernel_rfl) (by kernel_rfl) ?_
  refine c_skip ?_
  refine c_seq ?_
  refine c_block ?_
  refine c_seq ?_
  refine c_region ?_
  refine pures hs 2 [1, 2, 3, 13, 14, 5] [(1, (pt b1202 0)), (2, (pt b1204 0)), (3, vi64 (bOr .i64 0 x1210.f1.f0)), (13, .agg #[vi64 x1210.f1.f0, vi64 x1210.f1.f1, vi64 x1210.f1.f2, vi64 x1210.f1.f3, vi64 x1210.f1.f4, vi64 x1210.f1.f5]), (14, vi64 1), (5, vi64 x1210.f1.f1)] (by kernel_rfl) fun a hs => ?_
  refine s_end ?_
  refine c_region ?_
  refine pures hs 4 [1, 2, 3, 13, 14] [(1, (pt b1202 0)), (2, (pt b1204 0)), (3, vi64 (bOr .i64 (bOr .i64 0 x1210.f1.f0) x1210.f1.f1)), (13, .agg #[vi64 x1210.f1.f0, vi64 x1210.f1.f1, vi64 x1210.f1.f2, vi64 x1210.f1.f3, vi64 x1210.f1.f4, vi64 x1210.f1.f5]), (14, vi64 1)] (by kernel_rfl) fun a hs => ?_
  refine s_end ?_
  refine c_region ?_
  refine pures hs 2 [1, 2, 3, 13, 14] [(1, (pt b1202 0)), (2, (pt b1204 0)), (3, vi64 (bOr .i64 (bOr .i64 0 x1210.f1.f0) x1210.f1.f1)), (13, .agg #[vi64 x1210.f1.f0, vi64 x1210.f1.f1, vi64 x1210.f1.f2, vi64 x1210.f1.f3, vi64 x1210.f1.f4, vi64 x1210.f1.f5]), (14, vi64 2)] (by kernel_rfl) fun a hs => ?_
  refine s_end ?_
  refine c_unr ?_
  refine c_seq ?_
  refine c_region ?_
  refine pures hs 1 [1, 2, 3, 13, 14, 15] [(1, (pt b1202 0)), (2, (pt b1204 0)), (3, vi64 (bOr .i64 (bOr .i64 0 x1210.f1.f0) x1210.f1.f1)), (13, .agg #[vi64 x1210.f1.f0, vi64 x1210.f1.f1, vi64 x1210.f1.f2, vi64 x1210.f1.f3, vi64 x1210.f1.f4, vi64 x1210.f1.f5]), (14, vi64 2), (15, .bool true)] (by kernel_rfl) fun a hs => ?_
  refine s_end ?_
  refine c_seq ?_
  refine c_condT hs (by kernel_rfl) (by kernel_rfl) ?_
  refine c_skip ?_
  refine c_seq ?_
  refine c_block ?_
  refine c_seq ?_
  refine c_region ?_
  refine pures hs 2 [1, 2, 3, 13, 14, 5] [(1, (pt b1202 0)), (2, (pt b1204 0)), (3, vi64 (bOr .i64 (bOr .i64 0 x1210.f1.f0) x1210.f1.f1)), (13, .agg #[vi64 x1210.f1.f0, vi64 x1210.f1.f1, vi64 x1210.f1.f2, vi64 x1210.f1.f3, vi64 x1210.f1.f4, vi64 x1210.f1.f5]), (14, vi64 2), (5, vi64 x1210.f1.f2)] (by kernel_rfl) fun a hs => ?_
  refine s_end ?_
  refine c_region ?_
  refine pures hs 3 [1, 2, 13, 14, 19] [(1, (pt b1202 0)), (2, (pt b1204 0)), (13, .agg #[vi64 x1210.f1.f0, vi64 x1210.f1.f1, vi64 x1210.f1.f2, vi64 x1210.f1.f3, vi64 x1210.f1.f4, vi64 x1210.f1.f5]), (14, vi64 2), (19, vi64 (bOr .i64 (bOr .i64 (bOr .i64 0 x1210.f1.f0) x1210.f1.f1) x1210.f1.f2))] (by kernel_rfl) fun a hs => ?_
  obtain ⟨x1224, h1225, hk⟩ := bindE hk
  replace hs := hs.alt 19 (by kernel_rfl) (congrArg (Value.int .i64) (someE h1225))
  refine pures hs 1 [1, 2, 13, 14, 3] [(1, (pt b1202 0)), (2, (pt b1204 0)), (13, .agg #[vi64 x1210.f1.f0, vi64 x1210.f1.f1, vi64 x1210.f1.f2, vi64 x1210.f1.f3, vi64 x1210.f1.f4, vi64 x1210.f1.f5]), (14, vi64 2), (3, vi64 x1224)] (by kernel_rfl) fun a hs => ?_
  refine s_end ?_
  refine c_region ?_
  refine pures hs 2 [1, 2, 13, 14, 3] [(1, (pt b1202 0)), (2, (pt b1204 0)), (13, .agg #[vi64 x1210.f1.f0, vi64 x1210.f1.f1, vi64 x1210.f1.f2, vi64 x1210.f1.f3, vi64 x1210.f1.f4, vi64 x1210.f1.f5]), (14, vi64 3), (3, vi64 x1224)] (by kernel_rfl) fun a hs => ?_
  refine s_end ?_
  refine c_unr ?_
  refine c_seq ?_
  refine c_region ?_
  refine pures hs 1 [1, 2, 13, 14, 3, 15] [(1, (pt b1202 0)), (2, (pt b1204 0)), (13, .agg #[vi64 x1210.f1.f0, vi64 x1210.f1.f1, vi64 x1210.f1.f2, vi64 x1210.f1.f3, vi64 x1210.f1.f4, vi64 x1210.f1.f5]), (14, vi64 3), (3, vi64 x1224), (15, .bool true)] (by kernel_rfl) fun a hs => ?_
  refine s_end ?_
  refine c_seq ?_
  refine c_condT hs (by kernel_rfl) (by kernel_rfl) ?_
  refine c_skip ?_
  refine c_seq ?_
  refine c_block ?_
  refine c_seq ?_
  refine c_region ?_
  refine pures hs 2 [1, 2, 13, 14, 3, 5] [(1, (pt b1202 0)), (2, (pt b1204 0)), (13, .agg #[vi64 x1210.f1.f0, vi64 x1210.f1.f1, vi64 x1210.f1.f2, vi64 x1210.f1.f3, vi64 x1210.f1.f4, vi64 x1210.f1.f5]), (14, vi64 3), (3, vi64 x1224), (5, vi64 x1210.f1.f3)] (by kernel_rfl) fun a hs => ?_
  refine s_end ?_
  refine c_region ?_
  refine pures hs 4 [1, 2, 13, 14, 3] [(1, (pt b1202 0)), (2, (pt b1204 0)), (13, .agg #[vi64 x1210.f1.f0, vi64 x1210.f1.f1, vi64 x1210.f1.f2, vi64 x1210.f1.f3, vi64 x1210.f1.f4, vi64 x1210.f1.f5]), (14, vi64 3), (3, vi64 (bOr .i64 x1224 x1210.f1.f3))] (by kernel_rfl) fun a hs => ?_
  refine s_end ?_
  refine c_region ?_
  refine pures hs 2 [1, 2, 13, 14, 3] [(1, (pt b1202 0)), (2, (pt b1204 0)), (13, .agg #[vi64 x1210.f1.f0, vi64 x1210.f1.f1, vi64 x1210.f1.f2, vi64 x1210.f1.f3, vi64 x1210.f1.f4, vi64 x1210.f1.f5]), (14, vi64 4), (3, vi64 (bOr .i64 x1224 x1210.f1.f3))] (by kernel_rfl) fun a hs => ?_
  refine s_end ?_
  refine c_unr ?_
  refine c_seq ?_
  refine c_region ?_
  refine pures hs 1 [1, 2, 13, 14, 3, 15] [(1, (pt b1202 0)), (2, (pt b1204 0)), (13, .agg #[vi64 x1210.f1.f0, vi64 x1210.f1.f1, vi64 x1210.f1.f2, vi64 x1210.f1.f3, vi64 x1210.f1.f4, vi64 x1210.f1.f5]), (14, vi64 4), (3, vi64 (bOr .i64 x1224 x1210.f1.f3)), (15, .bool true)] (by kernel_rfl) fun a hs => ?_
  refine s_end ?_
  refine c_seq ?_
  refine c_condT hs (by kernel_rfl) (by kernel_rfl) ?_
  refine c_skip ?_
  refine c_seq ?_
  refine c_block ?_
  refine c_seq ?_
  refine c_region ?_
  refine pures hs 2 [1, 2, 13, 14, 3, 5] [(1, (pt b1202 0)), (2, (pt b1204 0)), (13, .agg #[vi64 x1210.f1.f0, vi64 x1210.f1.f1, vi64 x1210.f1.f2, vi64 x1210.f1.f3, vi64 x1210.f1.f4, vi64 x1210.f1.f5]), (14, vi64 4), (3, vi64 (bOr .i64 x1224 x1210.f1.f3)), (5, vi64 x1210.f1.f4)] (by kernel_rfl) fun a hs => ?_
  refine s_end ?_
  refine c_region ?_
  refine pures hs 4 [1, 2, 13, 14, 3] [(1, (pt b1202 0)), (2, (pt b1204 0)), (13, .agg #[vi64 x1210.f1.f0, vi64 x1210.f1.f1, vi64 x1210.f1.f2, vi64 x1210.f1.f3, vi64 x1210.f1.f4, vi64 x1210.f1.f5]), (14, vi64 4), (3, vi64 (bOr .i64 (bOr .i64 x1224 x1210.f1.f3) x1210.f1.f4))] (by kernel_rfl) fun a hs => ?_
  refine s_end ?_
  refine c_region ?_
  refine pures hs 2 [1, 2, 13, 14, 3] [(1, (pt b1202 0)), (2, (pt b1204 0)), (13, .agg #[vi64 x1210.f1.f0, vi64 x1210.f1.f1, vi64 x1210.f1.f2, vi64 x1210.f1.f3, vi64 x1210.f1.f4, vi64 x1210.f1.f5]), (14, vi64 5), (3, vi64 (bOr .i64 (bOr .i64 x1224 x1210.f1.f3) x1210.f1.f4))] (by kernel_rfl) fun a hs => ?_
  refine s_end ?_
  refine c_unr ?_
  refine c_seq ?_
  refine c_region ?_
  refine pures hs 1 [1, 2, 13, 14, 3, 15] [(1, (pt b1202 0)), (2, (pt b1204 0)), (13, .agg #[vi64 x1210.f1.f0, vi64 x1210.f1.f1, vi64 x1210.f1.f2, vi64 x1210.f1.f3, vi64 x1210.f1.f4, vi64 x1210.f1.f5]), (14, vi64 5), (3, vi64 (bOr .i64 (bOr .i64 x1224 x1210.f1.f3) x1210.f1.f4)), (15, .bool true)] (by kernel_rfl) fun a hs => ?_
  refine s_end ?_
  refine c_seq ?_
  refine c_condT hs (by kernel_rfl) (by kernel_rfl) ?_
  refine c_skip ?_
  refine c_seq ?_
  refine c_block ?_
  refine c_seq ?_
  refine c_region ?_
  refine pures hs 2 [1, 2, 13, 14, 3, 5] [(1, (pt b1202 0)), (2, (pt b1204 0)), (13, .agg #[vi64 x1210.f1.f0, vi64 x1210.f1.f1, vi64 x1210.f1.f2, vi64 x1210.f1.f3, vi64 x1210.f1.f4, vi64 x1210.f1.f5]), (14, vi64 5), (3, vi64 (bOr .i64 (bOr .i64 x1224 x1210.f1.f3) x1210.f1.f4)), (5, vi64 x1210.f1.f5)] (by kernel_rfl) fun a hs => ?_
  refine s_end ?_
  refine c_region ?_
  refine pures hs 3 [1, 2, 13, 14, 19] [(1, (pt b1202 0)), (2, (pt b1204 0)), (13, .agg #[vi64 x1210.f1.f0, vi64 x1210.f1.f1, vi64 x1210.f1.f2, vi64 x1210.f1.f3, vi64 x1210.f1.f4, vi64 x1210.f1.f5]), (14, vi64 5), (19, vi64 (bOr .i64 (bOr .i64 (bOr .i64 x1224 x1210.f1.f3) x1210.f1.f4) x1210.f1.f5))] (by kernel_rfl) fun a hs => ?_
  obtain ⟨x1228, h1229, hk⟩ := bindE hk
  replace hs := hs.alt 19 (by kernel_rfl) (congrArg (Value.int .i64) (someE h1229))
  refine pures hs 1 [1, 2, 13, 14, 3] [(1, (pt b1202 0)), (2, (pt b1204 0)), (13, .agg #[vi64 x1210.f1.f0, vi64 x1210.f1.f1, vi64 x1210.f1.f2, vi64 x1210.f1.f3, vi64 x1210.f1.f4, vi64 x1210.f1.f5]), (14, vi64 5), (3, vi64 x1228)] (by kernel_rfl) fun a hs => ?_
  refine s_end ?_
  refine c_region ?_
  refine pures hs 2 [1, 2, 13, 14, 3] [(1, (pt b1202 0)), (2, (pt b1204 0)), (13, .agg #[vi64 x1210.f1.f0, vi64 x1210.f1.f1, vi64 x1210.f1.f2, vi64 x1210.f1.f3, vi64 x1210.f1.f4, vi64 x1210.f1.f5]), (14, vi64 6), (3, vi64 x1228)] (by kernel_rfl) fun a hs => ?_
  refine s_end ?_
  refine c_unr ?_
  refine c_seq ?_
  refine c_region ?_
  refine pures hs 1 [1, 2, 13, 14, 3, 15] [(1, (pt b1202 0)), (2, (pt b1204 0)), (13, .agg #[vi64 x1210.f1.f0, vi64 x1210.f1.f1, vi64 x1210.f1.f2, vi64 x1210.f1.f3, vi64 x1210.f1.f4, vi64 x1210.f1.f5]), (14, vi64 6), (3, vi64 x1228), (15, .bool false)] (by kernel_rfl) fun a hs => ?_
  refine s_end ?_
  refine c_seq ?_
  refine c_condF hs (by kernel_rfl) (by kernel_rfl) ?_
  refine c_exit ?_
  refine c_seq ?_
  refine c_region ?_
  refine pures hs 1 [1, 2, 3, 21] [(1, (pt b1202 0)), (2, (pt b1204 0)), (3, vi64 x1228), (21, (pt b1202 0))] (by kernel_rfl) fun a hs => ?_
  refine s_load hs (hw.at_ 1 rfl) 0 (by kernel_rfl) (by kernel_rfl) (v := vi64 x1.f0) (by kernel_rfl) fun a hs => ?_
  refine pures hs 1 [1, 2, 3, 22, 23] [(1, (pt b1202 0)), (2, (pt b1204 0)), (3, vi64 x1228), (22, vi64 x1.f0), (23, (pt b1202 1))] (by kernel_rfl) fun a hs => ?_
  refine s_load hs (hw.at_ 1 rfl) 1 (by kernel_rfl) (by kernel_rfl) (v := vi64 x1.f1) (by kernel_rfl) fun a hs => ?_
  refine pures hs 1 [1, 2, 3, 22, 24, 25] [(1, (pt b1202 0)), (2, (pt b1204 0)), (3, vi64 x1228), (22, vi64 x1.f0), (24, vi64 x1.f1), (25, (pt b1202 2))] (by kernel_rfl) fun a hs => ?_
  refine s_load hs (hw.at_ 1 rfl) 2 (by kernel_rfl) (by kernel_rfl) (v := vi64 x1.f2) (by kernel_rfl) fun a hs => ?_
  refine pures hs 1 [1, 2, 3, 27] [(1, (pt b1202 0)), (2, (pt b1204 0)), (3, vi64 x1228), (27, .agg #[vi64 x1.f0, vi64 x1.f1, vi64 x1.f2, vi64 0, vu64 0, vu64 0, vu64 0, vu64 0, vu64 0, vu64 0, vi64 0, vu32 0, vi64 0, vi64 0, vi64 0, vu64 0, vi64 0, vi64 0, vu64 0, .slice none 0 0, .bool false, vi64 0, .slice none 0 0, .slice none 0 0, .slice none 0 0])] (by kernel_rfl) fun a hs => ?_
  refine s_new hs hw [vi64 0, vi64 0, vi64 0, vi64 0, vu64 0, vu64 0, vu64 0, vu64 0, vu64 0, vu64 0, vi64 0, vu32 0, vi64 0, vi64 0, vi64 0, vu64 0, vi64 0, vi64 0, vu64 0, .slice none 0 0, .bool false, vi64 0, .slice none 0 0, .slice none 0 0, .slice none 0 0] 48 (fun b => (pt b 0)) (by kernel_rfl) (fun _ => by kernel_rfl) fun a w b1232 hs hw => ?_
  refine s_store hs hw 0 rfl 0 (by kernel_rfl) (by kernel_rfl) (v := .agg #[vi64 x1.f0, vi64 x1.f1, vi64 x1.f2, vi64 0, vu64 0, vu64 0, vu64 0, vu64 0, vu64 0, vu64 0, vi64 0, vu32 0, vi64 0, vi64 0, vi64 0, vu64 0, vi64 0, vi64 0, vu64 0, .slice none 0 0, .bool false, vi64 0, .slice none 0 0, .slice none 0 0, .slice none 0 0]) (by kernel_rfl) (by kernel_rfl) (by kernel_rfl) (by kernel_rfl) fun a w hs hw => ?_
  refine s_end ?_
  refine c_seq ?_
  refine c_seq ?_
  refine c_region ?_
  refine pures hs 30 [2, 3, 6, 29, 31, 33, 35, 37, 39, 41, 43, 45, 47, 49, 51, 53, 55, 57] [(2, (pt b1204 0)), (3, vi64 x1228), (6, (pt b1232 0)), (29, .agg #[vi64 1, .func (.func 95) #[] #[(pt b1202 0), (pt b1232 0)]]), (31, .agg #[vi64 2, .func (.func 96) #[] #[(pt b1202 0), (pt b1232 0)]]), (33, .agg #[vi64 4, .func (.func 97) #[] #[(pt b1202 0), (pt b1232 0)]]), (35, .agg #[vi64 8, .func (.func 98) #[] #[(pt b1202 0), (pt b1232 0)]]), (37, .agg #[vi64 16, .func (.func 99) #[] #[(pt b1202 0), (pt b1232 0)]]), (39, .agg #[vi64 32, .func (.func 100) #[] #[(pt b1202 0), (pt b1232 0)]]), (41, .agg #[vi64 64, .func (.func 101) #[] #[(pt b1202 0), (pt b1232 0)]]), (43, .agg #[vi64 128, .func (.func 102) #[] #[(pt b1202 0), (pt b1232 0)]]), (45, .agg #[vi64 256, .func (.func 103) #[] #[(pt b1202 0), (pt b1232 0)]]), (47, .agg #[vi64 512, .func (.func 104) #[] #[(pt b1202 0), (pt b1232 0)]]), (49, .agg #[vi64 1024, .func (.func 105) #[] #[(pt b1202 0), (pt b1232 0)]]), (51, .agg #[vi64 2048, .func (.func 106) #[] #[(pt b1202 0), (pt b1232 0)]]), (53, .agg #[vi64 4096, .func (.func 107) #[] #[(pt b1202 0), (pt b1232 0)]]), (55, .agg #[vi64 8192, .func (.func 108) #[] #[(pt b1202 0), (pt b1232 0)]]), (57, .agg #[vi64 16384, .func (.func 109) #[] #[(pt b1202 0), (pt b1232 0)]])] (by kernel_rfl) fun a hs => ?_
  refine s_new hs hw [vi64 1, .func (.func 95) #[] #[(pt b1202 0), (pt b1232 0)], vi64 2, .func (.func 96) #[] #[(pt b1202 0), (pt b1232 0)], vi64 4, .func (.func 97) #[] #[(pt b1202 0), (pt b1232 0)], vi64 8, .func (.func 98) #[] #[(pt b1202 0), (pt b1232 0)], vi64 16, .func (.func 99) #[] #[(pt b1202 0), (pt b1232 0)], vi64 32, .func (.func 100) #[] #[(pt b1202 0), (pt b1232 0)], vi64 64, .func (.func 101) #[] #[(pt b1202 0), (pt b1232 0)], vi64 128, .func (.func 102) #[] #[(pt b1202 0), (pt b1232 0)], vi64 256, .func (.func 103) #[] #[(pt b1202 0), (pt b1232 0)], vi64 512, .func (.func 104) #[] #[(pt b1202 0), (pt b1232 0)], vi64 1024, .func (.func 105) #[] #[(pt b1202 0), (pt b1232 0)], vi64 2048, .func (.func 106) #[] #[(pt b1202 0), (pt b1232 0)], vi64 4096, .func (.func 107) #[] #[(pt b1202 0), (pt b1232 0)], vi64 8192, .func (.func 108) #[] #[(pt b1202 0), (pt b1232 0)], vi64 16384, .func (.func 109) #[] #[(pt b1202 0), (pt b1232 0)]] 163 (fun b => .slice (some ⟨b, 0, none⟩) 15 15) (by kernel_rfl) (fun _ => by kernel_rfl) fun a w b1236 hs hw => ?_
  refine pures hs 2 [2, 3, 6, 58, 59, 60] [(2, (pt b1204 0)), (3, vi64 x1228), (6, (pt b1232 0)), (58, .slice (some ⟨b1236, 0, none⟩) 15 15), (59, vi64 15), (60, vi64 0)] (by kernel_rfl) fun a hs => ?_
  refine s_end ?_
  refine c_block ?_
  refine wpIn_loop_rounds 16 ?_
  refine c_unr ?_
  refine c_seq ?_
  refine c_region ?_
  refine pures hs 1 [2, 3, 6, 58, 59, 60, 61] [(2, (pt b1204 0)), (3, vi64 x1228), (6, (pt b1232 0)), (58, .slice (some ⟨b1236, 0, none⟩) 15 15), (59, vi64 15), (60, vi64 0), (61, .bool true)] (by kernel_rfl) fun a hs => ?_
  refine s_end ?_
  refine c_seq ?_
  refine c_condT hs (by kernel_rfl) (by kernel_rfl) ?_
  refine c_skip ?_
  obtain ⟨y2367, hx2368, hk⟩ := bindE hk
  obtain ⟨J2369, hJ2369⟩ : ∃ J : Act → World → Prop, ∀ a w, J a w ↔ (∃ (x1827 : Int), letter_bare_r60 x1228 x1 x1827 = some r ∧ Sees a 74 [(2, (pt b1204 0)), (3, vi64 x1228), (6, (pt b1232 0)), (58, .slice (some ⟨b1236, 0, none⟩) 15 15), (59, vi64 15), (60, vi64 0)] ∧ St g w [bx b1236 [vi64 1, .func (.func 95) #[] #[(pt b1202 0), (pt b1232 0)], vi64 2, .func (.func 96) #[] #[(pt b1202 0), (pt b1232 0)], vi64 4, .func (.func 97) #[] #[(pt b1202 0), (pt b1232 0)], vi64 8, .func (.func 98) #[] #[(pt b1202 0), (pt b1232 0)], vi64 16, .func (.func 99) #[] #[(pt b1202 0), (pt b1232 0)], vi64 32, .func (.func 100) #[] #[(pt b1202 0), (pt b1232 0)], vi64 64, .func (.func 101) #[] #[(pt b1202 0), (pt b1232 0)], vi64 128, .func (.func 102) #[] #[(pt b1202 0), (pt b1232 0)], vi64 256, .func (.func 103) #[] #[(pt b1202 0), (pt b1232 0)], vi64 512, .func (.func 104) #[] #[(pt b1202 0), (pt b1232 0)], vi64 1024, .func (.func 105) #[] #[(pt b1202 0), (pt b1232 0)], vi64 2048, .func (.func 106) #[] #[(pt b1202 0), (pt b1232 0)], vi64 4096, .func (.func 107) #[] #[(pt b1202 0), (pt b1232 0)], vi64 8192, .func (.func 108) #[] #[(pt b1202 0), (pt b1232 0)], vi64 16384, .func (.func 109) #[] #[(pt b1202 0), (pt b1232 0)]] 163, bx b1232 [vi64 x1.f0, vi64 x1.f1, vi64 x1.f2, vi64 x1827, vu64 0, vu64 0, vu64 0, vu64 0, vu64 0, vu64 0, vi64 0, vu32 0, vi64 0, vi64 0, vi64 0, vu64 0, vi64 0, vi64 0, vu64 0, .slice none 0 0, .bool false, vi64 0, .slice none 0 0, .slice none 0 0, .slice none 0 0] 48, bx b1204 [vi64 0, vi64 0, vi64 0, vi64 0, vu64 0, vu64 0, vu64 0, vu64 0, vu64 0, vu64 0, vi64 0, vu32 0, vi64 0, vi64 0, vi64 0, vu64 0, vi64 0, vi64 0, vu64 0, .slice none 0 0, .bool false, vi64 0, .slice none 0 0, .slice none 0 0, .slice none 0 0] 48, bx b1202 [vi64 x1.f0, vi64 x1.f1, vi64 x1.f2, vi64 x1.f3, vu64 x1.f4, vu64 x1.f5, vu64 x1.f6, vu64 x1.f7, vu64 x1.f8, vu64 x1.f9, vi64 x1.f10, vu32 x1.f11, vi64 x1.f12, vi64 x1.f13.f0, vi64 x1.f13.f1, vu64 x1.f13.f2, vi64 x1.f13.f3, vi64 x1.f14.f0, vu64 x1.f14.f1, .slice p2 x1.f14.f2.length c3, .bool x1.f14.f3, vi64 x1.f14.f4, .slice p5 x1.f15.length c6, .slice p8 x1.f16.length c9, .slice p11 x1.f17.length c12] 48, F] ih) := ⟨_, fun _ _ => Iff.rfl⟩
  refine c_seqJ J2369 ?_ ?_
  · refine c_block ?_
    refine c_seq ?_
    refine c_region ?_
    refine pures hs 1 [2, 3, 6, 58, 59, 60, 62] [(2, (pt b1204 0)), (3, vi64 x1228), (6, (pt b1232 0)), (58, .slice (some ⟨b1236, 0, none⟩) 15 15), (59, vi64 15), (60, vi64 0), (62, (pt b1236 0))] (by kernel_rfl) fun a hs => ?_
    refine s_load hs (hw.at_ 0 rfl) 0 (by kernel_rfl) (by kernel_rfl) (v := .agg #[vi64 1, .func (.func 95) #[] #[(pt b1202 0), (pt b1232 0)]]) (by kernel_rfl) fun a hs => ?_
    refine s_new hs hw [vi64 0, .nilFunc] 163 (fun b => (pt b 0)) (by kernel_rfl) (fun _ => by kernel_rfl) fun a w b2372 hs hw => ?_
    refine s_store hs hw 0 rfl 0 (by kernel_rfl) (by kernel_rfl) (v := .agg #[vi64 1, .func (.func 95) #[] #[(pt b1202 0), (pt b1232 0)]]) (by kernel_rfl) (by kernel_rfl) (by kernel_rfl) (by kernel_rfl) fun a w hs hw => ?_
    refine s_end ?_
    refine c_seq ?_
    refine c_region ?_
    refine pures hs 2 [2, 3, 6, 58, 59, 60, 8, 64, 65] [(2, (pt b1204 0)), (3, vi64 x1228), (6, (pt b1232 0)), (58, .slice (some ⟨b1236, 0, none⟩) 15 15), (59, vi64 15), (60, vi64 0), (8, (pt b2372 0)), (64, vi64 x1228), (65, (pt b2372 0))] (by kernel_rfl) fun a hs => ?_
    refine s_load hs (hw.at_ 0 rfl) 0 (by kernel_rfl) (by kernel_rfl) (v := vi64 1) (by kernel_rfl) fun a hs => ?_
    refine pures hs 2 [2, 3, 6, 58, 59, 60, 8, 68] [(2, (pt b1204 0)), (3, vi64 x1228), (6, (pt b1232 0)), (58, .slice (some ⟨b1236, 0, none⟩) 15 15), (59, vi64 15), (60, vi64 0), (8, (pt b2372 0)), (68, .bool ((bAnd .i64 x1228 1) != 0))] (by kernel_rfl) fun a hs => ?_
    refine s_end ?_
    rcases ifbE hx2368 with ⟨h2374, hx2368⟩ | ⟨h2374, hx2368⟩
    · refine c_cond1 hs (by kernel_rfl) (t := ((bAnd .i64 x1228 1) != 0)) (by kernel_rfl) h2374 ?_
      refine c_region ?_
      refine pures hs 1 [2, 3, 6, 58, 59, 60, 69] [(2, (pt b1204 0)), (3, vi64 x1228), (6, (pt b1232 0)), (58, .slice (some ⟨b1236, 0, none⟩) 15 15), (59, vi64 15), (60, vi64 0), (69, (pt b2372 1))] (by kernel_rfl) fun a hs => ?_
      refine s_load hs (hw.at_ 0 rfl) 1 (by kernel_rfl) (by kernel_rfl) (v := .func (.func 95) #[] #[(pt b1202 0), (pt b1232 0)]) (by kernel_rfl) fun a hs => ?_
      obtain ⟨y2377, h2378, hx2368⟩ := bindE hx2368
      refine s_call hs (by kernel_rfl) (by kernel_rfl) (letter_bare_1_s (x3 := x1.f0) (x4 := x1.f1) (x5 := x1.f2) (x7 := x1.f4) (x8 := x1.f5) (x9 := x1.f6) (x10 := x1.f7) (x11 := x1.f8) (x12 := x1.f9) (x13 := x1.f10) (x14 := x1.f11) (x15 := x1.f12) (x16 := x1.f13.f0) (x17 := x1.f13.f1) (x18 := x1.f13.f2) (x19 := x1.f13.f3) (x20 := x1.f14.f0) (x21 := x1.f14.f1) (x22 := x1.f14.f2) (x26 := x1.f14.f3) (x27 := x1.f14.f4) (x28 := x1.f15) (x32 := x1.f16) (x36 := x1.f17) (x42 := x1.f0) (x43 := x1.f1) (x44 := x1.f2) (x45 := 0) (x46 := 0) (x47 := 0) (x48 := 0) (x49 := 0) (x50 := 0) (x51 := 0) (x52 := 0) (x53 := 0) (x54 := 0) (x55 := 0) (x56 := 0) (x57 := 0) (x58 := 0) (x59 := 0) (x60 := 0) (x61 := []) (x65 := false) (x66 := 0) (x67 := []) (x71 := []) (x75 := []) h2378 h4 h7 h10 h13 (RSl.nil _ _ _) (RSl.nil _ _ _) (RSl.nil _ _ _) (RSl.nil _ _ _) ((hw.pick [4, 2, 1, 3, 5] (by kernel_rfl)).pack 2)) fun a w v hv hs => ?_
      obtain ⟨rfl, hw⟩ := hv
      replace hw := hw.unpack 2 rfl
      refine s_end ?_
      obtain rfl := someE hx2368
      exact (hJ2369 _ _).2 ⟨y2377, hk, hs.cast [2, 3, 6, 58, 59, 60] (by kernel_rfl), hw.pick [2, 1, 3, 0, 4] (by kernel_rfl)⟩
    refine c_cond0 hs (by kernel_rfl) (t := ((bAnd .i64 x1228 1) != 0)) (by kernel_rfl) h2374 ?_
    refine c_skip ?_
    obtain rfl := someE hx2368
    exact (hJ2369 _ _).2 ⟨0, hk, hs.cast [2, 3, 6, 58, 59, 60] (by kernel_rfl), hw.pick [1, 2, 3, 4, 5] (by kernel_rfl)⟩
  intro a w hh
  obtain ⟨x1827, hk, hs, hw⟩ := (hJ2369 _ _).1 hh
  refine c_region ?_
  refine pures hs 2 [2, 3, 6, 58, 59, 60] [(2, (pt b1204 0)), (3, vi64 x1228), (6, (pt b1232 0)), (58, .slice (some ⟨b1236, 0, none⟩) 15 15), (59, vi64 15), (60, vi64 1)] (by kernel_rfl) fun a hs => ?_
  refine s_end ?_
  refine c_unr ?_
  refine c_seq ?_
  refine c_region ?_
  refine pures hs 1 [2, 3, 6, 58, 59, 60, 61] [(2, (pt b1204 0)), (3, vi64 x1228), (6, (pt b1232 0)), (58, .slice (some ⟨b1236, 0, none⟩) 15 15), (59, vi64 15), (60, vi64 1), (61, .bool true)] (by kernel_rfl) fun a hs => ?_
  refine s_end ?_
  refine c_seq ?_
  refine c_condT hs (by kernel_rfl) (by kernel_rfl) ?_
  refine c_skip ?_
  obtain ⟨y2354, hx2355, hk⟩ := bindE hk
  obtain ⟨J2356, hJ2356⟩ : ∃ J : Act → World → Prop, ∀ a w, J a w ↔ (∃ (x1846 : Int), letter_bare_r59 x1228 x1 x1827 x1846 = some r ∧ Sees a 74 [(2, (pt b1204 0)), (3, vi64 x1228), (6, (pt b1232 0)), (58, .slice (some ⟨b1236, 0, none⟩) 15 15), (59, vi64 15), (60, vi64 1)] ∧ St g w [bx b1236 [vi64 1, .func (.func 95) #[] #[(pt b1202 0), (pt b1232 0)], vi64 2, .func (.func 96) #[] #[(pt b1202 0), (pt b1232 0)], vi64 4, .func (.func 97) #[] #[(pt b1202 0), (pt b1232 0)], vi64 8, .func (.func 98) #[] #[(pt b1202 0), (pt b1232 0)], vi64 16, .func (.func 99) #[] #[(pt b1202 0), (pt b1232 0)], vi64 32, .func (.func 100) #[] #[(pt b1202 0), (pt b1232 0)], vi64 64, .func (.func 101) #[] #[(pt b1202 0), (pt b1232 0)], vi64 128, .func (.func 102) #[] #[(pt b1202 0), (pt b1232 0)], vi64 256, .func (.func 103) #[] #[(pt b1202 0), (pt b1232 0)], vi64 512, .func (.func 104) #[] #[(pt b1202 0), (pt b1232 0)], vi64 1024, .func (.func 105) #[] #[(pt b1202 0), (pt b1232 0)], vi64 2048, .func (.func 106) #[] #[(pt b1202 0), (pt b1232 0)], vi64 4096, .func (.func 107) #[] #[(pt b1202 0), (pt b1232 0)], vi64 8192, .func (.func 108) #[] #[(pt b1202 0), (pt b1232 0)], vi64 16384, .func (.func 109) #[] #[(pt b1202 0), (pt b1232 0)]] 163, bx b1232 [vi64 x1.f0, vi64 x1.f1, vi64 x1.f2, vi64 x1827, vu64 x1846, vu64 0, vu64 0, vu64 0, vu64 0, vu64 0, vi64 0, vu32 0, vi64 0, vi64 0, vi64 0, vu64 0, vi64 0, vi64 0, vu64 0, .slice none 0 0, .bool false, vi64 0, .slice none 0 0, .slice none 0 0, .slice none 0 0] 48, bx b1204 [vi64 0, vi64 0, vi64 0, vi64 0, vu64 0, vu64 0, vu64 0, vu64 0, vu64 0, vu64 0, vi64 0, vu32 0, vi64 0, vi64 0, vi64 0, vu64 0, vi64 0, vi64 0, vu64 0, .slice none 0 0, .bool false, vi64 0, .slice none 0 0, .slice none 0 0, .slice none 0 0] 48, bx b1202 [vi64 x1.f0, vi64 x1.f1, vi64 x1.f2, vi64 x1.f3, vu64 x1.f4, vu64 x1.f5, vu64 x1.f6, vu64 x1.f7, vu64 x1.f8, vu64 x1.f9, vi64 x1.f10, vu32 x1.f11, vi64 x1.f12, vi64 x1.f13.f0, vi64 x1.f13.f1, vu64 x1.f13.f2, vi64 x1.f13.f3, vi64 x1.f14.f0, vu64 x1.f14.f1, .slice p2 x1.f14.f2.length c3, .bool x1.f14.f3, vi64 x1.f14.f4, .slice p5 x1.f15.length c6, .slice p8 x1.f16.length c9, .slice p11 x1.f17.length c12] 48, F] ih) := ⟨_, fun _ _ => Iff.rfl⟩
  refine c_seqJ J2356 ?_ ?_
  · refine c_block ?_
    refine c_seq ?_
    refine c_region ?_
    refine pures hs 1 [2, 3, 6, 58, 59, 60, 62] [(2, (pt b1204 0)), (3, vi64 x1228), (6, (pt b1232 0)), (58, .slice (some ⟨b1236, 0, none⟩) 15 15), (59, vi64 15), (60, vi64 1), (62, (pt b1236 2))] (by kernel_rfl) fun a hs => ?_
    refine s_load hs (hw.at_ 0 rfl) 2 (by kernel_rfl) (by kernel_rfl) (v := .agg #[vi64 2, .func (.func 96) #[] #[(pt b1202 0), (pt b1232 0)]]) (by kernel_rfl) fun a hs => ?_
    refine s_new hs hw [vi64 0, .nilFunc] 163 (fun b => (pt b 0)) (by kernel_rfl) (fun _ => by kernel_rfl) fun a w b2359 hs hw => ?_
    refine s_store hs hw 0 rfl 0 (by kernel_rfl) (by kernel_rfl) (v := .agg #[vi64 2, .func (.func 96) #[] #[(pt b1202 0), (pt b1232 0)]]) (by kernel_rfl) (by kernel_rfl) (by kernel_rfl) (by kernel_rfl) fun a w hs hw => ?_
    refine s_end ?_
    refine c_seq ?_
    refine c_region ?_
    refine pures hs 2 [2, 3, 6, 58, 59, 60, 8, 64, 65] [(2, (pt b1204 0)), (3, vi64 x1228), (6, (pt b1232 0)), (58, .slice (some ⟨b1236, 0, none⟩) 15 15), (59, vi64 15), (60, vi64 1), (8, (pt b2359 0)), (64, vi64 x1228), (65, (pt b2359 0))] (by kernel_rfl) fun a hs => ?_
    refine s_load hs (hw.at_ 0 rfl) 0 (by kernel_rfl) (by kernel_rfl) (v := vi64 2) (by kernel_rfl) fun a hs => ?_
    refine pures hs 2 [2, 3, 6, 58, 59, 60, 8, 68] [(2, (pt b1204 0)), (3, vi64 x1228), (6, (pt b1232 0)), (58, .slice (some ⟨b1236, 0, none⟩) 15 15), (59, vi64 15), (60, vi64 1), (8, (pt b2359 0)), (68, .bool ((bAnd .i64 x1228 2) != 0))] (by kernel_rfl) fun a hs => ?_
    refine s_end ?_
    rcases ifbE hx2355 with ⟨h2361, hx2355⟩ | ⟨h2361, hx2355⟩
    · refine c_cond1 hs (by kernel_rfl) (t := ((bAnd .i64 x1228 2) != 0)) (by kernel_rfl) h2361 ?_
      refine c_region ?_
      refine pures hs 1 [2, 3, 6, 58, 59, 60, 69] [(2, (pt b1204 0)), (3, vi64 x1228), (6, (pt b1232 0)), (58, .slice (some ⟨b1236, 0, none⟩) 15 15), (59, vi64 15), (60, vi64 1), (69, (pt b2359 1))] (by kernel_rfl) fun a hs => ?_
      refine s_load hs (hw.at_ 0 rfl) 1 (by kernel_rfl) (by kernel_rfl) (v := .func (.func 96) #[] #[(pt b1202 0), (pt b1232 0)]) (by kernel_rfl) fun a hs => ?_
      obtain ⟨y2364, h2365, hx2355⟩ := bindE hx2355
      refine s_call hs (by kernel_rfl) (by kernel_rfl) (letter_bare_2_s (x3 := x1.f0) (x4 := x1.f1) (x5 := x1.f2) (x6 := x1.f3) (x8 := x1.f5) (x9 := x1.f6) (x10 := x1.f7) (x11 := x1.f8) (x12 := x1.f9) (x13 := x1.f10) (x14 := x1.f11) (x15 := x1.f12) (x16 := x1.f13.f0) (x17 := x1.f13.f1) (x18 := x1.f13.f2) (x19 := x1.f13.f3) (x20 := x1.f14.f0) (x21 := x1.f14.f1) (x22 := x1.f14.f2) (x26 := x1.f14.f3) (x27 := x1.f14.f4) (x28 := x1.f15) (x32 := x1.f16) (x36 := x1.f17) (x42 := x1.f0) (x43 := x1.f1) (x44 := x1.f2) (x45 := x1827) (x46 := 0) (x47 := 0) (x48 := 0) (x49 := 0) (x50 := 0) (x51 := 0) (x52 := 0) (x53 := 0) (x54 := 0) (x55 := 0) (x56 := 0) (x57 := 0) (x58 := 0) (x59 := 0) (x60 := 0) (x61 := []) (x65 := false) (x66 := 0) (x67 := []) (x71 := []) (x75 := []) h2365 h4 h7 h10 h13 (RSl.nil _ _ _) (RSl.nil _ _ _) (RSl.nil _ _ _) (RSl.nil _ _ _) ((hw.pick [4, 2, 1, 3, 5] (by kernel_rfl)).pack 2)) fun a w v hv hs => ?_
      obtain ⟨rfl, hw⟩ := hv
      replace hw := hw.unpack 2 rfl
      refine s_end ?_
      obtain rfl := someE hx2355
      exact (hJ2356 _ _).2 ⟨y2364, hk, hs.cast [2, 3, 6, 58, 59, 60] (by kernel_rfl), hw.pick [2, 1, 3, 0, 4] (by kernel_rfl)⟩
    refine c_cond0 hs (by kernel_rfl) (t := ((bAnd .i64 x1228 2) != 0)) (by kernel_rfl) h2361 ?_
    refine c_skip ?_
    obtain rfl := someE hx2355
    exact (hJ2356 _ _).2 ⟨0, hk, hs.cast [2, 3, 6, 58, 59, 60] (by kernel_rfl), hw.pick [1, 2, 3, 4, 5] (by kernel_rfl)⟩
  intro a w hh
  obtain ⟨x1846, hk, hs, hw⟩ := (hJ2356 _ _).1 hh
  refine c_region ?_
  refine pures hs 2 [2, 3, 6, 58, 59, 60] [(2, (pt b1204 0)), (3, vi64 x1228), (6, (pt b1232 0)), (58, .slice (some ⟨b1236, 0, none⟩) 15 15), (59, vi64 15), (60, vi64 2)] (by kernel_rfl) fun a hs => ?_
  refine s_end ?_
  refine c_unr ?_
  refine c_seq ?_
  refine c_region ?_
  refine pures hs 1 [2, 3, 6, 58, 59, 60, 61] [(2, (pt b1204 0)), (3, vi64 x1228), (6, (pt b1232 0)), (58, .slice (some ⟨b1236, 0, none⟩) 15 15), (59, vi64 15), (60, vi64 2), (61, .bool true)] (by kernel_rfl) fun a hs => ?_
  refine s_end ?_
  refine c_seq ?_
  refine c_condT hs (by kernel_rfl) (by kernel_rfl) ?_
  refine c_skip ?_
  obtain ⟨y2341, hx2342, hk⟩ := bindE hk
  obtain ⟨J2343, hJ2343⟩ : ∃ J : Act → World → Prop, ∀ a w, J a w ↔ (∃ (x1865 : Int), letter_bare_r58 x1228 x1 x1827 x1846 x1865 = some r ∧ Sees a 74 [(2, (pt b1204 0)), (3, vi64 x1228), (6, (pt b1232 0)), (58, .slice (some ⟨b1236, 0, none⟩) 15 15), (59, vi64 15), (60, vi64 2)] ∧ St g w [bx b1236 [vi64 1, .func (.func 95) #[] #[(pt b1202 0), (pt b1232 0)], vi64 2, .func (.func 96) #[] #[(pt b1202 0), (pt b1232 0)], vi64 4, .func (.func 97) #[] #[(pt b1202 0), (pt b1232 0)], vi64 8, .func (.func 98) #[] #[(pt b1202 0), (pt b1232 0)], vi64 16, .func (.func 99) #[] #[(pt b1202 0), (pt b1232 0)], vi64 32, .func (.func 100) #[] #[(pt b1202 0), (pt b1232 0)], vi64 64, .func (.func 101) #[] #[(pt b1202 0), (pt b1232 0)], vi64 128, .func (.func 102) #[] #[(pt b1202 0), (pt b1232 0)], vi64 256, .func (.func 103) #[] #[(pt b1202 0), (pt b1232 0)], vi64 512, .func (.func 104) #[] #[(pt b1202 0), (pt b1232 0)], vi64 1024, .func (.func 105) #[] #[(pt b1202 0), (pt b1232 0)], vi64 2048, .func (.func 106) #[] #[(pt b1202 0), (pt b1232 0)], vi64 4096, .func (.func 107) #[] #[(pt b1202 0), (pt b1232 0)], vi64 8192, .func (.func 108) #[] #[(pt b1202 0), (pt b1232 0)], vi64 16384, .func (.func 109) #[] #[(pt b1202 0), (pt b1232 0)]] 163, bx b1232 [vi64 x1.f0, vi64 x1.f1, vi64 x1.f2, vi64 x1827, vu64 x1846, vu64 x1865, vu64 0, vu64 0, vu64 0, vu64 0, vi64 0, vu32 0, vi64 0, vi64 0, vi64 0, vu64 0, vi64 0, vi64 0, vu64 0, .slice none 0 0, .bool false, vi64 0, .slice none 0 0, .slice none 0 0, .slice none 0 0] 48, bx b1204 [vi64 0, vi64 0, vi64 0, vi64 0, vu64 0, vu64 0, vu64 0, vu64 0, vu64 0, vu64 0, vi64 0, vu32 0, vi64 0, vi64 0, vi64 0, vu64 0, vi64 0, vi64 0, vu64 0, .slice none 0 0, .bool false, vi64 0, .slice none 0 0, .slice none 0 0, .slice none 0 0] 48, bx b1202 [vi64 x1.f0, vi64 x1.f1, vi64 x1.f2, vi64 x1.f3, vu64 x1.f4, vu64 x1.f5, vu64 x1.f6, vu64 x1.f7, vu64 x1.f8, vu64 x1.f9, vi64 x1.f10, vu32 x1.f11, vi64 x1.f12, vi64 x1.f13.f0, vi64 x1.f13.f1, vu64 x1.f13.f2, vi64 x1.f13.f3, vi64 x1.f14.f0, vu64 x1.f14.f1, .slice p2 x1.f14.f2.length c3, .bool x1.f14.f3, vi64 x1.f14.f4, .slice p5 x1.f15.length c6, .slice p8 x1.f16.length c9, .slice p11 x1.f17.length c12] 48, F] ih) := ⟨_, fun _ _ => Iff.rfl⟩
  refine c_seqJ J2343 ?_ ?_
  · refine c_block ?_
    refine c_seq ?_
    refine c_region ?_
    refine pures hs 1 [2, 3, 6, 58, 59, 60, 62] [(2, (pt b1204 0)), (3, vi64 x1228), (6, (pt b1232 0)), (58, .slice (some ⟨b1236, 0, none⟩) 15 15), (59, vi64 15), (60, vi64 2), (62, (pt b1236 4))] (by kernel_rfl) fun a hs => ?_
    refine s_load hs (hw.at_ 0 rfl) 4 (by kernel_rfl) (by kernel_rfl) (v := .agg #[vi64 4, .func (.func 97) #[] #[(pt b1202 0), (pt b1232 0)]]) (by kernel_rfl) fun a hs => ?_
    refine s_new hs hw [vi64 0, .nilFunc] 163 (fun b => (pt b 0)) (by kernel_rfl) (fun _ => by kernel_rfl) fun a w b2346 hs hw => ?_
    refine s_store hs hw 0 rfl 0 (by kernel_rfl) (by kernel_rfl) (v := .agg #[vi64 4, .func (.func 97) #[] #[(pt b1202 0), (pt b1232 0)]]) (by kernel_rfl) (by kernel_rfl) (by kernel_rfl) (by kernel_rfl) fun a w hs hw => ?_
    refine s_end ?_
    refine c_seq ?_
    refine c_region ?_
    refine pures hs 2 [2, 3, 6, 58, 59, 60, 8, 64, 65] [(2, (pt b1204 0)), (3, vi64 x1228), (6, (pt b1232 0)), (58, .slice (some ⟨b1236, 0, none⟩) 15 15), (59, vi64 15), (60, vi64 2), (8, (pt b2346 0)), (64, vi64 x1228), (65, (pt b2346 0))] (by kernel_rfl) fun a hs => ?_
    refine s_load hs (hw.at_ 0 rfl) 0 (by kernel_rfl) (by kernel_rfl) (v := vi64 4) (by kernel_rfl) fun a hs => ?_
    refine pures hs 2 [2, 3, 6, 58, 59, 60, 8, 68] [(2, (pt b1204 0)), (3, vi64 x1228), (6, (pt b1232 0)), (58, .slice (some ⟨b1236, 0, none⟩) 15 15), (59, vi64 15), (60, vi64 2), (8, (pt b2346 0)), (68, .bool ((bAnd .i64 x1228 4) != 0))] (by kernel_rfl) fun a hs => ?_
    refine s_end ?_
    rcases ifbE hx2342 with ⟨h2348, hx2342⟩ | ⟨h2348, hx2342⟩
    · refine c_cond1 hs (by kernel_rfl) (t := ((bAnd .i64 x1228 4) != 0)) (by kernel_rfl) h2348 ?_
      refine c_region ?_
      refine pures hs 1 [2, 3, 6, 58, 59, 60, 69] [(2, (pt b1204 0)), (3, vi64 x1228), (6, (pt b1232 0)), (58, .slice (some ⟨b1236, 0, none⟩) 15 15), (59, vi64 15), (60, vi64 2), (69, (pt b2346 1))] (by kernel_rfl) fun a hs => ?_
      refine s_load hs (hw.at_ 0 rfl) 1 (by kernel_rfl) (by kernel_rfl) (v := .func (.func 97) #[] #[(pt b1202 0), (pt b1232 0)]) (by kernel_rfl) fun a hs => ?_
      obtain ⟨y2351, h2352, hx2342⟩ := bindE hx2342
      refine s_call hs (by kernel_rfl) (by kernel_rfl) (letter_bare_3_s (x3 := x1.f0) (x4 := x1.f1) (x5 := x1.f2) (x6 := x1.f3) (x7 := x1.f4) (x9 := x1.f6) (x10 := x1.f7) (x11 := x1.f8) (x12 := x1.f9) (x13 := x1.f10) (x14 := x1.f11) (x15 := x1.f12) (x16 := x1.f13.f0) (x17 := x1.f13.f1) (x18 := x1.f13.f2) (x19 := x1.f13.f3) (x20 := x1.f14.f0) (x21 := x1.f14.f1) (x22 := x1.f14.f2) (x26 := x1.f14.f3) (x27 := x1.f14.f4) (x28 := x1.f15) (x32 := x1.f16) (x36 := x1.f17) (x42 := x1.f0) (x43 := x1.f1) (x44 := x1.f2) (x45 := x1827) (x46 := x1846) (x47 := 0) (x48 := 0) (x49 := 0) (x50 := 0) (x51 := 0) (x52 := 0) (x53 := 0) (x54 := 0) (x55 := 0) (x56 := 0) (x57 := 0) (x58 := 0) (x59 := 0) (x60 := 0) (x61 := []) (x65 := false) (x66 := 0) (x67 := []) (x71 := []) (x75 := []) h2352 h4 h7 h10 h13 (RSl.nil _ _ _) (RSl.nil _ _ _) (RSl.nil _ _ _) (RSl.nil _ _ _) ((hw.pick [4, 2, 1, 3, 5] (by kernel_rfl)).pack 2)) fun a w v hv hs => ?_
      obtain ⟨rfl, hw⟩ := hv
      replace hw := hw.unpack 2 rfl
      refine s_end ?_
      obtain rfl := someE hx2342
      exact (hJ2343 _ _).2 ⟨y2351, hk, hs.cast [2, 3, 6, 58, 59, 60] (by kernel_rfl), hw.pick [2, 1, 3, 0, 4] (by kernel_rfl)⟩
    refine c_cond0 hs (by kernel_rfl) (t := ((bAnd .i64 x1228 4) != 0)) (by kernel_rfl) h2348 ?_
    refine c_skip ?_
    obtain rfl := someE hx2342
    exact (hJ2343 _ _).2 ⟨0, hk, hs.cast [2, 3, 6, 58, 59, 60] (by kernel_rfl), hw.pick [1, 2, 3, 4, 5] (by kernel_rfl)⟩
  intro a w hh
  obtain ⟨x1865, hk, hs, hw⟩ := (hJ2343 _ _).1 hh
  refine c_region ?_
  refine pures hs 2 [2, 3, 6, 58, 59, 60] [(2, (pt b1204 0)), (3, vi64 x1228), (6, (pt b1232 0)), (58, .slice (some ⟨b1236, 0, none⟩) 15 15), (59, vi64 15), (60, vi64 3)] (by kernel_rfl) fun a hs => ?_
  refine s_end ?_
  refine c_unr ?_
  refine c_seq ?_
  refine c_region ?_
  refine pures hs 1 [2, 3, 6, 58, 59, 60, 61] [(2, (pt b1204 0)), (3, vi64 x1228), (6, (pt b1232 0)), (58, .slice (some ⟨b1236, 0, none⟩) 15 15), (59, vi64 15), (60, vi64 3), (61, .bool true)] (by kernel_rfl) fun a hs => ?_
  refine s_end ?_
  refine c_seq ?_
  refine c_condT hs (by kernel_rfl) (by kernel_rfl) ?_
  refine c_skip ?_
  obtain ⟨y2328, hx2329, hk⟩ := bindE hk
  obtain ⟨J2330, hJ2330⟩ : ∃ J : Act → World → Prop, ∀ a w, J a w ↔ (∃ (x1884 : Int), letter_bare_r57 x1228 x1 x1827 x1846 x1865 x1884 = some r ∧ Sees a 74 [(2, (pt b1204 0)), (3, vi64 x1228), (6, (pt b1232 0)), (58, .slice (some ⟨b1236, 0, none⟩) 15 15), (59, vi64 15), (60, vi64 3)] ∧ St g w [bx b1236 [vi64 1, .func (.func 95) #[] #[(pt b1202 0), (pt b1232 0)], vi64 2, .func (.func 96) #[] #[(pt b1202 0), (pt b1232 0)], vi64 4, .func (.func 97) #[] #[(pt b1202 0), (pt b1232 0)], vi64 8, .func (.func 98) #[] #[(pt b1202 0), (pt b1232 0)], vi64 16, .func (.func 99) #[] #[(pt b1202 0), (pt b1232 0)], vi64 32, .func (.func 100) #[] #[(pt b1202 0), (pt b1232 0)], vi64 64, .func (.func 101) #[] #[(pt b1202 0), (pt b1232 0)], vi64 128, .func (.func 102) #[] #[(pt b1202 0), (pt b1232 0)], vi64 256, .func (.func 103) #[] #[(pt b1202 0), (pt b1232 0)], vi64 512, .func (.func 104) #[] #[(pt b1202 0), (pt b1232 0)], vi64 1024, .func (.func 105) #[] #[(pt b1202 0), (pt b1232 0)], vi64 2048, .func (.func 106) #[] #[(pt b1202 0), (pt b1232 0)], vi64 4096, .func (.func 107) #[] #[(pt b1202 0), (pt b1232 0)], vi64 8192, .func (.func 108) #[] #[(pt b1202 0), (pt b1232 0)], vi64 16384, .func (.func 109) #[] #[(pt b1202 0), (pt b1232 0)]] 163, bx b1232 [vi64 x1.f0, vi64 x1.f1, vi64 x1.f2, vi64 x1827, vu64 x1846, vu64 x1865, vu64 0, vu64 x1884, vu64 0, vu64 0, vi64 0, vu32 0, vi64 0, vi64 0, vi64 0, vu64 0, vi64 0, vi64 0, vu64 0, .slice none 0 0, .bool false, vi64 0, .slice none 0 0, .slice none 0 0, .slice none 0 0] 48, bx b1204 [vi64 0, vi64 0, vi64 0, vi64 0, vu64 0, vu64 0, vu64 0, vu64 0, vu64 0, vu64 0, vi64 0, vu32 0, vi64 0, vi64 0, vi64 0, vu64 0, vi64 0, vi64 0, vu64 0, .slice none 0 0, .bool false, vi64 0, .slice none 0 0, .slice none 0 0, .slice none 0 0] 48, bx b1202 [vi64 x1.f0, vi64 x1.f1, vi64 x1.f2, vi64 x1.f3, vu64 x1.f4, vu64 x1.f5, vu64 x1.f6, vu64 x1.f7, vu64 x1.f8, vu64 x1.f9, vi64 x1.f10, vu32 x1.f11, vi64 x1.f12, vi64 x1.f13.f0, vi64 x1.f13.f1, vu64 x1.f13.f2, vi64 x1.f13.f3, vi64 x1.f14.f0, vu64 x1.f14.f1, .slice p2 x1.f14.f2.length c3, .bool x1.f14.f3, vi64 x1.f14.f4, .slice p5 x1.f15.length c6, .slice p8 x1.f16.length c9, .slice p11 x1.f17.length c12] 48, F] ih) := ⟨_, fun _ _ => Iff.rfl⟩
  refine c_seqJ J2330 ?_ ?_
  · refine c_block ?_
    refine c_seq ?_
    refine c_region ?_
    refine pures hs 1 [2, 3, 6, 58, 59, 60, 62] [(2, (pt b1204 0)), (3, vi64 x1228), (6, (pt b1232 0)), (58, .slice (some ⟨b1236, 0, none⟩) 15 15), (59, vi64 15), (60, vi64 3), (62, (pt b1236 6))] (by kernel_rfl) fun a hs => ?_
    refine s_load hs (hw.at_ 0 rfl) 6 (by kernel_rfl) (by kernel_rfl) (v := .agg #[vi64 8, .func (.func 98) #[] #[(pt b1202 0), (pt b1232 0)]]) (by kernel_rfl) fun a hs => ?_
    refine s_new hs hw [vi64 0, .nilFunc] 163 (fun b => (pt b 0)) (by kernel_rfl) (fun _ => by kernel_rfl) fun a w b2333 hs hw => ?_
    refine s_store hs hw 0 rfl 0 (by kernel_rfl) (by kernel_rfl) (v := .agg #[vi64 8, .func (.func 98) #[] #[(pt b1202 0), (pt b1232 0)]]) (by kernel_rfl) (by kernel_rfl) (by kernel_rfl) (by kernel_rfl) fun a w hs hw => ?_
    refine s_end ?_
    refine c_seq ?_
    refine c_region ?_
    refine pures hs 2 [2, 3, 6, 58, 59, 60, 8, 64, 65] [(2, (pt b1204 0)), (3, vi64 x1228), (6, (pt b1232 0)), (58, .slice (some ⟨b1236, 0, none⟩) 15 15), (59, vi64 15), (60, vi64 3), (8, (pt b2333 0)), (64, vi64 x1228), (65, (pt b2333 0))] (by kernel_rfl) fun a hs => ?_
    refine s_load hs (hw.at_ 0 rfl) 0 (by kernel_rfl) (by kernel_rfl) (v := vi64 8) (by kernel_rfl) fun a hs => ?_
    refine pures hs 2 [2, 3, 6, 58, 59, 60, 8, 68] [(2, (pt b1204 0)), (3, vi64 x1228), (6, (pt b1232 0)), (58, .slice (some ⟨b1236, 0, none⟩) 15 15), (59, vi64 15), (60, vi64 3), (8, (pt b2333 0)), (68, .bool ((bAnd .i64 x1228 8) != 0))] (by kernel_rfl) fun a hs => ?_
    refine s_end ?_
    rcases ifbE hx2329 with ⟨h2335, hx2329⟩ | ⟨h2335, hx2329⟩
    · refine c_cond1 hs (by kernel_rfl) (t := ((bAnd .i64 x1228 8) != 0)) (by kernel_rfl) h2335 ?_
      refine c_region ?_
      refine pures hs 1 [2, 3, 6, 58, 59, 60, 69] [(2, (pt b1204 0)), (3, vi64 x1228), (6, (pt b1232 0)), (58, .slice (some ⟨b1236, 0, none⟩) 15 15), (59, vi64 15), (60, vi64 3), (69, (pt b2333 1))] (by kernel_rfl) fun a hs => ?_
      refine s_load hs (hw.at_ 0 rfl) 1 (by kernel_rfl) (by kernel_rfl) (v := .func (.func 98) #[] #[(pt b1202 0), (pt b1232 0)]) (by kernel_rfl) fun a hs => ?_
      obtain ⟨y2338, h2339, hx2329⟩ := bindE hx2329
      refine s_call hs (by kernel_rfl) (by kernel_rfl) (letter_bare_4_s (x3 := x1.f0) (x4 := x1.f1) (x5 := x1.f2) (x6 := x1.f3) (x7 := x1.f4) (x8 := x1.f5) (x9 := x1.f6) (x11 := x1.f8) (x12 := x1.f9) (x13 := x1.f10) (x14 := x1.f11) (x15 := x1.f12) (x16 := x1.f13.f0) (x17 := x1.f13.f1) (x18 := x1.f13.f2) (x19 := x1.f13.f3) (x20 := x1.f14.f0) (x21 := x1.f14.f1) (x22 := x1.f14.f2) (x26 := x1.f14.f3) (x27 := x1.f14.f4) (x28 := x1.f15) (x32 := x1.f16) (x36 := x1.f17) (x42 := x1.f0) (x43 := x1.f1) (x44 := x1.f2) (x45 := x1827) (x46 := x1846) (x47 := x1865) (x48 := 0) (x49 := 0) (x50 := 0) (x51 := 0) (x52 := 0) (x53 := 0) (x54 := 0) (x55 := 0) (x56 := 0) (x57 := 0) (x58 := 0) (x59 := 0) (x60 := 0) (x61 := []) (x65 := false) (x66 := 0) (x67 := []) (x71 := []) (x75 := []) h2339 h4 h7 h10 h13 (RSl.nil _ _ _) (RSl.nil _ _ _) (RSl.nil _ _ _) (RSl.nil _ _ _) ((hw.pick [4, 2, 1, 3, 5] (by kernel_rfl)).pack 2)) fun a w v hv hs => ?_
      obtain ⟨rfl, hw⟩ := hv
      replace hw := hw.unpack 2 rfl
      refine s_end ?_
      obtain rfl := someE hx2329
      exact (hJ2330 _ _).2 ⟨y2338, hk, hs.cast [2, 3, 6, 58, 59, 60] (by kernel_rfl), hw.pick [2, 1, 3, 0, 4] (by kernel_rfl)⟩
    refine c_cond0 hs (by kernel_rfl) (t := ((bAnd .i64 x1228 8) != 0)) (by kernel_rfl) h2335 ?_
    refine c_skip ?_
    obtain rfl := someE hx2329
    exact (hJ2330 _ _).2 ⟨0, hk, hs.cast [2, 3, 6, 58, 59, 60] (by kernel_rfl), hw.pick [1, 2, 3, 4, 5] (by kernel_rfl)⟩
  intro a w hh
  obtain ⟨x1884, hk, hs, hw⟩ := (hJ2330 _ _).1 hh
  refine c_region ?_
  refine pures hs 2 [2, 3, 6, 58, 59, 60] [(2, (pt b1204 0)), (3, vi64 x1228), (6, (pt b1232 0)), (58, .slice (some ⟨b1236, 0, none⟩) 15 15), (59, vi64 15), (60, vi64 4)] (by kernel_rfl) fun a hs => ?_
  refine s_end ?_
  refine c_unr ?_
  refine c_seq ?_
  refine c_region ?_
  refine pures hs 1 [2, 3, 6, 58, 59, 60, 61] [(2, (pt b1204 0)), (3, vi64 x1228), (6, (pt b1232 0)), (58, .slice (some ⟨b1236, 0, none⟩) 15 15), (59, vi64 15), (60, vi64 4), (61, .bool true)] (by kernel_rfl) fun a hs => ?_
  refine s_end ?_
  refine c_seq ?_
  refine c_condT hs (by kernel_rfl) (by kernel_rfl) ?_
  refine c_skip ?_
  obtain ⟨y2315, hx2316, hk⟩ := bindE hk
  obtain ⟨J2317, hJ2317⟩ : ∃ J : Act → World → Prop, ∀ a w, J a w ↔ (∃ (x1903 : Int), letter_bare_r56 x1228 x1 x1827 x1846 x1865 x1884 x1903 = some r ∧ Sees a 74 [(2, (pt b1204 0)), (3, vi64 x1228), (6, (pt b1232 0)), (58, .slice (some ⟨b1236, 0, none⟩) 15 15), (59, vi64 15), (60, vi64 4)] ∧ St g w [bx b1236 [vi64 1, .func (.func 95) #[] #[(pt b1202 0), (pt b1232 0)], vi64 2, .func (.func 96) #[] #[(pt b1202 0), (pt b1232 0)], vi64 4, .func (.func 97) #[] #[(pt b1202 0), (pt b1232 0)], vi64 8, .func (.func 98) #[] #[(pt b1202 0), (pt b1232 0)], vi64 16, .func (.func 99) #[] #[(pt b1202 0), (pt b1232 0)], vi64 32, .func (.func 100) #[] #[(pt b1202 0), (pt b1232 0)], vi64 64, .func (.func 101) #[] #[(pt b1202 0), (pt b1232 0)], vi64 128, .func (.func 102) #[] #[(pt b1202 0), (pt b1232 0)], vi64 256, .func (.func 103) #[] #[(pt b1202 0), (pt b1232 0)], vi64 512, .func (.func 104) #[] #[(pt b1202 0), (pt b1232 0)], vi64 1024, .func (.func 105) #[] #[(pt b1202 0), (pt b1232 0)], vi64 2048, .func (.func 106) #[] #[(pt b1202 0), (pt b1232 0)], vi64 4096, .func (.func 107) #[] #[(pt b1202 0), (pt b1232 0)], vi64 8192, .func (.func 108) #[] #[(pt b1202 0), (pt b1232 0)], vi64 16384, .func (.func 109) #[] #[(pt b1202 0), (pt b1232 0)]] 163, bx b1232 [vi64 x1.f0, vi64 x1.f1, vi64 x1.f2, vi64 x1827, vu64 x1846, vu64 x1865, vu64 0, vu64 x1884, vu64 x1903, vu64 0, vi64 0, vu32 0, vi64 0, vi64 0, vi64 0, vu64 0, vi64 0, vi64 0, vu64 0, .slice none 0 0, .bool false, vi64 0, .slice none 0 0, .slice none 0 0, .slice none 0 0] 48, bx b1204 [vi64 0, vi64 0, vi64 0, vi64 0, vu64 0, vu64 0, vu64 0, vu64 0, vu64 0, vu64 0, vi64 0, vu32 0, vi64 0, vi64 0, vi64 0, vu64 0, vi64 0, vi64 0, vu64 0, .slice none 0 0, .bool false, vi64 0, .slice none 0 0, .slice none 0 0, .slice none 0 0] 48, bx b1202 [vi64 x1.f0, vi64 x1.f1, vi64 x1.f2, vi64 x1.f3, vu64 x1.f4, vu64 x1.f5, vu64 x1.f6, vu64 x1.f7, vu64 x1.f8, vu64 x1.f9, vi64 x1.f10, vu32 x1.f11, vi64 x1.f12, vi64 x1.f13.f0, vi64 x1.f13.f1, vu64 x1.f13.f2, vi64 x1.f13.f3, vi64 x1.f14.f0, vu64 x1.f14.f1, .slice p2 x1.f14.f2.length c3, .bool x1.f14.f3, vi64 x1.f14.f4, .slice p5 x1.f15.length c6, .slice p8 x1.f16.length c9, .slice p11 x1.f17.length c12] 48, F] ih) := ⟨_, fun _ _ => Iff.rfl⟩
  refine c_seqJ J2317 ?_ ?_
  · refine c_block ?_
    refine c_seq ?_
    refine c_region ?_
    refine pures hs 1 [2, 3, 6, 58, 59, 60, 62] [(2, (pt b1204 0)), (3, vi64 x1228), (6, (pt b1232 0)), (58, .slice (some ⟨b1236, 0, none⟩) 15 15), (59, vi64 15), (60, vi64 4), (62, (pt b1236 8))] (by kernel_rfl) fun a hs => ?_
    refine s_load hs (hw.at_ 0 rfl) 8 (by kernel_rfl) (by kernel_rfl) (v := .agg #[vi64 16, .func (.func 99) #[] #[(pt b1202 0), (pt b1232 0)]]) (by kernel_rfl) fun a hs => ?_
    refine s_new hs hw [vi64 0, .nilFunc] 163 (fun b => (pt b 0)) (by kernel_rfl) (fun _ => by kernel_rfl) fun a w b2320 hs hw => ?_
    refine s_store hs hw 0 rfl 0 (by kernel_rfl) (by kernel_rfl) (v := .agg #[vi64 16, .func (.func 99) #[] #[(pt b1202 0), (pt b1232 0)]]) (by kernel_rfl) (by kernel_rfl) (by kernel_rfl) (by kernel_rfl) fun a w hs hw => ?_
    refine s_end ?_
    refine c_seq ?_
    refine c_region ?_
    refine pures hs 2 [2, 3, 6, 58, 59, 60, 8, 64, 65] [(2, (pt b1204 0)), (3, vi64 x1228), (6, (pt b1232 0)), (58, .slice (some ⟨b1236, 0, none⟩) 15 15), (59, vi64 15), (60, vi64 4), (8, (pt b2320 0)), (64, vi64 x1228), (65, (pt b2320 0))] (by kernel_rfl) fun a hs => ?_
    refine s_load hs (hw.at_ 0 rfl) 0 (by kernel_rfl) (by kernel_rfl) (v := vi64 16) (by kernel_rfl) fun a hs => ?_
    refine pures hs 2 [2, 3, 6, 58, 59, 60, 8, 68] [(2, (pt b1204 0)), (3, vi64 x1228), (6, (pt b1232 0)), (58, .slice (some ⟨b1236, 0, none⟩) 15 15), (59, vi64 15), (60, vi64 4), (8, (pt b2320 0)), (68, .bool ((bAnd .i64 x1228 16) != 0))] (by kernel_rfl) fun a hs => ?_
    refine s_end ?_
    rcases ifbE hx2316 with ⟨h2322, hx2316⟩ | ⟨h2322, hx2316⟩
    · refine c_cond1 hs (by kernel_rfl) (t := ((bAnd .i64 x1228 16) != 0)) (by kernel_rfl) h2322 ?_
      refine c_region ?_
      refine pures hs 1 [2, 3, 6, 58, 59, 60, 69] [(2, (pt b1204 0)), (3, vi64 x1228), (6, (pt b1232 0)), (58, .slice (some ⟨b1236, 0, none⟩) 15 15), (59, vi64 15), (60, vi64 4), (69, (pt b2320 1))] (by kernel_rfl) fun a hs => ?_
      refine s_load hs (hw.at_ 0 rfl) 1 (by kernel_rfl) (by kernel_rfl) (v := .func (.func 99) #[] #[(pt b1202 0), (pt b1232 0)]) (by kernel_rfl) fun a hs => ?_
      obtain ⟨y2325, h2326, hx2316⟩ := bindE hx2316
      refine s_call hs (by kernel_rfl) (by kernel_rfl) (letter_bare_5_s (x3 := x1.f0) (x4 := x1.f1) (x5 := x1.f2) (x6 := x1.f3) (x7 := x1.f4) (x8 := x1.f5) (x9 := x1.f6) (x10 := x1.f7) (x12 := x1.f9) (x13 := x1.f10) (x14 := x1.f11) (x15 := x1.f12) (x16 := x1.f13.f0) (x17 := x1.f13.f1) (x18 := x1.f13.f2) (x19 := x1.f13.f3) (x20 := x1.f14.f0) (x21 := x1.f14.f1) (x22 := x1.f14.f2) (x26 := x1.f14.f3) (x27 := x1.f14.f4) (x28 := x1.f15) (x32 := x1.f16) (x36 := x1.f17) (x42 := x1.f0) (x43 := x1.f1) (x44 := x1.f2) (x45 := x1827) (x46 := x1846) (x47 := x1865) (x48 := 0) (x49 := x1884) (x50 := 0) (x51 := 0) (x52 := 0) (x53 := 0) (x54 := 0) (x55 := 0) (x56 := 0) (x57 := 0) (x58 := 0) (x59 := 0) (x60 := 0) (x61 := []) (x65 := false) (x66 := 0) (x67 := []) (x71 := []) (x75 := []) h2326 h4 h7 h10 h13 (RSl.nil _ _ _) (RSl.nil _ _ _) (RSl.nil _ _ _) (RSl.nil _ _ _) ((hw.pick [4, 2, 1, 3, 5] (by kernel_rfl)).pack 2)) fun a w v hv hs => ?_
      obtain ⟨rfl, hw⟩ := hv
      replace hw := hw.unpack 2 rfl
      refine s_end ?_
      obtain rfl := someE hx2316
      exact (hJ2317 _ _).2 ⟨y2325, hk, hs.cast [2, 3, 6, 58, 59, 60] (by kernel_rfl), hw.pick [2, 1, 3, 0, 4] (by kernel_rfl)⟩
    refine c_cond0 hs (by kernel_rfl) (t := ((bAnd .i64 x1228 16) != 0)) (by kernel_rfl) h2322 ?_
    refine c_skip ?_
    obtain rfl := someE hx2316
    exact (hJ2317 _ _).2 ⟨0, hk, hs.cast [2, 3, 6, 58, 59, 60] (by kernel_rfl), hw.pick [1, 2, 3, 4, 5] (by kernel_rfl)⟩
  intro a w hh
  obtain ⟨x1903, hk, hs, hw⟩ := (hJ2317 _ _).1 hh
  refine c_region ?_
  refine pures hs 2 [2, 3, 6, 58, 59, 60] [(2, (pt b1204 0)), (3, vi64 x1228), (6, (pt b1232 0)), (58, .slice (some ⟨b1236, 0, none⟩) 15 15), (59, vi64 15), (60, vi64 5)] (by kernel_rfl) fun a hs => ?_
  refine s_end ?_
  refine c_unr ?_
  refine c_seq ?_
  refine c_region ?_
  refine pures hs 1 [2, 3, 6, 58, 59, 60, 61] [(2, (pt b1204 0)), (3, vi64 x1228), (6, (pt b1232 0)), (58, .slice (some ⟨b1236, 0, none⟩) 15 15), (59, vi64 15), (60, vi64 5), (61, .bool true)] (by kernel_rfl) fun a hs => ?_
  refine s_end ?_
  refine c_seq ?_
  refine c_condT hs (by kernel_rfl) (by kernel_rfl) ?_
  refine c_skip ?_
  obtain ⟨y2302, hx2303, hk⟩ := bindE hk
  obtain ⟨J2304, hJ2304⟩ : ∃ J : Act → World → Prop, ∀ a w, J a w ↔ (∃ (x1922 : Int), letter_bare_r55 x1228 x1 x1827 x1846 x1865 x1884 x1903 x1922 = some r ∧ Sees a 74 [(2, (pt b1204 0)), (3, vi64 x1228), (6, (pt b1232 0)), (58, .slice (some ⟨b1236, 0, none⟩) 15 15), (59, vi64 15), (60, vi64 5)] ∧ St g w [bx b1236 [vi64 1, .func (.func 95) #[] #[(pt b1202 0), (pt b1232 0)], vi64 2, .func (.func 96) #[] #[(pt b1202 0), (pt b1232 0)], vi64 4, .func (.func 97) #[] #[(pt b1202 0), (pt b1232 0)], vi64 8, .func (.func 98) #[] #[(pt b1202 0), (pt b1232 0)], vi64 16, .func (.func 99) #[] #[(pt b1202 0), (pt b1232 0)], vi64 32, .func (.func 100) #[] #[(pt b1202 0), (pt b1232 0)], vi64 64, .func (.func 101) #[] #[(pt b1202 0), (pt b1232 0)], vi64 128, .func (.func 102) #[] #[(pt b1202 0), (pt b1232 0)], vi64 256, .func (.func 103) #[] #[(pt b1202 0), (pt b1232 0)], vi64 512, .func (.func 104) #[] #[(pt b1202 0), (pt b1232 0)], vi64 1024, .func (.func 105) #[] #[(pt b1202 0), (pt b1232 0)], vi64 2048, .func (.func 106) #[] #[(pt b1202 0), (pt b1232 0)], vi64 4096, .func (.func 107) #[] #[(pt b1202 0), (pt b1232 0)], vi64 8192, .func (.func 108) #[] #[(pt b1202 0), (pt b1232 0)], vi64 16384, .func (.func 109) #[] #[(pt b1202 0), (pt b1232 0)]] 163, bx b1232 [vi64 x1.f0, vi64 x1.f1, vi64 x1.f2, vi64 x1827, vu64 x1846, vu64 x1865, vu64 0, vu64 x1884, vu64 x1903, vu64 0, vi64 x1922, vu32 0, vi64 0, vi64 0, vi64 0, vu64 0, vi64 0, vi64 0, vu64 0, .slice none 0 0, .bool false, vi64 0, .slice none 0 0, .slice none 0 0, .slice none 0 0] 48, bx b1204 [vi64 0, vi64 0, vi64 0, vi64 0, vu64 0, vu64 0, vu64 0, vu64 0, vu64 0, vu64 0, vi64 0, vu32 0, vi64 0, vi64 0, vi64 0, vu64 0, vi64 0, vi64 0, vu64 0, .slice none 0 0, .bool false, vi64 0, .slice none 0 0, .slice none 0 0, .slice none 0 0] 48, bx b1202 [vi64 x1.f0, vi64 x1.f1, vi64 x1.f2, vi64 x1.f3, vu64 x1.f4, vu64 x1.f5, vu64 x1.f6, vu64 x1.f7, vu64 x1.f8, vu64 x1.f9, vi64 x1.f10, vu32 x1.f11, vi64 x1.f12, vi64 x1.f13.f0, vi64 x1.f13.f1, vu64 x1.f13.f2, vi64 x1.f13.f3, vi64 x1.f14.f0, vu64 x1.f14.f1, .slice p2 x1.f14.f2.length c3, .bool x1.f14.f3, vi64 x1.f14.f4, .slice p5 x1.f15.length c6, .slice p8 x1.f16.length c9, .slice p11 x1.f17.length c12] 48, F] ih) := ⟨_, fun _ _ => Iff.rfl⟩
  refine c_seqJ J2304 ?_ ?_
  · refine c_block ?_
    refine c_seq ?_
    refine c_region ?_
    refine pures hs 1 [2, 3, 6, 58, 59, 60, 62] [(2, (pt b1204 0)), (3, vi64 x1228), (6, (pt b1232 0)), (58, .slice (some ⟨b1236, 0, none⟩) 15 15), (59, vi64 15), (60, vi64 5), (62, (pt b1236 10))] (by kernel_rfl) fun a hs => ?_
    refine s_load hs (hw.at_ 0 rfl) 10 (by kernel_rfl) (by kernel_rfl) (v := .agg #[vi64 32, .func (.func 100) #[] #[(pt b1202 0), (pt b1232 0)]]) (by kernel_rfl) fun a hs => ?_
    refine s_new hs hw [vi64 0, .nilFunc] 163 (fun b => (pt b 0)) (by kernel_rfl) (fun _ => by kernel_rfl) fun a w b2307 hs hw => ?_
    refine s_store hs hw 0 rfl 0 (by kernel_rfl) (by kernel_rfl) (v := .agg #[vi64 32, .func (.func 100) #[] #[(pt b1202 0), (pt b1232 0)]]) (by kernel_rfl) (by kernel_rfl) (by kernel_rfl) (by kernel_rfl) fun a w hs hw => ?_
    refine s_end ?_
    refine c_seq ?_
    refine c_region ?_
    refine pures hs 2 [2, 3, 6, 58, 59, 60, 8, 64, 65] [(2, (pt b1204 0)), (3, vi64 x1228), (6, (pt b1232 0)), (58, .slice (some ⟨b1236, 0, none⟩) 15 15), (59, vi64 15), (60, vi64 5), (8, (pt b2307 0)), (64, vi64 x1228), (65, (pt b2307 0))] (by kernel_rfl) fun a hs => ?_
    refine s_load hs (hw.at_ 0 rfl) 0 (by kernel_rfl) (by kernel_rfl) (v := vi64 32) (by kernel_rfl) fun a hs => ?_
    refine pures hs 2 [2, 3, 6, 58, 59, 60, 8, 68] [(2, (pt b1204 0)), (3, vi64 x1228), (6, (pt b1232 0)), (58, .slice (some ⟨b1236, 0, none⟩) 15 15), (59, vi64 15), (60, vi64 5), (8, (pt b2307 0)), (68, .bool ((bAnd .i64 x1228 32) != 0))] (by kernel_rfl) fun a hs => ?_
    refine s_end ?_
    rcases ifbE hx2303 with ⟨h2309, hx2303⟩ | ⟨h2309, hx2303⟩
    · refine c_cond1 hs (by kernel_rfl) (t := ((bAnd .i64 x1228 32) != 0)) (by kernel_rfl) h2309 ?_
      refine c_region ?_
      refine pures hs 1 [2, 3, 6, 58, 59, 60, 69] [(2, (pt b1204 0)), (3, vi64 x1228), (6, (pt b1232 0)), (58, .slice (some ⟨b1236, 0, none⟩) 15 15), (59, vi64 15), (60, vi64 5), (69, (pt b2307 1))] (by kernel_rfl) fun a hs => ?_
      refine s_load hs (hw.at_ 0 rfl) 1 (by kernel_rfl) (by kernel_rfl) (v := .func (.func 100) #[] #[(pt b1202 0), (pt b1232 0)]) (by kernel_rfl) fun a hs => ?_
      obtain ⟨y2312, h2313, hx2303⟩ := bindE hx2303
      refine s_call hs (by kernel_rfl) (by kernel_rfl) (letter_bare_6_s (x3 := x1.f0) (x4 := x1.f1) (x5 := x1.f2) (x6 := x1.f3) (x7 := x1.f4) (x8 := x1.f5) (x9 := x1.f6) (x10 := x1.f7) (x11 := x1.f8) (x12 := x1.f9) (x14 := x1.f11) (x15 := x1.f12) (x16 := x1.f13.f0) (x17 := x1.f13.f1) (x18 := x1.f13.f2) (x19 := x1.f13.f3) (x20 := x1.f14.f0) (x21 := x1.f14.f1) (x22 := x1.f14.f2) (x26 := x1.f14.f3) (x27 := x1.f14.f4) (x28 := x1.f15) (x32 := x1.f16) (x36 := x1.f17) (x42 := x1.f0) (x43 := x1.f1) (x44 := x1.f2) (x45 := x1827) (x46 := x1846) (x47 := x1865) (x48 := 0) (x49 := x1884) (x50 := x1903) (x51 := 0) (x52 := 0) (x53 := 0) (x54 := 0) (x55 := 0) (x56 := 0) (x57 := 0) (x58 := 0) (x59 := 0) (x60 := 0) (x61 := []) (x65 := false) (x66 := 0) (x67 := []) (x71 := []) (x75 := []) h2313 h4 h7 h10 h13 (RSl.nil _ _ _) (RSl.nil _ _ _) (RSl.nil _ _ _) (RSl.nil _ _ _) ((hw.pick [4, 2, 1, 3, 5] (by kernel_rfl)).pack 2)) fun a w v hv hs => ?_
      obtain ⟨rfl, hw⟩ := hv
      replace hw := hw.unpack 2 rfl
      refine s_end ?_
      obtain rfl := someE hx2303
      exact (hJ2304 _ _).2 ⟨y2312, hk, hs.cast [2, 3, 6, 58, 59, 60] (by kernel_rfl), hw.pick [2, 1, 3, 0, 4] (by kernel_rfl)⟩
    refine c_cond0 hs (by kernel_rfl) (t := ((bAnd .i64 x1228 32) != 0)) (by kernel_rfl) h2309 ?_
    refine c_skip ?_
    obtain rfl := someE hx2303
    exact (hJ2304 _ _).2 ⟨0, hk, hs.cast [2, 3, 6, 58, 59, 60] (by kernel_rfl), hw.pick [1, 2, 3, 4, 5] (by kernel_rfl)⟩
  intro a w hh
  obtain ⟨x1922, hk, hs, hw⟩ := (hJ2304 _ _).1 hh
  refine c_region ?_
  refine pures hs 2 [2, 3, 6, 58, 59, 60] [(2, (pt b1204 0)), (3, vi64 x1228), (6, (pt b1232 0)), (58, .slice (some ⟨b1236, 0, none⟩) 15 15), (59, vi64 15), (60, vi64 6)] (by kernel_rfl) fun a hs => ?_
  refine s_end ?_
  refine c_unr ?_
  refine c_seq ?_
  refine c_region ?_
  refine pures hs 1 [2, 3, 6, 58, 59, 60, 61] [(2, (pt b1204 0)), (3, vi64 x1228), (6, (pt b1232 0)), (58, .slice (some ⟨b1236, 0, none⟩) 15 15), (59, vi64 15), (60, vi64 6), (61, .bool true)] (by kernel_rfl) fun a hs => ?_
  refine s_end ?_
  refine c_seq ?_
  refine c_condT hs (by kernel_rfl) (by kernel_rfl) ?_
  refine c_skip ?_
  obtain ⟨y2289, hx2290, hk⟩ := bindE hk
  obtain ⟨J2291, hJ2291⟩ : ∃ J : Act → World → Prop, ∀ a w, J a w ↔ (∃ (x1941 : Int), letter_bare_r54 x1228 x1 x1827 x1846 x1865 x1884 x1903 x1922 x1941 = some r ∧ Sees a 74 [(2, (pt b1204 0)), (3, vi64 x1228), (6, (pt b1232 0)), (58, .slice (some ⟨b1236, 0, none⟩) 15 15), (59, vi64 15), (60, vi64 6)] ∧ St g w [bx b1236 [vi64 1, .func (.func 95) #[] #[(pt b1202 0), (pt b1232 0)], vi64 2, .func (.func 96) #[] #[(pt b1202 0), (pt b1232 0)], vi64 4, .func (.func 97) #[] #[(pt b1202 0), (pt b1232 0)], vi64 8, .func (.func 98) #[] #[(pt b1202 0), (pt b1232 0)], vi64 16, .func (.func 99) #[] #[(pt b1202 0), (pt b1232 0)], vi64 32, .func (.func 100) #[] #[(pt b1202 0), (pt b1232 0)], vi64 64, .func (.func 101) #[] #[(pt b1202 0), (pt b1232 0)], vi64 128, .func (.func 102) #[] #[(pt b1202 0), (pt b1232 0)], vi64 256, .func (.func 103) #[] #[(pt b1202 0), (pt b1232 0)], vi64 512, .func (.func 104) #[] #[(pt b1202 0), (pt b1232 0)], vi64 1024, .func (.func 105) #[] #[(pt b1202 0), (pt b1232 0)], vi64 2048, .func (.func 106) #[] #[(pt b1202 0), (pt b1232 0)], vi64 4096, .func (.func 107) #[] #[(pt b1202 0), (pt b1232 0)], vi64 8192, .func (.func 108) #[] #[(pt b1202 0), (pt b1232 0)], vi64 16384, .func (.func 109) #[] #[(pt b1202 0), (pt b1232 0)]] 163, bx b1232 [vi64 x1.f0, vi64 x1.f1, vi64 x1.f2, vi64 x1827, vu64 x1846, vu64 x1865, vu64 x1941, vu64 x1884, vu64 x1903, vu64 0, vi64 x1922, vu32 0, vi64 0, vi64 0, vi64 0, vu64 0, vi64 0, vi64 0, vu64 0, .slice none 0 0, .bool false, vi64 0, .slice none 0 0, .slice none 0 0, .slice none 0 0] 48, bx b1204 [vi64 0, vi64 0, vi64 0, vi64 0, vu64 0, vu64 0, vu64 0, vu64 0, vu64 0, vu64 0, vi64 0, vu32 0, vi64 0, vi64 0, vi64 0, vu64 0, vi64 0, vi64 0, vu64 0, .slice none 0 0, .bool false, vi64 0, .slice none 0 0, .slice none 0 0, .slice none 0 0] 48, bx b1202 [vi64 x1.f0, vi64 x1.f1, vi64 x1.f2, vi64 x1.f3, vu64 x1.f4, vu64 x1.f5, vu64 x1.f6, vu64 x1.f7, vu64 x1.f8, vu64 x1.f9, vi64 x1.f10, vu32 x1.f11, vi64 x1.f12, vi64 x1.f13.f0, vi64 x1.f13.f1, vu64 x1.f13.f2, vi64 x1.f13.f3, vi64 x1.f14.f0, vu64 x1.f14.f1, .slice p2 x1.f14.f2.length c3, .bool x1.f14.f3, vi64 x1.f14.f4, .slice p5 x1.f15.length c6, .slice p8 x1.f16.length c9, .slice p11 x1.f17.length c12] 48, F] ih) := ⟨_, fun _ _ => Iff.rfl⟩
  refine c_seqJ J2291 ?_ ?_
  · refine c_block ?_
    refine c_seq ?_
    refine c_region ?_
    refine pures hs 1 [2, 3, 6, 58, 59, 60, 62] [(2, (pt b1204 0)), (3, vi64 x1228), (6, (pt b1232 0)), (58, .slice (some ⟨b1236, 0, none⟩) 15 15), (59, vi64 15), (60, vi64 6), (62, (pt b1236 12))] (by kernel_rfl) fun a hs => ?_
    refine s_load hs (hw.at_ 0 rfl) 12 (by kernel_rfl) (by kernel_rfl) (v := .agg #[vi64 64, .func (.func 101) #[] #[(pt b1202 0), (pt b1232 0)]]) (by kernel_rfl) fun a hs => ?_
    refine s_new hs hw [vi64 0, .nilFunc] 163 (fun b => (pt b 0)) (by kernel_rfl) (fun _ => by kernel_rfl) fun a w b2294 hs hw => ?_
    refine s_store hs hw 0 rfl 0 (by kernel_rfl) (by kernel_rfl) (v := .agg #[vi64 64, .func (.func 101) #[] #[(pt b1202 0), (pt b1232 0)]]) (by kernel_rfl) (by kernel_rfl) (by kernel_rfl) (by kernel_rfl) fun a w hs hw => ?_
    refine s_end ?_
    refine c_seq ?_
    refine c_region ?_
    refine pures hs 2 [2, 3, 6, 58, 59, 60, 8, 64, 65] [(2, (pt b1204 0)), (3, vi64 x1228), (6, (pt b1232 0)), (58, .slice (some ⟨b1236, 0, none⟩) 15 15), (59, vi64 15), (60, vi64 6), (8, (pt b2294 0)), (64, vi64 x1228), (65, (pt b2294 0))] (by kernel_rfl) fun a hs => ?_
    refine s_load hs (hw.at_ 0 rfl) 0 (by kernel_rfl) (by kernel_rfl) (v := vi64 64) (by kernel_rfl) fun a hs => ?_
    refine pures hs 2 [2, 3, 6, 58, 59, 60, 8, 68] [(2, (pt b1204 0)), (3, vi64 x1228), (6, (pt b1232 0)), (58, .slice (some ⟨b1236, 0, none⟩) 15 15), (59, vi64 15), (60, vi64 6), (8, (pt b2294 0)), (68, .bool ((bAnd .i64 x1228 64) != 0))] (by kernel_rfl) fun a hs => ?_
    refine s_end ?_
    rcases ifbE hx2290 with ⟨h2296, hx2290⟩ | ⟨h2296, hx2290⟩
    · refine c_cond1 hs (by kernel_rfl) (t := ((bAnd .i64 x1228 64) != 0)) (by kernel_rfl) h2296 ?_
      refine c_region ?_
      refine pures hs 1 [2, 3, 6, 58, 59, 60, 69] [(2, (pt b1204 0)), (3, vi64 x1228), (6, (pt b1232 0)), (58, .slice (some ⟨b1236, 0, none⟩) 15 15), (59, vi64 15), (60, vi64 6), (69, (pt b2294 1))] (by kernel_rfl) fun a hs => ?_
      refine s_load hs (hw.at_ 0 rfl) 1 (by kernel_rfl) (by kernel_rfl) (v := .func (.func 101) #[] #[(pt b1202 0), (pt b1232 0)]) (by kernel_rfl) fun a hs => ?_
      obtain ⟨y2299, h2300, hx2290⟩ := bindE hx2290
      refine s_call hs (by kernel_rfl) (by kernel_rfl) (letter_bare_7_s (x3 := x1.f0) (x4 := x1.f1) (x5 := x1.f2) (x6 := x1.f3) (x7 := x1.f4) (x8 := x1.f5) (x10 := x1.f7) (x11 := x1.f8) (x12 := x1.f9) (x13 := x1.f10) (x14 := x1.f11) (x15 := x1.f12) (x16 := x1.f13.f0) (x17 := x1.f13.f1) (x18 := x1.f13.f2) (x19 := x1.f13.f3) (x20 := x1.f14.f0) (x21 := x1.f14.f1) (x22 := x1.f14.f2) (x26 := x1.f14.f3) (x27 := x1.f14.f4) (x28 := x1.f15) (x32 := x1.f16) (x36 := x1.f17) (x42 := x1.f0) (x43 := x1.f1) (x44 := x1.f2) (x45 := x1827) (x46 := x1846) (x47 := x1865) (x48 := 0) (x49 := x1884) (x50 := x1903) (x51 := 0) (x52 := x1922) (x53 := 0) (x54 := 0) (x55 := 0) (x56 := 0) (x57 := 0) (x58 := 0) (x59 := 0) (x60 := 0) (x61 := []) (x65 := false) (x66 := 0) (x67 := []) (x71 := []) (x75 := []) h2300 h4 h7 h10 h13 (RSl.nil _ _ _) (RSl.nil _ _ _) (RSl.nil _ _ _) (RSl.nil _ _ _) ((hw.pick [4, 2, 1, 3, 5] (by kernel_rfl)).pack 2)) fun a w v hv hs => ?_
      obtain ⟨rfl, hw⟩ := hv
      replace hw := hw.unpack 2 rfl
      refine s_end ?_
      obtain rfl := someE hx2290
      exact (hJ2291 _ _).2 ⟨y2299, hk, hs.cast [2, 3, 6, 58, 59, 60] (by kernel_rfl), hw.pick [2, 1, 3, 0, 4] (by kernel_rfl)⟩
    refine c_cond0 hs (by kernel_rfl) (t := ((bAnd .i64 x1228 64) != 0)) (by kernel_rfl) h2296 ?_
    refine c_skip ?_
    obtain rfl := someE hx2290
    exact (hJ2291 _ _).2 ⟨0, hk, hs.cast [2, 3, 6, 58, 59, 60] (by kernel_rfl), hw.pick [1, 2, 3, 4, 5] (by kernel_rfl)⟩
  intro a w hh
  obtain ⟨x1941, hk, hs, hw⟩ := (hJ2291 _ _).1 hh
  refine c_region ?_
  refine pures hs 2 [2, 3, 6, 58, 59, 60] [(2, (pt b1204 0)), (3, vi64 x1228), (6, (pt b1232 0)), (58, .slice (some ⟨b1236, 0, none⟩) 15 15), (59, vi64 15), (60, vi64 7)] (by kernel_rfl) fun a hs => ?_
  refine s_end ?_
  refine c_unr ?_
  refine c_seq ?_
  refine c_region ?_
  refine pures hs 1 [2, 3, 6, 58, 59, 60, 61] [(2, (pt b1204 0)), (3, vi64 x1228), (6, (pt b1232 0)), (58, .slice (some ⟨b1236, 0, none⟩) 15 15), (59, vi64 15), (60, vi64 7), (61, .bool true)] (by kernel_rfl) fun a hs => ?_
  refine s_end ?_
  refine c_seq ?_
  refine c_condT hs (by kernel_rfl) (by kernel_rfl) ?_
  refine c_skip ?_
  obtain ⟨y2276, hx2277, hk⟩ := bindE hk
  obtain ⟨J2278, hJ2278⟩ : ∃ J : Act → World → Prop, ∀ a w, J a w ↔ (∃ (x1960 : Int), letter_bare_r53 x1228 x1 x1827 x1846 x1865 x1941 x1884 x1903 x1922 x1960 = some r ∧ Sees a 74 [(2, (pt b1204 0)), (3, vi64 x1228), (6, (pt b1232 0)), (58, .slice (some ⟨b1236, 0, none⟩) 15 15), (59, vi64 15), (60, vi64 7)] ∧ St g w [bx b1236 [vi64 1, .func (.func 95) #[] #[(pt b1202 0), (pt b1232 0)], vi64 2, .func (.func 96) #[] #[(pt b1202 0), (pt b1232 0)], vi64 4, .func (.func 97) #[] #[(pt b1202 0), (pt b1232 0)], vi64 8, .func (.func 98) #[] #[(pt b1202 0), (pt b1232 0)], vi64 16, .func (.func 99) #[] #[(pt b1202 0), (pt b1232 0)], vi64 32, .func (.func 100) #[] #[(pt b1202 0), (pt b1232 0)], vi64 64, .func (.func 101) #[] #[(pt b1202 0), (pt b1232 0)], vi64 128, .func (.func 102) #[] #[(pt b1202 0), (pt b1232 0)], vi64 256, .func (.func 103) #[] #[(pt b1202 0), (pt b1232 0)], vi64 512, .func (.func 104) #[] #[(pt b1202 0), (pt b1232 0)], vi64 1024, .func (.func 105) #[] #[(pt b1202 0), (pt b1232 0)], vi64 2048, .func (.func 106) #[] #[(pt b1202 0), (pt b1232 0)], vi64 4096, .func (.func 107) #[] #[(pt b1202 0), (pt b1232 0)], vi64 8192, .func (.func 108) #[] #[(pt b1202 0), (pt b1232 0)], vi64 16384, .func (.func 109) #[] #[(pt b1202 0), (pt b1232 0)]] 163, bx b1232 [vi64 x1.f0, vi64 x1.f1, vi64 x1.f2, vi64 x1827, vu64 x1846, vu64 x1865, vu64 x1941, vu64 x1884, vu64 x1903, vu64 0, vi64 x1922, vu32 0, vi64 x1960, vi64 0, vi64 0, vu64 0, vi64 0, vi64 0, vu64 0, .slice none 0 0, .bool false, vi64 0, .slice none 0 0, .slice none 0 0, .slice none 0 0] 48, bx b1204 [vi64 0, vi64 0, vi64 0, vi64 0, vu64 0, vu64 0, vu64 0, vu64 0, vu64 0, vu64 0, vi64 0, vu32 0, vi64 0, vi64 0, vi64 0, vu64 0, vi64 0, vi64 0, vu64 0, .slice none 0 0, .bool false, vi64 0, .slice none 0 0, .slice none 0 0, .slice none 0 0] 48, bx b1202 [vi64 x1.f0, vi64 x1.f1, vi64 x1.f2, vi64 x1.f3, vu64 x1.f4, vu64 x1.f5, vu64 x1.f6, vu64 x1.f7, vu64 x1.f8, vu64 x1.f9, vi64 x1.f10, vu32 x1.f11, vi64 x1.f12, vi64 x1.f13.f0, vi64 x1.f13.f1, vu64 x1.f13.f2, vi64 x1.f13.f3, vi64 x1.f14.f0, vu64 x1.f14.f1, .slice p2 x1.f14.f2.length c3, .bool x1.f14.f3, vi64 x1.f14.f4, .slice p5 x1.f15.length c6, .slice p8 x1.f16.length c9, .slice p11 x1.f17.length c12] 48, F] ih) := ⟨_, fun _ _ => Iff.rfl⟩
  refine c_seqJ J2278 ?_ ?_
  · refine c_block ?_
    refine c_seq ?_
    refine c_region ?_
    refine pures hs 1 [2, 3, 6, 58, 59, 60, 62] [(2, (pt b1204 0)), (3, vi64 x1228), (6, (pt b1232 0)), (58, .slice (some ⟨b1236, 0, none⟩) 15 15), (59, vi64 15), (60, vi64 7), (62, (pt b1236 14))] (by kernel_rfl) fun a hs => ?_
    refine s_load hs (hw.at_ 0 rfl) 14 (by kernel_rfl) (by kernel_rfl) (v := .agg #[vi64 128, .func (.func 102) #[] #[(pt b1202 0), (pt b1232 0)]]) (by kernel_rfl) fun a hs => ?_
    refine s_new hs hw [vi64 0, .nilFunc] 163 (fun b => (pt b 0)) (by kernel_rfl) (fun _ => by kernel_rfl) fun a w b2281 hs hw => ?_
    refine s_store hs hw 0 rfl 0 (by kernel_rfl) (by kernel_rfl) (v := .agg #[vi64 128, .func (.func 102) #[] #[(pt b1202 0), (pt b1232 0)]]) (by kernel_rfl) (by kernel_rfl) (by kernel_rfl) (by kernel_rfl) fun a w hs hw => ?_
    refine s_end ?_
    refine c_seq ?_
    refine c_region ?_
    refine pures hs 2 [2, 3, 6, 58, 59, 60, 8, 64, 65] [(2, (pt b1204 0)), (3, vi64 x1228), (6, (pt b1232 0)), (58, .slice (some ⟨b1236, 0, none⟩) 15 15), (59, vi64 15), (60, vi64 7), (8, (pt b2281 0)), (64, vi64 x1228), (65, (pt b2281 0))] (by kernel_rfl) fun a hs => ?_
    refine s_load hs (hw.at_ 0 rfl) 0 (by kernel_rfl) (by kernel_rfl) (v := vi64 128) (by kernel_rfl) fun a hs => ?_
    refine pures hs 2 [2, 3, 6, 58, 59, 60, 8, 68] [(2, (pt b1204 0)), (3, vi64 x1228), (6, (pt b1232 0)), (58, .slice (some ⟨b1236, 0, none⟩) 15 15), (59, vi64 15), (60, vi64 7), (8, (pt b2281 0)), (68, .bool ((bAnd .i64 x1228 128) != 0))] (by kernel_rfl) fun a hs => ?_
    refine s_end ?_
    rcases ifbE hx2277 with ⟨h2283, hx2277⟩ | ⟨h2283, hx2277⟩
    · refine c_cond1 hs (by kernel_rfl) (t := ((bAnd .i64 x1228 128) != 0)) (by kernel_rfl) h2283 ?_
      refine c_region ?_
      refine pures hs 1 [2, 3, 6, 58, 59, 60, 69] [(2, (pt b1204 0)), (3, vi64 x1228), (6, (pt b1232 0)), (58, .slice (some ⟨b1236, 0, none⟩) 15 15), (59, vi64 15), (60, vi64 7), (69, (pt b2281 1))] (by kernel_rfl) fun a hs => ?_
      refine s_load hs (hw.at_ 0 rfl) 1 (by kernel_rfl) (by kernel_rfl) (v := .func (.func 102) #[] #[(pt b1202 0), (pt b1232 0)]) (by kernel_rfl) fun a hs => ?_
      obtain ⟨y2286, h2287, hx2277⟩ := bindE hx2277
      refine s_call hs (by kernel_rfl) (by kernel_rfl) (letter_bare_8_s (x3 := x1.f0) (x4 := x1.f1) (x5 := x1.f2) (x6 := x1.f3) (x7 := x1.f4) (x8 := x1.f5) (x9 := x1.f6) (x10 := x1.f7) (x11 := x1.f8) (x12 := x1.f9) (x13 := x1.f10) (x14 := x1.f11) (x16 := x1.f13.f0) (x17 := x1.f13.f1) (x18 := x1.f13.f2) (x19 := x1.f13.f3) (x20 := x1.f14.f0) (x21 := x1.f14.f1) (x22 := x1.f14.f2) (x26 := x1.f14.f3) (x27 := x1.f14.f4) (x28 := x1.f15) (x32 := x1.f16) (x36 := x1.f17) (x42 := x1.f0) (x43 := x1.f1) (x44 := x1.f2) (x45 := x1827) (x46 := x1846) (x47 := x1865) (x48 := x1941) (x49 := x1884) (x50 := x1903) (x51 := 0) (x52 := x1922) (x53 := 0) (x54 := 0) (x55 := 0) (x56 := 0) (x57 := 0) (x58 := 0) (x59 := 0) (x60 := 0) (x61 := []) (x65 := false) (x66 := 0) (x67 := []) (x71 := []) (x75 := []) h2287 h4 h7 h10 h13 (RSl.nil _ _ _) (RSl.nil _ _ _) (RSl.nil _ _ _) (RSl.nil _ _ _) ((hw.pick [4, 2, 1, 3, 5] (by kernel_rfl)).pack 2)) fun a w v hv hs => ?_
      obtain ⟨rfl, hw⟩ := hv
      replace hw := hw.unpack 2 rfl
      refine s_end ?_
      obtain rfl := someE hx2277
      exact (hJ2278 _ _).2 ⟨y2286, hk, hs.cast [2, 3, 6, 58, 59, 60] (by kernel_rfl), hw.pick [2, 1, 3, 0, 4] (by kernel_rfl)⟩
    refine c_cond0 hs (by kernel_rfl) (t := ((bAnd .i64 x1228 128) != 0)) (by kernel_rfl) h2283 ?_
    refine c_skip ?_
    obtain rfl := someE hx2277
    exact (hJ2278 _ _).2 ⟨0, hk, hs.cast [2, 3, 6, 58, 59, 60] (by kernel_rfl), hw.pick [1, 2, 3, 4, 5] (by kernel_rfl)⟩
  intro a w hh
  obtain ⟨x1960, hk, hs, hw⟩ := (hJ2278 _ _).1 hh
  refine c_region ?_
  refine pures hs 2 [2, 3, 6, 58, 59, 60] [(2, (pt b1204 0)), (3, vi64 x1228), (6, (pt b1232 0)), (58, .slice (some ⟨b1236, 0, none⟩) 15 15), (59, vi64 15), (60, vi64 8)] (by kernel_rfl) fun a hs => ?_
  refine s_end ?_
  refine c_unr ?_
  refine c_seq ?_
  refine c_region ?_
  refine pures hs 1 [2, 3, 6, 58, 59, 60, 61] [(2, (pt b1204 0)), (3, vi64 x1228), (6, (pt b1232 0)), (58, .slice (some ⟨b1236, 0, none⟩) 15 15), (59, vi64 15), (60, vi64 8), (61, .bool true)] (by kernel_rfl) fun a hs => ?_
  refine s_end ?_
  refine c_seq ?_
  refine c_condT hs (by kernel_rfl) (by kernel_rfl) ?_
  refine c_skip ?_
  obtain ⟨y2263, hx2264, hk⟩ := bindE hk
  obtain ⟨J2265, hJ2265⟩ : ∃ J : Act → World → Prop, ∀ a w, J a w ↔ (∃ (x1979 : Int), letter_bare_r52 x1228 x1 x1827 x1846 x1865 x1941 x1884 x1903 x1922 x1960 x1979 = some r ∧ Sees a 74 [(2, (pt b1204 0)), (3, vi64 x1228), (6, (pt b1232 0)), (58, .slice (some ⟨b1236, 0, none⟩) 15 15), (59, vi64 15), (60, vi64 8)] ∧ St g w [bx b1236 [vi64 1, .func (.func 95) #[] #[(pt b1202 0), (pt b1232 0)], vi64 2, .func (.func 96) #[] #[(pt b1202 0), (pt b1232 0)], vi64 4, .func (.func 97) #[] #[(pt b1202 0), (pt b1232 0)], vi64 8, .func (.func 98) #[] #[(pt b1202 0), (pt b1232 0)], vi64 16, .func (.func 99) #[] #[(pt b1202 0), (pt b1232 0)], vi64 32, .func (.func 100) #[] #[(pt b1202 0), (pt b1232 0)], vi64 64, .func (.func 101) #[] #[(pt b1202 0), (pt b1232 0)], vi64 128, .func (.func 102) #[] #[(pt b1202 0), (pt b1232 0)], vi64 256, .func (.func 103) #[] #[(pt b1202 0), (pt b1232 0)], vi64 512, .func (.func 104) #[] #[(pt b1202 0), (pt b1232 0)], vi64 1024, .func (.func 105) #[] #[(pt b1202 0), (pt b1232 0)], vi64 2048, .func (.func 106) #[] #[(pt b1202 0), (pt b1232 0)], vi64 4096, .func (.func 107) #[] #[(pt b1202 0), (pt b1232 0)], vi64 8192, .func (.func 108) #[] #[(pt b1202 0), (pt b1232 0)], vi64 16384, .func (.func 109) #[] #[(pt b1202 0), (pt b1232 0)]] 163, bx b1232 [vi64 x1.f0, vi64 x1.f1, vi64 x1.f2, vi64 x1827, vu64 x1846, vu64 x1865, vu64 x1941, vu64 x1884, vu64 x1903, vu64 0, vi64 x1922, vu32 x1979, vi64 x1960, vi64 0, vi64 0, vu64 0, vi64 0, vi64 0, vu64 0, .slice none 0 0, .bool false, vi64 0, .slice none 0 0, .slice none 0 0, .slice none 0 0] 48, bx b1204 [vi64 0, vi64 0, vi64 0, vi64 0, vu64 0, vu64 0, vu64 0, vu64 0, vu64 0, vu64 0, vi64 0, vu32 0, vi64 0, vi64 0, vi64 0, vu64 0, vi64 0, vi64 0, vu64 0, .slice none 0 0, .bool false, vi64 0, .slice none 0 0, .slice none 0 0, .slice none 0 0] 48, bx b1202 [vi64 x1.f0, vi64 x1.f1, vi64 x1.f2, vi64 x1.f3, vu64 x1.f4, vu64 x1.f5, vu64 x1.f6, vu64 x1.f7, vu64 x1.f8, vu64 x1.f9, vi64 x1.f10, vu32 x1.f11, vi64 x1.f12, vi64 x1.f13.f0, vi64 x1.f13.f1, vu64 x1.f13.f2, vi64 x1.f13.f3, vi64 x1.f14.f0, vu64 x1.f14.f1, .slice p2 x1.f14.f2.length c3, .bool x1.f14.f3, vi64 x1.f14.f4, .slice p5 x1.f15.length c6, .slice p8 x1.f16.length c9, .slice p11 x1.f17.length c12] 48, F] ih) := ⟨_, fun _ _ => Iff.rfl⟩
  refine c_seqJ J2265 ?_ ?_
  · refine c_block ?_
    refine c_seq ?_
    refine c_region ?_
    refine pures hs 1 [2, 3, 6, 58, 59, 60, 62] [(2, (pt b1204 0)), (3, vi64 x1228), (6, (pt b1232 0)), (58, .slice (some ⟨b1236, 0, none⟩) 15 15), (59, vi64 15), (60, vi64 8), (62, (pt b1236 16))] (by kernel_rfl) fun a hs => ?_
    refine s_load hs (hw.at_ 0 rfl) 16 (by kernel_rfl) (by kernel_rfl) (v := .agg #[vi64 256, .func (.func 103) #[] #[(pt b1202 0), (pt b1232 0)]]) (by kernel_rfl) fun a hs => ?_
    refine s_new hs hw [vi64 0, .nilFunc] 163 (fun b => (pt b 0)) (by kernel_rfl) (fun _ => by kernel_rfl) fun a w b2268 hs hw => ?_
    refine s_store hs hw 0 rfl 0 (by kernel_rfl) (by kernel_rfl) (v := .agg #[vi64 256, .func (.func 103) #[] #[(pt b1202 0), (pt b1232 0)]]) (by kernel_rfl) (by kernel_rfl) (by kernel_rfl) (by kernel_rfl) fun a w hs hw => ?_
    refine s_end ?_
    refine c_seq ?_
    refine c_region ?_
    refine pures hs 2 [2, 3, 6, 58, 59, 60, 8, 64, 65] [(2, (pt b1204 0)), (3, vi64 x1228), (6, (pt b1232 0)), (58, .slice (some ⟨b1236, 0, none⟩) 15 15), (59, vi64 15), (60, vi64 8), (8, (pt b2268 0)), (64, vi64 x1228), (65, (pt b2268 0))] (by kernel_rfl) fun a hs => ?_
    refine s_load hs (hw.at_ 0 rfl) 0 (by kernel_rfl) (by kernel_rfl) (v := vi64 256) (by kernel_rfl) fun a hs => ?_
    refine pures hs 2 [2, 3, 6, 58, 59, 60, 8, 68] [(2, (pt b1204 0)), (3, vi64 x1228), (6, (pt b1232 0)), (58, .slice (some ⟨b1236, 0, none⟩) 15 15), (59, vi64 15), (60, vi64 8), (8, (pt b2268 0)), (68, .bool ((bAnd .i64 x1228 256) != 0))] (by kernel_rfl) fun a hs => ?_
    refine s_end ?_
    rcases ifbE hx2264 with ⟨h2270, hx2264⟩ | ⟨h2270, hx2264⟩
    · refine c_cond1 hs (by kernel_rfl) (t := ((bAnd .i64 x1228 256) != 0)) (by kernel_rfl) h2270 ?_
      refine c_region ?_
      refine pures hs 1 [2, 3, 6, 58, 59, 60, 69] [(2, (pt b1204 0)), (3, vi64 x1228), (6, (pt b1232 0)), (58, .slice (some ⟨b1236, 0, none⟩) 15 15), (59, vi64 15), (60, vi64 8), (69, (pt b2268 1))] (by kernel_rfl) fun a hs => ?_
      refine s_load hs (hw.at_ 0 rfl) 1 (by kernel_rfl) (by kernel_rfl) (v := .func (.func 103) #[] #[(pt b1202 0), (pt b1232 0)]) (by kernel_rfl) fun a hs => ?_
      obtain ⟨y2273, h2274, hx2264⟩ := bindE hx2264
      refine s_call hs (by kernel_rfl) (by kernel_rfl) (letter_bare_9_s (x3 := x1.f0) (x4 := x1.f1) (x5 := x1.f2) (x6 := x1.f3) (x7 := x1.f4) (x8 := x1.f5) (x9 := x1.f6) (x10 := x1.f7) (x11 := x1.f8) (x12 := x1.f9) (x13 := x1.f10) (x15 := x1.f12) (x16 := x1.f13.f0) (x17 := x1.f13.f1) (x18 := x1.f13.f2) (x19 := x1.f13.f3) (x20 := x1.f14.f0) (x21 := x1.f14.f1) (x22 := x1.f14.f2) (x26 := x1.f14.f3) (x27 := x1.f14.f4) (x28 := x1.f15) (x32 := x1.f16) (x36 := x1.f17) (x42 := x1.f0) (x43 := x1.f1) (x44 := x1.f2) (x45 := x1827) (x46 := x1846) (x47 := x1865) (x48 := x1941) (x49 := x1884) (x50 := x1903) (x51 := 0) (x52 := x1922) (x53 := 0) (x54 := x1960) (x55 := 0) (x56 := 0) (x57 := 0) (x58 := 0) (x59 := 0) (x60 := 0) (x61 := []) (x65 := false) (x66 := 0) (x67 := []) (x71 := []) (x75 := []) h2274 h4 h7 h10 h13 (RSl.nil _ _ _) (RSl.nil _ _ _) (RSl.nil _ _ _) (RSl.nil _ _ _) ((hw.pick [4, 2, 1, 3, 5] (by kernel_rfl)).pack 2)) fun a w v hv hs => ?_
      obtain ⟨rfl, hw⟩ := hv
      replace hw := hw.unpack 2 rfl
      refine s_end ?_
      obtain rfl := someE hx2264
      exact (hJ2265 _ _).2 ⟨y2273, hk, hs.cast [2, 3, 6, 58, 59, 60] (by kernel_rfl), hw.pick [2, 1, 3, 0, 4] (by kernel_rfl)⟩
    refine c_cond0 hs (by kernel_rfl) (t := ((bAnd .i64 x1228 256) != 0)) (by kernel_rfl) h2270 ?_
    refine c_skip ?_
    obtain rfl := someE hx2264
    exact (hJ2265 _ _).2 ⟨0, hk, hs.cast [2, 3, 6, 58, 59, 60] (by kernel_rfl), hw.pick [1, 2, 3, 4, 5] (by kernel_rfl)⟩
  intro a w hh
  obtain ⟨x1979, hk, hs, hw⟩ := (hJ2265 _ _).1 hh
  refine c_region ?_
  refine pures hs 2 [2, 3, 6, 58, 59, 60] [(2, (pt b1204 0)), (3, vi64 x1228), (6, (pt b1232 0)), (58, .slice (some ⟨b1236, 0, none⟩) 15 15), (59, vi64 15), (60, vi64 9)] (by kernel_rfl) fun a hs => ?_
  refine s_end ?_
  refine c_unr ?_
  refine c_seq ?_
  refine c_region ?_
  refine pures hs 1 [2, 3, 6, 58, 59, 60, 61] [(2, (pt b1204 0)), (3, vi64 x1228), (6, (pt b1232 0)), (58, .slice (some ⟨b1236, 0, none⟩) 15 15), (59, vi64 15), (60, vi64 9), (61, .bool true)] (by kernel_rfl) fun a hs => ?_
  refine s_end ?_
  refine c_seq ?_
  refine c_condT hs (by kernel_rfl) (by kernel_rfl) ?_
  refine c_skip ?_
  obtain ⟨y2250, hx2251, hk⟩ := bindE hk
  obtain ⟨J2252, hJ2252⟩ : ∃ J : Act → World → Prop, ∀ a w, J a w ↔ (∃ (x1998 : Int), letter_bare_r51 x1228 x1 x1827 x1846 x1865 x1941 x1884 x1903 x1922 x1979 x1960 x1998 = some r ∧ Sees a 74 [(2, (pt b1204 0)), (3, vi64 x1228), (6, (pt b1232 0)), (58, .slice (some ⟨b1236, 0, none⟩) 15 15), (59, vi64 15), (60, vi64 9)] ∧ St g w [bx b1236 [vi64 1, .func (.func 95) #[] #[(pt b1202 0), (pt b1232 0)], vi64 2, .func (.func 96) #[] #[(pt b1202 0), (pt b1232 0)], vi64 4, .func (.func 97) #[] #[(pt b1202 0), (pt b1232 0)], vi64 8, .func (.func 98) #[] #[(pt b1202 0), (pt b1232 0)], vi64 16, .func (.func 99) #[] #[(pt b1202 0), (pt b1232 0)], vi64 32, .func (.func 100) #[] #[(pt b1202 0), (pt b1232 0)], vi64 64, .func (.func 101) #[] #[(pt b1202 0), (pt b1232 0)], vi64 128, .func (.func 102) #[] #[(pt b1202 0), (pt b1232 0)], vi64 256, .func (.func 103) #[] #[(pt b1202 0), (pt b1232 0)], vi64 512, .func (.func 104) #[] #[(pt b1202 0), (pt b1232 0)], vi64 1024, .func (.func 105) #[] #[(pt b1202 0), (pt b1232 0)], vi64 2048, .func (.func 106) #[] #[(pt b1202 0), (pt b1232 0)], vi64 4096, .func (.func 107) #[] #[(pt b1202 0), (pt b1232 0)], vi64 8192, .func (.func 108) #[] #[(pt b1202 0), (pt b1232 0)], vi64 16384, .func (.func 109) #[] #[(pt b1202 0), (pt b1232 0)]] 163, bx b1232 [vi64 x1.f0, vi64 x1.f1, vi64 x1.f2, vi64 x1827, vu64 x1846, vu64 x1865, vu64 x1941, vu64 x1884, vu64 x1903, vu64 x1998, vi64 x1922, vu32 x1979, vi64 x1960, vi64 0, vi64 0, vu64 0, vi64 0, vi64 0, vu64 0, .slice none 0 0, .bool false, vi64 0, .slice none 0 0, .slice none 0 0, .slice none 0 0] 48, bx b1204 [vi64 0, vi64 0, vi64 0, vi64 0, vu64 0, vu64 0, vu64 0, vu64 0, vu64 0, vu64 0, vi64 0, vu32 0, vi64 0, vi64 0, vi64 0, vu64 0, vi64 0, vi64 0, vu64 0, .slice none 0 0, .bool false, vi64 0, .slice none 0 0, .slice none 0 0, .slice none 0 0] 48, bx b1202 [vi64 x1.f0, vi64 x1.f1, vi64 x1.f2, vi64 x1.f3, vu64 x1.f4, vu64 x1.f5, vu64 x1.f6, vu64 x1.f7, vu64 x1.f8, vu64 x1.f9, vi64 x1.f10, vu32 x1.f11, vi64 x1.f12, vi64 x1.f13.f0, vi64 x1.f13.f1, vu64 x1.f13.f2, vi64 x1.f13.f3, vi64 x1.f14.f0, vu64 x1.f14.f1, .slice p2 x1.f14.f2.length c3, .bool x1.f14.f3, vi64 x1.f14.f4, .slice p5 x1.f15.length c6, .slice p8 x1.f16.length c9, .slice p11 x1.f17.length c12] 48, F] ih) := ⟨_, fun _ _ => Iff.rfl⟩
  refine c_seqJ J2252 ?_ ?_
  · refine c_block ?_
    refine c_seq ?_
    refine c_region ?_
    refine pures hs 1 [2, 3, 6, 58, 59, 60, 62] [(2, (pt b1204 0)), (3, vi64 x1228), (6, (pt b1232 0)), (58, .slice (some ⟨b1236, 0, none⟩) 15 15), (59, vi64 15), (60, vi64 9), (62, (pt b1236 18))] (by kernel_rfl) fun a hs => ?_
    refine s_load hs (hw.at_ 0 rfl) 18 (by kernel_rfl) (by kernel_rfl) (v := .agg #[vi64 512, .func (.func 104) #[] #[(pt b1202 0), (pt b1232 0)]]) (by kernel_rfl) fun a hs => ?_
    refine s_new hs hw [vi64 0, .nilFunc] 163 (fun b => (pt b 0)) (by kernel_rfl) (fun _ => by kernel_rfl) fun a w b2255 hs hw => ?_
    refine s_store hs hw 0 rfl 0 (by kernel_rfl) (by kernel_rfl) (v := .agg #[vi64 512, .func (.func 104) #[] #[(pt b1202 0), (pt b1232 0)]]) (by kernel_rfl) (by kernel_rfl) (by kernel_rfl) (by kernel_rfl) fun a w hs hw => ?_
    refine s_end ?_
    refine c_seq ?_
    refine c_region ?_
    refine pures hs 2 [2, 3, 6, 58, 59, 60, 8, 64, 65] [(2, (pt b1204 0)), (3, vi64 x1228), (6, (pt b1232 0)), (58, .slice (some ⟨b1236, 0, none⟩) 15 15), (59, vi64 15), (60, vi64 9), (8, (pt b2255 0)), (64, vi64 x1228), (65, (pt b2255 0))] (by kernel_rfl) fun a hs => ?_
    refine s_load hs (hw.at_ 0 rfl) 0 (by kernel_rfl) (by kernel_rfl) (v := vi64 512) (by kernel_rfl) fun a hs => ?_
    refine pures hs 2 [2, 3, 6, 58, 59, 60, 8, 68] [(2, (pt b1204 0)), (3, vi64 x1228), (6, (pt b1232 0)), (58, .slice (some ⟨b1236, 0, none⟩) 15 15), (59, vi64 15), (60, vi64 9), (8, (pt b2255 0)), (68, .bool ((bAnd .i64 x1228 512) != 0))] (by kernel_rfl) fun a hs => ?_
    refine s_end ?_
    rcases ifbE hx2251 with ⟨h2257, hx2251⟩ | ⟨h2257, hx2251⟩
    · refine c_cond1 hs (by kernel_rfl) (t := ((bAnd .i64 x1228 512) != 0)) (by kernel_rfl) h2257 ?_
      refine c_region ?_
      refine pures hs 1 [2, 3, 6, 58, 59, 60, 69] [(2, (pt b1204 0)), (3, vi64 x1228), (6, (pt b1232 0)), (58, .slice (some ⟨b1236, 0, none⟩) 15 15), (59, vi64 15), (60, vi64 9), (69, (pt b2255 1))] (by kernel_rfl) fun a hs => ?_
      refine s_load hs (hw.at_ 0 rfl) 1 (by kernel_rfl) (by kernel_rfl) (v := .func (.func 104) #[] #[(pt b1202 0), (pt b1232 0)]) (by kernel_rfl) fun a hs => ?_
      obtain ⟨y2260, h2261, hx2251⟩ := bindE hx2251
      refine s_call hs (by kernel_rfl) (by kernel_rfl) (letter_bare_10_s (x3 := x1.f0) (x4 := x1.f1) (x5 := x1.f2) (x6 := x1.f3) (x7 := x1.f4) (x8 := x1.f5) (x9 := x1.f6) (x10 := x1.f7) (x11 := x1.f8) (x13 := x1.f10) (x14 := x1.f11) (x15 := x1.f12) (x16 := x1.f13.f0) (x17 := x1.f13.f1) (x18 := x1.f13.f2) (x19 := x1.f13.f3) (x20 := x1.f14.f0) (x21 := x1.f14.f1) (x22 := x1.f14.f2) (x26 := x1.f14.f3) (x27 := x1.f14.f4) (x28 := x1.f15) (x32 := x1.f16) (x36 := x1.f17) (x42 := x1.f0) (x43 := x1.f1) (x44 := x1.f2) (x45 := x1827) (x46 := x1846) (x47 := x1865) (x48 := x1941) (x49 := x1884) (x50 := x1903) (x51 := 0) (x52 := x1922) (x53 := x1979) (x54 := x1960) (x55 := 0) (x56 := 0) (x57 := 0) (x58 := 0) (x59 := 0) (x60 := 0) (x61 := []) (x65 := false) (x66 := 0) (x67 := []) (x71 := []) (x75 := []) h2261 h4 h7 h10 h13 (RSl.nil _ _ _) (RSl.nil _ _ _) (RSl.nil _ _ _) (RSl.nil _ _ _) ((hw.pick [4, 2, 1, 3, 5] (by kernel_rfl)).pack 2)) fun a w v hv hs => ?_
      obtain ⟨rfl, hw⟩ := hv
      replace hw := hw.unpack 2 rfl
      refine s_end ?_
      obtain rfl := someE hx2251
      exact (hJ2252 _ _).2 ⟨y2260, hk, hs.cast [2, 3, 6, 58, 59, 60] (by kernel_rfl), hw.pick [2, 1, 3, 0, 4] (by kernel_rfl)⟩
    refine c_cond0 hs (by kernel_rfl) (t := ((bAnd .i64 x1228 512) != 0)) (by kernel_rfl) h2257 ?_
    refine c_skip ?_
    obtain rfl := someE hx2251
    exact (hJ2252 _ _).2 ⟨0, hk, hs.cast [2, 3, 6, 58, 59, 60] (by kernel_rfl), hw.pick [1, 2, 3, 4, 5] (by kernel_rfl)⟩
  intro a w hh
  obtain ⟨x1998, hk, hs, hw⟩ := (hJ2252 _ _).1 hh
  refine c_region ?_
  refine pures hs 2 [2, 3, 6, 58, 59, 60] [(2, (pt b1204 0)), (3, vi64 x1228), (6, (pt b1232 0)), (58, .slice (some ⟨b1236, 0, none⟩) 15 15), (59, vi64 15), (60, vi64 10)] (by kernel_rfl) fun a hs => ?_
  refine s_end ?_
  refine c_unr ?_
  refine c_seq ?_
  refine c_region ?_
  refine pures hs 1 [2, 3, 6, 58, 59, 60, 61] [(2, (pt b1204 0)), (3, vi64 x1228), (6, (pt b1232 0)), (58, .slice (some ⟨b1236, 0, none⟩) 15 15), (59, vi64 15), (60, vi64 10), (61, .bool true)] (by kernel_rfl) fun a hs => ?_
  refine s_end ?_
  refine c_seq ?_
  refine c_condT hs (by kernel_rfl) (by kernel_rfl) ?_
  refine c_skip ?_
  obtain ⟨y2237, hx2238, hk⟩ := bindE hk
  obtain ⟨J2239, hJ2239⟩ : ∃ J : Act → World → Prop, ∀ a w, J a w ↔ (∃ (x2017 : Int) (x2018 : Int) (x2019 : Int) (x2020 : Int), letter_bare_r50 x1228 x1 x1827 x1846 x1865 x1941 x1884 x1903 x1998 x1922 x1979 x1960 x2017 x2018 x2019 x2020 = some r ∧ Sees a 74 [(2, (pt b1204 0)), (3, vi64 x1228), (6, (pt b1232 0)), (58, .slice (some ⟨b1236, 0, none⟩) 15 15), (59, vi64 15), (60, vi64 10)] ∧ St g w [bx b1236 [vi64 1, .func (.func 95) #[] #[(pt b1202 0), (pt b1232 0)], vi64 2, .func (.func 96) #[] #[(pt b1202 0), (pt b1232 0)], vi64 4, .func (.func 97) #[] #[(pt b1202 0), (pt b1232 0)], vi64 8, .func (.func 98) #[] #[(pt b1202 0), (pt b1232 0)], vi64 16, .func (.func 99) #[] #[(pt b1202 0), (pt b1232 0)], vi64 32, .func (.func 100) #[] #[(pt b1202 0), (pt b1232 0)], vi64 64, .func (.func 101) #[] #[(pt b1202 0), (pt b1232 0)], vi64 128, .func (.func 102) #[] #[(pt b1202 0), (pt b1232 0)], vi64 256, .func (.func 103) #[] #[(pt b1202 0), (pt b1232 0)], vi64 512, .func (.func 104) #[] #[(pt b1202 0), (pt b1232 0)], vi64 1024, .func (.func 105) #[] #[(pt b1202 0), (pt b1232 0)], vi64 2048, .func (.func 106) #[] #[(pt b1202 0), (pt b1232 0)], vi64 4096, .func (.func 107) #[] #[(pt b1202 0), (pt b1232 0)], vi64 8192, .func (.func 108) #[] #[(pt b1202 0), (pt b1232 0)], vi64 16384, .func (.func 109) #[] #[(pt b1202 0), (pt b1232 0)]] 163, bx b1232 [vi64 x1.f0, vi64 x1.f1, vi64 x1.f2, vi64 x1827, vu64 x1846, vu64 x1865, vu64 x1941, vu64 x1884, vu64 x1903, vu64 x1998, vi64 x1922, vu32 x1979, vi64 x1960, vi64 x2017, vi64 x2018, vu64 x2019, vi64 x2020, vi64 0, vu64 0, .slice none 0 0, .bool false, vi64 0, .slice none 0 0, .slice none 0 0, .slice none 0 0] 48, bx b1204 [vi64 0, vi64 0, vi64 0, vi64 0, vu64 0, vu64 0, vu64 0, vu64 0, vu64 0, vu64 0, vi64 0, vu32 0, vi64 0, vi64 0, vi64 0, vu64 0, vi64 0, vi64 0, vu64 0, .slice none 0 0, .bool false, vi64 0, .slice none 0 0, .slice none 0 0, .slice none 0 0] 48, bx b1202 [vi64 x1.f0, vi64 x1.f1, vi64 x1.f2, vi64 x1.f3, vu64 x1.f4, vu64 x1.f5, vu64 x1.f6, vu64 x1.f7, vu64 x1.f8, vu64 x1.f9, vi64 x1.f10, vu32 x1.f11, vi64 x1.f12, vi64 x1.f13.f0, vi64 x1.f13.f1, vu64 x1.f13.f2, vi64 x1.f13.f3, vi64 x1.f14.f0, vu64 x1.f14.f1, .slice p2 x1.f14.f2.length c3, .bool x1.f14.f3, vi64 x1.f14.f4, .slice p5 x1.f15.length c6, .slice p8 x1.f16.length c9, .slice p11 x1.f17.length c12] 48, F] ih) := ⟨_, fun _ _ => Iff.rfl⟩
  refine c_seqJ J2239 ?_ ?_
  · refine c_block ?_
    refine c_seq ?_
    refine c_region ?_
    refine pures hs 1 [2, 3, 6, 58, 59, 60, 62] [(2, (pt b1204 0)), (3, vi64 x1228), (6, (pt b1232 0)), (58, .slice (some ⟨b1236, 0, none⟩) 15 15), (59, vi64 15), (60, vi64 10), (62, (pt b1236 20))] (by kernel_rfl) fun a hs => ?_
    refine s_load hs (hw.at_ 0 rfl) 20 (by kernel_rfl) (by kernel_rfl) (v := .agg #[vi64 1024, .func (.func 105) #[] #[(pt b1202 0), (pt b1232 0)]]) (by kernel_rfl) fun a hs => ?_
    refine s_new hs hw [vi64 0, .nilFunc] 163 (fun b => (pt b 0)) (by kernel_rfl) (fun _ => by kernel_rfl) fun a w b2242 hs hw => ?_
    refine s_store hs hw 0 rfl 0 (by kernel_rfl) (by kernel_rfl) (v := .agg #[vi64 1024, .func (.func 105) #[] #[(pt b1202 0), (pt b1232 0)]]) (by kernel_rfl) (by kernel_rfl) (by kernel_rfl) (by kernel_rfl) fun a w hs hw => ?_
    refine s_end ?_
    refine c_seq ?_
    refine c_region ?_
    refine pures hs 2 [2, 3, 6, 58, 59, 60, 8, 64, 65] [(2, (pt b1204 0)), (3, vi64 x1228), (6, (pt b1232 0)), (58, .slice (some ⟨b1236, 0, none⟩) 15 15), (59, vi64 15), (60, vi64 10), (8, (pt b2242 0)), (64, vi64 x1228), (65, (pt b2242 0))] (by kernel_rfl) fun a hs => ?_
    refine s_load hs (hw.at_ 0 rfl) 0 (by kernel_rfl) (by kernel_rfl) (v := vi64 1024) (by kernel_rfl) fun a hs => ?_
    refine pures hs 2 [2, 3, 6, 58, 59, 60, 8, 68] [(2, (pt b1204 0)), (3, vi64 x1228), (6, (pt b1232 0)), (58, .slice (some ⟨b1236, 0, none⟩) 15 15), (59, vi64 15), (60, vi64 10), (8, (pt b2242 0)), (68, .bool ((bAnd .i64 x1228 1024) != 0))] (by kernel_rfl) fun a hs => ?_
    refine s_end ?_
    rcases ifbE hx2238 with ⟨h2244, hx2238⟩ | ⟨h2244, hx2238⟩
    · refine c_cond1 hs (by kernel_rfl) (t := ((bAnd .i64 x1228 1024) != 0)) (by kernel_rfl) h2244 ?_
      refine c_region ?_
      refine pures hs 1 [2, 3, 6, 58, 59, 60, 69] [(2, (pt b1204 0)), (3, vi64 x1228), (6, (pt b1232 0)), (58, .slice (some ⟨b1236, 0, none⟩) 15 15), (59, vi64 15), (60, vi64 10), (69, (pt b2242 1))] (by kernel_rfl) fun a hs => ?_
      refine s_load hs (hw.at_ 0 rfl) 1 (by kernel_rfl) (by kernel_rfl) (v := .func (.func 105) #[] #[(pt b1202 0), (pt b1232 0)]) (by kernel_rfl) fun a hs => ?_
      obtain ⟨y2247, h2248, hx2238⟩ := bindE hx2238
      refine s_call hs (by kernel_rfl) (by kernel_rfl) (letter_bare_11_s (x3 := x1.f0) (x4 := x1.f1) (x5 := x1.f2) (x6 := x1.f3) (x7 := x1.f4) (x8 := x1.f5) (x9 := x1.f6) (x10 := x1.f7) (x11 := x1.f8) (x12 := x1.f9) (x13 := x1.f10) (x14 := x1.f11) (x15 := x1.f12) (x20 := x1.f14.f0) (x21 := x1.f14.f1) (x22 := x1.f14.f2) (x26 := x1.f14.f3) (x27 := x1.f14.f4) (x28 := x1.f15) (x32 := x1.f16) (x36 := x1.f17) (x42 := x1.f0) (x43 := x1.f1) (x44 := x1.f2) (x45 := x1827) (x46 := x1846) (x47 := x1865) (x48 := x1941) (x49 := x1884) (x50 := x1903) (x51 := x1998) (x52 := x1922) (x53 := x1979) (x54 := x1960) (x55 := 0) (x56 := 0) (x57 := 0) (x58 := 0) (x59 := 0) (x60 := 0) (x61 := []) (x65 := false) (x66 := 0) (x67 := []) (x71 := []) (x75 := []) h2248 h4 h7 h10 h13 (RSl.nil _ _ _) (RSl.nil _ _ _) (RSl.nil _ _ _) (RSl.nil _ _ _) ((hw.pick [4, 2, 1, 3, 5] (by kernel_rfl)).pack 2)) fun a w v hv hs => ?_
      obtain ⟨rfl, hw⟩ := hv
      replace hw := hw.unpack 2 rfl
      refine s_end ?_
      obtain rfl := someE hx2238
      exact (hJ2239 _ _).2 ⟨y2247.1, y2247.2.1, y2247.2.2.1, y2247.2.2.2, hk, hs.cast [2, 3, 6, 58, 59, 60] (by kernel_rfl), hw.pick [2, 1, 3, 0, 4] (by kernel_rfl)⟩
    refine c_cond0 hs (by kernel_rfl) (t := ((bAnd .i64 x1228 1024) != 0)) (by kernel_rfl) h2244 ?_
    refine c_skip ?_
    obtain rfl := someE hx2238
    exact (hJ2239 _ _).2 ⟨0, 0, 0, 0, hk, hs.cast [2, 3, 6, 58, 59, 60] (by kernel_rfl), hw.pick [1, 2, 3, 4, 5] (by kernel_rfl)⟩
  intro a w hh
  obtain ⟨x2017, x2018, x2019, x2020, hk, hs, hw⟩ := (hJ2239 _ _).1 hh
  refine c_region ?_
  refine pures hs 2 [2, 3, 6, 58, 59, 60] [(2, (pt b1204 0)), (3, vi64 x1228), (6, (pt b1232 0)), (58, .slice (some ⟨b1236, 0, none⟩) 15 15), (59, vi64 15), (60, vi64 11)] (by kernel_rfl) fun a hs => ?_
  refine s_end ?_
  refine c_unr ?_
  refine c_seq ?_
  refine c_region ?_
  refine pures hs 1 [2, 3, 6, 58, 59, 60, 61] [(2, (pt b1204 0)), (3, vi64 x1228), (6, (pt b1232 0)), (58, .slice (some ⟨b1236, 0, none⟩) 15 15), (59, vi64 15), (60, vi64 11), (61, .bool true)] (by kernel_rfl) fun a hs => ?_
  refine s_end ?_
  refine c_seq ?_
  refine c_condT hs (by kernel_rfl) (by kernel_rfl) ?_
  refine c_skip ?_
  obtain ⟨y2218, hx2219, hk⟩ := bindE hk
  obtain ⟨J2220, hJ2220⟩ : ∃ J : Act → World → Prop, ∀ a w, J a w ↔ (∃ (x2051 : Int) (x2052 : Int) (x2053 : List Int) (x2057 : Bool) (x2058 : Int) (p2054 : Option Addr) (c2055 : Nat), letter_bare_r49 x1228 x1 x1827 x1846 x1865 x1941 x1884 x1903 x1998 x1922 x1979 x1960 x2017 x2018 x2019 x2020 x2051 x2052 x2053 x2057 x2058 = some r ∧ Sees a 74 [(2, (pt b1204 0)), (3, vi64 x1228), (6, (pt b1232 0)), (58, .slice (some ⟨b1236, 0, none⟩) 15 15), (59, vi64 15), (60, vi64 11)] ∧ St g w [bx b1236 [vi64 1, .func (.func 95) #[] #[(pt b1202 0), (pt b1232 0)], vi64 2, .func (.func 96) #[] #[(pt b1202 0), (pt b1232 0)], vi64 4, .func (.func 97) #[] #[(pt b1202 0), (pt b1232 0)], vi64 8, .func (.func 98) #[] #[(pt b1202 0), (pt b1232 0)], vi64 16, .func (.func 99) #[] #[(pt b1202 0), (pt b1232 0)], vi64 32, .func (.func 100) #[] #[(pt b1202 0), (pt b1232 0)], vi64 64, .func (.func 101) #[] #[(pt b1202 0), (pt b1232 0)], vi64 128, .func (.func 102) #[] #[(pt b1202 0), (pt b1232 0)], vi64 256, .func (.func 103) #[] #[(pt b1202 0), (pt b1232 0)], vi64 512, .func (.func 104) #[] #[(pt b1202 0), (pt b1232 0)], vi64 1024, .func (.func 105) #[] #[(pt b1202 0), (pt b1232 0)], vi64 2048, .func (.func 106) #[] #[(pt b1202 0), (pt b1232 0)], vi64 4096, .func (.func 107) #[] #[(pt b1202 0), (pt b1232 0)], vi64 8192, .func (.func 108) #[] #[(pt b1202 0), (pt b1232 0)], vi64 16384, .func (.func 109) #[] #[(pt b1202 0), (pt b1232 0)]] 163, bx b1232 [vi64 x1.f0, vi64 x1.f1, vi64 x1.f2, vi64 x1827, vu64 x1846, vu64 x1865, vu64 x1941, vu64 x1884, vu64 x1903, vu64 x1998, vi64 x1922, vu32 x1979, vi64 x1960, vi64 x2017, vi64 x2018, vu64 x2019, vi64 x2020, vi64 x2051, vu64 x2052, .slice p2054 x2053.length c2055, .bool x2057, vi64 x2058, .slice none 0 0, .slice none 0 0, .slice none 0 0] 48, bx b1204 [vi64 0, vi64 0, vi64 0, vi64 0, vu64 0, vu64 0, vu64 0, vu64 0, vu64 0, vu64 0, vi64 0, vu32 0, vi64 0, vi64 0, vi64 0, vu64 0, vi64 0, vi64 0, vu64 0, .slice none 0 0, .bool false, vi64 0, .slice none 0 0, .slice none 0 0, .slice none 0 0] 48, bx b1202 [vi64 x1.f0, vi64 x1.f1, vi64 x1.f2, vi64 x1.f3, vu64 x1.f4, vu64 x1.f5, vu64 x1.f6, vu64 x1.f7, vu64 x1.f8, vu64 x1.f9, vi64 x1.f10, vu32 x1.f11, vi64 x1.f12, vi64 x1.f13.f0, vi64 x1.f13.f1, vu64 x1.f13.f2, vi64 x1.f13.f3, vi64 x1.f14.f0, vu64 x1.f14.f1, .slice p2 x1.f14.f2.length c3, .bool x1.f14.f3, vi64 x1.f14.f4, .slice p5 x1.f15.length c6, .slice p8 x1.f16.length c9, .slice p11 x1.f17.length c12] 48, F] ih ∧ RSl e3 ih [] p2054 c2055 x2053) := ⟨_, fun _ _ => Iff.rfl⟩
  refine c_seqJ J2220 ?_ ?_
  · refine c_block ?_
    refine c_seq ?_
    refine c_region ?_
    refine pures hs 1 [2, 3, 6, 58, 59, 60, 62] [(2, (pt b1204 0)), (3, vi64 x1228), (6, (pt b1232 0)), (58, .slice (some ⟨b1236, 0, none⟩) 15 15), (59, vi64 15), (60, vi64 11), (62, (pt b1236 22))] (by kernel_rfl) fun a hs => ?_
    refine s_load hs (hw.at_ 0 rfl) 22 (by kernel_rfl) (by kernel_rfl) (v := .agg #[vi64 2048, .func (.func 106) #[] #[(pt b1202 0), (pt b1232 0)]]) (by kernel_rfl) fun a hs => ?_
    refine s_new hs hw [vi64 0, .nilFunc] 163 (fun b => (pt b 0)) (by kernel_rfl) (fun _ => by kernel_rfl) fun a w b2223 hs hw => ?_
    refine s_store hs hw 0 rfl 0 (by kernel_rfl) (by kernel_rfl) (v := .agg #[vi64 2048, .func (.func 106) #[] #[(pt b1202 0), (pt b1232 0)]]) (by kernel_rfl) (by kernel_rfl) (by kernel_rfl) (by kernel_rfl) fun a w hs hw => ?_
    refine s_end ?_
    refine c_seq ?_
    refine c_region ?_
    refine pures hs 2 [2, 3, 6, 58, 59, 60, 8, 64, 65] [(2, (pt b1204 0)), (3, vi64 x1228), (6, (pt b1232 0)), (58, .slice (some ⟨b1236, 0, none⟩) 15 15), (59, vi64 15), (60, vi64 11), (8, (pt b2223 0)), (64, vi64 x1228), (65, (pt b2223 0))] (by kernel_rfl) fun a hs => ?_
    refine s_load hs (hw.at_ 0 rfl) 0 (by kernel_rfl) (by kernel_rfl) (v := vi64 2048) (by kernel_rfl) fun a hs => ?_
    refine pures hs 2 [2, 3, 6, 58, 59, 60, 8, 68] [(2, (pt b1204 0)), (3, vi64 x1228), (6, (pt b1232 0)), (58, .slice (some ⟨b1236, 0, none⟩) 15 15), (59, vi64 15), (60, vi64 11), (8, (pt b2223 0)), (68, .bool ((bAnd .i64 x1228 2048) != 0))] (by kernel_rfl) fun a hs => ?_
    refine s_end ?_
    rcases ifbE hx2219 with ⟨h2225, hx2219⟩ | ⟨h2225, hx2219⟩
    · refine c_cond1 hs (by kernel_rfl) (t := ((bAnd .i64 x1228 2048) != 0)) (by kernel_rfl) h2225 ?_
      refine c_region ?_
      refine pures hs 1 [2, 3, 6, 58, 59, 60, 69] [(2, (pt b1204 0)), (3, vi64 x1228), (6, (pt b1232 0)), (58, .slice (some ⟨b1236, 0, none⟩) 15 15), (59, vi64 15), (60, vi64 11), (69, (pt b2223 1))] (by kernel_rfl) fun a hs => ?_
      refine s_load hs (hw.at_ 0 rfl) 1 (by kernel_rfl) (by kernel_rfl) (v := .func (.func 106) #[] #[(pt b1202 0), (pt b1232 0)]) (by kernel_rfl) fun a hs => ?_
      obtain ⟨y2231, h2232, hx2219⟩ := bindE hx2219
      refine s_call hs (by kernel_rfl) (by kernel_rfl) (letter_bare_12_s (x3 := x1.f0) (x4 := x1.f1) (x5 := x1.f2) (x6 := x1.f3) (x7 := x1.f4) (x8 := x1.f5) (x9 := x1.f6) (x10 := x1.f7) (x11 := x1.f8) (x12 := x1.f9) (x13 := x1.f10) (x14 := x1.f11) (x15 := x1.f12) (x16 := x1.f13.f0) (x17 := x1.f13.f1) (x18 := x1.f13.f2) (x19 := x1.f13.f3) (x28 := x1.f15) (x32 := x1.f16) (x36 := x1.f17) (x42 := x1.f0) (x43 := x1.f1) (x44 := x1.f2) (x45 := x1827) (x46 := x1846) (x47 := x1865) (x48 := x1941) (x49 := x1884) (x50 := x1903) (x51 := x1998) (x52 := x1922) (x53 := x1979) (x54 := x1960) (x55 := x2017) (x56 := x2018) (x57 := x2019) (x58 := x2020) (x59 := 0) (x60 := 0) (x61 := []) (x65 := false) (x66 := 0) (x67 := []) (x71 := []) (x75 := []) h2232 h4 h7 h10 h13 (RSl.nil _ _ _) (RSl.nil _ _ _) (RSl.nil _ _ _) (RSl.nil _ _ _) ((hw.pick [4, 2, 1, 3, 5] (by kernel_rfl)).pack 2)) fun a w v hv hs => ?_
      obtain ⟨p2233, c2234, rfl, hw, h2235⟩ := hv
      replace hw := hw.unpack 2 rfl
      refine s_end ?_
      obtain rfl := someE hx2219
      exact (hJ2220 _ _).2 ⟨y2231.1, y2231.2.1, y2231.2.2.1, y2231.2.2.2.1, y2231.2.2.2.2, p2233, c2234, hk, hs.cast [2, 3, 6, 58, 59, 60] (by kernel_rfl), hw.pick [2, 1, 3, 0, 4] (by kernel_rfl), h2235⟩
    refine c_cond0 hs (by kernel_rfl) (t := ((bAnd .i64 x1228 2048) != 0)) (by kernel_rfl) h2225 ?_
    refine c_skip ?_
    obtain rfl := someE hx2219
    exact (hJ2220 _ _).2 ⟨0, 0, ([]), false, 0, none, 0, hk, hs.cast [2, 3, 6, 58, 59, 60] (by kernel_rfl), hw.pick [1, 2, 3, 4, 5] (by kernel_rfl), (RSl.nil _ _ _)⟩
  intro a w hh
  obtain ⟨x2051, x2052, x2053, x2057, x2058, p2054, c2055, hk, hs, hw, h2056⟩ := (hJ2220 _ _).1 hh
  refine c_region ?_
  refine pures hs 2 [2, 3, 6, 58, 59, 60] [(2, (pt b1204 0)), (3, vi64 x1228), (6, (pt b1232 0)), (58, .slice (some ⟨b1236, 0, none⟩) 15 15), (59, vi64 15), (60, vi64 12)] (by kernel_rfl) fun a hs => ?_
  refine s_end ?_
  refine c_unr ?_
  refine c_seq ?_
  refine c_region ?_
  refine pures hs 1 [2, 3, 6, 58, 59, 60, 61] [(2, (pt b1204 0)), (3, vi64 x1228), (6, (pt b1232 0)), (58, .slice (some ⟨b1236, 0, none⟩) 15 15), (59, vi64 15), (60, vi64 12), (61, .bool true)] (by kernel_rfl) fun a hs => ?_
  refine s_end ?_
  refine c_seq ?_
  refine c_condT hs (by kernel_rfl) (by kernel_rfl) ?_
  refine c_skip ?_
  obtain ⟨y2199, hx2200, hk⟩ := bindE hk
  obtain ⟨J2201, hJ2201⟩ : ∃ J : Act → World → Prop, ∀ a w, J a w ↔ (∃ (x2089 : List M156) (p2090 : Option Addr) (c2091 : Nat), letter_bare_r48 x1228 x1 x1827 x1846 x1865 x1941 x1884 x1903 x1998 x1922 x1979 x1960 x2017 x2018 x2019 x2020 x2051 x2052 x2053 x2057 x2058 x2089 = some r ∧ Sees a 74 [(2, (pt b1204 0)), (3, vi64 x1228), (6, (pt b1232 0)), (58, .slice (some ⟨b1236, 0, none⟩) 15 15), (59, vi64 15), (60, vi64 12)] ∧ St g w [bx b1236 [vi64 1, .func (.func 95) #[] #[(pt b1202 0), (pt b1232 0)], vi64 2, .func (.func 96) #[] #[(pt b1202 0), (pt b1232 0)], vi64 4, .func (.func 97) #[] #[(pt b1202 0), (pt b1232 0)], vi64 8, .func (.func 98) #[] #[(pt b1202 0), (pt b1232 0)], vi64 16, .func (.func 99) #[] #[(pt b1202 0), (pt b1232 0)], vi64 32, .func (.func 100) #[] #[(pt b1202 0), (pt b1232 0)], vi64 64, .func (.func 101) #[] #[(pt b1202 0), (pt b1232 0)], vi64 128, .func (.func 102) #[] #[(pt b1202 0), (pt b1232 0)], vi64 256, .func (.func 103) #[] #[(pt b1202 0), (pt b1232 0)], vi64 512, .func (.func 104) #[] #[(pt b1202 0), (pt b1232 0)], vi64 1024, .func (.func 105) #[] #[(pt b1202 0), (pt b1232 0)], vi64 2048, .func (.func 106) #[] #[(pt b1202 0), (pt b1232 0)], vi64 4096, .func (.func 107) #[] #[(pt b1202 0), (pt b1232 0)], vi64 8192, .func (.func 108) #[] #[(pt b1202 0), (pt b1232 0)], vi64 16384, .func (.func 109) #[] #[(pt b1202 0), (pt b1232 0)]] 163, bx b1232 [vi64 x1.f0, vi64 x1.f1, vi64 x1.f2, vi64 x1827, vu64 x1846, vu64 x1865, vu64 x1941, vu64 x1884, vu64 x1903, vu64 x1998, vi64 x1922, vu32 x1979, vi64 x1960, vi64 x2017, vi64 x2018, vu64 x2019, vi64 x2020, vi64 x2051, vu64 x2052, .slice p2054 x2053.length c2055, .bool x2057, vi64 x2058, .slice p2090 x2089.length c2091, .slice none 0 0, .slice none 0 0] 48, bx b1204 [vi64 0, vi64 0, vi64 0, vi64 0, vu64 0, vu64 0, vu64 0, vu64 0, vu64 0, vu64 0, vi64 0, vu32 0, vi64 0, vi64 0, vi64 0, vu64 0, vi64 0, vi64 0, vu64 0, .slice none 0 0, .bool false, vi64 0, .slice none 0 0, .slice none 0 0, .slice none 0 0] 48, bx b1202 [vi64 x1.f0, vi64 x1.f1, vi64 x1.f2, vi64 x1.f3, vu64 x1.f4, vu64 x1.f5, vu64 x1.f6, vu64 x1.f7, vu64 x1.f8, vu64 x1.f9, vi64 x1.f10, vu32 x1.f11, vi64 x1.f12, vi64 x1.f13.f0, vi64 x1.f13.f1, vu64 x1.f13.f2, vi64 x1.f13.f3, vi64 x1.f14.f0, vu64 x1.f14.f1, .slice p2 x1.f14.f2.length c3, .bool x1.f14.f3, vi64 x1.f14.f4, .slice p5 x1.f15.length c6, .slice p8 x1.f16.length c9, .slice p11 x1.f17.length c12] 48, F] ih ∧ RSl e156 ih [] p2090 c2091 x2089) := ⟨_, fun _ _ => Iff.rfl⟩
  refine c_seqJ J2201 ?_ ?_
  · refine c_block ?_
    refine c_seq ?_
    refine c_region ?_
    refine pures hs 1 [2, 3, 6, 58, 59, 60, 62] [(2, (pt b1204 0)), (3, vi64 x1228), (6, (pt b1232 0)), (58, .slice (some ⟨b1236, 0, none⟩) 15 15), (59, vi64 15), (60, vi64 12), (62, (pt b1236 24))] (by kernel_rfl) fun a hs => ?_
    refine s_load hs (hw.at_ 0 rfl) 24 (by kernel_rfl) (by kernel_rfl) (v := .agg #[vi64 4096, .func (.func 107) #[] #[(pt b1202 0), (pt b1232 0)]]) (by kernel_rfl) fun a hs => ?_
    refine s_new hs hw [vi64 0, .nilFunc] 163 (fun b => (pt b 0)) (by kernel_rfl) (fun _ => by kernel_rfl) fun a w b2204 hs hw => ?_
    refine s_store hs hw 0 rfl 0 (by kernel_rfl) (by kernel_rfl) (v := .agg #[vi64 4096, .func (.func 107) #[] #[(pt b1202 0), (pt b1232 0)]]) (by kernel_rfl) (by kernel_rfl) (by kernel_rfl) (by kernel_rfl) fun a w hs hw => ?_
    refine s_end ?_
    refine c_seq ?_
    refine c_region ?_
    refine pures hs 2 [2, 3, 6, 58, 59, 60, 8, 64, 65] [(2, (pt b1204 0)), (3, vi64 x1228), (6, (pt b1232 0)), (58, .slice (some ⟨b1236, 0, none⟩) 15 15), (59, vi64 15), (60, vi64 12), (8, (pt b2204 0)), (64, vi64 x1228), (65, (pt b2204 0))] (by kernel_rfl) fun a hs => ?_
    refine s_load hs (hw.at_ 0 rfl) 0 (by kernel_rfl) (by kernel_rfl) (v := vi64 4096) (by kernel_rfl) fun a hs => ?_
    refine pures hs 2 [2, 3, 6, 58, 59, 60, 8, 68] [(2, (pt b1204 0)), (3, vi64 x1228), (6, (pt b1232 0)), (58, .slice (some ⟨b1236, 0, none⟩) 15 15), (59, vi64 15), (60, vi64 12), (8, (pt b2204 0)), (68, .bool ((bAnd .i64 x1228 4096) != 0))] (by kernel_rfl) fun a hs => ?_
    refine s_end ?_
    rcases ifbE hx2200 with ⟨h2206, hx2200⟩ | ⟨h2206, hx2200⟩
    · refine c_cond1 hs (by kernel_rfl) (t := ((bAnd .i64 x1228 4096) != 0)) (by kernel_rfl) h2206 ?_
      refine c_region ?_
      refine pures hs 1 [2, 3, 6, 58, 59, 60, 69] [(2, (pt b1204 0)), (3, vi64 x1228), (6, (pt b1232 0)), (58, .slice (some ⟨b1236, 0, none⟩) 15 15), (59, vi64 15), (60, vi64 12), (69, (pt b2204 1))] (by kernel_rfl) fun a hs => ?_
      refine s_load hs (hw.at_ 0 rfl) 1 (by kernel_rfl) (by kernel_rfl) (v := .func (.func 107) #[] #[(pt b1202 0), (pt b1232 0)]) (by kernel_rfl) fun a hs => ?_
      obtain ⟨y2212, h2213, hx2200⟩ := bindE hx2200
      refine s_call hs (by kernel_rfl) (by kernel_rfl) (letter_bare_13_s (x3 := x1.f0) (x4 := x1.f1) (x5 := x1.f2) (x6 := x1.f3) (x7 := x1.f4) (x8 := x1.f5) (x9 := x1.f6) (x10 := x1.f7) (x11 := x1.f8) (x12 := x1.f9) (x13 := x1.f10) (x14 := x1.f11) (x15 := x1.f12) (x16 := x1.f13.f0) (x17 := x1.f13.f1) (x18 := x1.f13.f2) (x19 := x1.f13.f3) (x20 := x1.f14.f0) (x21 := x1.f14.f1) (x22 := x1.f14.f2) (x26 := x1.f14.f3) (x27 := x1.f14.f4) (x32 := x1.f16) (x36 := x1.f17) (x42 := x1.f0) (x43 := x1.f1) (x44 := x1.f2) (x45 := x1827) (x46 := x1846) (x47 := x1865) (x48 := x1941) (x49 := x1884) (x50 := x1903) (x51 := x1998) (x52 := x1922) (x53 := x1979) (x54 := x1960) (x55 := x2017) (x56 := x2018) (x57 := x2019) (x58 := x2020) (x59 := x2051) (x60 := x2052) (x61 := x2053) (x65 := x2057) (x66 := x2058) (x67 := []) (x71 := []) (x75 := []) h2213 h4 h7 h10 h13 h2056 (RSl.nil _ _ _) (RSl.nil _ _ _) (RSl.nil _ _ _) ((hw.pick [4, 2, 1, 3, 5] (by kernel_rfl)).pack 2)) fun a w v hv hs => ?_
      obtain ⟨p2214, c2215, rfl, hw, h2216⟩ := hv
      replace hw := hw.unpack 2 rfl
      refine s_end ?_
      obtain rfl := someE hx2200
      exact (hJ2201 _ _).2 ⟨y2212, p2214, c2215, hk, hs.cast [2, 3, 6, 58, 59, 60] (by kernel_rfl), hw.pick [2, 1, 3, 0, 4] (by kernel_rfl), h2216⟩
    refine c_cond0 hs (by kernel_rfl) (t := ((bAnd .i64 x1228 4096) != 0)) (by kernel_rfl) h2206 ?_
    refine c_skip ?_
    obtain rfl := someE hx2200
    exact (hJ2201 _ _).2 ⟨([]), none, 0, hk, hs.cast [2, 3, 6, 58, 59, 60] (by kernel_rfl), hw.pick [1, 2, 3, 4, 5] (by kernel_rfl), (RSl.nil _ _ _)⟩
  intro a w hh
  obtain ⟨x2089, p2090, c2091, hk, hs, hw, h2092⟩ := (hJ2201 _ _).1 hh
  refine c_region ?_
  refine pures hs 2 [2, 3, 6, 58, 59, 60] [(2, (pt b1204 0)), (3, vi64 x1228), (6, (pt b1232 0)), (58, .slice (some ⟨b1236, 0, none⟩) 15 15), (59, vi64 15), (60, vi64 13)] (by kernel_rfl) fun a hs => ?_
  refine s_end ?_
  refine c_unr ?_
  refine c_seq ?_
  refine c_region ?_
  refine pures hs 1 [2, 3, 6, 58, 59, 60, 61] [(2, (pt b1204 0)), (3, vi64 x1228), (6, (pt b1232 0)), (58, .slice (some ⟨b1236, 0, none⟩) 15 15), (59, vi64 15), (60, vi64 13), (61, .bool true)] (by kernel_rfl) fun a hs => ?_
  refine s_end ?_
  refine c_seq ?_
  refine c_condT hs (by kernel_rfl) (by kernel_rfl) ?_
  refine c_skip ?_
  obtain ⟨y2180, hx2181, hk⟩ := bindE hk
  obtain ⟨J2182, hJ2182⟩ : ∃ J : Act → World → Prop, ∀ a w, J a w ↔ (∃ (x2123 : List M96) (p2124 : Option Addr) (c2125 : Nat), letter_bare_r47 x1228 x1 x1827 x1846 x1865 x1941 x1884 x1903 x1998 x1922 x1979 x1960 x2017 x2018 x2019 x2020 x2051 x2052 x2053 x2057 x2058 x2089 x2123 = some r ∧ Sees a 74 [(2, (pt b1204 0)), (3, vi64 x1228), (6, (pt b1232 0)), (58, .slice (some ⟨b1236, 0, none⟩) 15 15), (59, vi64 15), (60, vi64 13)] ∧ St g w [bx b1236 [vi64 1, .func (.func 95) #[] #[(pt b1202 0), (pt b1232 0)], vi64 2, .func (.func 96) #[] #[(pt b1202 0), (pt b1232 0)], vi64 4, .func (.func 97) #[] #[(pt b1202 0), (pt b1232 0)], vi64 8, .func (.func 98) #[] #[(pt b1202 0), (pt b1232 0)], vi64 16, .func (.func 99) #[] #[(pt b1202 0), (pt b1232 0)], vi64 32, .func (.func 100) #[] #[(pt b1202 0), (pt b1232 0)], vi64 64, .func (.func 101) #[] #[(pt b1202 0), (pt b1232 0)], vi64 128, .func (.func 102) #[] #[(pt b1202 0), (pt b1232 0)], vi64 256, .func (.func 103) #[] #[(pt b1202 0), (pt b1232 0)], vi64 512, .func (.func 104) #[] #[(pt b1202 0), (pt b1232 0)], vi64 1024, .func (.func 105) #[] #[(pt b1202 0), (pt b1232 0)], vi64 2048, .func (.func 106) #[] #[(pt b1202 0), (pt b1232 0)], vi64 4096, .func (.func 107) #[] #[(pt b1202 0), (pt b1232 0)], vi64 8192, .func (.func 108) #[] #[(pt b1202 0), (pt b1232 0)], vi64 16384, .func (.func 109) #[] #[(pt b1202 0), (pt b1232 0)]] 163, bx b1232 [vi64 x1.f0, vi64 x1.f1, vi64 x1.f2, vi64 x1827, vu64 x1846, vu64 x1865, vu64 x1941, vu64 x1884, vu64 x1903, vu64 x1998, vi64 x1922, vu32 x1979, vi64 x1960, vi64 x2017, vi64 x2018, vu64 x2019, vi64 x2020, vi64 x2051, vu64 x2052, .slice p2054 x2053.length c2055, .bool x2057, vi64 x2058, .slice p2090 x2089.length c2091, .slice p2124 x2123.length c2125, .slice none 0 0] 48, bx b1204 [vi64 0, vi64 0, vi64 0, vi64 0, vu64 0, vu64 0, vu64 0, vu64 0, vu64 0, vu64 0, vi64 0, vu32 0, vi64 0, vi64 0, vi64 0, vu64 0, vi64 0, vi64 0, vu64 0, .slice none 0 0, .bool false, vi64 0, .slice none 0 0, .slice none 0 0, .slice none 0 0] 48, bx b1202 [vi64 x1.f0, vi64 x1.f1, vi64 x1.f2, vi64 x1.f3, vu64 x1.f4, vu64 x1.f5, vu64 x1.f6, vu64 x1.f7, vu64 x1.f8, vu64 x1.f9, vi64 x1.f10, vu32 x1.f11, vi64 x1.f12, vi64 x1.f13.f0, vi64 x1.f13.f1, vu64 x1.f13.f2, vi64 x1.f13.f3, vi64 x1.f14.f0, vu64 x1.f14.f1, .slice p2 x1.f14.f2.length c3, .bool x1.f14.f3, vi64 x1.f14.f4, .slice p5 x1.f15.length c6, .slice p8 x1.f16.length c9, .slice p11 x1.f17.length c12] 48, F] ih ∧ RSl e96 ih [] p2124 c2125 x2123) := ⟨_, fun _ _ => Iff.rfl⟩
  refine c_seqJ J2182 ?_ ?_
  · refine c_block ?_
    refine c_seq ?_
    refine c_region ?_
    refine pures hs 1 [2, 3, 6, 58, 59, 60, 62] [(2, (pt b1204 0)), (3, vi64 x1228), (6, (pt b1232 0)), (58, .slice (some ⟨b1236, 0, none⟩) 15 15), (59, vi64 15), (60, vi64 13), (62, (pt b1236 26))] (by kernel_rfl) fun a hs => ?_
    refine s_load hs (hw.at_ 0 rfl) 26 (by kernel_rfl) (by kernel_rfl) (v := .agg #[vi64 8192, .func (.func 108) #[] #[(pt b1202 0), (pt b1232 0)]]) (by kernel_rfl) fun a hs => ?_
    refine s_new hs hw [vi64 0, .nilFunc] 163 (fun b => (pt b 0)) (by kernel_rfl) (fun _ => by kernel_rfl) fun a w b2185 hs hw => ?_
    refine s_store hs hw 0 rfl 0 (by kernel_rfl) (by kernel_rfl) (v := .agg #[vi64 8192, .func (.func 108) #[] #[(pt b1202 0), (pt b1232 0)]]) (by kernel_rfl) (by kernel_rfl) (by kernel_rfl) (by kernel_rfl) fun a w hs hw => ?_
    refine s_end ?_
    refine c_seq ?_
    refine c_region ?_
    refine pures hs 2 [2, 3, 6, 58, 59, 60, 8, 64, 65] [(2, (pt b1204 0)), (3, vi64 x1228), (6, (pt b1232 0)), (58, .slice (some ⟨b1236, 0, none⟩) 15 15), (59, vi64 15), (60, vi64 13), (8, (pt b2185 0)), (64, vi64 x1228), (65, (pt b2185 0))] (by kernel_rfl) fun a hs => ?_
    refine s_load hs (hw.at_ 0 rfl) 0 (by kernel_rfl) (by kernel_rfl) (v := vi64 8192) (by kernel_rfl) fun a hs => ?_
    refine pures hs 2 [2, 3, 6, 58, 59, 60, 8, 68] [(2, (pt b1204 0)), (3, vi64 x1228), (6, (pt b1232 0)), (58, .slice (some ⟨b1236, 0, none⟩) 15 15), (59, vi64 15), (60, vi64 13), (8, (pt b2185 0)), (68, .bool ((bAnd .i64 x1228 8192) != 0))] (by kernel_rfl) fun a hs => ?_
    refine s_end ?_
    rcases ifbE hx2181 with ⟨h2187, hx2181⟩ | ⟨h2187, hx2181⟩
    · refine c_cond1 hs (by kernel_rfl) (t := ((bAnd .i64 x1228 8192) != 0)) (by kernel_rfl) h2187 ?_
      refine c_region ?_
      refine pures hs 1 [2, 3, 6, 58, 59, 60, 69] [(2, (pt b1204 0)), (3, vi64 x1228), (6, (pt b1232 0)), (58, .slice (some ⟨b1236, 0, none⟩) 15 15), (59, vi64 15), (60, vi64 13), (69, (pt b2185 1))] (by kernel_rfl) fun a hs => ?_
      refine s_load hs (hw.at_ 0 rfl) 1 (by kernel_rfl) (by kernel_rfl) (v := .func (.func 108) #[] #[(pt b1202 0), (pt b1232 0)]) (by kernel_rfl) fun a hs => ?_
      obtain ⟨y2193, h2194, hx2181⟩ := bindE hx2181
      refine s_call hs (by kernel_rfl) (by kernel_rfl) (letter_bare_14_s (x3 := x1.f0) (x4 := x1.f1) (x5 := x1.f2) (x6 := x1.f3) (x7 := x1.f4) (x8 := x1.f5) (x9 := x1.f6) (x10 := x1.f7) (x11 := x1.f8) (x12 := x1.f9) (x13 := x1.f10) (x14 := x1.f11) (x15 := x1.f12) (x16 := x1.f13.f0) (x17 := x1.f13.f1) (x18 := x1.f13.f2) (x19 := x1.f13.f3) (x20 := x1.f14.f0) (x21 := x1.f14.f1) (x22 := x1.f14.f2) (x26 := x1.f14.f3) (x27 := x1.f14.f4) (x28 := x1.f15) (x36 := x1.f17) (x42 := x1.f0) (x43 := x1.f1) (x44 := x1.f2) (x45 := x1827) (x46 := x1846) (x47 := x1865) (x48 := x1941) (x49 := x1884) (x50 := x1903) (x51 := x1998) (x52 := x1922) (x53 := x1979) (x54 := x1960) (x55 := x2017) (x56 := x2018) (x57 := x2019) (x58 := x2020) (x59 := x2051) (x60 := x2052) (x61 := x2053) (x65 := x2057) (x66 := x2058) (x67 := x2089) (x71 := []) (x75 := []) h2194 h4 h7 h10 h13 h2056 h2092 (RSl.nil _ _ _) (RSl.nil _ _ _) ((hw.pick [4, 2, 1, 3, 5] (by kernel_rfl)).pack 2)) fun a w v hv hs => ?_
      obtain ⟨p2195, c2196, rfl, hw, h2197⟩ := hv
      replace hw := hw.unpack 2 rfl
      refine s_end ?_
      obtain rfl := someE hx2181
      exact (hJ2182 _ _).2 ⟨y2193, p2195, c2196, hk, hs.cast [2, 3, 6, 58, 59, 60] (by kernel_rfl), hw.pick [2, 1, 3, 0, 4] (by kernel_rfl), h2197⟩
    refine c_cond0 hs (by kernel_rfl) (t := ((bAnd .i64 x1228 8192) != 0)) (by kernel_rfl) h2187 ?_
    refine c_skip ?_
    obtain rfl := someE hx2181
    exact (hJ2182 _ _).2 ⟨([]), none, 0, hk, hs.cast [2, 3, 6, 58, 59, 60] (by kernel_rfl), hw.pick [1, 2, 3, 4, 5] (by kernel_rfl), (RSl.nil _ _ _)⟩
  intro a w hh
  obtain ⟨x2123, p2124, c2125, hk, hs, hw, h2126⟩ := (hJ2182 _ _).1 hh
  refine c_region ?_
  refine pures hs 2 [2, 3, 6, 58, 59, 60] [(2, (pt b1204 0)), (3, vi64 x1228), (6, (pt b1232 0)), (58, .slice (some ⟨b1236, 0, none⟩) 15 15), (59, vi64 15), (60, vi64 14)] (by kernel_rfl) fun a hs => ?_
  refine s_end ?_
  refine c_unr ?_
  refine c_seq ?_
  refine c_region ?_
  refine pures hs 1 [2, 3, 6, 58, 59, 60, 61] [(2, (pt b1204 0)), (3, vi64 x1228), (6, (pt b1232 0)), (58, .slice (some ⟨b1236, 0, none⟩) 15 15), (59, vi64 15), (60, vi64 14), (61, .bool true)] (by kernel_rfl) fun a hs => ?_
  refine s_end ?_
  refine c_seq ?_
  refine c_condT hs (by kernel_rfl) (by kernel_rfl) ?_
  refine c_skip ?_
  obtain ⟨y2161, hx2162, hk⟩ := bindE hk
  obtain ⟨J2163, hJ2163⟩ : ∃ J : Act → World → Prop, ∀ a w, J a w ↔ (∃ (x2157 : List Int) (p2158 : Option Addr) (c2159 : Nat), letter_bare_r46 x1 x1827 x1846 x1865 x1941 x1884 x1903 x1998 x1922 x1979 x1960 x2017 x2018 x2019 x2020 x2051 x2052 x2053 x2057 x2058 x2089 x2123 x2157 = some r ∧ Sees a 74 [(2, (pt b1204 0)), (3, vi64 x1228), (6, (pt b1232 0)), (58, .slice (some ⟨b1236, 0, none⟩) 15 15), (59, vi64 15), (60, vi64 14)] ∧ St g w [bx b1236 [vi64 1, .func (.func 95) #[] #[(pt b1202 0), (pt b1232 0)], vi64 2, .func (.func 96) #[] #[(pt b1202 0), (pt b1232 0)], vi64 4, .func (.func 97) #[] #[(pt b1202 0), (pt b1232 0)], vi64 8, .func (.func 98) #[] #[(pt b1202 0), (pt b1232 0)], vi64 16, .func (.func 99) #[] #[(pt b1202 0), (pt b1232 0)], vi64 32, .func (.func 100) #[] #[(pt b1202 0), (pt b1232 0)], vi64 64, .func (.func 101) #[] #[(pt b1202 0), (pt b1232 0)], vi64 128, .func (.func 102) #[] #[(pt b1202 0), (pt b1232 0)], vi64 256, .func (.func 103) #[] #[(pt b1202 0), (pt b1232 0)], vi64 512, .func (.func 104) #[] #[(pt b1202 0), (pt b1232 0)], vi64 1024, .func (.func 105) #[] #[(pt b1202 0), (pt b1232 0)], vi64 2048, .func (.func 106) #[] #[(pt b1202 0), (pt b1232 0)], vi64 4096, .func (.func 107) #[] #[(pt b1202 0), (pt b1232 0)], vi64 8192, .func (.func 108) #[] #[(pt b1202 0), (pt b1232 0)], vi64 16384, .func (.func 109) #[] #[(pt b1202 0), (pt b1232 0)]] 163, bx b1232 [vi64 x1.f0, vi64 x1.f1, vi64 x1.f2, vi64 x1827, vu64 x1846, vu64 x1865, vu64 x1941, vu64 x1884, vu64 x1903, vu64 x1998, vi64 x1922, vu32 x1979, vi64 x1960, vi64 x2017, vi64 x2018, vu64 x2019, vi64 x2020, vi64 x2051, vu64 x2052, .slice p2054 x2053.length c2055, .bool x2057, vi64 x2058, .slice p2090 x2089.length c2091, .slice p2124 x2123.length c2125, .slice p2158 x2157.length c2159] 48, bx b1204 [vi64 0, vi64 0, vi64 0, vi64 0, vu64 0, vu64 0, vu64 0, vu64 0, vu64 0, vu64 0, vi64 0, vu32 0, vi64 0, vi64 0, vi64 0, vu64 0, vi64 0, vi64 0, vu64 0, .slice none 0 0, .bool false, vi64 0, .slice none 0 0, .slice none 0 0, .slice none 0 0] 48, bx b1202 [vi64 x1.f0, vi64 x1.f1, vi64 x1.f2, vi64 x1.f3, vu64 x1.f4, vu64 x1.f5, vu64 x1.f6, vu64 x1.f7, vu64 x1.f8, vu64 x1.f9, vi64 x1.f10, vu32 x1.f11, vi64 x1.f12, vi64 x1.f13.f0, vi64 x1.f13.f1, vu64 x1.f13.f2, vi64 x1.f13.f3, vi64 x1.f14.f0, vu64 x1.f14.f1, .slice p2 x1.f14.f2.length c3, .bool x1.f14.f3, vi64 x1.f14.f4, .slice p5 x1.f15.length c6, .slice p8 x1.f16.length c9, .slice p11 x1.f17.length c12] 48, F] ih ∧ RSl e5 ih [] p2158 c2159 x2157) := ⟨_, fun _ _ => Iff.rfl⟩
  refine c_seqJ J2163 ?_ ?_
  · refine c_block ?_
    refine c_seq ?_
    refine c_region ?_
    refine pures hs 1 [2, 3, 6, 58, 59, 60, 62] [(2, (pt b1204 0)), (3, vi64 x1228), (6, (pt b1232 0)), (58, .slice (some ⟨b1236, 0, none⟩) 15 15), (59, vi64 15), (60, vi64 14), (62, (pt b1236 28))] (by kernel_rfl) fun a hs => ?_
    refine s_load hs (hw.at_ 0 rfl) 28 (by kernel_rfl) (by kernel_rfl) (v := .agg #[vi64 16384, .func (.func 109) #[] #[(pt b1202 0), (pt b1232 0)]]) (by kernel_rfl) fun a hs => ?_
    refine s_new hs hw [vi64 0, .nilFunc] 163 (fun b => (pt b 0)) (by kernel_rfl) (fun _ => by kernel_rfl) fun a w b2166 hs hw => ?_
    refine s_store hs hw 0 rfl 0 (by kernel_rfl) (by kernel_rfl) (v := .agg #[vi64 16384, .func (.func 109) #[] #[(pt b1202 0), (pt b1232 0)]]) (by kernel_rfl) (by kernel_rfl) (by kernel_rfl) (by kernel_rfl) fun a w hs hw => ?_
    refine s_end ?_
    refine c_seq ?_
    refine c_region ?_
    refine pures hs 2 [2, 3, 6, 58, 59, 60, 8, 64, 65] [(2, (pt b1204 0)), (3, vi64 x1228), (6, (pt b1232 0)), (58, .slice (some ⟨b1236, 0, none⟩) 15 15), (59, vi64 15), (60, vi64 14), (8, (pt b2166 0)), (64, vi64 x1228), (65, (pt b2166 0))] (by kernel_rfl) fun a hs => ?_
    refine s_load hs (hw.at_ 0 rfl) 0 (by kernel_rfl) (by kernel_rfl) (v := vi64 16384) (by kernel_rfl) fun a hs => ?_
    refine pures hs 2 [2, 3, 6, 58, 59, 60, 8, 68] [(2, (pt b1204 0)), (3, vi64 x1228), (6, (pt b1232 0)), (58, .slice (some ⟨b1236, 0, none⟩) 15 15), (59, vi64 15), (60, vi64 14), (8, (pt b2166 0)), (68, .bool ((bAnd .i64 x1228 16384) != 0))] (by kernel_rfl) fun a hs => ?_
    refine s_end ?_
    rcases ifbE hx2162 with ⟨h2168, hx2162⟩ | ⟨h2168, hx2162⟩
    · refine c_cond1 hs (by kernel_rfl) (t := ((bAnd .i64 x1228 16384) != 0)) (by kernel_rfl) h2168 ?_
      refine c_region ?_
      refine pures hs 1 [2, 3, 6, 58, 59, 60, 69] [(2, (pt b1204 0)), (3, vi64 x1228), (6, (pt b1232 0)), (58, .slice (some ⟨b1236, 0, none⟩) 15 15), (59, vi64 15), (60, vi64 14), (69, (pt b2166 1))] (by kernel_rfl) fun a hs => ?_
      refine s_load hs (hw.at_ 0 rfl) 1 (by kernel_rfl) (by kernel_rfl) (v := .func (.func 109) #[] #[(pt b1202 0), (pt b1232 0)]) (by kernel_rfl) fun a hs => ?_
      obtain ⟨y2174, h2175, hx2162⟩ := bindE hx2162
      refine s_call hs (by kernel_rfl) (by kernel_rfl) (letter_bare_15_s (x3 := x1.f0) (x4 := x1.f1) (x5 := x1.f2) (x6 := x1.f3) (x7 := x1.f4) (x8 := x1.f5) (x9 := x1.f6) (x10 := x1.f7) (x11 := x1.f8) (x12 := x1.f9) (x13 := x1.f10) (x14 := x1.f11) (x15 := x1.f12) (x16 := x1.f13.f0) (x17 := x1.f13.f1) (x18 := x1.f13.f2) (x19 := x1.f13.f3) (x20 := x1.f14.f0) (x21 := x1.f14.f1) (x22 := x1.f14.f2) (x26 := x1.f14.f3) (x27 := x1.f14.f4) (x28 := x1.f15) (x32 := x1.f16) (x42 := x1.f0) (x43 := x1.f1) (x44 := x1.f2) (x45 := x1827) (x46 := x1846) (x47 := x1865) (x48 := x1941) (x49 := x1884) (x50 := x1903) (x51 := x1998) (x52 := x1922) (x53 := x1979) (x54 := x1960) (x55 := x2017) (x56 := x2018) (x57 := x2019) (x58 := x2020) (x59 := x2051) (x60 := x2052) (x61 := x2053) (x65 := x2057) (x66 := x2058) (x67 := x2089) (x71 := x2123) (x75 := []) h2175 h4 h7 h10 h13 h2056 h2092 h2126 (RSl.nil _ _ _) ((hw.pick [4, 2, 1, 3, 5] (by kernel_rfl)).pack 2)) fun a w v hv hs => ?_
      obtain ⟨p2176, c2177, rfl, hw, h2178⟩ := hv
      replace hw := hw.unpack 2 rfl
      refine s_end ?_
      obtain rfl := someE hx2162
      exact (hJ2163 _ _).2 ⟨y2174, p2176, c2177, hk, hs.cast [2, 3, 6, 58, 59, 60] (by kernel_rfl), hw.pick [2, 1, 3, 0, 4] (by kernel_rfl), h2178⟩
    refine c_cond0 hs (by kernel_rfl) (t := ((bAnd .i64 x1228 16384) != 0)) (by kernel_rfl) h2168 ?_
    refine c_skip ?_
    obtain rfl := someE hx2162
    exact (hJ2163 _ _).2 ⟨([]), none, 0, hk, hs.cast [2, 3, 6, 58, 59, 60] (by kernel_rfl), hw.pick [1, 2, 3, 4, 5] (by kernel_rfl), (RSl.nil _ _ _)⟩
  intro a w hh
  obtain ⟨x2157, p2158, c2159, hk, hs, hw, h2160⟩ := (hJ2163 _ _).1 hh
  refine c_region ?_
  refine pures hs 2 [2, 3, 6, 58, 59, 60] [(2, (pt b1204 0)), (3, vi64 x1228), (6, (pt b1232 0)), (58, .slice (some ⟨b1236, 0, none⟩) 15 15), (59, vi64 15), (60, vi64 15)] (by kernel_rfl) fun a hs => ?_
  refine s_end ?_
  refine c_unr ?_
  refine c_seq ?_
  refine c_region ?_
  refine pures hs 1 [2, 3, 6, 58, 59, 60, 61] [(2, (pt b1204 0)), (3, vi64 x1228), (6, (pt b1232 0)), (58, .slice (some ⟨b1236, 0, none⟩) 15 15), (59, vi64 15), (60, vi64 15), (61, .bool false)] (by kernel_rfl) fun a hs => ?_
  refine s_end ?_
  refine c_seq ?_
  refine c_condF hs (by kernel_rfl) (by kernel_rfl) ?_
  refine c_exit ?_
  refine c_seq ?_
  refine c_region ?_
  refine s_load hs (hw.at_ 1 rfl) 0 (by kernel_rfl) (by kernel_rfl) (v := .agg #[vi64 x1.f0, vi64 x1.f1, vi64 x1.f2, vi64 x1827, vu64 x1846, vu64 x1865, vu64 x1941, vu64 x1884, vu64 x1903, vu64 x1998, vi64 x1922, vu32 x1979, vi64 x1960, vi64 x2017, vi64 x2018, vu64 x2019, vi64 x2020, vi64 x2051, vu64 x2052, .slice p2054 x2053.length c2055, .bool x2057, vi64 x2058, .slice p2090 x2089.length c2091, .slice p2124 x2123.length c2125, .slice p2158 x2157.length c2159]) (by kernel_rfl) fun a hs => ?_
  refine s_store hs hw 2 rfl 0 (by kernel_rfl) (by kernel_rfl) (v := .agg #[vi64 x1.f0, vi64 x1.f1, vi64 x1.f2, vi64 x1827, vu64 x1846, vu64 x1865, vu64 x1941, vu64 x1884, vu64 x1903, vu64 x1998, vi64 x1922, vu32 x1979, vi64 x1960, vi64 x2017, vi64 x2018, vu64 x2019, vi64 x2020, vi64 x2051, vu64 x2052, .slice p2054 x2053.length c2055, .bool x2057, vi64 x2058, .slice p2090 x2089.length c2091, .slice p2124 x2123.length c2125, .slice p2158 x2157.length c2159]) (by kernel_rfl) (by kernel_rfl) (by kernel_rfl) (by kernel_rfl) fun a w hs hw => ?_
  refine s_end ?_
  refine c_ret ?_
  obtain rfl := someE hk
  refine hQ _ _ (f_retC hs rfl (hw.at_ 2 rfl) (by kernel_rfl) (v := .agg #[vi64 x1.f0, vi64 x1.f1, vi64 x1.f2, vi64 x1827, vu64 x1846, vu64 x1865, vu64 x1941, vu64 x1884, vu64 x1903, vu64 x1998, vi64 x1922, vu32 x1979, vi64 x1960, vi64 x2017, vi64 x2018, vu64 x2019, vi64 x2020, vi64 x2051, vu64 x2052, .slice p2054 x2053.length c2055, .bool x2057, vi64 x2058, .slice p2090 x2089.length c2091, .slice p2124 x2123.length c2125, .slice p2158 x2157.length c2159]) (by kernel_rfl) ⟨p2054, c2055, p2090, c2091, p2124, c2125, p2158, c2159, rfl, hw.pick [4] (by kernel_rfl), h2056, h2092, h2126, h2160⟩)
def slices_Equal_int_int_r10 : Option Bool :=
  some true
def slices_Equal_int_int_r12 (rec_slices_Equal_int_int_l11 : Int → Option (Sum Bool Unit)) (x217 : Int) (x272 : Bool) : Option (Sum Bool Unit) :=
  if x272 = true then some (.inl false)
  else rec_slices_Equal_int_int_l11 (IntKind.i64.wrap (x217 + 1))
def slices_Equal_int_int_l11 (x1 : List Int) (x7 : List Int) : Nat → Int → Option (Sum Bool Unit)
  | 0, _ => none
  | j + 1, x217 =>
    if (decide (x217 < (x1.length : Int))) = true then (
      ((ix x1 x217).bind fun x277 =>
        (ix x7 x217).bind fun x281 =>
        some (x277 != x281) : Option Bool).bind fun s285 => slices_Equal_int_int_r12 (slices_Equal_int_int_l11 x1 x7 j) x217 s285)
    else some (.inr ())
def slices_Equal_int_int (k : Nat) (x1 : List Int) (x7 : List Int) : Option Bool :=
  if ((x1.length : Int) != (x7.length : Int)) = true then some false
  else (slices_Equal_int_int_l11 x1 x7 k 0 : Option (Sum Bool Unit)).bind fun
    | .inl z => some z
    | .inr _ => slices_Equal_int_int_r10
theorem slices_Equal_int_int_s {k : Nat} {x1 : List Int} {x7 : List Int} {p2 : Option Addr} {c3 : Nat} {d5 : Ch} {p8 : Option Addr} {c9 : Nat} {d11 : Ch} {r : Bool} (hk : slices_Equal_int_int k x1 x7 = some r) {g w : World} {F : Ch} {ih : IH} (h4 : RSl e3 ih d5 p2 c3 x1) (h6 : ∀ q ∈ d5, q ∈ F) (h10 : RSl e3 ih d11 p8 c9 x7) (h12 : ∀ q ∈ d11, q ∈ F) (hw : St g w [F] ih) :
    CallsR Tryz.prog 128 #[.slice p2 x1.length c3, .slice p8 x7.length c9] w fun v w' => v = .bool r ∧ St g w' [F] ih := by
  refine f_in (vs := [.slice p2 x1.length c3, .slice p8 x7.length c9]) Tryz.func128 rfl 26 rfl (by kernel_rfl) [(0, .slice p2 x1.length c3), (1, .slice p8 x7.length c9)] (by kernel_rfl) fun a Qf hQ hQn hs => ?_
  refine c_seq ?_
  refine c_region ?_
  refine pures hs 1 [0, 1] [(0, .slice p2 x1.length c3), (1, .slice p8 x7.length c9)] (by kernel_rfl) fun a hs => ?_
  refine s_end ?_
  refine c_seq ?_
  refine c_seq ?_
  refine c_region ?_
  refine pures hs 5 [0, 1, 10] [(0, .slice p2 x1.length c3), (1, .slice p8 x7.length c9), (10, .bool ((x1.length : Int) != (x7.length : Int)))] (by kernel_rfl) fun a hs => ?_
  refine s_end ?_
  rcases ifbE hk with ⟨h151, hk⟩ | ⟨h151, hk⟩
  · refine c_cond1 hs (by kernel_rfl) (t := ((x1.length : Int) != (x7.length : Int))) (by kernel_rfl) h151 ?_
    refine c_seq ?_
    refine c_region ?_
    refine pures hs 1 [4] [(4, .bool false)] (by kernel_rfl) fun a hs => ?_
    refine s_end ?_
    refine c_ret ?_
    obtain rfl := someE hk
    refine hQ _ _ (f_ret1 hs rfl (v := .bool false) (by kernel_rfl) ⟨rfl, hw.pick [0] (by kernel_rfl)⟩)
  refine c_cond0 hs (by kernel_rfl) (t := ((x1.length : Int) != (x7.length : Int))) (by kernel_rfl) h151 ?_
  refine c_skip ?_
  refine c_seq ?_
  refine c_seq ?_
  refine c_region ?_
  refine pures hs 3 [0, 1, 12, 13] [(0, .slice p2 x1.length c3), (1, .slice p8 x7.length c9), (12, vi64 (x1.length : Int)), (13, vi64 0)] (by kernel_rfl) fun a hs => ?_
  refine s_end ?_
  refine c_block ?_
  obtain ⟨y250, hx251, hk⟩ := bindE hk
  obtain ⟨J252, hJ252⟩ : ∃ J : Act → World → Prop, ∀ a w, J a w ↔ (slices_Equal_int_int_r10 = some r ∧ Sees a 26 [] ∧ St g w [F] ih) := ⟨_, fun _ _ => Iff.rfl⟩
  obtain ⟨I253, hI253⟩ : ∃ J : Nat → Act → World → Prop, ∀ j a w, J j a w ↔ (∃ (x217 : Int), slices_Equal_int_int_l11 x1 x7 j x217 = some y250 ∧ Sees a 26 [(0, .slice p2 x1.length c3), (1, .slice p8 x7.length c9), (12, vi64 (x1.length : Int)), (13, vi64 x217)] ∧ St g w [F] ih) := ⟨_, fun _ _ _ => Iff.rfl⟩
  refine c_exitJ 0 J252 ?_ ?_
  · refine c_loop I253 k ((hI253 _ _ _).2 ⟨0, hx251, hs.cast [0, 1, 12, 13] (by kernel_rfl), hw.pick [0] (by kernel_rfl)⟩) (fun a w h0 => ?_) fun j a w hh => ?_
    · obtain ⟨_, h, _⟩ := (hI253 _ _ _).1 h0
      cases h
    obtain ⟨x217, hx251, hs, hw⟩ := (hI253 _ _ _).1 hh
    refine c_seq ?_
    refine c_region ?_
    refine pures hs 1 [0, 1, 12, 13, 14] [(0, .slice p2 x1.length c3), (1, .slice p8 x7.length c9), (12, vi64 (x1.length : Int)), (13, vi64 x217), (14, .bool (decide (x217 < (x1.length : Int))))] (by kernel_rfl) fun a hs => ?_
    refine s_end ?_
    refine c_seq ?_
    rcases ifbE hx251 with ⟨h254, hx251⟩ | ⟨h254, hx251⟩
    · refine c_cond1 hs (by kernel_rfl) (t := (decide (x217 < (x1.length : Int)))) (by kernel_rfl) h254 ?_
      refine c_skip ?_
      refine c_seq ?_
      refine c_block ?_
      refine c_seq ?_
      refine c_region ?_
      refine pures hs 2 [0, 1, 12, 13, 5] [(0, .slice p2 x1.length c3), (1, .slice p8 x7.length c9), (12, vi64 (x1.length : Int)), (13, vi64 x217), (5, vi64 x217)] (by kernel_rfl) fun a hs => ?_
      refine s_end ?_
      refine c_seq ?_
      obtain ⟨S255, hS255, kS255⟩ := mkSX (X := [([], F)]) (ih := ih) (K := []) rfl
      obtain ⟨y274, hx275, hx251⟩ := bindE hx251
      obtain ⟨J276, hJ276⟩ : ∃ J : Act → World → Prop, ∀ a w, J a w ↔ (∃ (x272 : Bool), slices_Equal_int_int_r12 (slices_Equal_int_int_l11 x1 x7 j) x217 x272 = some y250 ∧ Sees a 26 [(0, .slice p2 x1.length c3), (1, .slice p8 x7.length c9), (12, vi64 (x1.length : Int)), (13, vi64 x217), (24, .bool x272)] ∧ St g w [F] ih) := ⟨_, fun _ _ => Iff.rfl⟩
      refine c_draw (by kernel_rfl) (N := 9) rfl S255 J276 ?_ ?_
      · have hw := hw.drew
        have hS : S255 (Array.replicate 9 false) _ := SX_now hS255 (hw.vws [0]) (by kernel_rfl)
        refine d_pures (fuel := 7) kS255 hs hS [0, 1] [0, 1, 12, 13, 5, 16, 17] [(0, .slice p2 x1.length c3), (1, .slice p8 x7.length c9), (12, vi64 (x1.length : Int)), (13, vi64 x217), (5, vi64 x217), (16, .slice p2 x1.length c3), (17, vi64 x217)] (by kernel_rfl) fun a hs hS => ?_
        obtain ⟨x277, h278, hx275⟩ := bindE hx275
        refine d_index (fuel := 6) kS255 hs hS 2 rfl (by kernel_rfl) h4 (by kernel_rfl) (by kernel_rfl) (k := .i64) (by kernel_rfl) 3 (by kernel_rfl) (by kernel_rfl) h278 fun a r279 cs henc at280 hs hS => ?_
        obtain rfl := henc
        refine d_load (fuel := 5) kS255 hs hS 3 rfl (by kernel_rfl) (fun l w hu hS => at280 w (((SX_ch hS255 0 rfl (by kernel_rfl) l w hu hS).sub h6).anti (Le.refl _))) 0 (by kernel_rfl) (by kernel_rfl) (v := vi64 x277) (by kernel_rfl) fun a hs hS => ?_
        refine d_pures (fuel := 3) kS255 hs hS [4, 5] [0, 1, 12, 13, 19, 20, 21] [(0, .slice p2 x1.length c3), (1, .slice p8 x7.length c9), (12, vi64 (x1.length : Int)), (13, vi64 x217), (19, vi64 x277), (20, .slice p8 x7.length c9), (21, vi64 x217)] (by kernel_rfl) fun a hs hS => ?_
        obtain ⟨x281, h282, hx275⟩ := bindE hx275
        refine d_index (fuel := 2) kS255 hs hS 6 rfl (by kernel_rfl) h10 (by kernel_rfl) (by kernel_rfl) (k := .i64) (by kernel_rfl) 3 (by kernel_rfl) (by kernel_rfl) h282 fun a r283 cs henc at284 hs hS => ?_
        obtain rfl := henc
        refine d_load (fuel := 1) kS255 hs hS 7 rfl (by kernel_rfl) (fun l w hu hS => at284 w (((SX_ch hS255 0 rfl (by kernel_rfl) l w hu hS).sub h12).anti (Le.refl _))) 0 (by kernel_rfl) (by kernel_rfl) (v := vi64 x281) (by kernel_rfl) fun a hs hS => ?_
        refine d_pures (fuel := 0) kS255 hs hS [8] [0, 1, 12, 13, 24] [(0, .slice p2 x1.length c3), (1, .slice p8 x7.length c9), (12, vi64 (x1.length : Int)), (13, vi64 x217), (24, .bool (x277 != x281))] (by kernel_rfl) fun a hs hS => ?_
        refine d_done (by kernel_rfl) ?_
        obtain rfl := someE hx275
        exact (hJ276 _ _).2 ⟨(x277 != x281), hx251, hs.cast [0, 1, 12, 13, 24] (by kernel_rfl), hw.pick [0] (by kernel_rfl)⟩
      intro a w hh
      obtain ⟨x272, hx251, hs, hw⟩ := (hJ276 _ _).1 hh
      rcases ifbE hx251 with ⟨h273, hx251⟩ | ⟨h273, hx251⟩
      · refine c_cond1 hs (by kernel_rfl) (t := x272) (by kernel_rfl) h273 ?_
        refine c_seq ?_
        refine c_region ?_
        refine pures hs 1 [4] [(4, .bool false)] (by kernel_rfl) fun a hs => ?_
        refine s_end ?_
        refine c_ret ?_
        obtain rfl := someE hx251
        obtain rfl := someE hk
        refine hQ _ _ (f_ret1 hs rfl (v := .bool false) (by kernel_rfl) ⟨rfl, hw.pick [0] (by kernel_rfl)⟩)
      refine c_cond0 hs (by kernel_rfl) (t := x272) (by kernel_rfl) h273 ?_
      refine c_skip ?_
      refine c_region ?_
      refine pures hs 2 [0, 1, 12, 13] [(0, .slice p2 x1.length c3), (1, .slice p8 x7.length c9), (12, vi64 (x1.length : Int)), (13, vi64 (IntKind.i64.wrap (x217 + 1)))] (by kernel_rfl) fun a hs => ?_
      refine s_end ?_
      exact (hI253 _ _ _).2 ⟨(IntKind.i64.wrap (x217 + 1)), hx251, hs.cast [0, 1, 12, 13] (by kernel_rfl), hw.pick [0] (by kernel_rfl)⟩
    refine c_cond0 hs (by kernel_rfl) (t := (decide (x217 < (x1.length : Int)))) (by kernel_rfl) h254 ?_
    refine c_exit ?_
    obtain rfl := someE hx251
    exact (hJ252 _ _).2 ⟨hk, hs.cast [] (by kernel_rfl), hw.pick [0] (by kernel_rfl)⟩
  intro a w hh
  obtain ⟨hk, hs, hw⟩ := (hJ252 _ _).1 hh
  refine c_seq ?_
  refine c_region ?_
  refine pures hs 1 [4] [(4, .bool true)] (by kernel_rfl) fun a hs => ?_
  refine s_end ?_
  refine c_ret ?_
  obtain rfl := someE hk
  refine hQ _ _ (f_ret1 hs rfl (v := .bool true) (by kernel_rfl) ⟨rfl, hw.pick [0] (by kernel_rfl)⟩)
def conf_Same_r2 (x62 : Bool) : Option Bool :=
  some x62
def conf_Same (k : Nat) (x1 : M44) (x5 : M44) : Option Bool :=
  (if (x1.f0 == x5.f0) = true then (
      if (x1.f1 == x5.f1) = true then (
        if (x1.f3 == x5.f3) = true then (
          if (x1.f4 == x5.f4) = true then (
            (slices_Equal_int_int k x1.f2 x5.f2).bind fun y70 =>
            some y70)
          else some false)
        else some false)
      else some false)
    else some false : Option Bool).bind fun s72 => conf_Same_r2 s72
theorem conf_Same_s {k : Nat} {x1 : M44} {x5 : M44} {p2 : Option Addr} {c3 : Nat} {p6 : Option Addr} {c7 : Nat} {r : Bool} (hk : conf_Same k x1 x5 = some r) {g w : World} {F : Ch} {ih : IH} (h4 : RSl e3 ih [] p2 c3 x1.f2) (h8 : RSl e3 ih [] p6 c7 x5.f2) (hw : St g w [F] ih) :
    CallsR Tryz.prog 90 #[.agg #[vi64 x1.f0, vu64 x1.f1, .slice p2 x1.f2.length c3, .bool x1.f3, vi64 x1.f4], .agg #[vi64 x5.f0, vu64 x5.f1, .slice p6 x5.f2.length c7, .bool x5.f3, vi64 x5.f4]] w fun v w' => v = .bool r ∧ St g w' [F] ih := by
  refine f_in (vs := [.agg #[vi64 x1.f0, vu64 x1.f1, .slice p2 x1.f2.length c3, .bool x1.f3, vi64 x1.f4], .agg #[vi64 x5.f0, vu64 x5.f1, .slice p6 x5.f2.length c7, .bool x5.f3, vi64 x5.f4]]) Tryz.func90 rfl 38 rfl (by kernel_rfl) [(0, .agg #[vi64 x1.f0, vu64 x1.f1, .slice p2 x1.f2.length c3, .bool x1.f3, vi64 x1.f4]), (1, .agg #[vi64 x5.f0, vu64 x5.f1, .slice p6 x5.f2.length c7, .bool x5.f3, vi64 x5.f4])] (by kernel_rfl) fun a Qf hQ hQn hs => ?_
  refine c_seq ?_
  refine c_region ?_
  refine s_new hs hw [vi64 x1.f0, vu64 x1.f1, .slice p2 x1.f2.length c3, .bool x1.f3, vi64 x1.f4] 44 (fun b => (pt b 0)) (by kernel_rfl) (fun _ => by kernel_rfl) fun a w b46 hs hw => ?_
  refine s_new hs hw [vi64 x5.f0, vu64 x5.f1, .slice p6 x5.f2.length c7, .bool x5.f3, vi64 x5.f4] 44 (fun b => (pt b 0)) (by kernel_rfl) (fun _ => by kernel_rfl) fun a w b48 hs hw => ?_
  refine pures hs 1 [2, 3] [(2, (pt b46 0)), (3, (pt b48 0))] (by kernel_rfl) fun a hs => ?_
  refine s_end ?_
  refine c_seq ?_
  obtain ⟨y63, hx64, hk⟩ := bindE hk
  obtain ⟨J65, hJ65⟩ : ∃ J : Act → World → Prop, ∀ a w, J a w ↔ (∃ (x62 : Bool), conf_Same_r2 x62 = some r ∧ Sees a 38 [(4, .bool x62)] ∧ St g w [F] ih) := ⟨_, fun _ _ => Iff.rfl⟩
  refine c_regJ J65 ?_ ?_
  · refine pures hs 1 [2, 3, 5] [(2, (pt b46 0)), (3, (pt b48 0)), (5, (pt b46 0))] (by kernel_rfl) fun a hs => ?_
    refine s_load hs (hw.at_ 1 rfl) 0 (by kernel_rfl) (by kernel_rfl) (v := vi64 x1.f0) (by kernel_rfl) fun a hs => ?_
    refine pures hs 1 [2, 3, 6, 7] [(2, (pt b46 0)), (3, (pt b48 0)), (6, vi64 x1.f0), (7, (pt b48 0))] (by kernel_rfl) fun a hs => ?_
    refine s_load hs (hw.at_ 0 rfl) 0 (by kernel_rfl) (by kernel_rfl) (v := vi64 x5.f0) (by kernel_rfl) fun a hs => ?_
    refine pures hs 2 [2, 3, 10] [(2, (pt b46 0)), (3, (pt b48 0)), (10, .bool (x1.f0 == x5.f0))] (by kernel_rfl) fun a hs => ?_
    rcases ifbE hx64 with ⟨h66, hx64⟩ | ⟨h66, hx64⟩
    · replace hs := hs.altB 10 true (by kernel_rfl) h66
      refine pures hs 1 [2, 3, 10, 11] [(2, (pt b46 0)), (3, (pt b48 0)), (10, .bool true), (11, (pt b46 1))] (by kernel_rfl) fun a hs => ?_
      refine s_load hs (hw.at_ 1 rfl) 1 (by kernel_rfl) (by kernel_rfl) (v := vu64 x1.f1) (by kernel_rfl) fun a hs => ?_
      refine pures hs 1 [2, 3, 10, 12, 13] [(2, (pt b46 0)), (3, (pt b48 0)), (10, .bool true), (12, vu64 x1.f1), (13, (pt b48 1))] (by kernel_rfl) fun a hs => ?_
      refine s_load hs (hw.at_ 0 rfl) 1 (by kernel_rfl) (by kernel_rfl) (v := vu64 x5.f1) (by kernel_rfl) fun a hs => ?_
      refine pures hs 3 [2, 3, 17] [(2, (pt b46 0)), (3, (pt b48 0)), (17, .bool (x1.f1 == x5.f1))] (by kernel_rfl) fun a hs => ?_
      rcases ifbE hx64 with ⟨h67, hx64⟩ | ⟨h67, hx64⟩
      · replace hs := hs.altB 17 true (by kernel_rfl) h67
        refine pures hs 1 [2, 3, 17, 18] [(2, (pt b46 0)), (3, (pt b48 0)), (17, .bool true), (18, (pt b46 3))] (by kernel_rfl) fun a hs => ?_
        refine s_load hs (hw.at_ 1 rfl) 3 (by kernel_rfl) (by kernel_rfl) (v := .bool x1.f3) (by kernel_rfl) fun a hs => ?_
        refine pures hs 1 [2, 3, 17, 19, 20] [(2, (pt b46 0)), (3, (pt b48 0)), (17, .bool true), (19, .bool x1.f3), (20, (pt b48 3))] (by kernel_rfl) fun a hs => ?_
        refine s_load hs (hw.at_ 0 rfl) 3 (by kernel_rfl) (by kernel_rfl) (v := .bool x5.f3) (by kernel_rfl) fun a hs => ?_
        refine pures hs 3 [2, 3, 24] [(2, (pt b46 0)), (3, (pt b48 0)), (24, .bool (x1.f3 == x5.f3))] (by kernel_rfl) fun a hs => ?_
        rcases ifbE hx64 with ⟨h68, hx64⟩ | ⟨h68, hx64⟩
        · replace hs := hs.altB 24 true (by kernel_rfl) h68
          refine pures hs 1 [2, 3, 24, 25] [(2, (pt b46 0)), (3, (pt b48 0)), (24, .bool true), (25, (pt b46 4))] (by kernel_rfl) fun a hs => ?_
          refine s_load hs (hw.at_ 1 rfl) 4 (by kernel_rfl) (by kernel_rfl) (v := vi64 x1.f4) (by kernel_rfl) fun a hs => ?_
          refine pures hs 1 [2, 3, 24, 26, 27] [(2, (pt b46 0)), (3, (pt b48 0)), (24, .bool true), (26, vi64 x1.f4), (27, (pt b48 4))] (by kernel_rfl) fun a hs => ?_
          refine s_load hs (hw.at_ 0 rfl) 4 (by kernel_rfl) (by kernel_rfl) (v := vi64 x5.f4) (by kernel_rfl) fun a hs => ?_
          refine pures hs 3 [2, 3, 31] [(2, (pt b46 0)), (3, (pt b48 0)), (31, .bool (x1.f4 == x5.f4))] (by kernel_rfl) fun a hs => ?_
          rcases ifbE hx64 with ⟨h69, hx64⟩ | ⟨h69, hx64⟩
          · replace hs := hs.altB 31 true (by kernel_rfl) h69
            refine pures hs 1 [3, 31, 32] [(3, (pt b48 0)), (31, .bool true), (32, (pt b46 2))] (by kernel_rfl) fun a hs => ?_
            refine s_load hs (hw.at_ 1 rfl) 2 (by kernel_rfl) (by kernel_rfl) (v := .slice p2 x1.f2.length c3) (by kernel_rfl) fun a hs => ?_
            refine pures hs 1 [31, 33, 34] [(31, .bool true), (33, .slice p2 x1.f2.length c3), (34, (pt b48 2))] (by kernel_rfl) fun a hs => ?_
            refine s_load hs (hw.at_ 0 rfl) 2 (by kernel_rfl) (by kernel_rfl) (v := .slice p6 x5.f2.length c7) (by kernel_rfl) fun a hs => ?_
            obtain ⟨y70, h71, hx64⟩ := bindE hx64
            refine s_call hs (by kernel_rfl) (by kernel_rfl) (slices_Equal_int_int_s h71 h4 (nilSub _) h8 (nilSub _) ((hw.pick [2] (by kernel_rfl)).pack 0)) fun a w v hv hs => ?_
            obtain ⟨rfl, hw⟩ := hv
            replace hw := hw.unpack 0 rfl
            refine pures hs 2 [4] [(4, .bool y70)] (by kernel_rfl) fun a hs => ?_
            refine s_end ?_
            obtain rfl := someE hx64
            exact (hJ65 _ _).2 ⟨y70, hk, hs.cast [4] (by kernel_rfl), hw.pick [0] (by kernel_rfl)⟩
          replace hs := hs.altB 31 false (by kernel_rfl) h69
          refine pures hs 7 [4] [(4, .bool false)] (by kernel_rfl) fun a hs => ?_
          refine s_end ?_
          obtain rfl := someE hx64
          exact (hJ65 _ _).2 ⟨false, hk, hs.cast [4] (by kernel_rfl), hw.pick [2] (by kernel_rfl)⟩
        replace hs := hs.altB 24 false (by kernel_rfl) h68
        refine pures hs 14 [4] [(4, .bool false)] (by kernel_rfl) fun a hs => ?_
        refine s_end ?_
        obtain rfl := someE hx64
        exact (hJ65 _ _).2 ⟨false, hk, hs.cast [4] (by kernel_rfl), hw.pick [2] (by kernel_rfl)⟩
      replace hs := hs.altB 17 false (by kernel_rfl) h67
      refine pures hs 21 [4] [(4, .bool false)] (by kernel_rfl) fun a hs => ?_
      refine s_end ?_
      obtain rfl := someE hx64
      exact (hJ65 _ _).2 ⟨false, hk, hs.cast [4] (by kernel_rfl), hw.pick [2] (by kernel_rfl)⟩
    replace hs := hs.altB 10 false (by kernel_rfl) h66
    refine pures hs 28 [4] [(4, .bool false)] (by kernel_rfl) fun a hs => ?_
    refine s_end ?_
    obtain rfl := someE hx64
    exact (hJ65 _ _).2 ⟨false, hk, hs.cast [4] (by kernel_rfl), hw.pick [2] (by kernel_rfl)⟩
  intro a w hh
  obtain ⟨x62, hk, hs, hw⟩ := (hJ65 _ _).1 hh
  refine c_ret ?_
  obtain rfl := someE hk
  refine hQ _ _ (f_ret1 hs rfl (v := .bool x62) (by kernel_rfl) ⟨rfl, hw.pick [0] (by kernel_rfl)⟩)
def slices_Equal_api_Vote_api_Vote_r10 : Option Bool :=
  some true
def slices_Equal_api_Vote_api_Vote_r12 (rec_slices_Equal_api_Vote_api_Vote_l11 : Int → Option (Sum Bool Unit)) (x217 : Int) (x272 : Bool) : Option (Sum Bool Unit) :=
  if x272 = true then some (.inl false)
  else rec_slices_Equal_api_Vote_api_Vote_l11 (IntKind.i64.wrap (x217 + 1))
def slices_Equal_api_Vote_api_Vote_l11 (x1 : List M156) (x7 : List M156) : Nat → Int → Option (Sum Bool Unit)
  | 0, _ => none
  | j + 1, x217 =>
    if (decide (x217 < (x1.length : Int))) = true then (
      ((ix x1 x217).bind fun x277 =>
        (ix x7 x217).bind fun x281 =>
        some (!((x277.f0 == x281.f0) && ((x277.f1 == x281.f1) && (((x277.f2.f0 == x281.f2.f0) && ((x277.f2.f1 == x281.f2.f1) && ((x277.f2.f2 == x281.f2.f2) && ((x277.f2.f3 == x281.f2.f3) && true)))) && true)))) : Option Bool).bind fun s285 => slices_Equal_api_Vote_api_Vote_r12 (slices_Equal_api_Vote_api_Vote_l11 x1 x7 j) x217 s285)
    else some (.inr ())
def slices_Equal_api_Vote_api_Vote (k : Nat) (x1 : List M156) (x7 : List M156) : Option Bool :=
  if ((x1.length : Int) != (x7.length : Int)) = true then some false
  else (slices_Equal_api_Vote_api_Vote_l11 x1 x7 k 0 : Option (Sum Bool Unit)).bind fun
    | .inl z => some z
    | .inr _ => slices_Equal_api_Vote_api_Vote_r10
theorem slices_Equal_api_Vote_api_Vote_s {k : Nat} {x1 : List M156} {x7 : List M156} {p2 : Option Addr} {c3 : Nat} {d5 : Ch} {p8 : Option Addr} {c9 : Nat} {d11 : Ch} {r : Bool} (hk : slices_Equal_api_Vote_api_Vote k x1 x7 = some r) {g w : World} {F : Ch} {ih : IH} (h4 : RSl e156 ih d5 p2 c3 x1) (h6 : ∀ q ∈ d5, q ∈ F) (h10 : RSl e156 ih d11 p8 c9 x7) (h12 : ∀ q ∈ d11, q ∈ F) (hw : St g w [F] ih) :
    CallsR Tryz.prog 91 #[.slice p2 x1.length c3, .slice p8 x7.length c9] w fun v w' => v = .bool r ∧ St g w' [F] ih := by
  refine f_in (vs := [.slice p2 x1.length c3, .slice p8 x7.length c9]) Tryz.func91 rfl 26 rfl (by kernel_rfl) [(0, .slice p2 x1.length c3), (1, .slice p8 x7.length c9)] (by kernel_rfl) fun a Qf hQ hQn hs => ?_
  refine c_seq ?_
  refine c_region ?_
  refine pures hs 1 [0, 1] [(0, .slice p2 x1.length c3), (1, .slice p8 x7.length c9)] (by kernel_rfl) fun a hs => ?_
  refine s_end ?_
  refine c_seq ?_
  refine c_seq ?_
  refine c_region ?_
  refine pures hs 5 [0, 1, 10] [(0, .slice p2 x1.length c3), (1, .slice p8 x7.length c9), (10, .bool ((x1.length : Int) != (x7.length : Int)))] (by kernel_rfl) fun a hs => ?_
  refine s_end ?_
  rcases ifbE hk with ⟨h151, hk⟩ | ⟨h151, hk⟩
  · refine c_cond1 hs (by kernel_rfl) (t := ((x1.length : Int) != (x7.length : Int))) (by kernel_rfl) h151 ?_
    refine c_seq ?_
    refine c_region ?_
    refine pures hs 1 [4] [(4, .bool false)] (by kernel_rfl) fun a hs => ?_
    refine s_end ?_
    refine c_ret ?_
    obtain rfl := someE hk
    refine hQ _ _ (f_ret1 hs rfl (v := .bool false) (by kernel_rfl) ⟨rfl, hw.pick [0] (by kernel_rfl)⟩)
  refine c_cond0 hs (by kernel_rfl) (t := ((x1.length : Int) != (x7.length : Int))) (by kernel_rfl) h151 ?_
  refine c_skip ?_
  refine c_seq ?_
  refine c_seq ?_
  refine c_region ?_
  refine pures hs 3 [0, 1, 12, 13] [(0, .slice p2 x1.length c3), (1, .slice p8 x7.length c9), (12, vi64 (x1.length : Int)), (13, vi64 0)] (by kernel_rfl) fun a hs => ?_
  refine s_end ?_
  refine c_block ?_
  obtain ⟨y250, hx251, hk⟩ := bindE hk
  obtain ⟨J252, hJ252⟩ : ∃ J : Act → World → Prop, ∀ a w, J a w ↔ (slices_Equal_api_Vote_api_Vote_r10 = some r ∧ Sees a 26 [] ∧ St g w [F] ih) := ⟨_, fun _ _ => Iff.rfl⟩
  obtain ⟨I253, hI253⟩ : ∃ J : Nat → Act → World → Prop, ∀ j a w, J j a w ↔ (∃ (x217 : Int), slices_Equal_api_Vote_api_Vote_l11 x1 x7 j x217 = some y250 ∧ Sees a 26 [(0, .slice p2 x1.length c3), (1, .slice p8 x7.length c9), (12, vi64 (x1.length : Int)), (13, vi64 x217)] ∧ St g w [F] ih) := ⟨_, fun _ _ _ => Iff.rfl⟩
  refine c_exitJ 0 J252 ?_ ?_
  · refine c_loop I253 k ((hI253 _ _ _).2 ⟨0, hx251, hs.cast [0, 1, 12, 13] (by kernel_rfl), hw.pick [0] (by kernel_rfl)⟩) (fun a w h0 => ?_) fun j a w hh => ?_
    · obtain ⟨_, h, _⟩ := (hI253 _ _ _).1 h0
      cases h
    obtain ⟨x217, hx251, hs, hw⟩ := (hI253 _ _ _).1 hh
    refine c_seq ?_
    refine c_region ?_
    refine pures hs 1 [0, 1, 12, 13, 14] [(0, .slice p2 x1.length c3), (1, .slice p8 x7.length c9), (12, vi64 (x1.length : Int)), (13, vi64 x217), (14, .bool (decide (x217 < (x1.length : Int))))] (by kernel_rfl) fun a hs => ?_
    refine s_end ?_
    refine c_seq ?_
    rcases ifbE hx251 with ⟨h254, hx251⟩ | ⟨h254, hx251⟩
    · refine c_cond1 hs (by kernel_rfl) (t := (decide (x217 < (x1.length : Int)))) (by kernel_rfl) h254 ?_
      refine c_skip ?_
      refine c_seq ?_
      refine c_block ?_
      refine c_seq ?_
      refine c_region ?_
      refine pures hs 2 [0, 1, 12, 13, 5] [(0, .slice p2 x1.length c3), (1, .slice p8 x7.length c9), (12, vi64 (x1.length : Int)), (13, vi64 x217), (5, vi64 x217)] (by kernel_rfl) fun a hs => ?_
      refine s_end ?_
      refine c_seq ?_
      obtain ⟨S255, hS255, kS255⟩ := mkSX (X := [([], F)]) (ih := ih) (K := []) rfl
      obtain ⟨y274, hx275, hx251⟩ := bindE hx251
      obtain ⟨J276, hJ276⟩ : ∃ J : Act → World → Prop, ∀ a w, J a w ↔ (∃ (x272 : Bool), slices_Equal_api_Vote_api_Vote_r12 (slices_Equal_api_Vote_api_Vote_l11 x1 x7 j) x217 x272 = some y250 ∧ Sees a 26 [(0, .slice p2 x1.length c3), (1, .slice p8 x7.length c9), (12, vi64 (x1.length : Int)), (13, vi64 x217), (24, .bool x272)] ∧ St g w [F] ih) := ⟨_, fun _ _ => Iff.rfl⟩
      refine c_draw (by kernel_rfl) (N := 9) rfl S255 J276 ?_ ?_
      · have hw := hw.drew
        have hS : S255 (Array.replicate 9 false) _ := SX_now hS255 (hw.vws [0]) (by kernel_rfl)
        refine d_pures (fuel := 7) kS255 hs hS [0, 1] [0, 1, 12, 13, 5, 16, 17] [(0, .slice p2 x1.length c3), (1, .slice p8 x7.length c9), (12, vi64 (x1.length : Int)), (13, vi64 x217), (5, vi64 x217), (16, .slice p2 x1.length c3), (17, vi64 x217)] (by kernel_rfl) fun a hs hS => ?_
        obtain ⟨x277, h278, hx275⟩ := bindE hx275
        refine d_index (fuel := 6) kS255 hs hS 2 rfl (by kernel_rfl) h4 (by kernel_rfl) (by kernel_rfl) (k := .i64) (by kernel_rfl) 156 (by kernel_rfl) (by kernel_rfl) h278 fun a r279 cs henc at280 hs hS => ?_
        obtain rfl := henc
        refine d_load (fuel := 5) kS255 hs hS 3 rfl (by kernel_rfl) (fun l w hu hS => at280 w (((SX_ch hS255 0 rfl (by kernel_rfl) l w hu hS).sub h6).anti (Le.refl _))) 0 (by kernel_rfl) (by kernel_rfl) (v := .agg #[vi64 x277.f0, vu64 x277.f1, vi64 x277.f2.f0, vi64 x277.f2.f1, vu64 x277.f2.f2, vi64 x277.f2.f3]) (by kernel_rfl) fun a hs hS => ?_
        refine d_pures (fuel := 3) kS255 hs hS [4, 5] [0, 1, 12, 13, 19, 20, 21] [(0, .slice p2 x1.length c3), (1, .slice p8 x7.length c9), (12, vi64 (x1.length : Int)), (13, vi64 x217), (19, .agg #[vi64 x277.f0, vu64 x277.f1, vi64 x277.f2.f0, vi64 x277.f2.f1, vu64 x277.f2.f2, vi64 x277.f2.f3]), (20, .slice p8 x7.length c9), (21, vi64 x217)] (by kernel_rfl) fun a hs hS => ?_
        obtain ⟨x281, h282, hx275⟩ := bindE hx275
        refine d_index (fuel := 2) kS255 hs hS 6 rfl (by kernel_rfl) h10 (by kernel_rfl) (by kernel_rfl) (k := .i64) (by kernel_rfl) 156 (by kernel_rfl) (by kernel_rfl) h282 fun a r283 cs henc at284 hs hS => ?_
        obtain rfl := henc
        refine d_load (fuel := 1) kS255 hs hS 7 rfl (by kernel_rfl) (fun l w hu hS => at284 w (((SX_ch hS255 0 rfl (by kernel_rfl) l w hu hS).sub h12).anti (Le.refl _))) 0 (by kernel_rfl) (by kernel_rfl) (v := .agg #[vi64 x281.f0, vu64 x281.f1, vi64 x281.f2.f0, vi64 x281.f2.f1, vu64 x281.f2.f2, vi64 x281.f2.f3]) (by kernel_rfl) fun a hs hS => ?_
        refine d_ne (fuel := 0) kS255 hs hS 8 rfl (by kernel_rfl) (c1 := [vi64 x277.f0, vu64 x277.f1, vi64 x277.f2.f0, vi64 x277.f2.f1, vu64 x277.f2.f2, vi64 x277.f2.f3]) (c2 := [vi64 x281.f0, vu64 x281.f1, vi64 x281.f2.f0, vi64 x281.f2.f1, vu64 x281.f2.f2, vi64 x281.f2.f3]) ((x277.f0 == x281.f0) && ((x277.f1 == x281.f1) && (((x277.f2.f0 == x281.f2.f0) && ((x277.f2.f1 == x281.f2.f1) && ((x277.f2.f2 == x281.f2.f2) && ((x277.f2.f3 == x281.f2.f3) && true)))) && true))) (by kernel_rfl) (by kernel_rfl) (by kernel_rfl) (by kernel_rfl) (by kernel_rfl) fun a hs hS => ?_
        refine d_done (by kernel_rfl) ?_
        obtain rfl := someE hx275
        exact (hJ276 _ _).2 ⟨(!((x277.f0 == x281.f0) && ((x277.f1 == x281.f1) && (((x277.f2.f0 == x281.f2.f0) && ((x277.f2.f1 == x281.f2.f1) && ((x277.f2.f2 == x281.f2.f2) && ((x277.f2.f3 == x281.f2.f3) && true)))) && true)))), hx251, hs.cast [0, 1, 12, 13, 24] (by kernel_rfl), hw.pick [0] (by kernel_rfl)⟩
      intro a w hh
      obtain ⟨x272, hx251, hs, hw⟩ := (hJ276 _ _).1 hh
      rcases ifbE hx251 with ⟨h273, hx251⟩ | ⟨h273, hx251⟩
      · refine c_cond1 hs (by kernel_rfl) (t := x272) (by kernel_rfl) h273 ?_
        refine c_seq ?_
        refine c_region ?_
        refine pures hs 1 [4] [(4, .bool false)] (by kernel_rfl) fun a hs => ?_
        refine s_end ?_
        refine c_ret ?_
        obtain rfl := someE hx251
        obtain rfl := someE hk
        refine hQ _ _ (f_ret1 hs rfl (v := .bool false) (by kernel_rfl) ⟨rfl, hw.pick [0] (by kernel_rfl)⟩)
      refine c_cond0 hs (by kernel_rfl) (t := x272) (by kernel_rfl) h273 ?_
      refine c_skip ?_
      refine c_region ?_
      refine pures hs 2 [0, 1, 12, 13] [(0, .slice p2 x1.length c3), (1, .slice p8 x7.length c9), (12, vi64 (x1.length : Int)), (13, vi64 (IntKind.i64.wrap (x217 + 1)))] (by kernel_rfl) fun a hs => ?_
      refine s_end ?_
      exact (hI253 _ _ _).2 ⟨(IntKind.i64.wrap (x217 + 1)), hx251, hs.cast [0, 1, 12, 13] (by kernel_rfl), hw.pick [0] (by kernel_rfl)⟩
    refine c_cond0 hs (by kernel_rfl) (t := (decide (x217 < (x1.length : Int)))) (by kernel_rfl) h254 ?_
    refine c_exit ?_
    obtain rfl := someE hx251
    exact (hJ252 _ _).2 ⟨hk, hs.cast [] (by kernel_rfl), hw.pick [0] (by kernel_rfl)⟩
  intro a w hh
  obtain ⟨hk, hs, hw⟩ := (hJ252 _ _).1 hh
  refine c_seq ?_
  refine c_region ?_
  refine pures hs 1 [4] [(4, .bool true)] (by kernel_rfl) fun a hs => ?_
  refine s_end ?_
  refine c_ret ?_
  obtain rfl := someE hk
  refine hQ _ _ (f_ret1 hs rfl (v := .bool true) (by kernel_rfl) ⟨rfl, hw.pick [0] (by kernel_rfl)⟩)
def bytes_Equal (x1 : List Int) (x7 : List Int) : Option Bool :=
  some (beqS x1 x7)
theorem bytes_Equal_s {x1 : List Int} {x7 : List Int} {p2 : Option Addr} {c3 : Nat} {d5 : Ch} {p8 : Option Addr} {c9 : Nat} {d11 : Ch} {r : Bool} (hk : bytes_Equal x1 x7 = some r) {g w : World} {F : Ch} {ih : IH} (h4 : RSl e5 ih d5 p2 c3 x1) (h6 : ∀ q ∈ d5, q ∈ F) (h10 : RSl e5 ih d11 p8 c9 x7) (h12 : ∀ q ∈ d11, q ∈ F) (hw : St g w [F] ih) :
    CallsR Tryz.prog 94 #[.slice p2 x1.length c3, .slice p8 x7.length c9] w fun v w' => v = .bool r ∧ St g w' [F] ih := by
  refine f_in (vs := [.slice p2 x1.length c3, .slice p8 x7.length c9]) Tryz.func94 rfl 10 rfl (by kernel_rfl) [(0, .slice p2 x1.length c3), (1, .slice p8 x7.length c9)] (by kernel_rfl) fun a Qf hQ hQn hs => ?_
  refine c_seq ?_
  refine c_region ?_
  refine pures hs 1 [0, 1] [(0, .slice p2 x1.length c3), (1, .slice p8 x7.length c9)] (by kernel_rfl) fun a hs => ?_
  refine s_end ?_
  refine c_seq ?_
  refine c_region ?_
  refine pures hs 1 [1, 5] [(1, .slice p8 x7.length c9), (5, .slice p2 x1.length c3)] (by kernel_rfl) fun a hs => ?_
  refine s_convS hs (t := 5) h4 (((hw.vw 0 rfl).sub h6).anti (Le.refl _)) (by kernel_rfl) (by kernel_rfl) 5 (by kernel_rfl) (by kernel_rfl) (by kernel_rfl) fun a hs => ?_
  refine pures hs 1 [6, 7] [(6, .string (strOf x1)), (7, .slice p8 x7.length c9)] (by kernel_rfl) fun a hs => ?_
  refine s_convS hs (t := 5) h10 (((hw.vw 0 rfl).sub h12).anti (Le.refl _)) (by kernel_rfl) (by kernel_rfl) 5 (by kernel_rfl) (by kernel_rfl) (by kernel_rfl) fun a hs => ?_
  refine s_eqS hs (s1 := (strOf x1)) (s2 := (strOf x7)) (beqS x1 x7) (by kernel_rfl) (by kernel_rfl) (by kernel_rfl) (by kernel_rfl) (by kernel_rfl) fun a hs => ?_
  refine pures hs 1 [4] [(4, .bool (beqS x1 x7))] (by kernel_rfl) fun a hs => ?_
  refine s_end ?_
  refine c_ret ?_
  obtain rfl := someE hk
  refine hQ _ _ (f_ret1 hs rfl (v := .bool (beqS x1 x7)) (by kernel_rfl) ⟨rfl, hw.pick [0] (by kernel_rfl)⟩)
def letter_SameUpdate_r2 (x72 : Bool) : Option Bool :=
  some x72
def letter_SameUpdate (x1 : M96) (x5 : M96) : Option Bool :=
  (if (x1.f0 == x5.f0) = true then (
      if (x1.f1 == x5.f1) = true then (
        if (x1.f2 == x5.f2) = true then (
          if (x1.f3 == x5.f3) = true then (
            if (x1.f4 == x5.f4) = true then (
              if (x1.f5 == x5.f5) = true then (
                (bytes_Equal x1.f6 x5.f6).bind fun y82 =>
                some y82)
              else some false)
            else some false)
          else some false)
        else some false)
      else some false)
    else some false : Option Bool).bind fun s84 => letter_SameUpdate_r2 s84
theorem letter_SameUpdate_s {x1 : M96} {x5 : M96} {p2 : Option Addr} {c3 : Nat} {p6 : Option Addr} {c7 : Nat} {r : Bool} (hk : letter_SameUpdate x1 x5 = some r) {g w : World} {F : Ch} {ih : IH} (h4 : RSl e5 ih [] p2 c3 x1.f6) (h8 : RSl e5 ih [] p6 c7 x5.f6) (hw : St g w [F] ih) :
    CallsR Tryz.prog 93 #[.agg #[vu64 x1.f0, vi64 x1.f1, vu64 x1.f2, vi64 x1.f3, vu32 x1.f4, vu64 x1.f5, .slice p2 x1.f6.length c3], .agg #[vu64 x5.f0, vi64 x5.f1, vu64 x5.f2, vi64 x5.f3, vu32 x5.f4, vu64 x5.f5, .slice p6 x5.f6.length c7]] w fun v w' => v = .bool r ∧ St g w' [F] ih := by
  refine f_in (vs := [.agg #[vu64 x1.f0, vi64 x1.f1, vu64 x1.f2, vi64 x1.f3, vu32 x1.f4, vu64 x1.f5, .slice p2 x1.f6.length c3], .agg #[vu64 x5.f0, vi64 x5.f1, vu64 x5.f2, vi64 x5.f3, vu32 x5.f4, vu64 x5.f5, .slice p6 x5.f6.length c7]]) Tryz.func93 rfl 52 rfl (by kernel_rfl) [(0, .agg #[vu64 x1.f0, vi64 x1.f1, vu64 x1.f2, vi64 x1.f3, vu32 x1.f4, vu64 x1.f5, .slice p2 x1.f6.length c3]), (1, .agg #[vu64 x5.f0, vi64 x5.f1, vu64 x5.f2, vi64 x5.f3, vu32 x5.f4, vu64 x5.f5, .slice p6 x5.f6.length c7])] (by kernel_rfl) fun a Qf hQ hQn hs => ?_
  refine c_seq ?_
  refine c_region ?_
  refine s_new hs hw [vu64 x1.f0, vi64 x1.f1, vu64 x1.f2, vi64 x1.f3, vu32 x1.f4, vu64 x1.f5, .slice p2 x1.f6.length c3] 96 (fun b => (pt b 0)) (by kernel_rfl) (fun _ => by kernel_rfl) fun a w b52 hs hw => ?_
  refine s_new hs hw [vu64 x5.f0, vi64 x5.f1, vu64 x5.f2, vi64 x5.f3, vu32 x5.f4, vu64 x5.f5, .slice p6 x5.f6.length c7] 96 (fun b => (pt b 0)) (by kernel_rfl) (fun _ => by kernel_rfl) fun a w b54 hs hw => ?_
  refine pures hs 1 [2, 3] [(2, (pt b52 0)), (3, (pt b54 0))] (by kernel_rfl) fun a hs => ?_
  refine s_end ?_
  refine c_seq ?_
  obtain ⟨y73, hx74, hk⟩ := bindE hk
  obtain ⟨J75, hJ75⟩ : ∃ J : Act → World → Prop, ∀ a w, J a w ↔ (∃ (x72 : Bool), letter_SameUpdate_r2 x72 = some r ∧ Sees a 52 [(4, .bool x72)] ∧ St g w [F] ih) := ⟨_, fun _ _ => Iff.rfl⟩
  refine c_regJ J75 ?_ ?_
  · refine pures hs 1 [2, 3, 5] [(2, (pt b52 0)), (3, (pt b54 0)), (5, (pt b52 0))] (by kernel_rfl) fun a hs => ?_
    refine s_load hs (hw.at_ 1 rfl) 0 (by kernel_rfl) (by kernel_rfl) (v := vu64 x1.f0) (by kernel_rfl) fun a hs => ?_
    refine pures hs 1 [2, 3, 6, 7] [(2, (pt b52 0)), (3, (pt b54 0)), (6, vu64 x1.f0), (7, (pt b54 0))] (by kernel_rfl) fun a hs => ?_
    refine s_load hs (hw.at_ 0 rfl) 0 (by kernel_rfl) (by kernel_rfl) (v := vu64 x5.f0) (by kernel_rfl) fun a hs => ?_
    refine pures hs 2 [2, 3, 10] [(2, (pt b52 0)), (3, (pt b54 0)), (10, .bool (x1.f0 == x5.f0))] (by kernel_rfl) fun a hs => ?_
    rcases ifbE hx74 with ⟨h76, hx74⟩ | ⟨h76, hx74⟩
    · replace hs := hs.altB 10 true (by kernel_rfl) h76
      refine pures hs 1 [2, 3, 10, 11] [(2, (pt b52 0)), (3, (pt b54 0)), (10, .bool true), (11, (pt b52 1))] (by kernel_rfl) fun a hs => ?_
      refine s_load hs (hw.at_ 1 rfl) 1 (by kernel_rfl) (by kernel_rfl) (v := vi64 x1.f1) (by kernel_rfl) fun a hs => ?_
      refine pures hs 1 [2, 3, 10, 12, 13] [(2, (pt b52 0)), (3, (pt b54 0)), (10, .bool true), (12, vi64 x1.f1), (13, (pt b54 1))] (by kernel_rfl) fun a hs => ?_
      refine s_load hs (hw.at_ 0 rfl) 1 (by kernel_rfl) (by kernel_rfl) (v := vi64 x5.f1) (by kernel_rfl) fun a hs => ?_
      refine pures hs 3 [2, 3, 17] [(2, (pt b52 0)), (3, (pt b54 0)), (17, .bool (x1.f1 == x5.f1))] (by kernel_rfl) fun a hs => ?_
      rcases ifbE hx74 with ⟨h77, hx74⟩ | ⟨h77, hx74⟩
      · replace hs := hs.altB 17 true (by kernel_rfl) h77
        refine pures hs 1 [2, 3, 17, 18] [(2, (pt b52 0)), (3, (pt b54 0)), (17, .bool true), (18, (pt b52 2))] (by kernel_rfl) fun a hs => ?_
        refine s_load hs (hw.at_ 1 rfl) 2 (by kernel_rfl) (by kernel_rfl) (v := vu64 x1.f2) (by kernel_rfl) fun a hs => ?_
        refine pures hs 1 [2, 3, 17, 19, 20] [(2, (pt b52 0)), (3, (pt b54 0)), (17, .bool true), (19, vu64 x1.f2), (20, (pt b54 2))] (by kernel_rfl) fun a hs => ?_
        refine s_load hs (hw.at_ 0 rfl) 2 (by kernel_rfl) (by kernel_rfl) (v := vu64 x5.f2) (by kernel_rfl) fun a hs => ?_
        refine pures hs 3 [2, 3, 24] [(2, (pt b52 0)), (3, (pt b54 0)), (24, .bool (x1.f2 == x5.f2))] (by kernel_rfl) fun a hs => ?_
        rcases ifbE hx74 with ⟨h78, hx74⟩ | ⟨h78, hx74⟩
        · replace hs := hs.altB 24 true (by kernel_rfl) h78
          refine pures hs 1 [2, 3, 24, 25] [(2, (pt b52 0)), (3, (pt b54 0)), (24, .bool true), (25, (pt b52 3))] (by kernel_rfl) fun a hs => ?_
          refine s_load hs (hw.at_ 1 rfl) 3 (by kernel_rfl) (by kernel_rfl) (v := vi64 x1.f3) (by kernel_rfl) fun a hs => ?_
          refine pures hs 1 [2, 3, 24, 26, 27] [(2, (pt b52 0)), (3, (pt b54 0)), (24, .bool true), (26, vi64 x1.f3), (27, (pt b54 3))] (by kernel_rfl) fun a hs => ?_
          refine s_load hs (hw.at_ 0 rfl) 3 (by kernel_rfl) (by kernel_rfl) (v := vi64 x5.f3) (by kernel_rfl) fun a hs => ?_
          refine pures hs 3 [2, 3, 31] [(2, (pt b52 0)), (3, (pt b54 0)), (31, .bool (x1.f3 == x5.f3))] (by kernel_rfl) fun a hs => ?_
          rcases ifbE hx74 with ⟨h79, hx74⟩ | ⟨h79, hx74⟩
          · replace hs := hs.altB 31 true (by kernel_rfl) h79
            refine pures hs 1 [2, 3, 31, 32] [(2, (pt b52 0)), (3, (pt b54 0)), (31, .bool true), (32, (pt b52 4))] (by kernel_rfl) fun a hs => ?_
            refine s_load hs (hw.at_ 1 rfl) 4 (by kernel_rfl) (by kernel_rfl) (v := vu32 x1.f4) (by kernel_rfl) fun a hs => ?_
            refine pures hs 1 [2, 3, 31, 33, 34] [(2, (pt b52 0)), (3, (pt b54 0)), (31, .bool true), (33, vu32 x1.f4), (34, (pt b54 4))] (by kernel_rfl) fun a hs => ?_
            refine s_load hs (hw.at_ 0 rfl) 4 (by kernel_rfl) (by kernel_rfl) (v := vu32 x5.f4) (by kernel_rfl) fun a hs => ?_
            refine pures hs 3 [2, 3, 38] [(2, (pt b52 0)), (3, (pt b54 0)), (38, .bool (x1.f4 == x5.f4))] (by kernel_rfl) fun a hs => ?_
            rcases ifbE hx74 with ⟨h80, hx74⟩ | ⟨h80, hx74⟩
            · replace hs := hs.altB 38 true (by kernel_rfl) h80
              refine pures hs 1 [2, 3, 38, 39] [(2, (pt b52 0)), (3, (pt b54 0)), (38, .bool true), (39, (pt b52 5))] (by kernel_rfl) fun a hs => ?_
              refine s_load hs (hw.at_ 1 rfl) 5 (by kernel_rfl) (by kernel_rfl) (v := vu64 x1.f5) (by kernel_rfl) fun a hs => ?_
              refine pures hs 1 [2, 3, 38, 40, 41] [(2, (pt b52 0)), (3, (pt b54 0)), (38, .bool true), (40, vu64 x1.f5), (41, (pt b54 5))] (by kernel_rfl) fun a hs => ?_
              refine s_load hs (hw.at_ 0 rfl) 5 (by kernel_rfl) (by kernel_rfl) (v := vu64 x5.f5) (by kernel_rfl) fun a hs => ?_
              refine pures hs 3 [2, 3, 45] [(2, (pt b52 0)), (3, (pt b54 0)), (45, .bool (x1.f5 == x5.f5))] (by kernel_rfl) fun a hs => ?_
              rcases ifbE hx74 with ⟨h81, hx74⟩ | ⟨h81, hx74⟩
              · replace hs := hs.altB 45 true (by kernel_rfl) h81
                refine pures hs 1 [3, 45, 46] [(3, (pt b54 0)), (45, .bool true), (46, (pt b52 6))] (by kernel_rfl) fun a hs => ?_
                refine s_load hs (hw.at_ 1 rfl) 6 (by kernel_rfl) (by kernel_rfl) (v := .slice p2 x1.f6.length c3) (by kernel_rfl) fun a hs => ?_
                refine pures hs 1 [45, 47, 48] [(45, .bool true), (47, .slice p2 x1.f6.length c3), (48, (pt b54 6))] (by kernel_rfl) fun a hs => ?_
                refine s_load hs (hw.at_ 0 rfl) 6 (by kernel_rfl) (by kernel_rfl) (v := .slice p6 x5.f6.length c7) (by kernel_rfl) fun a hs => ?_
                obtain ⟨y82, h83, hx74⟩ := bindE hx74
                refine s_call hs (by kernel_rfl) (by kernel_rfl) (bytes_Equal_s h83 h4 (nilSub _) h8 (nilSub _) ((hw.pick [2] (by kernel_rfl)).pack 0)) fun a w v hv hs => ?_
                obtain ⟨rfl, hw⟩ := hv
                replace hw := hw.unpack 0 rfl
                refine pures hs 2 [4] [(4, .bool y82)] (by kernel_rfl) fun a hs => ?_
                refine s_end ?_
                obtain rfl := someE hx74
                exact (hJ75 _ _).2 ⟨y82, hk, hs.cast [4] (by kernel_rfl), hw.pick [0] (by kernel_rfl)⟩
              replace hs := hs.altB 45 false (by kernel_rfl) h81
              refine pures hs 7 [4] [(4, .bool false)] (by kernel_rfl) fun a hs => ?_
              refine s_end ?_
              obtain rfl := someE hx74
              exact (hJ75 _ _).2 ⟨false, hk, hs.cast [4] (by kernel_rfl), hw.pick [2] (by kernel_rfl)⟩
            replace hs := hs.altB 38 false (by kernel_rfl) h80
            refine pures hs 14 [4] [(4, .bool false)] (by kernel_rfl) fun a hs => ?_
            refine s_end ?_
            obtain rfl := someE hx74
            exact (hJ75 _ _).2 ⟨false, hk, hs.cast [4] (by kernel_rfl), hw.pick [2] (by kernel_rfl)⟩
          replace hs := hs.altB 31 false (by kernel_rfl) h79
          refine pures hs 21 [4] [(4, .bool false)] (by kernel_rfl) fun a hs => ?_
          refine s_end ?_
          obtain rfl := someE hx74
          exact (hJ75 _ _).2 ⟨false, hk, hs.cast [4] (by kernel_rfl), hw.pick [2] (by kernel_rfl)⟩
        replace hs := hs.altB 24 false (by kernel_rfl) h78
        refine pures hs 28 [4] [(4, .bool false)] (by kernel_rfl) fun a hs => ?_
        refine s_end ?_
        obtain rfl := someE hx74
        exact (hJ75 _ _).2 ⟨false, hk, hs.cast [4] (by kernel_rfl), hw.pick [2] (by kernel_rfl)⟩
      replace hs := hs.altB 17 false (by kernel_rfl) h77
      refine pures hs 35 [4] [(4, .bool false)] (by kernel_rfl) fun a hs => ?_
      refine s_end ?_
      obtain rfl := someE hx74
      exact (hJ75 _ _).2 ⟨false, hk, hs.cast [4] (by kernel_rfl), hw.pick [2] (by kernel_rfl)⟩
    replace hs := hs.altB 10 false (by kernel_rfl) h76
    refine pures hs 42 [4] [(4, .bool false)] (by kernel_rfl) fun a hs => ?_
    refine s_end ?_
    obtain rfl := someE hx74
    exact (hJ75 _ _).2 ⟨false, hk, hs.cast [4] (by kernel_rfl), hw.pick [2] (by kernel_rfl)⟩
  intro a w hh
  obtain ⟨x72, hk, hs, hw⟩ := (hJ75 _ _).1 hh
  refine c_ret ?_
  obtain rfl := someE hk
  refine hQ _ _ (f_ret1 hs rfl (v := .bool x72) (by kernel_rfl) ⟨rfl, hw.pick [0] (by kernel_rfl)⟩)
def slices_EqualFunc_api_Update_api_Update_api_Update_api_Update_r3 : Option Bool :=
  some true
def slices_EqualFunc_api_Update_api_Update_api_Update_api_Update_l4 (x1 : List M96) (x7 : List M96) : Nat → Int → Option (Sum Bool Unit)
  | 0, _ => none
  | j + 1, x277 =>
    if (decide (x277 < (x1.length : Int))) = true then (
      (ix x1 x277).bind fun x334 =>
      (ix x7 x277).bind fun x352 =>
      (letter_SameUpdate x334 x352).bind fun y363 =>
      if (!y363) = true then some (.inl false)
      else slices_EqualFunc_api_Update_api_Update_api_Update_api_Update_l4 x1 x7 j (IntKind.i64.wrap (x277 + 1)))
    else some (.inr ())
def slices_EqualFunc_api_Update_api_Update_api_Update_api_Update (k : Nat) (x1 : List M96) (x7 : List M96) : Option Bool :=
  if ((x1.length : Int) != (x7.length : Int)) = true then some false
  else (slices_EqualFunc_api_Update_api_Update_api_Update_api_Update_l4 x1 x7 k 0 : Option (Sum Bool Unit)).bind fun
    | .inl z => some z
    | .inr _ => slices_EqualFunc_api_Update_api_Update_api_Update_api_Update_r3
theorem slices_EqualFunc_api_Update_api_Update_api_Update_api_Update_s {k : Nat} {x1 : List M96} {x7 : List M96} {p2 : Option Addr} {c3 : Nat} {d5 : Ch} {p8 : Option Addr} {c9 : Nat} {d11 : Ch} {r : Bool} (hk : slices_EqualFunc_api_Update_api_Update_api_Update_api_Update k x1 x7 = some r) {g w : World} {F : Ch} {ih : IH} (h4 : RSl e96 ih d5 p2 c3 x1) (h6 : ∀ q ∈ d5, q ∈ F) (h10 : RSl e96 ih d11 p8 c9 x7) (h12 : ∀ q ∈ d11, q ∈ F) (hw : St g w [F] ih) :
    CallsR Tryz.prog 92 #[.slice p2 x1.length c3, .slice p8 x7.length c9, .func (.func 93) #[] #[]] w fun v w' => v = .bool r ∧ St g w' [F] ih := by
  refine f_in (vs := [.slice p2 x1.length c3, .slice p8 x7.length c9, .func (.func 93) #[] #[]]) Tryz.func92 rfl 32 rfl (by kernel_rfl) [(0, .slice p2 x1.length c3), (1, .slice p8 x7.length c9), (2, .func (.func 93) #[] #[])] (by kernel_rfl) fun a Qf hQ hQn hs => ?_
  refine c_seq ?_
  refine c_region ?_
  refine pures hs 1 [0, 1, 2] [(0, .slice p2 x1.length c3), (1, .slice p8 x7.length c9), (2, .func (.func 93) #[] #[])] (by kernel_rfl) fun a hs => ?_
  refine s_end ?_
  refine c_seq ?_
  refine c_seq ?_
  refine c_region ?_
  refine pures hs 5 [0, 1, 2, 14] [(0, .slice p2 x1.length c3), (1, .slice p8 x7.length c9), (2, .func (.func 93) #[] #[]), (14, .bool ((x1.length : Int) != (x7.length : Int)))] (by kernel_rfl) fun a hs => ?_
  refine s_end ?_
  rcases ifbE hk with ⟨h191, hk⟩ | ⟨h191, hk⟩
  · refine c_cond1 hs (by kernel_rfl) (t := ((x1.length : Int) != (x7.length : Int))) (by kernel_rfl) h191 ?_
    refine c_seq ?_
    refine c_region ?_
    refine pures hs 1 [6] [(6, .bool false)] (by kernel_rfl) fun a hs => ?_
    refine s_end ?_
    refine c_ret ?_
    obtain rfl := someE hk
    refine hQ _ _ (f_ret1 hs rfl (v := .bool false) (by kernel_rfl) ⟨rfl, hw.pick [0] (by kernel_rfl)⟩)
  refine c_cond0 hs (by kernel_rfl) (t := ((x1.length : Int) != (x7.length : Int))) (by kernel_rfl) h191 ?_
  refine c_skip ?_
  refine c_seq ?_
  refine c_seq ?_
  refine c_region ?_
  refine pures hs 3 [1, 2, 15, 16, 17] [(1, .slice p8 x7.length c9), (2, .func (.func 93) #[] #[]), (15, .slice p2 x1.length c3), (16, vi64 (x1.length : Int)), (17, vi64 0)] (by kernel_rfl) fun a hs => ?_
  refine s_end ?_
  refine c_block ?_
  obtain ⟨y320, hx321, hk⟩ := bindE hk
  obtain ⟨J322, hJ322⟩ : ∃ J : Act → World → Prop, ∀ a w, J a w ↔ (slices_EqualFunc_api_Update_api_Update_api_Update_api_Update_r3 = some r ∧ Sees a 32 [] ∧ St g w [F] ih) := ⟨_, fun _ _ => Iff.rfl⟩
  obtain ⟨I323, hI323⟩ : ∃ J : Nat → Act → World → Prop, ∀ j a w, J j a w ↔ (∃ (x277 : Int), slices_EqualFunc_api_Update_api_Update_api_Update_api_Update_l4 x1 x7 j x277 = some y320 ∧ Sees a 32 [(1, .slice p8 x7.length c9), (2, .func (.func 93) #[] #[]), (15, .slice p2 x1.length c3), (16, vi64 (x1.length : Int)), (17, vi64 x277)] ∧ St g w [F] ih) := ⟨_, fun _ _ _ => Iff.rfl⟩
  refine c_exitJ 0 J322 ?_ ?_
  · refine c_loop I323 k ((hI323 _ _ _).2 ⟨0, hx321, hs.cast [1, 2, 15, 16, 17] (by kernel_rfl), hw.pick [0] (by kernel_rfl)⟩) (fun a w h0 => ?_) fun j a w hh => ?_
    · obtain ⟨_, h, _⟩ := (hI323 _ _ _).1 h0
      cases h
    obtain ⟨x277, hx321, hs, hw⟩ := (hI323 _ _ _).1 hh
    refine c_seq ?_
    refine c_region ?_
    refine pures hs 1 [1, 2, 15, 16, 17, 18] [(1, .slice p8 x7.length c9), (2, .func (.func 93) #[] #[]), (15, .slice p2 x1.length c3), (16, vi64 (x1.length : Int)), (17, vi64 x277), (18, .bool (decide (x277 < (x1.length : Int))))] (by kernel_rfl) fun a hs => ?_
    refine s_end ?_
    refine c_seq ?_
    rcases ifbE hx321 with ⟨h324, hx321⟩ | ⟨h324, hx321⟩
    · refine c_cond1 hs (by kernel_rfl) (t := (decide (x277 < (x1.length : Int)))) (by kernel_rfl) h324 ?_
      refine c_skip ?_
      refine c_seq ?_
      refine c_block ?_
      refine c_seq ?_
      refine c_region ?_
      refine pures hs 1 [1, 2, 15, 16, 17, 19] [(1, .slice p8 x7.length c9), (2, .func (.func 93) #[] #[]), (15, .slice p2 x1.length c3), (16, vi64 (x1.length : Int)), (17, vi64 x277), (19, vi64 x277)] (by kernel_rfl) fun a hs => ?_
      obtain ⟨x334, h335, hx321⟩ := bindE hx321
      refine s_index hs h4 (by kernel_rfl) (by kernel_rfl) (k := .i64) (by kernel_rfl) 96 (by kernel_rfl) (by kernel_rfl) h335 fun a r336 cs henc at337 hs => ?_
      obtain ⟨p338, c339, rfl, h340⟩ := henc
      refine s_load hs (at337 _ (((hw.vw 0 rfl).sub h6).anti (Le.refl _))) 0 (by kernel_rfl) (by kernel_rfl) (v := .agg #[vu64 x334.f0, vi64 x334.f1, vu64 x334.f2, vi64 x334.f3, vu32 x334.f4, vu64 x334.f5, .slice p338 x334.f6.length c339]) (by kernel_rfl) fun a hs => ?_
      refine s_new hs hw [vu64 0, vi64 0, vu64 0, vi64 0, vu32 0, vu64 0, .slice none 0 0] 96 (fun b => (pt b 0)) (by kernel_rfl) (fun _ => by kernel_rfl) fun a w b341 hs hw => ?_
      refine pures hs 1 [1, 2, 15, 16, 17, 21, 8, 7] [(1, .slice p8 x7.length c9), (2, .func (.func 93) #[] #[]), (15, .slice p2 x1.length c3), (16, vi64 (x1.length : Int)), (17, vi64 x277), (21, .agg #[vu64 x334.f0, vi64 x334.f1, vu64 x334.f2, vi64 x334.f3, vu32 x334.f4, vu64 x334.f5, .slice p338 x334.f6.length c339]), (8, (pt b341 0)), (7, vi64 x277)] (by kernel_rfl) fun a hs => ?_
      refine s_store hs hw 0 rfl 0 (by kernel_rfl) (by kernel_rfl) (v := .agg #[vu64 x334.f0, vi64 x334.f1, vu64 x334.f2, vi64 x334.f3, vu32 x334.f4, vu64 x334.f5, .slice p338 x334.f6.length c339]) (by kernel_rfl) (by kernel_rfl) (by kernel_rfl) (by kernel_rfl) fun a w hs hw => ?_
      refine s_end ?_
      refine c_seq ?_
      refine c_region ?_
      refine pures hs 2 [1, 2, 15, 16, 17, 8, 22, 23] [(1, .slice p8 x7.length c9), (2, .func (.func 93) #[] #[]), (15, .slice p2 x1.length c3), (16, vi64 (x1.length : Int)), (17, vi64 x277), (8, (pt b341 0)), (22, .slice p8 x7.length c9), (23, vi64 x277)] (by kernel_rfl) fun a hs => ?_
      obtain ⟨x352, h353, hx321⟩ := bindE hx321
      refine s_index hs h10 (by kernel_rfl) (by kernel_rfl) (k := .i64) (by kernel_rfl) 96 (by kernel_rfl) (by kernel_rfl) h353 fun a r354 cs henc at355 hs => ?_
      obtain ⟨p356, c357, rfl, h358⟩ := henc
      refine s_load hs (at355 _ (((hw.vw 1 rfl).sub h12).anti (Le.refl _))) 0 (by kernel_rfl) (by kernel_rfl) (v := .agg #[vu64 x352.f0, vi64 x352.f1, vu64 x352.f2, vi64 x352.f3, vu32 x352.f4, vu64 x352.f5, .slice p356 x352.f6.length c357]) (by kernel_rfl) fun a hs => ?_
      refine s_new hs hw [vu64 0, vi64 0, vu64 0, vi64 0, vu32 0, vu64 0, .slice none 0 0] 96 (fun b => (pt b 0)) (by kernel_rfl) (fun _ => by kernel_rfl) fun a w b359 hs hw => ?_
      refine s_store hs hw 0 rfl 0 (by kernel_rfl) (by kernel_rfl) (v := .agg #[vu64 x352.f0, vi64 x352.f1, vu64 x352.f2, vi64 x352.f3, vu32 x352.f4, vu64 x352.f5, .slice p356 x352.f6.length c357]) (by kernel_rfl) (by kernel_rfl) (by kernel_rfl) (by kernel_rfl) fun a w hs hw => ?_
      refine s_end ?_
      refine c_seq ?_
      refine c_region ?_
      refine pures hs 1 [1, 2, 15, 16, 17, 8, 9, 26] [(1, .slice p8 x7.length c9), (2, .func (.func 93) #[] #[]), (15, .slice p2 x1.length c3), (16, vi64 (x1.length : Int)), (17, vi64 x277), (8, (pt b341 0)), (9, (pt b359 0)), (26, .func (.func 93) #[] #[])] (by kernel_rfl) fun a hs => ?_
      refine s_load hs (hw.at_ 1 rfl) 0 (by kernel_rfl) (by kernel_rfl) (v := .agg #[vu64 x334.f0, vi64 x334.f1, vu64 x334.f2, vi64 x334.f3, vu32 x334.f4, vu64 x334.f5, .slice p338 x334.f6.length c339]) (by kernel_rfl) fun a hs => ?_
      refine s_load hs (hw.at_ 0 rfl) 0 (by kernel_rfl) (by kernel_rfl) (v := .agg #[vu64 x352.f0, vi64 x352.f1, vu64 x352.f2, vi64 x352.f3, vu32 x352.f4, vu64 x352.f5, .slice p356 x352.f6.length c357]) (by kernel_rfl) fun a hs => ?_
      obtain ⟨y363, h364, hx321⟩ := bindE hx321
      refine s_call hs (by kernel_rfl) (by kernel_rfl) (letter_SameUpdate_s h364 h340 h358 ((hw.pick [2] (by kernel_rfl)).pack 0)) fun a w v hv hs => ?_
      obtain ⟨rfl, hw⟩ := hv
      replace hw := hw.unpack 0 rfl
      refine pures hs 1 [1, 2, 15, 16, 17, 30] [(1, .slice p8 x7.length c9), (2, .func (.func 93) #[] #[]), (15, .slice p2 x1.length c3), (16, vi64 (x1.length : Int)), (17, vi64 x277), (30, .bool (!y363))] (by kernel_rfl) fun a hs => ?_
      refine s_end ?_
      rcases ifbE hx321 with ⟨h365, hx321⟩ | ⟨h365, hx321⟩
      · refine c_cond1 hs (by kernel_rfl) (t := (!y363)) (by kernel_rfl) h365 ?_
        refine c_seq ?_
        refine c_region ?_
        refine pures hs 1 [6] [(6, .bool false)] (by kernel_rfl) fun a hs => ?_
        refine s_end ?_
        refine c_ret ?_
        obtain rfl := someE hx321
        obtain rfl := someE hk
        refine hQ _ _ (f_ret1 hs rfl (v := .bool false) (by kernel_rfl) ⟨rfl, hw.pick [0] (by kernel_rfl)⟩)
      refine c_cond0 hs (by kernel_rfl) (t := (!y363)) (by kernel_rfl) h365 ?_
      refine c_skip ?_
      refine c_region ?_
      refine pures hs 2 [1, 2, 15, 16, 17] [(1, .slice p8 x7.length c9), (2, .func (.func 93) #[] #[]), (15, .slice p2 x1.length c3), (16, vi64 (x1.length : Int)), (17, vi64 (IntKind.i64.wrap (x277 + 1)))] (by kernel_rfl) fun a hs => ?_
      refine s_end ?_
      exact (hI323 _ _ _).2 ⟨(IntKind.i64.wrap (x277 + 1)), hx321, hs.cast [1, 2, 15, 16, 17] (by kernel_rfl), hw.pick [0] (by kernel_rfl)⟩
    refine c_cond0 hs (by kernel_rfl) (t := (decide (x277 < (x1.length : Int)))) (by kernel_rfl) h324 ?_
    refine c_exit ?_
    obtain rfl := someE hx321
    exact (hJ322 _ _).2 ⟨hk, hs.cast [] (by kernel_rfl), hw.pick [0] (by kernel_rfl)⟩
  intro a w hh
  obtain ⟨hk, hs, hw⟩ := (hJ322 _ _).1 hh
  refine c_seq ?_
  refine c_region ?_
  refine pures hs 1 [6] [(6, .bool true)] (by kernel_rfl) fun a hs => ?_
  refine s_end ?_
  refine c_ret ?_
  obtain rfl := someE hk
  refine hQ _ _ (f_ret1 hs rfl (v := .bool true) (by kernel_rfl) ⟨rfl, hw.pick [0] (by kernel_rfl)⟩)
def letter_Same_r3 (x191 : Bool) : Option Bool :=
  some x191
def letter_Same_r4 (k : Nat) (x1 : M48) (x14 : M48) (x173 : Bool) : Option Bool :=
  if x173 = true then some false
  else ((slices_Equal_api_Vote_api_Vote k x1.f15 x14.f15).bind fun y195 =>
    if y195 = true then (
      (slices_EqualFunc_api_Update_api_Update_api_Update_api_Update k x1.f16 x14.f16).bind fun y198 =>
      if y198 = true then (
        (bytes_Equal x1.f17 x14.f17).bind fun y201 =>
        some y201)
      else some false)
    else some false : Option Bool).bind fun s203 => letter_Same_r3 s203
def letter_Same (k : Nat) (x1 : M48) (x14 : M48) : Option Bool :=
  if ((x1.f0 != x14.f0) || ((x1.f1 != x14.f1) || ((x1.f2 != x14.f2) || ((x1.f3 != x14.f3) || ((x1.f10 != x14.f10) || ((x1.f11 != x14.f11) || (x1.f12 != x14.f12))))))) = true then some false
  else if ((x1.f4 != x14.f4) || ((x1.f5 != x14.f5) || ((x1.f6 != x14.f6) || ((x1.f7 != x14.f7) || ((x1.f8 != x14.f8) || (x1.f9 != x14.f9)))))) = true then some false
  else (if (!((x1.f13.f0 == x14.f13.f0) && ((x1.f13.f1 == x14.f13.f1) && ((x1.f13.f2 == x14.f13.f2) && ((x1.f13.f3 == x14.f13.f3) && true))))) = true then some true
    else (conf_Same k x1.f14 x14.f14).bind fun y208 =>
    some (!y208) : Option Bool).bind fun s210 => letter_Same_r4 k x1 x14 s210
theorem letter_Same_s {k : Nat} {x1 : M48} {x14 : M48} {p2 : Option Addr} {c3 : Nat} {p5 : Option Addr} {c6 : Nat} {p8 : Option Addr} {c9 : Nat} {p11 : Option Addr} {c12 : Nat} {p15 : Option Addr} {c16 : Nat} {p18 : Option Addr} {c19 : Nat} {p21 : Option Addr} {c22 : Nat} {p24 : Option Addr} {c25 : Nat} {r : Bool} (hk : letter_Same k x1 x14 = some r) {g w : World} {F : Ch} {ih : IH} (h4 : RSl e3 ih [] p2 c3 x1.f14.f2) (h7 : RSl e156 ih [] p5 c6 x1.f15) (h10 : RSl e96 ih [] p8 c9 x1.f16) (h13 : RSl e5 ih [] p11 c12 x1.f17) (h17 : RSl e3 ih [] p15 c16 x14.f14.f2) (h20 : RSl e156 ih [] p18 c19 x14.f15) (h23 : RSl e96 ih [] p21 c22 x14.f16) (h26 : RSl e5 ih [] p24 c25 x14.f17) (hw : St g w [F] ih) :
    CallsR Tryz.prog 59 #[.agg #[vi64 x1.f0, vi64 x1.f1, vi64 x1.f2, vi64 x1.f3, vu64 x1.f4, vu64 x1.f5, vu64 x1.f6, vu64 x1.f7, vu64 x1.f8, vu64 x1.f9, vi64 x1.f10, vu32 x1.f11, vi64 x1.f12, vi64 x1.f13.f0, vi64 x1.f13.f1, vu64 x1.f13.f2, vi64 x1.f13.f3, vi64 x1.f14.f0, vu64 x1.f14.f1, .slice p2 x1.f14.f2.length c3, .bool x1.f14.f3, vi64 x1.f14.f4, .slice p5 x1.f15.length c6, .slice p8 x1.f16.length c9, .slice p11 x1.f17.length c12], .agg #[vi64 x14.f0, vi64 x14.f1, vi64 x14.f2, vi64 x14.f3, vu64 x14.f4, vu64 x14.f5, vu64 x14.f6, vu64 x14.f7, vu64 x14.f8, vu64 x14.f9, vi64 x14.f10, vu32 x14.f11, vi64 x14.f12, vi64 x14.f13.f0, vi64 x14.f13.f1, vu64 x14.f13.f2, vi64 x14.f13.f3, vi64 x14.f14.f0, vu64 x14.f14.f1, .slice p15 x14.f14.f2.length c16, .bool x14.f14.f3, vi64 x14.f14.f4, .slice p18 x14.f15.length c19, .slice p21 x14.f16.length c22, .slice p24 x14.f17.length c25]] w fun v w' => v = .bool r ∧ St g w' [F] ih := by
  refine f_in (vs := [.agg #[vi64 x1.f0, vi64 x1.f1, vi64 x1.f2, vi64 x1.f3, vu64 x1.f4, vu64 x1.f5, vu64 x1.f6, vu64 x1.f7, vu64 x1.f8, vu64 x1.f9, vi64 x1.f10, vu32 x1.f11, vi64 x1.f12, vi64 x1.f13.f0, vi64 x1.f13.f1, vu64 x1.f13.f2, vi64 x1.f13.f3, vi64 x1.f14.f0, vu64 x1.f14.f1, .slice p2 x1.f14.f2.length c3, .bool x1.f14.f3, vi64 x1.f14.f4, .slice p5 x1.f15.length c6, .slice p8 x1.f16.length c9, .slice p11 x1.f17.length c12], .agg #[vi64 x14.f0, vi64 x14.f1, vi64 x14.f2, vi64 x14.f3, vu64 x14.f4, vu64 x14.f5, vu64 x14.f6, vu64 x14.f7, vu64 x14.f8, vu64 x14.f9, vi64 x14.f10, vu32 x14.f11, vi64 x14.f12, vi64 x14.f13.f0, vi64 x14.f13.f1, vu64 x14.f13.f2, vi64 x14.f13.f3, vi64 x14.f14.f0, vu64 x14.f14.f1, .slice p15 x14.f14.f2.length c16, .bool x14.f14.f3, vi64 x14.f14.f4, .slice p18 x14.f15.length c19, .slice p21 x14.f16.length c22, .slice p24 x14.f17.length c25]]) Tryz.func59 rfl 127 rfl (by kernel_rfl) [(0, .agg #[vi64 x1.f0, vi64 x1.f1, vi64 x1.f2, vi64 x1.f3, vu64 x1.f4, vu64 x1.f5, vu64 x1.f6, vu64 x1.f7, vu64 x1.f8, vu64 x1.f9, vi64 x1.f10, vu32 x1.f11, vi64 x1.f12, vi64 x1.f13.f0, vi64 x1.f13.f1, vu64 x1.f13.f2, vi64 x1.f13.f3, vi64 x1.f14.f0, vu64 x1.f14.f1, .slice p2 x1.f14.f2.length c3, .bool x1.f14.f3, vi64 x1.f14.f4, .slice p5 x1.f15.length c6, .slice p8 x1.f16.length c9, .slice p11 x1.f17.length c12]), (1, .agg #[vi64 x14.f0, vi64 x14.f1, vi64 x14.f2, vi64 x14.f3, vu64 x14.f4, vu64 x14.f5, vu64 x14.f6, vu64 x14.f7, vu64 x14.f8, vu64 x14.f9, vi64 x14.f10, vu32 x14.f11, vi64 x14.f12, vi64 x14.f13.f0, vi64 x14.f13.f1, vu64 x14.f13.f2, vi64 x14.f13.f3, vi64 x14.f14.f0, vu64 x14.f14.f1, .slice p15 x14.f14.f2.length c16, .bool x14.f14.f3, vi64 x14.f14.f4, .slice p18 x14.f15.length c19, .slice p21 x14.f16.length c22, .slice p24 x14.f17.length c25])] (by kernel_rfl) fun a Qf hQ hQn hs => ?_
  refine c_seq ?_
  refine c_region ?_
  refine s_new hs hw [vi64 x1.f0, vi64 x1.f1, vi64 x1.f2, vi64 x1.f3, vu64 x1.f4, vu64 x1.f5, vu64 x1.f6, vu64 x1.f7, vu64 x1.f8, vu64 x1.f9, vi64 x1.f10, vu32 x1.f11, vi64 x1.f12, vi64 x1.f13.f0, vi64 x1.f13.f1, vu64 x1.f13.f2, vi64 x1.f13.f3, vi64 x1.f14.f0, vu64 x1.f14.f1, .slice p2 x1.f14.f2.length c3, .bool x1.f14.f3, vi64 x1.f14.f4, .slice p5 x1.f15.length c6, .slice p8 x1.f16.length c9, .slice p11 x1.f17.length c12] 48 (fun b => (pt b 0)) (by kernel_rfl) (fun _ => by kernel_rfl) fun a w b124 hs hw => ?_
  refine s_new hs hw [vi64 x14.f0, vi64 x14.f1, vi64 x14.f2, vi64 x14.f3, vu64 x14.f4, vu64 x14.f5, vu64 x14.f6, vu64 x14.f7, vu64 x14.f8, vu64 x14.f9, vi64 x14.f10, vu32 x14.f11, vi64 x14.f12, vi64 x14.f13.f0, vi64 x14.f13.f1, vu64 x14.f13.f2, vi64 x14.f13.f3, vi64 x14.f14.f0, vu64 x14.f14.f1, .slice p15 x14.f14.f2.length c16, .bool x14.f14.f3, vi64 x14.f14.f4, .slice p18 x14.f15.length c19, .slice p21 x14.f16.length c22, .slice p24 x14.f17.length c25] 48 (fun b => (pt b 0)) (by kernel_rfl) (fun _ => by kernel_rfl) fun a w b126 hs hw => ?_
  refine pures hs 1 [2, 3] [(2, (pt b124 0)), (3, (pt b126 0))] (by kernel_rfl) fun a hs => ?_
  refine s_end ?_
  refine c_seq ?_
  refine c_block ?_
  refine c_seq ?_
  obtain ⟨J141, hJ141⟩ : ∃ J : Act → World → Prop, ∀ a w, J a w ↔ (Sees a 127 [(2, (pt b124 0)), (3, (pt b126 0)), (5, .bool ((x1.f0 != x14.f0) || ((x1.f1 != x14.f1) || ((x1.f2 != x14.f2) || ((x1.f3 != x14.f3) || ((x1.f10 != x14.f10) || ((x1.f11 != x14.f11) || (x1.f12 != x14.f12))))))))] ∧ St g w [bx b126 [vi64 x14.f0, vi64 x14.f1, vi64 x14.f2, vi64 x14.f3, vu64 x14.f4, vu64 x14.f5, vu64 x14.f6, vu64 x14.f7, vu64 x14.f8, vu64 x14.f9, vi64 x14.f10, vu32 x14.f11, vi64 x14.f12, vi64 x14.f13.f0, vi64 x14.f13.f1, vu64 x14.f13.f2, vi64 x14.f13.f3, vi64 x14.f14.f0, vu64 x14.f14.f1, .slice p15 x14.f14.f2.length c16, .bool x14.f14.f3, vi64 x14.f14.f4, .slice p18 x14.f15.length c19, .slice p21 x14.f16.length c22, .slice p24 x14.f17.length c25] 48, bx b124 [vi64 x1.f0, vi64 x1.f1, vi64 x1.f2, vi64 x1.f3, vu64 x1.f4, vu64 x1.f5, vu64 x1.f6, vu64 x1.f7, vu64 x1.f8, vu64 x1.f9, vi64 x1.f10, vu32 x1.f11, vi64 x1.f12, vi64 x1.f13.f0, vi64 x1.f13.f1, vu64 x1.f13.f2, vi64 x1.f13.f3, vi64 x1.f14.f0, vu64 x1.f14.f1, .slice p2 x1.f14.f2.length c3, .bool x1.f14.f3, vi64 x1.f14.f4, .slice p5 x1.f15.length c6, .slice p8 x1.f16.length c9, .slice p11 x1.f17.length c12] 48, F] ih) := ⟨_, fun _ _ => Iff.rfl⟩
  refine c_regJ J141 ?_ ?_
  · refine pures hs 1 [2, 3, 6] [(2, (pt b124 0)), (3, (pt b126 0)), (6, (pt b124 0))] (by kernel_rfl) fun a hs => ?_
    refine s_load hs (hw.at_ 1 rfl) 0 (by kernel_rfl) (by kernel_rfl) (v := vi64 x1.f0) (by kernel_rfl) fun a hs => ?_
    refine pures hs 1 [2, 3, 7, 8] [(2, (pt b124 0)), (3, (pt b126 0)), (7, vi64 x1.f0), (8, (pt b126 0))] (by kernel_rfl) fun a hs => ?_
    refine s_load hs (hw.at_ 0 rfl) 0 (by kernel_rfl) (by kernel_rfl) (v := vi64 x14.f0) (by kernel_rfl) fun a hs => ?_
    refine pures hs 2 [2, 3, 11] [(2, (pt b124 0)), (3, (pt b126 0)), (11, .bool (x1.f0 != x14.f0))] (by kernel_rfl) fun a hs => ?_
    rcases boolE (x1.f0 != x14.f0) with h142 | h142
    · replace hs := hs.altB 11 true (by kernel_rfl) h142
      refine pures hs 42 [2, 3, 5] [(2, (pt b124 0)), (3, (pt b126 0)), (5, .bool true)] (by kernel_rfl) fun a hs => ?_
      refine s_end ?_
      exact (hJ141 _ _).2 ⟨(hs.altB (b := true) 5 ((x1.f0 != x14.f0) || ((x1.f1 != x14.f1) || ((x1.f2 != x14.f2) || ((x1.f3 != x14.f3) || ((x1.f10 != x14.f10) || ((x1.f11 != x14.f11) || (x1.f12 != x14.f12))))))) (by kernel_rfl) (by rw [h142] <;> rfl)).cast [2, 3, 5] (by kernel_rfl), hw.pick [0, 1, 2] (by kernel_rfl)⟩
    replace hs := hs.altB 11 false (by kernel_rfl) h142
    refine pures hs 1 [2, 3, 11, 12] [(2, (pt b124 0)), (3, (pt b126 0)), (11, .bool false), (12, (pt b124 1))] (by kernel_rfl) fun a hs => ?_
    refine s_load hs (hw.at_ 1 rfl) 1 (by kernel_rfl) (by kernel_rfl) (v := vi64 x1.f1) (by kernel_rfl) fun a hs => ?_
    refine pures hs 1 [2, 3, 11, 13, 14] [(2, (pt b124 0)), (3, (pt b126 0)), (11, .bool false), (13, vi64 x1.f1), (14, (pt b126 1))] (by kernel_rfl) fun a hs => ?_
    refine s_load hs (hw.at_ 0 rfl) 1 (by kernel_rfl) (by kernel_rfl) (v := vi64 x14.f1) (by kernel_rfl) fun a hs => ?_
    refine pures hs 3 [2, 3, 18] [(2, (pt b124 0)), (3, (pt b126 0)), (18, .bool (x1.f1 != x14.f1))] (by kernel_rfl) fun a hs => ?_
    rcases boolE (x1.f1 != x14.f1) with h143 | h143
    · replace hs := hs.altB 18 true (by kernel_rfl) h143
      refine pures hs 35 [2, 3, 5] [(2, (pt b124 0)), (3, (pt b126 0)), (5, .bool true)] (by kernel_rfl) fun a hs => ?_
      refine s_end ?_
      exact (hJ141 _ _).2 ⟨(hs.altB (b := true) 5 ((x1.f0 != x14.f0) || ((x1.f1 != x14.f1) || ((x1.f2 != x14.f2) || ((x1.f3 != x14.f3) || ((x1.f10 != x14.f10) || ((x1.f11 != x14.f11) || (x1.f12 != x14.f12))))))) (by kernel_rfl) (by rw [h142, h143] <;> rfl)).cast [2, 3, 5] (by kernel_rfl), hw.pick [0, 1, 2] (by kernel_rfl)⟩
    replace hs := hs.altB 18 false (by kernel_rfl) h143
    refine pures hs 1 [2, 3, 18, 19] [(2, (pt b124 0)), (3, (pt b126 0)), (18, .bool false), (19, (pt b124 2))] (by kernel_rfl) fun a hs => ?_
    refine s_load hs (hw.at_ 1 rfl) 2 (by kernel_rfl) (by kernel_rfl) (v := vi64 x1.f2) (by kernel_rfl) fun a hs => ?_
    refine pures hs 1 [2, 3, 18, 20, 21] [(2, (pt b124 0)), (3, (pt b126 0)), (18, .bool false), (20, vi64 x1.f2), (21, (pt b126 2))] (by kernel_rfl) fun a hs => ?_
    refine s_load hs (hw.at_ 0 rfl) 2 (by kernel_rfl) (by kernel_rfl) (v := vi64 x14.f2) (by kernel_rfl) fun a hs => ?_
    refine pures hs 3 [2, 3, 25] [(2, (pt b124 0)), (3, (pt b126 0)), (25, .bool (x1.f2 != x14.f2))] (by kernel_rfl) fun a hs => ?_
    rcases boolE (x1.f2 != x14.f2) with h144 | h144
    · replace hs := hs.altB 25 true (by kernel_rfl) h144
      refine pures hs 28 [2, 3, 5] [(2, (pt b124 0)), (3, (pt b126 0)), (5, .bool true)] (by kernel_rfl) fun a hs => ?_
      refine s_end ?_
      exact (hJ141 _ _).2 ⟨(hs.altB (b := true) 5 ((x1.f0 != x14.f0) || ((x1.f1 != x14.f1) || ((x1.f2 != x14.f2) || ((x1.f3 != x14.f3) || ((x1.f10 != x14.f10) || ((x1.f11 != x14.f11) || (x1.f12 != x14.f12))))))) (by kernel_rfl) (by rw [h142, h143, h144] <;> rfl)).cast [2, 3, 5] (by kernel_rfl), hw.pick [0, 1, 2] (by kernel_rfl)⟩
    replace hs := hs.altB 25 false (by kernel_rfl) h144
    refine pures hs 1 [2, 3, 25, 26] [(2, (pt b124 0)), (3, (pt b126 0)), (25, .bool false), (26, (pt b124 3))] (by kernel_rfl) fun a hs => ?_
    refine s_load hs (hw.at_ 1 rfl) 3 (by kernel_rfl) (by kernel_rfl) (v := vi64 x1.f3) (by kernel_rfl) fun a hs => ?_
    refine pures hs 1 [2, 3, 25, 27, 28] [(2, (pt b124 0)), (3, (pt b126 0)), (25, .bool false), (27, vi64 x1.f3), (28, (pt b126 3))] (by kernel_rfl) fun a hs => ?_
    refine s_load hs (hw.at_ 0 rfl) 3 (by kernel_rfl) (by kernel_rfl) (v := vi64 x14.f3) (by kernel_rfl) fun a hs => ?_
    refine pures hs 3 [2, 3, 32] [(2, (pt b124 0)), (3, (pt b126 0)), (32, .bool (x1.f3 != x14.f3))] (by kernel_rfl) fun a hs => ?_
    rcases boolE (x1.f3 != x14.f3) with h145 | h145
    · replace hs := hs.altB 32 true (by kernel_rfl) h145
      refine pures hs 21 [2, 3, 5] [(2, (pt b124 0)), (3, (pt b126 0)), (5, .bool true)] (by kernel_rfl) fun a hs => ?_
      refine s_end ?_
      exact (hJ141 _ _).2 ⟨(hs.altB (b := true) 5 ((x1.f0 != x14.f0) || ((x1.f1 != x14.f1) || ((x1.f2 != x14.f2) || ((x1.f3 != x14.f3) || ((x1.f10 != x14.f10) || ((x1.f11 != x14.f11) || (x1.f12 != x14.f12))))))) (by kernel_rfl) (by rw [h142, h143, h144, h145] <;> rfl)).cast [2, 3, 5] (by kernel_rfl), hw.pick [0, 1, 2] (by kernel_rfl)⟩
    replace hs := hs.altB 32 false (by kernel_rfl) h145
    refine pures hs 1 [2, 3, 32, 33] [(2, (pt b124 0)), (3, (pt b126 0)), (32, .bool false), (33, (pt b124 10))] (by kernel_rfl) fun a hs => ?_
    refine s_load hs (hw.at_ 1 rfl) 10 (by kernel_rfl) (by kernel_rfl) (v := vi64 x1.f10) (by kernel_rfl) fun a hs => ?_
    refine pures hs 1 [2, 3, 32, 34, 35] [(2, (pt b124 0)), (3, (pt b126 0)), (32, .bool false), (34, vi64 x1.f10), (35, (pt b126 10))] (by kernel_rfl) fun a hs => ?_
    refine s_load hs (hw.at_ 0 rfl) 10 (by kernel_rfl) (by kernel_rfl) (v := vi64 x14.f10) (by kernel_rfl) fun a hs => ?_
    refine pures hs 3 [2, 3, 39] [(2, (pt b124 0)), (3, (pt b126 0)), (39, .bool (x1.f10 != x14.f10))] (by kernel_rfl) fun a hs => ?_
    rcases boolE (x1.f10 != x14.f10) with h146 | h146
    · replace hs := hs.altB 39 true (by kernel_rfl) h146
      refine pures hs 14 [2, 3, 5] [(2, (pt b124 0)), (3, (pt b126 0)), (5, .bool true)] (by kernel_rfl) fun a hs => ?_
      refine s_end ?_
      exact (hJ141 _ _).2 ⟨(hs.altB (b := true) 5 ((x1.f0 != x14.f0) || ((x1.f1 != x14.f1) || ((x1.f2 != x14.f2) || ((x1.f3 != x14.f3) || ((x1.f10 != x14.f10) || ((x1.f11 != x14.f11) || (x1.f12 != x14.f12))))))) (by kernel_rfl) (by rw [h142, h143, h144, h145, h146] <;> rfl)).cast [2, 3, 5] (by kernel_rfl), hw.pick [0, 1, 2] (by kernel_rfl)⟩
    replace hs := hs.altB 39 false (by kernel_rfl) h146
    refine pures hs 1 [2, 3, 39, 40] [(2, (pt b124 0)), (3, (pt b126 0)), (39, .bool false), (40, (pt b124 11))] (by kernel_rfl) fun a hs => ?_
    refine s_load hs (hw.at_ 1 rfl) 11 (by kernel_rfl) (by kernel_rfl) (v := vu32 x1.f11) (by kernel_rfl) fun a hs => ?_
    refine pures hs 1 [2, 3, 39, 41, 42] [(2, (pt b124 0)), (3, (pt b126 0)), (39, .bool false), (41, vu32 x1.f11), (42, (pt b126 11))] (by kernel_rfl) fun a hs => ?_
    refine s_load hs (hw.at_ 0 rfl) 11 (by kernel_rfl) (by kernel_rfl) (v := vu32 x14.f11) (by kernel_rfl) fun a hs => ?_
    refine pures hs 3 [2, 3, 46] [(2, (pt b124 0)), (3, (pt b126 0)), (46, .bool (x1.f11 != x14.f11))] (by kernel_rfl) fun a hs => ?_
    rcases boolE (x1.f11 != x14.f11) with h147 | h147
    · replace hs := hs.altB 46 true (by kernel_rfl) h147
      refine pures hs 7 [2, 3, 5] [(2, (pt b124 0)), (3, (pt b126 0)), (5, .bool true)] (by kernel_rfl) fun a hs => ?_
      refine s_end ?_
      exact (hJ141 _ _).2 ⟨(hs.altB (b := true) 5 ((x1.f0 != x14.f0) || ((x1.f1 != x14.f1) || ((x1.f2 != x14.f2) || ((x1.f3 != x14.f3) || ((x1.f10 != x14.f10) || ((x1.f11 != x14.f11) || (x1.f12 != x14.f12))))))) (by kernel_rfl) (by rw [h142, h143, h144, h145, h146, h147] <;> rfl)).cast [2, 3, 5] (by kernel_rfl), hw.pick [0, 1, 2] (by kernel_rfl)⟩
    replace hs := hs.altB 46 false (by kernel_rfl) h147
    refine pures hs 1 [2, 3, 46, 47] [(2, (pt b124 0)), (3, (pt b126 0)), (46, .bool false), (47, (pt b124 12))] (by kernel_rfl) fun a hs => ?_
    refine s_load hs (hw.at_ 1 rfl) 12 (by kernel_rfl) (by kernel_rfl) (v := vi64 x1.f12) (by kernel_rfl) fun a hs => ?_
    refine pures hs 1 [2, 3, 46, 48, 49] [(2, (pt b124 0)), (3, (pt b126 0)), (46, .bool false), (48, vi64 x1.f12), (49, (pt b126 12))] (by kernel_rfl) fun a hs => ?_
    refine s_load hs (hw.at_ 0 rfl) 12 (by kernel_rfl) (by kernel_rfl) (v := vi64 x14.f12) (by kernel_rfl) fun a hs => ?_
    refine pures hs 3 [2, 3, 5] [(2, (pt b124 0)), (3, (pt b126 0)), (5, .bool (x1.f12 != x14.f12))] (by kernel_rfl) fun a hs => ?_
    refine s_end ?_
    exact (hJ141 _ _).2 ⟨(hs.altB (b := (x1.f12 != x14.f12)) 5 ((x1.f0 != x14.f0) || ((x1.f1 != x14.f1) || ((x1.f2 != x14.f2) || ((x1.f3 != x14.f3) || ((x1.f10 != x14.f10) || ((x1.f11 != x14.f11) || (x1.f12 != x14.f12))))))) (by kernel_rfl) (by rw [h142, h143, h144, h145, h146, h147] <;> rfl)).cast [2, 3, 5] (by kernel_rfl), hw.pick [0, 1, 2] (by kernel_rfl)⟩
  intro a w hh
  obtain ⟨hs, hw⟩ := (hJ141 _ _).1 hh
  rcases ifbE hk with ⟨h148, hk⟩ | ⟨h148, hk⟩
  · refine c_cond1 hs (by kernel_rfl) (t := ((x1.f0 != x14.f0) || ((x1.f1 != x14.f1) || ((x1.f2 != x14.f2) || ((x1.f3 != x14.f3) || ((x1.f10 != x14.f10) || ((x1.f11 != x14.f11) || (x1.f12 != x14.f12)))))))) (by kernel_rfl) h148 ?_
    refine c_seq ?_
    refine c_region ?_
    refine pures hs 1 [4] [(4, .bool false)] (by kernel_rfl) fun a hs => ?_
    refine s_end ?_
    refine c_ret ?_
    obtain rfl := someE hk
    refine hQ _ _ (f_ret1 hs rfl (v := .bool false) (by kernel_rfl) ⟨rfl, hw.pick [2] (by kernel_rfl)⟩)
  refine c_cond0 hs (by kernel_rfl) (t := ((x1.f0 != x14.f0) || ((x1.f1 != x14.f1) || ((x1.f2 != x14.f2) || ((x1.f3 != x14.f3) || ((x1.f10 != x14.f10) || ((x1.f11 != x14.f11) || (x1.f12 != x14.f12)))))))) (by kernel_rfl) h148 ?_
  refine c_seq ?_
  obtain ⟨J160, hJ160⟩ : ∃ J : Act → World → Prop, ∀ a w, J a w ↔ (Sees a 127 [(2, (pt b124 0)), (3, (pt b126 0)), (53, .bool ((x1.f4 != x14.f4) || ((x1.f5 != x14.f5) || ((x1.f6 != x14.f6) || ((x1.f7 != x14.f7) || ((x1.f8 != x14.f8) || (x1.f9 != x14.f9)))))))] ∧ St g w [bx b126 [vi64 x14.f0, vi64 x14.f1, vi64 x14.f2, vi64 x14.f3, vu64 x14.f4, vu64 x14.f5, vu64 x14.f6, vu64 x14.f7, vu64 x14.f8, vu64 x14.f9, vi64 x14.f10, vu32 x14.f11, vi64 x14.f12, vi64 x14.f13.f0, vi64 x14.f13.f1, vu64 x14.f13.f2, vi64 x14.f13.f3, vi64 x14.f14.f0, vu64 x14.f14.f1, .slice p15 x14.f14.f2.length c16, .bool x14.f14.f3, vi64 x14.f14.f4, .slice p18 x14.f15.length c19, .slice p21 x14.f16.length c22, .slice p24 x14.f17.length c25] 48, bx b124 [vi64 x1.f0, vi64 x1.f1, vi64 x1.f2, vi64 x1.f3, vu64 x1.f4, vu64 x1.f5, vu64 x1.f6, vu64 x1.f7, vu64 x1.f8, vu64 x1.f9, vi64 x1.f10, vu32 x1.f11, vi64 x1.f12, vi64 x1.f13.f0, vi64 x1.f13.f1, vu64 x1.f13.f2, vi64 x1.f13.f3, vi64 x1.f14.f0, vu64 x1.f14.f1, .slice p2 x1.f14.f2.length c3, .bool x1.f14.f3, vi64 x1.f14.f4, .slice p5 x1.f15.length c6, .slice p8 x1.f16.length c9, .slice p11 x1.f17.length c12] 48, F] ih) := ⟨_, fun _ _ => Iff.rfl⟩
  refine c_regJ J160 ?_ ?_
  · refine pures hs 1 [2, 3, 54] [(2, (pt b124 0)), (3, (pt b126 0)), (54, (pt b124 4))] (by kernel_rfl) fun a hs => ?_
    refine s_load hs (hw.at_ 1 rfl) 4 (by kernel_rfl) (by kernel_rfl) (v := vu64 x1.f4) (by kernel_rfl) fun a hs => ?_
    refine pures hs 1 [2, 3, 55, 56] [(2, (pt b124 0)), (3, (pt b126 0)), (55, vu64 x1.f4), (56, (pt b126 4))] (by kernel_rfl) fun a hs => ?_
    refine s_load hs (hw.at_ 0 rfl) 4 (by kernel_rfl) (by kernel_rfl) (v := vu64 x14.f4) (by kernel_rfl) fun a hs => ?_
    refine pures hs 2 [2, 3, 59] [(2, (pt b124 0)), (3, (pt b126 0)), (59, .bool (x1.f4 != x14.f4))] (by kernel_rfl) fun a hs => ?_
    rcases boolE (x1.f4 != x14.f4) with h161 | h161
    · replace hs := hs.altB 59 true (by kernel_rfl) h161
      refine pures hs 35 [2, 3, 53] [(2, (pt b124 0)), (3, (pt b126 0)), (53, .bool true)] (by kernel_rfl) fun a hs => ?_
      refine s_end ?_
      exact (hJ160 _ _).2 ⟨(hs.altB (b := true) 53 ((x1.f4 != x14.f4) || ((x1.f5 != x14.f5) || ((x1.f6 != x14.f6) || ((x1.f7 != x14.f7) || ((x1.f8 != x14.f8) || (x1.f9 != x14.f9)))))) (by kernel_rfl) (by rw [h161] <;> rfl)).cast [2, 3, 53] (by kernel_rfl), hw.pick [0, 1, 2] (by kernel_rfl)⟩
    replace hs := hs.altB 59 false (by kernel_rfl) h161
    refine pures hs 1 [2, 3, 59, 60] [(2, (pt b124 0)), (3, (pt b126 0)), (59, .bool false), (60, (pt b124 5))] (by kernel_rfl) fun a hs => ?_
    refine s_load hs (hw.at_ 1 rfl) 5 (by kernel_rfl) (by kernel_rfl) (v := vu64 x1.f5) (by kernel_rfl) fun a hs => ?_
    refine pures hs 1 [2, 3, 59, 61, 62] [(2, (pt b124 0)), (3, (pt b126 0)), (59, .bool false), (61, vu64 x1.f5), (62, (pt b126 5))] (by kernel_rfl) fun a hs => ?_
    refine s_load hs (hw.at_ 0 rfl) 5 (by kernel_rfl) (by kernel_rfl) (v := vu64 x14.f5) (by kernel_rfl) fun a hs => ?_
    refine pures hs 3 [2, 3, 66] [(2, (pt b124 0)), (3, (pt b126 0)), (66, .bool (x1.f5 != x14.f5))] (by kernel_rfl) fun a hs => ?_
    rcases boolE (x1.f5 != x14.f5) with h162 | h162
    · replace hs := hs.altB 66 true (by kernel_rfl) h162
      refine pures hs 28 [2, 3, 53] [(2, (pt b124 0)), (3, (pt b126 0)), (53, .bool true)] (by kernel_rfl) fun a hs => ?_
      refine s_end ?_
      exact (hJ160 _ _).2 ⟨(hs.altB (b := true) 53 ((x1.f4 != x14.f4) || ((x1.f5 != x14.f5) || ((x1.f6 != x14.f6) || ((x1.f7 != x14.f7) || ((x1.f8 != x14.f8) || (x1.f9 != x14.f9)))))) (by kernel_rfl) (by rw [h161, h162] <;> rfl)).cast [2, 3, 53] (by kernel_rfl), hw.pick [0, 1, 2] (by kernel_rfl)⟩
    replace hs := hs.altB 66 false (by kernel_rfl) h162
    refine pures hs 1 [2, 3, 66, 67] [(2, (pt b124 0)), (3, (pt b126 0)), (66, .bool false), (67, (pt b124 6))] (by kernel_rfl) fun a hs => ?_
    refine s_load hs (hw.at_ 1 rfl) 6 (by kernel_rfl) (by kernel_rfl) (v := vu64 x1.f6) (by kernel_rfl) fun a hs => ?_
    refine pures hs 1 [2, 3, 66, 68, 69] [(2, (pt b124 0)), (3, (pt b126 0)), (66, .bool false), (68, vu64 x1.f6), (69, (pt b126 6))] (by kernel_rfl) fun a hs => ?_
    refine s_load hs (hw.at_ 0 rfl) 6 (by kernel_rfl) (by kernel_rfl) (v := vu64 x14.f6) (by kernel_rfl) fun a hs => ?_
    refine pures hs 3 [2, 3, 73] [(2, (pt b124 0)), (3, (pt b126 0)), (73, .bool (x1.f6 != x14.f6))] (by kernel_rfl) fun a hs => ?_
    rcases boolE (x1.f6 != x14.f6) with h163 | h163
    · replace hs := hs.altB 73 true (by kernel_rfl) h163
      refine pures hs 21 [2, 3, 53] [(2, (pt b124 0)), (3, (pt b126 0)), (53, .bool true)] (by kernel_rfl) fun a hs => ?_
      refine s_end ?_
      exact (hJ160 _ _).2 ⟨(hs.altB (b := true) 53 ((x1.f4 != x14.f4) || ((x1.f5 != x14.f5) || ((x1.f6 != x14.f6) || ((x1.f7 != x14.f7) || ((x1.f8 != x14.f8) || (x1.f9 != x14.f9)))))) (by kernel_rfl) (by rw [h161, h162, h163] <;> rfl)).cast [2, 3, 53] (by kernel_rfl), hw.pick [0, 1, 2] (by kernel_rfl)⟩
    replace hs := hs.altB 73 false (by kernel_rfl) h163
    refine pures hs 1 [2, 3, 73, 74] [(2, (pt b124 0)), (3, (pt b126 0)), (73, .bool false), (74, (pt b124 7))] (by kernel_rfl) fun a hs => ?_
    refine s_load hs (hw.at_ 1 rfl) 7 (by kernel_rfl) (by kernel_rfl) (v := vu64 x1.f7) (by kernel_rfl) fun a hs => ?_
    refine pures hs 1 [2, 3, 73, 75, 76] [(2, (pt b124 0)), (3, (pt b126 0)), (73, .bool false), (75, vu64 x1.f7), (76, (pt b126 7))] (by kernel_rfl) fun a hs => ?_
    refine s_load hs (hw.at_ 0 rfl) 7 (by kernel_rfl) (by kernel_rfl) (v := vu64 x14.f7) (by kernel_rfl) fun a hs => ?_
    refine pures hs 3 [2, 3, 80] [(2, (pt b124 0)), (3, (pt b126 0)), (80, .bool (x1.f7 != x14.f7))] (by kernel_rfl) fun a hs => ?_
    rcases boolE (x1.f7 != x14.f7) with h164 | h164
    · replace hs := hs.altB 80 true (by kernel_rfl) h164
      refine pures hs 14 [2, 3, 53] [(2, (pt b124 0)), (3, (pt b126 0)), (53, .bool true)] (by kernel_rfl) fun a hs => ?_
      refine s_end ?_
      exact (hJ160 _ _).2 ⟨(hs.altB (b := true) 53 ((x1.f4 != x14.f4) || ((x1.f5 != x14.f5) || ((x1.f6 != x14.f6) || ((x1.f7 != x14.f7) || ((x1.f8 != x14.f8) || (x1.f9 != x14.f9)))))) (by kernel_rfl) (by rw [h161, h162, h163, h164] <;> rfl)).cast [2, 3, 53] (by kernel_rfl), hw.pick [0, 1, 2] (by kernel_rfl)⟩
    replace hs := hs.altB 80 false (by kernel_rfl) h164
    refine pures hs 1 [2, 3, 80, 81] [(2, (pt b124 0)), (3, (pt b126 0)), (80, .bool false), (81, (pt b124 8))] (by kernel_rfl) fun a hs => ?_
    refine s_load hs (hw.at_ 1 rfl) 8 (by kernel_rfl) (by kernel_rfl) (v := vu64 x1.f8) (by kernel_rfl) fun a hs => ?_
    refine pures hs 1 [2, 3, 80, 82, 83] [(2, (pt b124 0)), (3, (pt b126 0)), (80, .bool false), (82, vu64 x1.f8), (83, (pt b126 8))] (by kernel_rfl) fun a hs => ?_
    refine s_load hs (hw.at_ 0 rfl) 8 (by kernel_rfl) (by kernel_rfl) (v := vu64 x14.f8) (by kernel_rfl) fun a hs => ?_
    refine pures hs 3 [2, 3, 87] [(2, (pt b124 0)), (3, (pt b126 0)), (87, .bool (x1.f8 != x14.f8))] (by kernel_rfl) fun a hs => ?_
    rcases boolE (x1.f8 != x14.f8) with h165 | h165
    · replace hs := hs.altB 87 true (by kernel_rfl) h165
      refine pures hs 7 [2, 3, 53] [(2, (pt b124 0)), (3, (pt b126 0)), (53, .bool true)] (by kernel_rfl) fun a hs => ?_
      refine s_end ?_
      exact (hJ160 _ _).2 ⟨(hs.altB (b := true) 53 ((x1.f4 != x14.f4) || ((x1.f5 != x14.f5) || ((x1.f6 != x14.f6) || ((x1.f7 != x14.f7) || ((x1.f8 != x14.f8) || (x1.f9 != x14.f9)))))) (by kernel_rfl) (by rw [h161, h162, h163, h164, h165] <;> rfl)).cast [2, 3, 53] (by kernel_rfl), hw.pick [0, 1, 2] (by kernel_rfl)⟩
    replace hs := hs.altB 87 false (by kernel_rfl) h165
    refine pures hs 1 [2, 3, 87, 88] [(2, (pt b124 0)), (3, (pt b126 0)), (87, .bool false), (88, (pt b124 9))] (by kernel_rfl) fun a hs => ?_
    refine s_load hs (hw.at_ 1 rfl) 9 (by kernel_rfl) (by kernel_rfl) (v := vu64 x1.f9) (by kernel_rfl) fun a hs => ?_
    refine pures hs 1 [2, 3, 87, 89, 90] [(2, (pt b124 0)), (3, (pt b126 0)), (87, .bool false), (89, vu64 x1.f9), (90, (pt b126 9))] (by kernel_rfl) fun a hs => ?_
    refine s_load hs (hw.at_ 0 rfl) 9 (by kernel_rfl) (by kernel_rfl) (v := vu64 x14.f9) (by kernel_rfl) fun a hs => ?_
    refine pures hs 3 [2, 3, 53] [(2, (pt b124 0)), (3, (pt b126 0)), (53, .bool (x1.f9 != x14.f9))] (by kernel_rfl) fun a hs => ?_
    refine s_end ?_
    exact (hJ160 _ _).2 ⟨(hs.altB (b := (x1.f9 != x14.f9)) 53 ((x1.f4 != x14.f4) || ((x1.f5 != x14.f5) || ((x1.f6 != x14.f6) || ((x1.f7 != x14.f7) || ((x1.f8 != x14.f8) || (x1.f9 != x14.f9)))))) (by kernel_rfl) (by rw [h161, h162, h163, h164, h165] <;> rfl)).cast [2, 3, 53] (by kernel_rfl), hw.pick [0, 1, 2] (by kernel_rfl)⟩
  intro a w hh
  obtain ⟨hs, hw⟩ := (hJ160 _ _).1 hh
  rcases ifbE hk with ⟨h166, hk⟩ | ⟨h166, hk⟩
  · refine c_cond1 hs (by kernel_rfl) (t := ((x1.f4 != x14.f4) || ((x1.f5 != x14.f5) || ((x1.f6 != x14.f6) || ((x1.f7 != x14.f7) || ((x1.f8 != x14.f8) || (x1.f9 != x14.f9))))))) (by kernel_rfl) h166 ?_
    refine c_seq ?_
    refine c_region ?_
    refine pures hs 1 [4] [(4, .bool false)] (by kernel_rfl) fun a hs => ?_
    refine s_end ?_
    refine c_ret ?_
    obtain rfl := someE hk
    refine hQ _ _ (f_ret1 hs rfl (v := .bool false) (by kernel_rfl) ⟨rfl, hw.pick [2] (by kernel_rfl)⟩)
  refine c_cond0 hs (by kernel_rfl) (t := ((x1.f4 != x14.f4) || ((x1.f5 != x14.f5) || ((x1.f6 != x14.f6) || ((x1.f7 != x14.f7) || ((x1.f8 != x14.f8) || (x1.f9 != x14.f9))))))) (by kernel_rfl) h166 ?_
  refine c_seq ?_
  obtain ⟨y204, hx205, hk⟩ := bindE hk
  obtain ⟨J206, hJ206⟩ : ∃ J : Act → World → Prop, ∀ a w, J a w ↔ (∃ (x173 : Bool), letter_Same_r4 k x1 x14 x173 = some r ∧ Sees a 127 [(2, (pt b124 0)), (3, (pt b126 0)), (94, .bool x173)] ∧ St g w [bx b126 [vi64 x14.f0, vi64 x14.f1, vi64 x14.f2, vi64 x14.f3, vu64 x14.f4, vu64 x14.f5, vu64 x14.f6, vu64 x14.f7, vu64 x14.f8, vu64 x14.f9, vi64 x14.f10, vu32 x14.f11, vi64 x14.f12, vi64 x14.f13.f0, vi64 x14.f13.f1, vu64 x14.f13.f2, vi64 x14.f13.f3, vi64 x14.f14.f0, vu64 x14.f14.f1, .slice p15 x14.f14.f2.length c16, .bool x14.f14.f3, vi64 x14.f14.f4, .slice p18 x14.f15.length c19, .slice p21 x14.f16.length c22, .slice p24 x14.f17.length c25] 48, bx b124 [vi64 x1.f0, vi64 x1.f1, vi64 x1.f2, vi64 x1.f3, vu64 x1.f4, vu64 x1.f5, vu64 x1.f6, vu64 x1.f7, vu64 x1.f8, vu64 x1.f9, vi64 x1.f10, vu32 x1.f11, vi64 x1.f12, vi64 x1.f13.f0, vi64 x1.f13.f1, vu64 x1.f13.f2, vi64 x1.f13.f3, vi64 x1.f14.f0, vu64 x1.f14.f1, .slice p2 x1.f14.f2.length c3, .bool x1.f14.f3, vi64 x1.f14.f4, .slice p5 x1.f15.length c6, .slice p8 x1.f16.length c9, .slice p11 x1.f17.length c12] 48, F] ih) := ⟨_, fun _ _ => Iff.rfl⟩
  refine c_regJ J206 ?_ ?_
  · refine pures hs 1 [2, 3, 95] [(2, (pt b124 0)), (3, (pt b126 0)), (95, (pt b124 13))] (by kernel_rfl) fun a hs => ?_
    refine s_load hs (hw.at_ 1 rfl) 13 (by kernel_rfl) (by kernel_rfl) (v := .agg #[vi64 x1.f13.f0, vi64 x1.f13.f1, vu64 x1.f13.f2, vi64 x1.f13.f3]) (by kernel_rfl) fun a hs => ?_
    refine pures hs 1 [2, 3, 96, 97] [(2, (pt b124 0)), (3, (pt b126 0)), (96, .agg #[vi64 x1.f13.f0, vi64 x1.f13.f1, vu64 x1.f13.f2, vi64 x1.f13.f3]), (97, (pt b126 13))] (by kernel_rfl) fun a hs => ?_
    refine s_load hs (hw.at_ 0 rfl) 13 (by kernel_rfl) (by kernel_rfl) (v := .agg #[vi64 x14.f13.f0, vi64 x14.f13.f1, vu64 x14.f13.f2, vi64 x14.f13.f3]) (by kernel_rfl) fun a hs => ?_
    refine s_ne hs (c1 := [vi64 x1.f13.f0, vi64 x1.f13.f1, vu64 x1.f13.f2, vi64 x1.f13.f3]) (c2 := [vi64 x14.f13.f0, vi64 x14.f13.f1, vu64 x14.f13.f2, vi64 x14.f13.f3]) ((x1.f13.f0 == x14.f13.f0) && ((x1.f13.f1 == x14.f13.f1) && ((x1.f13.f2 == x14.f13.f2) && ((x1.f13.f3 == x14.f13.f3) && true)))) (by kernel_rfl) (by kernel_rfl) (by kernel_rfl) (by kernel_rfl) (by kernel_rfl) fun a hs => ?_
    refine pures hs 1 [2, 3, 100] [(2, (pt b124 0)), (3, (pt b126 0)), (100, .bool (!((x1.f13.f0 == x14.f13.f0) && ((x1.f13.f1 == x14.f13.f1) && ((x1.f13.f2 == x14.f13.f2) && ((x1.f13.f3 == x14.f13.f3) && true))))))] (by kernel_rfl) fun a hs => ?_
    rcases ifbE hx205 with ⟨h207, hx205⟩ | ⟨h207, hx205⟩
    · replace hs := hs.altB 100 true (by kernel_rfl) h207
      refine pures hs 8 [2, 3, 94] [(2, (pt b124 0)), (3, (pt b126 0)), (94, .bool true)] (by kernel_rfl) fun a hs => ?_
      refine s_end ?_
      obtain rfl := someE hx205
      exact (hJ206 _ _).2 ⟨true, hk, hs.cast [2, 3, 94] (by kernel_rfl), hw.pick [0, 1, 2] (by kernel_rfl)⟩
    replace hs := hs.altB 100 false (by kernel_rfl) h207
    refine pures hs 1 [2, 3, 100, 101] [(2, (pt b124 0)), (3, (pt b126 0)), (100, .bool false), (101, (pt b124 17))] (by kernel_rfl) fun a hs => ?_
    refine s_load hs (hw.at_ 1 rfl) 17 (by kernel_rfl) (by kernel_rfl) (v := .agg #[vi64 x1.f14.f0, vu64 x1.f14.f1, .slice p2 x1.f14.f2.length c3, .bool x1.f14.f3, vi64 x1.f14.f4]) (by kernel_rfl) fun a hs => ?_
    refine pures hs 1 [2, 3, 100, 102, 103] [(2, (pt b124 0)), (3, (pt b126 0)), (100, .bool false), (102, .agg #[vi64 x1.f14.f0, vu64 x1.f14.f1, .slice p2 x1.f14.f2.length c3, .bool x1.f14.f3, vi64 x1.f14.f4]), (103, (pt b126 17))] (by kernel_rfl) fun a hs => ?_
    refine s_load hs (hw.at_ 0 rfl) 17 (by kernel_rfl) (by kernel_rfl) (v := .agg #[vi64 x14.f14.f0, vu64 x14.f14.f1, .slice p15 x14.f14.f2.length c16, .bool x14.f14.f3, vi64 x14.f14.f4]) (by kernel_rfl) fun a hs => ?_
    obtain ⟨y208, h209, hx205⟩ := bindE hx205
    refine s_call hs (by kernel_rfl) (by kernel_rfl) (conf_Same_s h209 h4 h17 ((hw.pick [0, 1, 2] (by kernel_rfl)).pack 0)) fun a w v hv hs => ?_
    obtain ⟨rfl, hw⟩ := hv
    replace hw := hw.unpack 0 rfl
    refine pures hs 3 [2, 3, 94] [(2, (pt b124 0)), (3, (pt b126 0)), (94, .bool (!y208))] (by kernel_rfl) fun a hs => ?_
    refine s_end ?_
    obtain rfl := someE hx205
    exact (hJ206 _ _).2 ⟨(!y208), hk, hs.cast [2, 3, 94] (by kernel_rfl), hw.pick [0, 1, 2] (by kernel_rfl)⟩
  intro a w hh
  obtain ⟨x173, hk, hs, hw⟩ := (hJ206 _ _).1 hh
  rcases ifbE hk with ⟨h174, hk⟩ | ⟨h174, hk⟩
  · refine c_cond1 hs (by kernel_rfl) (t := x173) (by kernel_rfl) h174 ?_
    refine c_seq ?_
    refine c_region ?_
    refine pures hs 1 [4] [(4, .bool false)] (by kernel_rfl) fun a hs => ?_
    refine s_end ?_
    refine c_ret ?_
    obtain rfl := someE hk
    refine hQ _ _ (f_ret1 hs rfl (v := .bool false) (by kernel_rfl) ⟨rfl, hw.pick [2] (by kernel_rfl)⟩)
  refine c_cond0 hs (by kernel_rfl) (t := x173) (by kernel_rfl) h174 ?_
  refine c_skip ?_
  refine c_seq ?_
  obtain ⟨y192, hx193, hk⟩ := bindE hk
  obtain ⟨J194, hJ194⟩ : ∃ J : Act → World → Prop, ∀ a w, J a w ↔ (∃ (x191 : Bool), letter_Same_r3 x191 = some r ∧ Sees a 127 [(4, .bool x191)] ∧ St g w [F] ih) := ⟨_, fun _ _ => Iff.rfl⟩
  refine c_regJ J194 ?_ ?_
  · refine pures hs 1 [2, 3, 108] [(2, (pt b124 0)), (3, (pt b126 0)), (108, (pt b124 22))] (by kernel_rfl) fun a hs => ?_
    refine s_load hs (hw.at_ 1 rfl) 22 (by kernel_rfl) (by kernel_rfl) (v := .slice p5 x1.f15.length c6) (by kernel_rfl) fun a hs => ?_
    refine pures hs 1 [2, 3, 109, 110] [(2, (pt b124 0)), (3, (pt b126 0)), (109, .slice p5 x1.f15.length c6), (110, (pt b126 22))] (by kernel_rfl) fun a hs => ?_
    refine s_load hs (hw.at_ 0 rfl) 22 (by kernel_rfl) (by kernel_rfl) (v := .slice p18 x14.f15.length c19) (by kernel_rfl) fun a hs => ?_
    obtain ⟨y195, h196, hx193⟩ := bindE hx193
    refine s_call hs (by kernel_rfl) (by kernel_rfl) (slices_Equal_api_Vote_api_Vote_s h196 h7 (nilSub _) h20 (nilSub _) ((hw.pick [0, 1, 2] (by kernel_rfl)).pack 0)) fun a w v hv hs => ?_
    obtain ⟨rfl, hw⟩ := hv
    replace hw := hw.unpack 0 rfl
    refine pures hs 1 [2, 3, 113] [(2, (pt b124 0)), (3, (pt b126 0)), (113, .bool y195)] (by kernel_rfl) fun a hs => ?_
    rcases ifbE hx193 with ⟨h197, hx193⟩ | ⟨h197, hx193⟩
    · replace hs := hs.altB 113 true (by kernel_rfl) h197
      refine pures hs 1 [2, 3, 113, 114] [(2, (pt b124 0)), (3, (pt b126 0)), (113, .bool true), (114, (pt b124 23))] (by kernel_rfl) fun a hs => ?_
      refine s_load hs (hw.at_ 1 rfl) 23 (by kernel_rfl) (by kernel_rfl) (v := .slice p8 x1.f16.length c9) (by kernel_rfl) fun a hs => ?_
      refine pures hs 1 [2, 3, 113, 115, 116] [(2, (pt b124 0)), (3, (pt b126 0)), (113, .bool true), (115, .slice p8 x1.f16.length c9), (116, (pt b126 23))] (by kernel_rfl) fun a hs => ?_
      refine s_load hs (hw.at_ 0 rfl) 23 (by kernel_rfl) (by kernel_rfl) (v := .slice p21 x14.f16.length c22) (by kernel_rfl) fun a hs => ?_
      obtain ⟨y198, h199, hx193⟩ := bindE hx193
      refine s_call hs (by kernel_rfl) (by kernel_rfl) (slices_EqualFunc_api_Update_api_Update_api_Update_api_Update_s h199 h10 (nilSub _) h23 (nilSub _) ((hw.pick [0, 1, 2] (by kernel_rfl)).pack 0)) fun a w v hv hs => ?_
      obtain ⟨rfl, hw⟩ := hv
      replace hw := hw.unpack 0 rfl
      refine pures hs 2 [2, 3, 120] [(2, (pt b124 0)), (3, (pt b126 0)), (120, .bool y198)] (by kernel_rfl) fun a hs => ?_
      rcases ifbE hx193 with ⟨h200, hx193⟩ | ⟨h200, hx193⟩
      · replace hs := hs.altB 120 true (by kernel_rfl) h200
        refine pures hs 1 [3, 120, 121] [(3, (pt b126 0)), (120, .bool true), (121, (pt b124 24))] (by kernel_rfl) fun a hs => ?_
        refine s_load hs (hw.at_ 1 rfl) 24 (by kernel_rfl) (by kernel_rfl) (v := .slice p11 x1.f17.length c12) (by kernel_rfl) fun a hs => ?_
        refine pures hs 1 [120, 122, 123] [(120, .bool true), (122, .slice p11 x1.f17.length c12), (123, (pt b126 24))] (by kernel_rfl) fun a hs => ?_
        refine s_load hs (hw.at_ 0 rfl) 24 (by kernel_rfl) (by kernel_rfl) (v := .slice p24 x14.f17.length c25) (by kernel_rfl) fun a hs => ?_
        obtain ⟨y201, h202, hx193⟩ := bindE hx193
        refine s_call hs (by kernel_rfl) (by kernel_rfl) (bytes_Equal_s h202 h13 (nilSub _) h26 (nilSub _) ((hw.pick [2] (by kernel_rfl)).pack 0)) fun a w v hv hs => ?_
        obtain ⟨rfl, hw⟩ := hv
        replace hw := hw.unpack 0 rfl
        refine pures hs 2 [4] [(4, .bool y201)] (by kernel_rfl) fun a hs => ?_
        refine s_end ?_
        obtain rfl := someE hx193
        exact (hJ194 _ _).2 ⟨y201, hk, hs.cast [4] (by kernel_rfl), hw.pick [0] (by kernel_rfl)⟩
      replace hs := hs.altB 120 false (by kernel_rfl) h200
      refine pures hs 7 [4] [(4, .bool false)] (by kernel_rfl) fun a hs => ?_
      refine s_end ?_
      obtain rfl := someE hx193
      exact (hJ194 _ _).2 ⟨false, hk, hs.cast [4] (by kernel_rfl), hw.pick [2] (by kernel_rfl)⟩
    replace hs := hs.altB 113 false (by kernel_rfl) h197
    refine pures hs 14 [4] [(4, .bool false)] (by kernel_rfl) fun a hs => ?_
    refine s_end ?_
    obtain rfl := someE hx193
    exact (hJ194 _ _).2 ⟨false, hk, hs.cast [4] (by kernel_rfl), hw.pick [2] (by kernel_rfl)⟩
  intro a w hh
  obtain ⟨x191, hk, hs, hw⟩ := (hJ194 _ _).1 hh
  refine c_ret ?_
  obtain rfl := someE hk
  refine hQ _ _ (f_ret1 hs rfl (v := .bool x191) (by kernel_rfl) ⟨rfl, hw.pick [0] (by kernel_rfl)⟩)
def letter_small : Option Unit :=
  some ()
theorem letter_small_s {r : Unit} (hk : letter_small = some r) {g w : World} {F : Ch} {ih : IH} (hw : St g w [F] ih) :
    CallsR Tryz.prog 129 #[vi64 1, .func (.func 130) #[] #[], .func (.func 131) #[] #[]] w fun v w' => ∃ (b27 : Nat) (b29 : Nat), v = .agg #[.func (.func 130) #[] #[], .func (.func 152) #[] #[(pt b27 0), (pt b29 0)], .func (.func 154) #[] #[(pt b29 0), (pt b27 0)]] ∧ St g w' [bx b27 [.func (.func 131) #[] #[]] 181, bx b29 [vi64 1] 3, F] ih := by
  refine f_in (vs := [vi64 1, .func (.func 130) #[] #[], .func (.func 131) #[] #[]]) Tryz.func129 rfl 11 rfl (by kernel_rfl) [(0, vi64 1), (1, .func (.func 130) #[] #[]), (2, .func (.func 131) #[] #[])] (by kernel_rfl) fun a Qf hQ hQn hs => ?_
  refine c_seq ?_
  refine c_region ?_
  refine s_new hs hw [vi64 1] 3 (fun b => (pt b 0)) (by kernel_rfl) (fun _ => by kernel_rfl) fun a w b21 hs hw => ?_
  refine s_new hs hw [.func (.func 131) #[] #[]] 181 (fun b => (pt b 0)) (by kernel_rfl) (fun _ => by kernel_rfl) fun a w b23 hs hw => ?_
  refine s_new hs hw [.nilFunc, .nilFunc, .nilFunc] 134 (fun b => (pt b 0)) (by kernel_rfl) (fun _ => by kernel_rfl) fun a w b25 hs hw => ?_
  refine s_end ?_
  refine c_seq ?_
  refine c_region ?_
  refine pures hs 4 [6, 10] [(6, (pt b25 0)), (10, .agg #[.func (.func 130) #[] #[], .func (.func 152) #[] #[(pt b23 0), (pt b21 0)], .func (.func 154) #[] #[(pt b21 0), (pt b23 0)]])] (by kernel_rfl) fun a hs => ?_
  refine s_store hs hw 0 rfl 0 (by kernel_rfl) (by kernel_rfl) (v := .agg #[.func (.func 130) #[] #[], .func (.func 152) #[] #[(pt b23 0), (pt b21 0)], .func (.func 154) #[] #[(pt b21 0), (pt b23 0)]]) (by kernel_rfl) (by kernel_rfl) (by kernel_rfl) (by kernel_rfl) fun a w hs hw => ?_
  refine s_end ?_
  refine c_ret ?_
  obtain rfl := someE hk
  refine hQ _ _ (f_retC hs rfl (hw.at_ 0 rfl) (by kernel_rfl) (v := .agg #[.func (.func 130) #[] #[], .func (.func 152) #[] #[(pt b23 0), (pt b21 0)], .func (.func 154) #[] #[(pt b21 0), (pt b23 0)]]) (by kernel_rfl) ⟨b23, b21, rfl, hw.pick [1, 2, 3] (by kernel_rfl)⟩)
def letter_small_2 : Option Unit :=
  some ()
theorem letter_small_2_s {r : Unit} (hk : letter_small_2 = some r) {g w : World} {F : Ch} {ih : IH} (hw : St g w [F] ih) :
    CallsR Tryz.prog 129 #[vi64 2, .func (.func 132) #[] #[], .func (.func 133) #[] #[]] w fun v w' => ∃ (b27 : Nat) (b29 : Nat), v = .agg #[.func (.func 132) #[] #[], .func (.func 152) #[] #[(pt b27 0), (pt b29 0)], .func (.func 154) #[] #[(pt b29 0), (pt b27 0)]] ∧ St g w' [bx b27 [.func (.func 133) #[] #[]] 181, bx b29 [vi64 2] 3, F] ih := by
  refine f_in (vs := [vi64 2, .func (.func 132) #[] #[], .func (.func 133) #[] #[]]) Tryz.func129 rfl 11 rfl (by kernel_rfl) [(0, vi64 2), (1, .func (.func 132) #[] #[]), (2, .func (.func 133) #[] #[])] (by kernel_rfl) fun a Qf hQ hQn hs => ?_
  refine c_seq ?_
  refine c_region ?_
  refine s_new hs hw [vi64 2] 3 (fun b => (pt b 0)) (by kernel_rfl) (fun _ => by kernel_rfl) fun a w b21 hs hw => ?_
  refine s_new hs hw [.func (.func 133) #[] #[]] 181 (fun b => (pt b 0)) (by kernel_rfl) (fun _ => by kernel_rfl) fun a w b23 hs hw => ?_
  refine s_new hs hw [.nilFunc, .nilFunc, .nilFunc] 134 (fun b => (pt b 0)) (by kernel_rfl) (fun _ => by kernel_rfl) fun a w b25 hs hw => ?_
  refine s_end ?_
  refine c_seq ?_
  refine c_region ?_
  refine pures hs 4 [6, 10] [(6, (pt b25 0)), (10, .agg #[.func (.func 132) #[] #[], .func (.func 152) #[] #[(pt b23 0), (pt b21 0)], .func (.func 154) #[] #[(pt b21 0), (pt b23 0)]])] (by kernel_rfl) fun a hs => ?_
  refine s_store hs hw 0 rfl 0 (by kernel_rfl) (by kernel_rfl) (v := .agg #[.func (.func 132) #[] #[], .func (.func 152) #[] #[(pt b23 0), (pt b21 0)], .func (.func 154) #[] #[(pt b21 0), (pt b23 0)]]) (by kernel_rfl) (by kernel_rfl) (by kernel_rfl) (by kernel_rfl) fun a w hs hw => ?_
  refine s_end ?_
  refine c_ret ?_
  obtain rfl := someE hk
  refine hQ _ _ (f_retC hs rfl (hw.at_ 0 rfl) (by kernel_rfl) (v := .agg #[.func (.func 132) #[] #[], .func (.func 152) #[] #[(pt b23 0), (pt b21 0)], .func (.func 154) #[] #[(pt b21 0), (pt b23 0)]]) (by kernel_rfl) ⟨b23, b21, rfl, hw.pick [1, 2, 3] (by kernel_rfl)⟩)
def letter_word : Option Unit :=
  some ()
theorem letter_word_s {r : Unit} (hk : letter_word = some r) {g w : World} {F : Ch} {ih : IH} (hw : St g w [F] ih) :
    CallsR Tryz.prog 134 #[.func (.func 135) #[] #[], .func (.func 136) #[] #[]] w fun v w' => ∃ (b19 : Nat), v = .agg #[.func (.func 135) #[] #[], .func (.func 156) #[] #[(pt b19 0)], .func (.func 157) #[] #[(pt b19 0)]] ∧ St g w' [bx b19 [.func (.func 136) #[] #[]] 184, F] ih := by
  refine f_in (vs := [.func (.func 135) #[] #[], .func (.func 136) #[] #[]]) Tryz.func134 rfl 9 rfl (by kernel_rfl) [(0, .func (.func 135) #[] #[]), (1, .func (.func 136) #[] #[])] (by kernel_rfl) fun a Qf hQ hQn hs => ?_
  refine c_seq ?_
  refine c_region ?_
  refine s_new hs hw [.func (.func 136) #[] #[]] 184 (fun b => (pt b 0)) (by kernel_rfl) (fun _ => by kernel_rfl) fun a w b15 hs hw => ?_
  refine s_new hs hw [.nilFunc, .nilFunc, .nilFunc] 134 (fun b => (pt b 0)) (by kernel_rfl) (fun _ => by kernel_rfl) fun a w b17 hs hw => ?_
  refine s_end ?_
  refine c_seq ?_
  refine c_region ?_
  refine pures hs 4 [4, 8] [(4, (pt b17 0)), (8, .agg #[.func (.func 135) #[] #[], .func (.func 156) #[] #[(pt b15 0)], .func (.func 157) #[] #[(pt b15 0)]])] (by kernel_rfl) fun a hs => ?_
  refine s_store hs hw 0 rfl 0 (by kernel_rfl) (by kernel_rfl) (v := .agg #[.func (.func 135) #[] #[], .func (.func 156) #[] #[(pt b15 0)], .func (.func 157) #[] #[(pt b15 0)]]) (by kernel_rfl) (by kernel_rfl) (by kernel_rfl) (by kernel_rfl) fun a w hs hw => ?_
  refine s_end ?_
  refine c_ret ?_
  obtain rfl := someE hk
  refine hQ _ _ (f_retC hs rfl (hw.at_ 0 rfl) (by kernel_rfl) (v := .agg #[.func (.func 135) #[] #[], .func (.func 156) #[] #[(pt b15 0)], .func (.func 157) #[] #[(pt b15 0)]]) (by kernel_rfl) ⟨b15, rfl, hw.pick [1, 2] (by kernel_rfl)⟩)
def letter_word_2 : Option Unit :=
  some ()
theorem letter_word_2_s {r : Unit} (hk : letter_word_2 = some r) {g w : World} {F : Ch} {ih : IH} (hw : St g w [F] ih) :
    CallsR Tryz.prog 134 #[.func (.func 137) #[] #[], .func (.func 139) #[] #[]] w fun v w' => ∃ (b19 : Nat), v = .agg #[.func (.func 137) #[] #[], .func (.func 156) #[] #[(pt b19 0)], .func (.func 157) #[] #[(pt b19 0)]] ∧ St g w' [bx b19 [.func (.func 139) #[] #[]] 184, F] ih := by
  refine f_in (vs := [.func (.func 137) #[] #[], .func (.func 139) #[] #[]]) Tryz.func134 rfl 9 rfl (by kernel_rfl) [(0, .func (.func 137) #[] #[]), (1, .func (.func 139) #[] #[])] (by kernel_rfl) fun a Qf hQ hQn hs => ?_
  refine c_seq ?_
  refine c_region ?_
  refine s_new hs hw [.func (.func 139) #[] #[]] 184 (fun b => (pt b 0)) (by kernel_rfl) (fun _ => by kernel_rfl) fun a w b15 hs hw => ?_
  refine s_new hs hw [.nilFunc, .nilFunc, .nilFunc] 134 (fun b => (pt b 0)) (by kernel_rfl) (fun _ => by kernel_rfl) fun a w b17 hs hw => ?_
  refine s_end ?_
  refine c_seq ?_
  refine c_region ?_
  refine pures hs 4 [4, 8] [(4, (pt b17 0)), (8, .agg #[.func (.func 137) #[] #[], .func (.func 156) #[] #[(pt b15 0)], .func (.func 157) #[] #[(pt b15 0)]])] (by kernel_rfl) fun a hs => ?_
  refine s_store hs hw 0 rfl 0 (by kernel_rfl) (by kernel_rfl) (v := .agg #[.func (.func 137) #[] #[], .func (.func 156) #[] #[(pt b15 0)], .func (.func 157) #[] #[(pt b15 0)]]) (by kernel_rfl) (by kernel_rfl) (by kernel_rfl) (by kernel_rfl) fun a w hs hw => ?_
  refine s_end ?_
  refine c_ret ?_
  obtain rfl := someE hk
  refine hQ _ _ (f_retC hs rfl (hw.at_ 0 rfl) (by kernel_rfl) (v := .agg #[.func (.func 137) #[] #[], .func (.func 156) #[] #[(pt b15 0)], .func (.func 157) #[] #[(pt b15 0)]]) (by kernel_rfl) ⟨b15, rfl, hw.pick [1, 2] (by kernel_rfl)⟩)
def letter_word_3 : Option Unit :=
  some ()
theorem letter_word_3_s {r : Unit} (hk : letter_word_3 = some r) {g w : World} {F : Ch} {ih : IH} (hw : St g w [F] ih) :
    CallsR Tryz.prog 134 #[.func (.func 140) #[] #[], .func (.func 141) #[] #[]] w fun v w' => ∃ (b19 : Nat), v = .agg #[.func (.func 140) #[] #[], .func (.func 156) #[] #[(pt b19 0)], .func (.func 157) #[] #[(pt b19 0)]] ∧ St g w' [bx b19 [.func (.func 141) #[] #[]] 184, F] ih := by
  refine f_in (vs := [.func (.func 140) #[] #[], .func (.func 141) #[] #[]]) Tryz.func134 rfl 9 rfl (by kernel_rfl) [(0, .func (.func 140) #[] #[]), (1, .func (.func 141) #[] #[])] (by kernel_rfl) fun a Qf hQ hQn hs => ?_
  refine c_seq ?_
  refine c_region ?_
  refine s_new hs hw [.func (.func 141) #[] #[]] 184 (fun b => (pt b 0)) (by kernel_rfl) (fun _ => by kernel_rfl) fun a w b15 hs hw => ?_
  refine s_new hs hw [.nilFunc, .nilFunc, .nilFunc] 134 (fun b => (pt b 0)) (by kernel_rfl) (fun _ => by kernel_rfl) fun a w b17 hs hw => ?_
  refine s_end ?_
  refine c_seq ?_
  refine c_region ?_
  refine pures hs 4 [4, 8] [(4, (pt b17 0)), (8, .agg #[.func (.func 140) #[] #[], .func (.func 156) #[] #[(pt b15 0)], .func (.func 157) #[] #[(pt b15 0)]])] (by kernel_rfl) fun a hs => ?_
  refine s_store hs hw 0 rfl 0 (by kernel_rfl) (by kernel_rfl) (v := .agg #[.func (.func 140) #[] #[], .func (.func 156) #[] #[(pt b15 0)], .func (.func 157) #[] #[(pt b15 0)]]) (by kernel_rfl) (by kernel_rfl) (by kernel_rfl) (by kernel_rfl) fun a w hs hw => ?_
  refine s_end ?_
  refine c_ret ?_
  obtain rfl := someE hk
  refine hQ _ _ (f_retC hs rfl (hw.at_ 0 rfl) (by kernel_rfl) (v := .agg #[.func (.func 140) #[] #[], .func (.func 156) #[] #[(pt b15 0)], .func (.func 157) #[] #[(pt b15 0)]]) (by kernel_rfl) ⟨b15, rfl, hw.pick [1, 2] (by kernel_rfl)⟩)
def letter_word_4 : Option Unit :=
  some ()
theorem letter_word_4_s {r : Unit} (hk : letter_word_4 = some r) {g w : World} {F : Ch} {ih : IH} (hw : St g w [F] ih) :
    CallsR Tryz.prog 134 #[.func (.func 140) #[] #[], .func (.func 142) #[] #[]] w fun v w' => ∃ (b19 : Nat), v = .agg #[.func (.func 140) #[] #[], .func (.func 156) #[] #[(pt b19 0)], .func (.func 157) #[] #[(pt b19 0)]] ∧ St g w' [bx b19 [.func (.func 142) #[] #[]] 184, F] ih := by
  refine f_in (vs := [.func (.func 140) #[] #[], .func (.func 142) #[] #[]]) Tryz.func134 rfl 9 rfl (by kernel_rfl) [(0, .func (.func 140) #[] #[]), (1, .func (.func 142) #[] #[])] (by kernel_rfl) fun a Qf hQ hQn hs => ?_
  refine c_seq ?_
  refine c_region ?_
  refine s_new hs hw [.func (.func 142) #[] #[]] 184 (fun b => (pt b 0)) (by kernel_rfl) (fun _ => by kernel_rfl) fun a w b15 hs hw => ?_
  refine s_new hs hw [.nilFunc, .nilFunc, .nilFunc] 134 (fun b => (pt b 0)) (by kernel_rfl) (fun _ => by kernel_rfl) fun a w b17 hs hw => ?_
  refine s_end ?_
  refine c_seq ?_
  refine c_region ?_
  refine pures hs 4 [4, 8] [(4, (pt b17 0)), (8, .agg #[.func (.func 140) #[] #[], .func (.func 156) #[] #[(pt b15 0)], .func (.func 157) #[] #[(pt b15 0)]])] (by kernel_rfl) fun a hs => ?_
  refine s_store hs hw 0 rfl 0 (by kernel_rfl) (by kernel_rfl) (v := .agg #[.func (.func 140) #[] #[], .func (.func 156) #[] #[(pt b15 0)], .func (.func 157) #[] #[(pt b15 0)]]) (by kernel_rfl) (by kernel_rfl) (by kernel_rfl) (by kernel_rfl) fun a w hs hw => ?_
  refine s_end ?_
  refine c_ret ?_
  obtain rfl := someE hk
  refine hQ _ _ (f_retC hs rfl (hw.at_ 0 rfl) (by kernel_rfl) (v := .agg #[.func (.func 140) #[] #[], .func (.func 156) #[] #[(pt b15 0)], .func (.func 157) #[] #[(pt b15 0)]]) (by kernel_rfl) ⟨b15, rfl, hw.pick [1, 2] (by kernel_rfl)⟩)
def letter_word_5 : Option Unit :=
  some ()
theorem letter_word_5_s {r : Unit} (hk : letter_word_5 = some r) {g w : World} {F : Ch} {ih : IH} (hw : St g w [F] ih) :
    CallsR Tryz.prog 134 #[.func (.func 140) #[] #[], .func (.func 143) #[] #[]] w fun v w' => ∃ (b19 : Nat), v = .agg #[.func (.func 140) #[] #[], .func (.func 156) #[] #[(pt b19 0)], .func (.func 157) #[] #[(pt b19 0)]] ∧ St g w' [bx b19 [.func (.func 143) #[] #[]] 184, F] ih := by
  refine f_in (vs := [.func (.func 140) #[] #[], .func (.func 143) #[] #[]]) Tryz.func134 rfl 9 rfl (by kernel_rfl) [(0, .func (.func 140) #[] #[]), (1, .func (.func 143) #[] #[])] (by kernel_rfl) fun a Qf hQ hQn hs => ?_
  refine c_seq ?_
  refine c_region ?_
  refine s_new hs hw [.func (.func 143) #[] #[]] 184 (fun b => (pt b 0)) (by kernel_rfl) (fun _ => by kernel_rfl) fun a w b15 hs hw => ?_
  refine s_new hs hw [.nilFunc, .nilFunc, .nilFunc] 134 (fun b => (pt b 0)) (by kernel_rfl) (fun _ => by kernel_rfl) fun a w b17 hs hw => ?_
  refine s_end ?_
  refine c_seq ?_
  refine c_region ?_
  refine pures hs 4 [4, 8] [(4, (pt b17 0)), (8, .agg #[.func (.func 140) #[] #[], .func (.func 156) #[] #[(pt b15 0)], .func (.func 157) #[] #[(pt b15 0)]])] (by kernel_rfl) fun a hs => ?_
  refine s_store hs hw 0 rfl 0 (by kernel_rfl) (by kernel_rfl) (v := .agg #[.func (.func 140) #[] #[], .func (.func 156) #[] #[(pt b15 0)], .func (.func 157) #[] #[(pt b15 0)]]) (by kernel_rfl) (by kernel_rfl) (by kernel_rfl) (by kernel_rfl) fun a w hs hw => ?_
  refine s_end ?_
  refine c_ret ?_
  obtain rfl := someE hk
  refine hQ _ _ (f_retC hs rfl (hw.at_ 0 rfl) (by kernel_rfl) (v := .agg #[.func (.func 140) #[] #[], .func (.func 156) #[] #[(pt b15 0)], .func (.func 157) #[] #[(pt b15 0)]]) (by kernel_rfl) ⟨b15, rfl, hw.pick [1, 2] (by kernel_rfl)⟩)
def letter_word_6 : Option Unit :=
  some ()
theorem letter_word_6_s {r : Unit} (hk : letter_word_6 = some r) {g w : World} {F : Ch} {ih : IH} (hw : St g w [F] ih) :
    CallsR Tryz.prog 134 #[.func (.func 140) #[] #[], .func (.func 144) #[] #[]] w fun v w' => ∃ (b19 : Nat), v = .agg #[.func (.func 140) #[] #[], .func (.func 156) #[] #[(pt b19 0)], .func (.func 157) #[] #[(pt b19 0)]] ∧ St g w' [bx b19 [.func (.func 144) #[] #[]] 184, F] ih := by
  refine f_in (vs := [.func (.func 140) #[] #[], .func (.func 144) #[] #[]]) Tryz.func134 rfl 9 rfl (by kernel_rfl) [(0, .func (.func 140) #[] #[]), (1, .func (.func 144) #[] #[])] (by kernel_rfl) fun a Qf hQ hQn hs => ?_
  refine c_seq ?_
  refine c_region ?_
  refine s_new hs hw [.func (.func 144) #[] #[]] 184 (fun b => (pt b 0)) (by kernel_rfl) (fun _ => by kernel_rfl) fun a w b15 hs hw => ?_
  refine s_new hs hw [.nilFunc, .nilFunc, .nilFunc] 134 (fun b => (pt b 0)) (by kernel_rfl) (fun _ => by kernel_rfl) fun a w b17 hs hw => ?_
  refine s_end ?_
  refine c_seq ?_
  refine c_region ?_
  refine pures hs 4 [4, 8] [(4, (pt b17 0)), (8, .agg #[.func (.func 140) #[] #[], .func (.func 156) #[] #[(pt b15 0)], .func (.func 157) #[] #[(pt b15 0)]])] (by kernel_rfl) fun a hs => ?_
  refine s_store hs hw 0 rfl 0 (by kernel_rfl) (by kernel_rfl) (v := .agg #[.func (.func 140) #[] #[], .func (.func 156) #[] #[(pt b15 0)], .func (.func 157) #[] #[(pt b15 0)]]) (by kernel_rfl) (by kernel_rfl) (by kernel_rfl) (by kernel_rfl) fun a w hs hw => ?_
  refine s_end ?_
  refine c_ret ?_
  obtain rfl := someE hk
  refine hQ _ _ (f_retC hs rfl (hw.at_ 0 rfl) (by kernel_rfl) (v := .agg #[.func (.func 140) #[] #[], .func (.func 156) #[] #[(pt b15 0)], .func (.func 157) #[] #[(pt b15 0)]]) (by kernel_rfl) ⟨b15, rfl, hw.pick [1, 2] (by kernel_rfl)⟩)
end Go.Proofs.YteiinkhbgpldeaaGreatDoor.Sx
