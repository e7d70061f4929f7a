/- The walk of CallerNil: each Go function that it calls, as a plain function, and the proof that the call computes it. Printed by the program gen.py.
   Conditions: those that each theorem states ahead of its colon, and no other. -/
import Derived.Test.YteiinkhbgpldeaaGreatDoorWCallerNil0
namespace Go.Proofs.YteiinkhbgpldeaaGreatDoor.Sx
open Go Go.Proofs
set_option maxRecDepth 100000
set_option linter.unusedVariables false
def letter_bare_r46 (x1 : M48) (x1831 : Int) (x1850 : Int) (x1869 : Int) (x1945 : Int) (x1888 : Int) (x1907 : Int) (x2002 : Int) (x1926 : Int) (x1983 : Int) (x1964 : Int) (x2021 : Int) (x2022 : Int) (x2023 : Int) (x2024 : Int) (x2055 : Int) (x2056 : Int) (x2057 : List Int) (x2061 : Bool) (x2062 : Int) (x2093 : List M156) (x2127 : List M96) (x2161 : List Int) : Option M48 :=
  some (M48.mk x1.f0 x1.f1 x1.f2 x1831 x1850 x1869 x1945 x1888 x1907 x2002 x1926 x1983 x1964 (M41.mk x2021 x2022 x2023 x2024) (M44.mk x2055 x2056 x2057 x2061 x2062) x2093 x2127 x2161)
def letter_bare_r47 (x1232 : Int) (x1 : M48) (x1831 : Int) (x1850 : Int) (x1869 : Int) (x1945 : Int) (x1888 : Int) (x1907 : Int) (x2002 : Int) (x1926 : Int) (x1983 : Int) (x1964 : Int) (x2021 : Int) (x2022 : Int) (x2023 : Int) (x2024 : Int) (x2055 : Int) (x2056 : Int) (x2057 : List Int) (x2061 : Bool) (x2062 : Int) (x2093 : List M156) (x2127 : List M96) : Option M48 :=
  (if ((bAnd .i64 x1232 16384) != 0) = true then (
      (letter_bare_15 x1.f17).bind fun y2178 =>
      some y2178)
    else some ([]) : Option (List Int)).bind fun s2183 => letter_bare_r46 x1 x1831 x1850 x1869 x1945 x1888 x1907 x2002 x1926 x1983 x1964 x2021 x2022 x2023 x2024 x2055 x2056 x2057 x2061 x2062 x2093 x2127 s2183
def letter_bare_r48 (x1232 : Int) (x1 : M48) (x1831 : Int) (x1850 : Int) (x1869 : Int) (x1945 : Int) (x1888 : Int) (x1907 : Int) (x2002 : Int) (x1926 : Int) (x1983 : Int) (x1964 : Int) (x2021 : Int) (x2022 : Int) (x2023 : Int) (x2024 : Int) (x2055 : Int) (x2056 : Int) (x2057 : List Int) (x2061 : Bool) (x2062 : Int) (x2093 : List M156) : Option M48 :=
  (if ((bAnd .i64 x1232 8192) != 0) = true then (
      (letter_bare_14 x1.f16).bind fun y2197 =>
      some y2197)
    else some ([]) : Option (List M96)).bind fun s2202 => letter_bare_r47 x1232 x1 x1831 x1850 x1869 x1945 x1888 x1907 x2002 x1926 x1983 x1964 x2021 x2022 x2023 x2024 x2055 x2056 x2057 x2061 x2062 x2093 s2202
def letter_bare_r49 (x1232 : Int) (x1 : M48) (x1831 : Int) (x1850 : Int) (x1869 : Int) (x1945 : Int) (x1888 : Int) (x1907 : Int) (x2002 : Int) (x1926 : Int) (x1983 : Int) (x1964 : Int) (x2021 : Int) (x2022 : Int) (x2023 : Int) (x2024 : Int) (x2055 : Int) (x2056 : Int) (x2057 : List Int) (x2061 : Bool) (x2062 : Int) : Option M48 :=
  (if ((bAnd .i64 x1232 4096) != 0) = true then (
      (letter_bare_13 x1.f15).bind fun y2216 =>
      some y2216)
    else some ([]) : Option (List M156)).bind fun s2221 => letter_bare_r48 x1232 x1 x1831 x1850 x1869 x1945 x1888 x1907 x2002 x1926 x1983 x1964 x2021 x2022 x2023 x2024 x2055 x2056 x2057 x2061 x2062 s2221
def letter_bare_r50 (x1232 : Int) (x1 : M48) (x1831 : Int) (x1850 : Int) (x1869 : Int) (x1945 : Int) (x1888 : Int) (x1907 : Int) (x2002 : Int) (x1926 : Int) (x1983 : Int) (x1964 : Int) (x2021 : Int) (x2022 : Int) (x2023 : Int) (x2024 : Int) : Option M48 :=
  (if ((bAnd .i64 x1232 2048) != 0) = true then (
      (letter_bare_12 x1.f14.f0 x1.f14.f1 x1.f14.f2 x1.f14.f3 x1.f14.f4).bind fun y2235 =>
      some (y2235.1, y2235.2.1, y2235.2.2.1, y2235.2.2.2.1, y2235.2.2.2.2))
    else some (0, 0, [], false, 0) : Option (Int × Int × (List Int) × Bool × Int)).bind fun s2240 => letter_bare_r49 x1232 x1 x1831 x1850 x1869 x1945 x1888 x1907 x2002 x1926 x1983 x1964 x2021 x2022 x2023 x2024 s2240.1 s2240.2.1 s2240.2.2.1 s2240.2.2.2.1 s2240.2.2.2.2
def letter_bare_r51 (x1232 : Int) (x1 : M48) (x1831 : Int) (x1850 : Int) (x1869 : Int) (x1945 : Int) (x1888 : Int) (x1907 : Int) (x1926 : Int) (x1983 : Int) (x1964 : Int) (x2002 : Int) : Option M48 :=
  (if ((bAnd .i64 x1232 1024) != 0) = true then (
      (letter_bare_11 x1.f13.f0 x1.f13.f1 x1.f13.f2 x1.f13.f3).bind fun y2251 =>
      some (y2251.1, y2251.2.1, y2251.2.2.1, y2251.2.2.2))
    else some (0, 0, 0, 0) : Option (Int × Int × Int × Int)).bind fun s2253 => letter_bare_r50 x1232 x1 x1831 x1850 x1869 x1945 x1888 x1907 x2002 x1926 x1983 x1964 s2253.1 s2253.2.1 s2253.2.2.1 s2253.2.2.2
def letter_bare_r52 (x1232 : Int) (x1 : M48) (x1831 : Int) (x1850 : Int) (x1869 : Int) (x1945 : Int) (x1888 : Int) (x1907 : Int) (x1926 : Int) (x1964 : Int) (x1983 : Int) : Option M48 :=
  (if ((bAnd .i64 x1232 512) != 0) = true then (
      (letter_bare_10 x1.f9).bind fun y2264 =>
      some y2264)
    else some 0 : Option Int).bind fun s2266 => letter_bare_r51 x1232 x1 x1831 x1850 x1869 x1945 x1888 x1907 x1926 x1983 x1964 s2266
def letter_bare_r53 (x1232 : Int) (x1 : M48) (x1831 : Int) (x1850 : Int) (x1869 : Int) (x1945 : Int) (x1888 : Int) (x1907 : Int) (x1926 : Int) (x1964 : Int) : Option M48 :=
  (if ((bAnd .i64 x1232 256) != 0) = true then (
      (letter_bare_9 x1.f11).bind fun y2277 =>
      some y2277)
    else some 0 : Option Int).bind fun s2279 => letter_bare_r52 x1232 x1 x1831 x1850 x1869 x1945 x1888 x1907 x1926 x1964 s2279
def letter_bare_r54 (x1232 : Int) (x1 : M48) (x1831 : Int) (x1850 : Int) (x1869 : Int) (x1888 : Int) (x1907 : Int) (x1926 : Int) (x1945 : Int) : Option M48 :=
  (if ((bAnd .i64 x1232 128) != 0) = true then (
      (letter_bare_8 x1.f12).bind fun y2290 =>
      some y2290)
    else some 0 : Option Int).bind fun s2292 => letter_bare_r53 x1232 x1 x1831 x1850 x1869 x1945 x1888 x1907 x1926 s2292
def letter_bare_r55 (x1232 : Int) (x1 : M48) (x1831 : Int) (x1850 : Int) (x1869 : Int) (x1888 : Int) (x1907 : Int) (x1926 : Int) : Option M48 :=
  (if ((bAnd .i64 x1232 64) != 0) = true then (
      (letter_bare_7 x1.f6).bind fun y2303 =>
      some y2303)
    else some 0 : Option Int).bind fun s2305 => letter_bare_r54 x1232 x1 x1831 x1850 x1869 x1888 x1907 x1926 s2305
def letter_bare_r56 (x1232 : Int) (x1 : M48) (x1831 : Int) (x1850 : Int) (x1869 : Int) (x1888 : Int) (x1907 : Int) : Option M48 :=
  (if ((bAnd .i64 x1232 32) != 0) = true then (
      (letter_bare_6 x1.f10).bind fun y2316 =>
      some y2316)
    else some 0 : Option Int).bind fun s2318 => letter_bare_r55 x1232 x1 x1831 x1850 x1869 x1888 x1907 s2318
def letter_bare_r57 (x1232 : Int) (x1 : M48) (x1831 : Int) (x1850 : Int) (x1869 : Int) (x1888 : Int) : Option M48 :=
  (if ((bAnd .i64 x1232 16) != 0) = true then (
      (letter_bare_5 x1.f8).bind fun y2329 =>
      some y2329)
    else some 0 : Option Int).bind fun s2331 => letter_bare_r56 x1232 x1 x1831 x1850 x1869 x1888 s2331
def letter_bare_r58 (x1232 : Int) (x1 : M48) (x1831 : Int) (x1850 : Int) (x1869 : Int) : Option M48 :=
  (if ((bAnd .i64 x1232 8) != 0) = true then (
      (letter_bare_4 x1.f7).bind fun y2342 =>
      some y2342)
    else some 0 : Option Int).bind fun s2344 => letter_bare_r57 x1232 x1 x1831 x1850 x1869 s2344
def letter_bare_r59 (x1232 : Int) (x1 : M48) (x1831 : Int) (x1850 : Int) : Option M48 :=
  (if ((bAnd .i64 x1232 4) != 0) = true then (
      (letter_bare_3 x1.f5).bind fun y2355 =>
      some y2355)
    else some 0 : Option Int).bind fun s2357 => letter_bare_r58 x1232 x1 x1831 x1850 s2357
def letter_bare_r60 (x1232 : Int) (x1 : M48) (x1831 : Int) : Option M48 :=
  (if ((bAnd .i64 x1232 2) != 0) = true then (
      (letter_bare_2 x1.f4).bind fun y2368 =>
      some y2368)
    else some 0 : Option Int).bind fun s2370 => letter_bare_r59 x1232 x1 x1831 s2370
def letter_bare (x1 : M48) : Option M48 :=
  (ix gtab161 x1.f0).bind fun x1213 =>
  (some (bOr .i64 (bOr .i64 (bOr .i64 0 x1213.f1.f0) x1213.f1.f1) x1213.f1.f2)).bind fun x1228 =>
  (some (bOr .i64 (bOr .i64 (bOr .i64 x1228 x1213.f1.f3) x1213.f1.f4) x1213.f1.f5)).bind fun x1232 =>
  (if ((bAnd .i64 x1232 1) != 0) = true then (
      (letter_bare_1 x1.f3).bind fun y2381 =>
      some y2381)
    else some 0 : Option Int).bind fun s2383 => letter_bare_r60 x1232 x1 s2383
theorem letter_bare_s {x1 : M48} {p2 : Option Addr} {c3 : Nat} {p5 : Option Addr} {c6 : Nat} {p8 : Option Addr} {c9 : Nat} {p11 : Option Addr} {c12 : Nat} {r : M48} (hk : letter_bare x1 = some r) {g w : World} {F : Ch} {ih : IH} (h4 : RSl e3 ih [] p2 c3 x1.f14.f2) (h7 : RSl e156 ih [] p5 c6 x1.f15) (h10 : RSl e96 ih [] p8 c9 x1.f16) (h13 : RSl e5 ih [] p11 c12 x1.f17) (hG : Glob 0 gl0 162 ih) (hw : St g w [F] ih) :
    CallsR Tryz.prog 60 #[.agg #[vi64 x1.f0, vi64 x1.f1, vi64 x1.f2, vi64 x1.f3, vu64 x1.f4, vu64 x1.f5, vu64 x1.f6, vu64 x1.f7, vu64 x1.f8, vu64 x1.f9, vi64 x1.f10, vu32 x1.f11, vi64 x1.f12, vi64 x1.f13.f0, vi64 x1.f13.f1, vu64 x1.f13.f2, vi64 x1.f13.f3, vi64 x1.f14.f0, vu64 x1.f14.f1, .slice p2 x1.f14.f2.length c3, .bool x1.f14.f3, vi64 x1.f14.f4, .slice p5 x1.f15.length c6, .slice p8 x1.f16.length c9, .slice p11 x1.f17.length c12]] w fun v w' => ∃ (p2384 : Option Addr) (c2385 : Nat) (p2387 : Option Addr) (c2388 : Nat) (p2390 : Option Addr) (c2391 : Nat) (p2393 : Option Addr) (c2394 : Nat), v = .agg #[vi64 r.f0, vi64 r.f1, vi64 r.f2, vi64 r.f3, vu64 r.f4, vu64 r.f5, vu64 r.f6, vu64 r.f7, vu64 r.f8, vu64 r.f9, vi64 r.f10, vu32 r.f11, vi64 r.f12, vi64 r.f13.f0, vi64 r.f13.f1, vu64 r.f13.f2, vi64 r.f13.f3, vi64 r.f14.f0, vu64 r.f14.f1, .slice p2384 r.f14.f2.length c2385, .bool r.f14.f3, vi64 r.f14.f4, .slice p2387 r.f15.length c2388, .slice p2390 r.f16.length c2391, .slice p2393 r.f17.length c2394] ∧ St g w' [F] ih ∧ RSl e3 ih [] p2384 c2385 r.f14.f2 ∧ RSl e156 ih [] p2387 c2388 r.f15 ∧ RSl e96 ih [] p2390 c2391 r.f16 ∧ RSl e5 ih [] p2393 c2394 r.f17 := by
  refine f_in (vs := [.agg #[vi64 x1.f0, vi64 x1.f1, vi64 x1.f2, vi64 x1.f3, vu64 x1.f4, vu64 x1.f5, vu64 x1.f6, vu64 x1.f7, vu64 x1.f8, vu64 x1.f9, vi64 x1.f10, vu32 x1.f11, vi64 x1.f12, vi64 x1.f13.f0, vi64 x1.f13.f1, vu64 x1.f13.f2, vi64 x1.f13.f3, vi64 x1.f14.f0, vu64 x1.f14.f1, .slice p2 x1.f14.f2.length c3, .bool x1.f14.f3, vi64 x1.f14.f4, .slice p5 x1.f15.length c6, .slice p8 x1.f16.length c9, .slice p11 x1.f17.length c12]]) Tryz.func60 rfl 74 rfl (by kernel_rfl) [(0, .agg #[vi64 x1.f0, vi64 x1.f1, vi64 x1.f2, vi64 x1.f3, vu64 x1.f4, vu64 x1.f5, vu64 x1.f6, vu64 x1.f7, vu64 x1.f8, vu64 x1.f9, vi64 x1.f10, vu32 x1.f11, vi64 x1.f12, vi64 x1.f13.f0, vi64 x1.f13.f1, vu64 x1.f13.f2, vi64 x1.f13.f3, vi64 x1.f14.f0, vu64 x1.f14.f1, .slice p2 x1.f14.f2.length c3, .bool x1.f14.f3, vi64 x1.f14.f4, .slice p5 x1.f15.length c6, .slice p8 x1.f16.length c9, .slice p11 x1.f17.length c12])] (by kernel_rfl) fun a Qf hQ hQn hs => ?_
  refine c_seq ?_
  refine c_region ?_
  refine s_new hs hw [vi64 x1.f0, vi64 x1.f1, vi64 x1.f2, vi64 x1.f3, vu64 x1.f4, vu64 x1.f5, vu64 x1.f6, vu64 x1.f7, vu64 x1.f8, vu64 x1.f9, vi64 x1.f10, vu32 x1.f11, vi64 x1.f12, vi64 x1.f13.f0, vi64 x1.f13.f1, vu64 x1.f13.f2, vi64 x1.f13.f3, vi64 x1.f14.f0, vu64 x1.f14.f1, .slice p2 x1.f14.f2.length c3, .bool x1.f14.f3, vi64 x1.f14.f4, .slice p5 x1.f15.length c6, .slice p8 x1.f16.length c9, .slice p11 x1.f17.length c12] 48 (fun b => (pt b 0)) (by kernel_rfl) (fun _ => by kernel_rfl) fun a w b1204 hs hw => ?_
  refine s_new hs hw [vi64 0, vi64 0, vi64 0, vi64 0, vu64 0, vu64 0, vu64 0, vu64 0, vu64 0, vu64 0, vi64 0, vu32 0, vi64 0, vi64 0, vi64 0, vu64 0, vi64 0, vi64 0, vu64 0, .slice none 0 0, .bool false, vi64 0, .slice none 0 0, .slice none 0 0, .slice none 0 0] 48 (fun b => (pt b 0)) (by kernel_rfl) (fun _ => by kernel_rfl) fun a w b1206 hs hw => ?_
  refine s_end ?_
  refine c_seq ?_
  refine c_region ?_
  refine pures hs 1 [1, 2, 3] [(1, (pt b1204 0)), (2, (pt b1206 0)), (3, vi64 0)] (by kernel_rfl) fun a hs => ?_
  refine s_end ?_
  refine c_seq ?_
  refine c_seq ?_
  refine c_region ?_
  refine pures hs 1 [1, 2, 3, 9] [(1, (pt b1204 0)), (2, (pt b1206 0)), (3, vi64 0), (9, (pt b1204 0))] (by kernel_rfl) fun a hs => ?_
  refine s_load hs (hw.at_ 1 rfl) 0 (by kernel_rfl) (by kernel_rfl) (v := vi64 x1.f0) (by kernel_rfl) fun a hs => ?_
  obtain ⟨x1213, h1214, hk⟩ := bindE hk
  refine s_indexA hs (gtab161_row hG) (by kernel_rfl) (by kernel_rfl) (k := .i64) (by kernel_rfl) 161 (by kernel_rfl) (by kernel_rfl) h1214 fun a r1215 cs henc at1216 hs => ?_
  obtain ⟨rfl, h1217⟩ := henc
  refine pures hs 1 [1, 2, 3, 12] [(1, (pt b1204 0)), (2, (pt b1206 0)), (3, vi64 0), (12, .pointer (some (r1215.add 1)))] (by kernel_rfl) fun a hs => ?_
  refine s_load hs (at1216 _ (hw.vwAll.nil.anti (Le.refl _))) 1 (by kernel_rfl) (by kernel_rfl) (v := .agg #[vi64 x1213.f1.f0, vi64 x1213.f1.f1, vi64 x1213.f1.f2, vi64 x1213.f1.f3, vi64 x1213.f1.f4, vi64 x1213.f1.f5]) (by kernel_rfl) fun a hs => ?_
  refine pures hs 1 [1, 2, 3, 13, 14] [(1, (pt b1204 0)), (2, (pt b1206 0)), (3, vi64 0), (13, .agg #[vi64 x1213.f1.f0, vi64 x1213.f1.f1, vi64 x1213.f1.f2, vi64 x1213.f1.f3, vi64 x1213.f1.f4, vi64 x1213.f1.f5]), (14, vi64 0)] (by kernel_rfl) fun a hs => ?_
  refine s_end ?_
  refine c_block ?_
  refine wpIn_loop_rounds 7 ?_
  refine c_unr ?_
  refine c_seq ?_
  refine c_region ?_
  refine pures hs 1 [1, 2, 3, 13, 14, 15] [(1, (pt b1204 0)), (2, (pt b1206 0)), (3, vi64 0), (13, .agg #[vi64 x1213.f1.f0, vi64 x1213.f1.f1, vi64 x1213.f1.f2, vi64 x1213.f1.f3, vi64 x1213.f1.f4, vi64 x1213.f1.f5]), (14, vi64 0), (15, .bool true)] (by kernel_rfl) fun a hs => ?_
  refine s_end ?_
  refine c_seq ?_
  refine c_condT hs (by kernel_rfl) (by kernel_rfl) ?_
  refine c_skip ?_
  refine c_seq ?_
  refine c_block ?_
  refine c_seq ?_
  refine c_region ?_
  refine pures hs 2 [1, 2, 3, 13, 14, 5] [(1, (pt b1204 0)), (2, (pt b1206 0)), (3, vi64 0), (13, .agg #[vi64 x1213.f1.f0, vi64 x1213.f1.f1, vi64 x1213.f1.f2, vi64 x1213.f1.f3, vi64 x1213.f1.f4, vi64 x1213.f1.f5]), (14, vi64 0), (5, vi64 x1213.f1.f0)] (by kernel_rfl) fun a hs => ?_
  refine s_end ?_
  refine c_region ?_
  refine pures hs 4 [1, 2, 3, 13, 14] [(1, (pt b1204 0)), (2, (pt b1206 0)), (3, vi64 (bOr .i64 0 x1213.f1.f0)), (13, .agg #[vi64 x1213.f1.f0, vi64 x1213.f1.f1, vi64 x1213.f1.f2, vi64 x1213.f1.f3, vi64 x1213.f1.f4, vi64 x1213.f1.f5]), (14, vi64 0)] (by kernel_rfl) fun a hs => ?_
  refine s_end ?_
  refine c_region ?_
  refine pures hs 2 [1, 2, 3, 13, 14] [(1, (pt b1204 0)), (2, (pt b1206 0)), (3, vi64 (bOr .i64 0 x1213.f1.f0)), (13, .agg #[vi64 x1213.f1.f0, vi64 x1213.f1.f1, vi64 x1213.f1.f2, vi64 x1213.f1.f3, vi64 x1213.f1.f4, vi64 x1213.f1.f5]), (14, vi64 1)] (by kernel_rfl) fun a hs => ?_
  refine s_end ?_
  refine c_unr ?_
  refine c_seq ?_
  refine c_region ?_
  refine pures hs 1 [1, 2, 3, 13, 14, 15] [(1, (pt b1204 0)), (2, (pt b1206 0)), (3, vi64 (bOr .i64 0 x1213.f1.f0)), (13, .agg #[vi64 x1213.f1.f0, vi64 x1213.f1.f1, vi64 x1213.f1.f2, vi64 x1213.f1.f3, vi64 x1213.f1.f4, vi64 x1213.f1.f5]), (14, vi64 1), (15, .bool true)] (by kernel_rfl) fun a hs => ?_
  refine s_end ?_
  refine c_seq ?_
  refine c_condT hs (by kernel_rfl) (by kernel_rfl) ?_
  refine c_skip ?_
  refine c_seq ?_
  refine c_block ?_
  refine c_seq ?_
  refine c_region ?_
  refine pures hs 2 [1, 2, 3, 13, 14, 5] [(1, (pt b1204 0)), (2, (pt b1206 0)), (3, vi64 (bOr .i64 0 x1213.f1.f0)), (13, .agg #[vi64 x1213.f1.f0, vi64 x1213.f1.f1, vi64 x1213.f1.f2, vi64 x1213.f1.f3, vi64 x1213.f1.f4, vi64 x1213.f1.f5]), (14, vi64 1), (5, vi64 x1213.f1.f1)] (by kernel_rfl) fun a hs => ?_
  refine s_end ?_
  refine c_region ?_
  refine pures hs 4 [1, 2, 3, 13, 14] [(1, (pt b1204 0)), (2, (pt b1206 0)), (3, vi64 (bOr .i64 (bOr .i64 0 x1213.f1.f0) x1213.f1.f1)), (13, .agg #[vi64 x1213.f1.f0, vi64 x1213.f1.f1, vi64 x1213.f1.f2, vi64 x1213.f1.f3, vi64 x1213.f1.f4, vi64 x1213.f1.f5]), (14, vi64 1)] (by kernel_rfl) fun a hs => ?_
  refine s_end ?_
  refine c_region ?_
  refine pures hs 2 [1, 2, 3, 13, 14] [(1, (pt b1204 0)), (2, (pt b1206 0)), (3, vi64 (bOr .i64 (bOr .i64 0 x1213.f1.f0) x1213.f1.f1)), (13, .agg #[vi64 x1213.f1.f0, vi64 x1213.f1.f1, vi64 x1213.f1.f2, vi64 x1213.f1.f3, vi64 x1213.f1.f4, vi64 x1213.f1.f5]), (14, vi64 2)] (by kernel_rfl) fun a hs => ?_
  refine s_end ?_
  refine c_unr ?_
  refine c_seq ?_
  refine c_region ?_
  refine pures hs 1 [1, 2, 3, 13, 14, 15] [(1, (pt b1204 0)), (2, (pt b1206 0)), (3, vi64 (bOr .i64 (bOr .i64 0 x1213.f1.f0) x1213.f1.f1)), (13, .agg #[vi64 x1213.f1.f0, vi64 x1213.f1.f1, vi64 x1213.f1.f2, vi64 x1213.f1.f3, vi64 x1213.f1.f4, vi64 x1213.f1.f5]), (14, vi64 2), (15, .bool true)] (by kernel_rfl) fun a hs => ?_
  refine s_end ?_
  refine c_seq ?_
  refine c_condT hs (by kernel_rfl) (by kernel_rfl) ?_
  refine c_skip ?_
  refine c_seq ?_
  refine c_block ?_
  refine c_seq ?_
  refine c_region ?_
  refine pures hs 2 [1, 2, 3, 13, 14, 5] [(1, (pt b1204 0)), (2, (pt b1206 0)), (3, vi64 (bOr .i64 (bOr .i64 0 x1213.f1.f0) x1213.f1.f1)), (13, .agg #[vi64 x1213.f1.f0, vi64 x1213.f1.f1, vi64 x1213.f1.f2, vi64 x1213.f1.f3, vi64 x1213.f1.f4, vi64 x1213.f1.f5]), (14, vi64 2), (5, vi64 x1213.f1.f2)] (by kernel_rfl) fun a hs => ?_
  refine s_end ?_
  refine c_region ?_
  refine pures hs 3 [1, 2, 13, 14, 19] [(1, (pt b1204 0)), (2, (pt b1206 0)), (13, .agg #[vi64 x1213.f1.f0, vi64 x1213.f1.f1, vi64 x1213.f1.f2, vi64 x1213.f1.f3, vi64 x1213.f1.f4, vi64 x1213.f1.f5]), (14, vi64 2), (19, vi64 (bOr .i64 (bOr .i64 (bOr .i64 0 x1213.f1.f0) x1213.f1.f1) x1213.f1.f2))] (by kernel_rfl) fun a hs => ?_
  obtain ⟨x1228, h1229, hk⟩ := bindE hk
  replace hs := hs.alt 19 (by kernel_rfl) (congrArg (Value.int .i64) (someE h1229))
  refine pures hs 1 [1, 2, 13, 14, 3] [(1, (pt b1204 0)), (2, (pt b1206 0)), (13, .agg #[vi64 x1213.f1.f0, vi64 x1213.f1.f1, vi64 x1213.f1.f2, vi64 x1213.f1.f3, vi64 x1213.f1.f4, vi64 x1213.f1.f5]), (14, vi64 2), (3, vi64 x1228)] (by kernel_rfl) fun a hs => ?_
  refine s_end ?_
  refine c_region ?_
  refine pures hs 2 [1, 2, 13, 14, 3] [(1, (pt b1204 0)), (2, (pt b1206 0)), (13, .agg #[vi64 x1213.f1.f0, vi64 x1213.f1.f1, vi64 x1213.f1.f2, vi64 x1213.f1.f3, vi64 x1213.f1.f4, vi64 x1213.f1.f5]), (14, vi64 3), (3, vi64 x1228)] (by kernel_rfl) fun a hs => ?_
  refine s_end ?_
  refine c_unr ?_
  refine c_seq ?_
  refine c_region ?_
  refine pures hs 1 [1, 2, 13, 14, 3, 15] [(1, (pt b1204 0)), (2, (pt b1206 0)), (13, .agg #[vi64 x1213.f1.f0, vi64 x1213.f1.f1, vi64 x1213.f1.f2, vi64 x1213.f1.f3, vi64 x1213.f1.f4, vi64 x1213.f1.f5]), (14, vi64 3), (3, vi64 x1228), (15, .bool true)] (by kernel_rfl) fun a hs => ?_
  refine s_end ?_
  refine c_seq ?_
  refine c_condT hs (by kernel_rfl) (by kernel_rfl) ?_
  refine c_skip ?_
  refine c_seq ?_
  refine c_block ?_
  refine c_seq ?_
  refine c_region ?_
  refine pures hs 2 [1, 2, 13, 14, 3, 5] [(1, (pt b1204 0)), (2, (pt b1206 0)), (13, .agg #[vi64 x1213.f1.f0, vi64 x1213.f1.f1, vi64 x1213.f1.f2, vi64 x1213.f1.f3, vi64 x1213.f1.f4, vi64 x1213.f1.f5]), (14, vi64 3), (3, vi64 x1228), (5, vi64 x1213.f1.f3)] (by kernel_rfl) fun a hs => ?_
  refine s_end ?_
  refine c_region ?_
  refine pures hs 4 [1, 2, 13, 14, 3] [(1, (pt b1204 0)), (2, (pt b1206 0)), (13, .agg #[vi64 x1213.f1.f0, vi64 x1213.f1.f1, vi64 x1213.f1.f2, vi64 x1213.f1.f3, vi64 x1213.f1.f4, vi64 x1213.f1.f5]), (14, vi64 3), (3, vi64 (bOr .i64 x1228 x1213.f1.f3))] (by kernel_rfl) fun a hs => ?_
  refine s_end ?_
  refine c_region ?_
  refine pures hs 2 [1, 2, 13, 14, 3] [(1, (pt b1204 0)), (2, (pt b1206 0)), (13, .agg #[vi64 x1213.f1.f0, vi64 x1213.f1.f1, vi64 x1213.f1.f2, vi64 x1213.f1.f3, vi64 x1213.f1.f4, vi64 x1213.f1.f5]), (14, vi64 4), (3, vi64 (bOr .i64 x1228 x1213.f1.f3))] (by kernel_rfl) fun a hs => ?_
  refine s_end ?_
  refine c_unr ?_
  refine c_seq ?_
  refine c_region ?_
  refine pures hs 1 [1, 2, 13, 14, 3, 15] [(1, (pt b1204 0)), (2, (pt b1206 0)), (13, .agg #[vi64 x1213.f1.f0, vi64 x1213.f1.f1, vi64 x1213.f1.f2, vi64 x1213.f1.f3, vi64 x1213.f1.f4, vi64 x1213.f1.f5]), (14, vi64 4), (3, vi64 (bOr .i64 x1228 x1213.f1.f3)), (15, .bool true)] (by kernel_rfl) fun a hs => ?_
  refine s_end ?_
  refine c_seq ?_
  refine c_condT hs (by kernel_rfl) (by kernel_rfl) ?_
  refine c_skip ?_
  refine c_seq ?_
  refine c_block ?_
  refine c_seq ?_
  refine c_region ?_
  refine pures hs 2 [1, 2, 13, 14, 3, 5] [(1, (pt b1204 0)), (2, (pt b1206 0)), (13, .agg #[vi64 x1213.f1.f0, vi64 x1213.f1.f1, vi64 x1213.f1.f2, vi64 x1213.f1.f3, vi64 x1213.f1.f4, vi64 x1213.f1.f5]), (14, vi64 4), (3, vi64 (bOr .i64 x1228 x1213.f1.f3)), (5, vi64 x1213.f1.f4)] (by kernel_rfl) fun a hs => ?_
  refine s_end ?_
  refine c_region ?_
  refine pures hs 4 [1, 2, 13, 14, 3] [(1, (pt b1204 0)), (2, (pt b1206 0)), (13, .agg #[vi64 x1213.f1.f0, vi64 x1213.f1.f1, vi64 x1213.f1.f2, vi64 x1213.f1.f3, vi64 x1213.f1.f4, vi64 x1213.f1.f5]), (14, vi64 4), (3, vi64 (bOr .i64 (bOr .i64 x1228 x1213.f1.f3) x1213.f1.f4))] (by kernel_rfl) fun a hs => ?_
  refine s_end ?_
  refine c_region ?_
  refine pures hs 2 [1, 2, 13, 14, 3] [(1, (pt b1204 0)), (2, (pt b1206 0)), (13, .agg #[vi64 x1213.f1.f0, vi64 x1213.f1.f1, vi64 x1213.f1.f2, vi64 x1213.f1.f3, vi64 x1213.f1.f4, vi64 x1213.f1.f5]), (14, vi64 5), (3, vi64 (bOr .i64 (bOr .i64 x1228 x1213.f1.f3) x1213.f1.f4))] (by kernel_rfl) fun a hs => ?_
  refine s_end ?_
  refine c_unr ?_
  refine c_seq ?_
  refine c_region ?_
  refine pures hs 1 [1, 2, 13, 14, 3, 15] [(1, (pt b1204 0)), (2, (pt b1206 0)), (13, .agg #[vi64 x1213.f1.f0, vi64 x1213.f1.f1, vi64 x1213.f1.f2, vi64 x1213.f1.f3, vi64 x1213.f1.f4, vi64 x1213.f1.f5]), (14, vi64 5), (3, vi64 (bOr .i64 (bOr .i64 x1228 x1213.f1.f3) x1213.f1.f4)), (15, .bool true)] (by kernel_rfl) fun a hs => ?_
  refine s_end ?_
  refine c_seq ?_
  refine c_condT hs (by kernel_rfl) (by kernel_rfl) ?_
  refine c_skip ?_
  refine c_seq ?_
  refine c_block ?_
  refine c_seq ?_
  refine c_region ?_
  refine pures hs 2 [1, 2, 13, 14, 3, 5] [(1, (pt b1204 0)), (2, (pt b1206 0)), (13, .agg #[vi64 x1213.f1.f0, vi64 x1213.f1.f1, vi64 x1213.f1.f2, vi64 x1213.f1.f3, vi64 x1213.f1.f4, vi64 x1213.f1.f5]), (14, vi64 5), (3, vi64 (bOr .i64 (bOr .i64 x1228 x1213.f1.f3) x1213.f1.f4)), (5, vi64 x1213.f1.f5)] (by kernel_rfl) fun a hs => ?_
  refine s_end ?_
  refine c_region ?_
  refine pures hs 3 [1, 2, 13, 14, 19] [(1, (pt b1204 0)), (2, (pt b1206 0)), (13, .agg #[vi64 x1213.f1.f0, vi64 x1213.f1.f1, vi64 x1213.f1.f2, vi64 x1213.f1.f3, vi64 x1213.f1.f4, vi64 x1213.f1.f5]), (14, vi64 5), (19, vi64 (bOr .i64 (bOr .i64 (bOr .i64 x1228 x1213.f1.f3) x1213.f1.f4) x1213.f1.f5))] (by kernel_rfl) fun a hs => ?_
  obtain ⟨x1232, h1233, hk⟩ := bindE hk
  replace hs := hs.alt 19 (by kernel_rfl) (congrArg (Value.int .i64) (someE h1233))
  refine pures hs 1 [1, 2, 13, 14, 3] [(1, (pt b1204 0)), (2, (pt b1206 0)), (13, .agg #[vi64 x1213.f1.f0, vi64 x1213.f1.f1, vi64 x1213.f1.f2, vi64 x1213.f1.f3, vi64 x1213.f1.f4, vi64 x1213.f1.f5]), (14, vi64 5), (3, vi64 x1232)] (by kernel_rfl) fun a hs => ?_
  refine s_end ?_
  refine c_region ?_
  refine pures hs 2 [1, 2, 13, 14, 3] [(1, (pt b1204 0)), (2, (pt b1206 0)), (13, .agg #[vi64 x1213.f1.f0, vi64 x1213.f1.f1, vi64 x1213.f1.f2, vi64 x1213.f1.f3, vi64 x1213.f1.f4, vi64 x1213.f1.f5]), (14, vi64 6), (3, vi64 x1232)] (by kernel_rfl) fun a hs => ?_
  refine s_end ?_
  refine c_unr ?_
  refine c_seq ?_
  refine c_region ?_
  refine pures hs 1 [1, 2, 13, 14, 3, 15] [(1, (pt b1204 0)), (2, (pt b1206 0)), (13, .agg #[vi64 x1213.f1.f0, vi64 x1213.f1.f1, vi64 x1213.f1.f2, vi64 x1213.f1.f3, vi64 x1213.f1.f4, vi64 x1213.f1.f5]), (14, vi64 6), (3, vi64 x1232), (15, .bool false)] (by kernel_rfl) fun a hs => ?_
  refine s_end ?_
  refine c_seq ?_
  refine c_condF hs (by kernel_rfl) (by kernel_rfl) ?_
  refine c_exit ?_
  refine c_seq ?_
  refine c_region ?_
  refine pures hs 1 [1, 2, 3, 21] [(1, (pt b1204 0)), (2, (pt b1206 0)), (3, vi64 x1232), (21, (pt b1204 0))] (by kernel_rfl) fun a hs => ?_
  refine s_load hs (hw.at_ 1 rfl) 0 (by kernel_rfl) (by kernel_rfl) (v := vi64 x1.f0) (by kernel_rfl) fun a hs => ?_
  refine pures hs 1 [1, 2, 3, 22, 23] [(1, (pt b1204 0)), (2, (pt b1206 0)), (3, vi64 x1232), (22, vi64 x1.f0), (23, (pt b1204 1))] (by kernel_rfl) fun a hs => ?_
  refine s_load hs (hw.at_ 1 rfl) 1 (by kernel_rfl) (by kernel_rfl) (v := vi64 x1.f1) (by kernel_rfl) fun a hs => ?_
  refine pures hs 1 [1, 2, 3, 22, 24, 25] [(1, (pt b1204 0)), (2, (pt b1206 0)), (3, vi64 x1232), (22, vi64 x1.f0), (24, vi64 x1.f1), (25, (pt b1204 2))] (by kernel_rfl) fun a hs => ?_
  refine s_load hs (hw.at_ 1 rfl) 2 (by kernel_rfl) (by kernel_rfl) (v := vi64 x1.f2) (by kernel_rfl) fun a hs => ?_
  refine pures hs 1 [1, 2, 3, 27] [(1, (pt b1204 0)), (2, (pt b1206 0)), (3, vi64 x1232), (27, .agg #[vi64 x1.f0, vi64 x1.f1, vi64 x1.f2, vi64 0, vu64 0, vu64 0, vu64 0, vu64 0, vu64 0, vu64 0, vi64 0, vu32 0, vi64 0, vi64 0, vi64 0, vu64 0, vi64 0, vi64 0, vu64 0, .slice none 0 0, .bool false, vi64 0, .slice none 0 0, .slice none 0 0, .slice none 0 0])] (by kernel_rfl) fun a hs => ?_
  refine s_new hs hw [vi64 0, vi64 0, vi64 0, vi64 0, vu64 0, vu64 0, vu64 0, vu64 0, vu64 0, vu64 0, vi64 0, vu32 0, vi64 0, vi64 0, vi64 0, vu64 0, vi64 0, vi64 0, vu64 0, .slice none 0 0, .bool false, vi64 0, .slice none 0 0, .slice none 0 0, .slice none 0 0] 48 (fun b => (pt b 0)) (by kernel_rfl) (fun _ => by kernel_rfl) fun a w b1236 hs hw => ?_
  refine s_store hs hw 0 rfl 0 (by kernel_rfl) (by kernel_rfl) (v := .agg #[vi64 x1.f0, vi64 x1.f1, vi64 x1.f2, vi64 0, vu64 0, vu64 0, vu64 0, vu64 0, vu64 0, vu64 0, vi64 0, vu32 0, vi64 0, vi64 0, vi64 0, vu64 0, vi64 0, vi64 0, vu64 0, .slice none 0 0, .bool false, vi64 0, .slice none 0 0, .slice none 0 0, .slice none 0 0]) (by kernel_rfl) (by kernel_rfl) (by kernel_rfl) (by kernel_rfl) fun a w hs hw => ?_
  refine s_end ?_
  refine c_seq ?_
  refine c_seq ?_
  refine c_region ?_
  refine pures hs 30 [2, 3, 6, 29, 31, 33, 35, 37, 39, 41, 43, 45, 47, 49, 51, 53, 55, 57] [(2, (pt b1206 0)), (3, vi64 x1232), (6, (pt b1236 0)), (29, .agg #[vi64 1, .func (.func 95) #[] #[(pt b1204 0), (pt b1236 0)]]), (31, .agg #[vi64 2, .func (.func 96) #[] #[(pt b1204 0), (pt b1236 0)]]), (33, .agg #[vi64 4, .func (.func 97) #[] #[(pt b1204 0), (pt b1236 0)]]), (35, .agg #[vi64 8, .func (.func 98) #[] #[(pt b1204 0), (pt b1236 0)]]), (37, .agg #[vi64 16, .func (.func 99) #[] #[(pt b1204 0), (pt b1236 0)]]), (39, .agg #[vi64 32, .func (.func 100) #[] #[(pt b1204 0), (pt b1236 0)]]), (41, .agg #[vi64 64, .func (.func 101) #[] #[(pt b1204 0), (pt b1236 0)]]), (43, .agg #[vi64 128, .func (.func 102) #[] #[(pt b1204 0), (pt b1236 0)]]), (45, .agg #[vi64 256, .func (.func 103) #[] #[(pt b1204 0), (pt b1236 0)]]), (47, .agg #[vi64 512, .func (.func 104) #[] #[(pt b1204 0), (pt b1236 0)]]), (49, .agg #[vi64 1024, .func (.func 105) #[] #[(pt b1204 0), (pt b1236 0)]]), (51, .agg #[vi64 2048, .func (.func 106) #[] #[(pt b1204 0), (pt b1236 0)]]), (53, .agg #[vi64 4096, .func (.func 107) #[] #[(pt b1204 0), (pt b1236 0)]]), (55, .agg #[vi64 8192, .func (.func 108) #[] #[(pt b1204 0), (pt b1236 0)]]), (57, .agg #[vi64 16384, .func (.func 109) #[] #[(pt b1204 0), (pt b1236 0)]])] (by kernel_rfl) fun a hs => ?_
  refine s_new hs hw [vi64 1, .func (.func 95) #[] #[(pt b1204 0), (pt b1236 0)], vi64 2, .func (.func 96) #[] #[(pt b1204 0), (pt b1236 0)], vi64 4, .func (.func 97) #[] #[(pt b1204 0), (pt b1236 0)], vi64 8, .func (.func 98) #[] #[(pt b1204 0), (pt b1236 0)], vi64 16, .func (.func 99) #[] #[(pt b1204 0), (pt b1236 0)], vi64 32, .func (.func 100) #[] #[(pt b1204 0), (pt b1236 0)], vi64 64, .func (.func 101) #[] #[(pt b1204 0), (pt b1236 0)], vi64 128, .func (.func 102) #[] #[(pt b1204 0), (pt b1236 0)], vi64 256, .func (.func 103) #[] #[(pt b1204 0), (pt b1236 0)], vi64 512, .func (.func 104) #[] #[(pt b1204 0), (pt b1236 0)], vi64 1024, .func (.func 105) #[] #[(pt b1204 0), (pt b1236 0)], vi64 2048, .func (.func 106) #[] #[(pt b1204 0), (pt b1236 0)], vi64 4096, .func (.func 107) #[] #[(pt b1204 0), (pt b1236 0)], vi64 8192, .func (.func 108) #[] #[(pt b1204 0), (pt b1236 0)], vi64 16384, .func (.func 109) #[] #[(pt b1204 0), (pt b1236 0)]] 163 (fun b => .slice (some ⟨b, 0, none⟩) 15 15) (by kernel_rfl) (fun _ => by kernel_rfl) fun a w b1240 hs hw => ?_
  refine pures hs 2 [2, 3, 6, 58, 59, 60] [(2, (pt b1206 0)), (3, vi64 x1232), (6, (pt b1236 0)), (58, .slice (some ⟨b1240, 0, none⟩) 15 15), (59, vi64 15), (60, vi64 0)] (by kernel_rfl) fun a hs => ?_
  refine s_end ?_
  refine c_block ?_
  refine wpIn_loop_rounds 16 ?_
  refine c_unr ?_
  refine c_seq ?_
  refine c_region ?_
  refine pures hs 1 [2, 3, 6, 58, 59, 60, 61] [(2, (pt b1206 0)), (3, vi64 x1232), (6, (pt b1236 0)), (58, .slice (some ⟨b1240, 0, none⟩) 15 15), (59, vi64 15), (60, vi64 0), (61, .bool true)] (by kernel_rfl) fun a hs => ?_
  refine s_end ?_
  refine c_seq ?_
  refine c_condT hs (by kernel_rfl) (by kernel_rfl) ?_
  refine c_skip ?_
  obtain ⟨y2371, hx2372, hk⟩ := bindE hk
  obtain ⟨J2373, hJ2373⟩ : ∃ J : Act → World → Prop, ∀ a w, J a w ↔ (∃ (x1831 : Int), letter_bare_r60 x1232 x1 x1831 = some r ∧ Sees a 74 [(2, (pt b1206 0)), (3, vi64 x1232), (6, (pt b1236 0)), (58, .slice (some ⟨b1240, 0, none⟩) 15 15), (59, vi64 15), (60, vi64 0)] ∧ St g w [bx b1240 [vi64 1, .func (.func 95) #[] #[(pt b1204 0), (pt b1236 0)], vi64 2, .func (.func 96) #[] #[(pt b1204 0), (pt b1236 0)], vi64 4, .func (.func 97) #[] #[(pt b1204 0), (pt b1236 0)], vi64 8, .func (.func 98) #[] #[(pt b1204 0), (pt b1236 0)], vi64 16, .func (.func 99) #[] #[(pt b1204 0), (pt b1236 0)], vi64 32, .func (.func 100) #[] #[(pt b1204 0), (pt b1236 0)], vi64 64, .func (.func 101) #[] #[(pt b1204 0), (pt b1236 0)], vi64 128, .func (.func 102) #[] #[(pt b1204 0), (pt b1236 0)], vi64 256, .func (.func 103) #[] #[(pt b1204 0), (pt b1236 0)], vi64 512, .func (.func 104) #[] #[(pt b1204 0), (pt b1236 0)], vi64 1024, .func (.func 105) #[] #[(pt b1204 0), (pt b1236 0)], vi64 2048, .func (.func 106) #[] #[(pt b1204 0), (pt b1236 0)], vi64 4096, .func (.func 107) #[] #[(pt b1204 0), (pt b1236 0)], vi64 8192, .func (.func 108) #[] #[(pt b1204 0), (pt b1236 0)], vi64 16384, .func (.func 109) #[] #[(pt b1204 0), (pt b1236 0)]] 163, bx b1236 [vi64 x1.f0, vi64 x1.f1, vi64 x1.f2, vi64 x1831, vu64 0, vu64 0, vu64 0, vu64 0, vu64 0, vu64 0, vi64 0, vu32 0, vi64 0, vi64 0, vi64 0, vu64 0, vi64 0, vi64 0, vu64 0, .slice none 0 0, .bool false, vi64 0, .slice none 0 0, .slice none 0 0, .slice none 0 0] 48, bx b1206 [vi64 0, vi64 0, vi64 0, vi64 0, vu64 0, vu64 0, vu64 0, vu64 0, vu64 0, vu64 0, vi64 0, vu32 0, vi64 0, vi64 0, vi64 0, vu64 0, vi64 0, vi64 0, vu64 0, .slice none 0 0, .bool false, vi64 0, .slice none 0 0, .slice none 0 0, .slice none 0 0] 48, bx b1204 [vi64 x1.f0, vi64 x1.f1, vi64 x1.f2, vi64 x1.f3, vu64 x1.f4, vu64 x1.f5, vu64 x1.f6, vu64 x1.f7, vu64 x1.f8, vu64 x1.f9, vi64 x1.f10, vu32 x1.f11, vi64 x1.f12, vi64 x1.f13.f0, vi64 x1.f13.f1, vu64 x1.f13.f2, vi64 x1.f13.f3, vi64 x1.f14.f0, vu64 x1.f14.f1, .slice p2 x1.f14.f2.length c3, .bool x1.f14.f3, vi64 x1.f14.f4, .slice p5 x1.f15.length c6, .slice p8 x1.f16.length c9, .slice p11 x1.f17.length c12] 48, F] ih) := ⟨_, fun _ _ => Iff.rfl⟩
  refine c_seqJ J2373 ?_ ?_
  · refine c_block ?_
    refine c_seq ?_
    refine c_region ?_
    refine pures hs 1 [2, 3, 6, 58, 59, 60, 62] [(2, (pt b1206 0)), (3, vi64 x1232), (6, (pt b1236 0)), (58, .slice (some ⟨b1240, 0, none⟩) 15 15), (59, vi64 15), (60, vi64 0), (62, (pt b1240 0))] (by kernel_rfl) fun a hs => ?_
    refine s_load hs (hw.at_ 0 rfl) 0 (by kernel_rfl) (by kernel_rfl) (v := .agg #[vi64 1, .func (.func 95) #[] #[(pt b1204 0), (pt b1236 0)]]) (by kernel_rfl) fun a hs => ?_
    refine s_new hs hw [vi64 0, .nilFunc] 163 (fun b => (pt b 0)) (by kernel_rfl) (fun _ => by kernel_rfl) fun a w b2376 hs hw => ?_
    refine s_store hs hw 0 rfl 0 (by kernel_rfl) (by kernel_rfl) (v := .agg #[vi64 1, .func (.func 95) #[] #[(pt b1204 0), (pt b1236 0)]]) (by kernel_rfl) (by kernel_rfl) (by kernel_rfl) (by kernel_rfl) fun a w hs hw => ?_
    refine s_end ?_
    refine c_seq ?_
    refine c_region ?_
    refine pures hs 2 [2, 3, 6, 58, 59, 60, 8, 64, 65] [(2, (pt b1206 0)), (3, vi64 x1232), (6, (pt b1236 0)), (58, .slice (some ⟨b1240, 0, none⟩) 15 15), (59, vi64 15), (60, vi64 0), (8, (pt b2376 0)), (64, vi64 x1232), (65, (pt b2376 0))] (by kernel_rfl) fun a hs => ?_
    refine s_load hs (hw.at_ 0 rfl) 0 (by kernel_rfl) (by kernel_rfl) (v := vi64 1) (by kernel_rfl) fun a hs => ?_
    refine pures hs 2 [2, 3, 6, 58, 59, 60, 8, 68] [(2, (pt b1206 0)), (3, vi64 x1232), (6, (pt b1236 0)), (58, .slice (some ⟨b1240, 0, none⟩) 15 15), (59, vi64 15), (60, vi64 0), (8, (pt b2376 0)), (68, .bool ((bAnd .i64 x1232 1) != 0))] (by kernel_rfl) fun a hs => ?_
    refine s_end ?_
    rcases ifbE hx2372 with ⟨h2378, hx2372⟩ | ⟨h2378, hx2372⟩
    · refine c_cond1 hs (by kernel_rfl) (t := ((bAnd .i64 x1232 1) != 0)) (by kernel_rfl) h2378 ?_
      refine c_region ?_
      refine pures hs 1 [2, 3, 6, 58, 59, 60, 69] [(2, (pt b1206 0)), (3, vi64 x1232), (6, (pt b1236 0)), (58, .slice (some ⟨b1240, 0, none⟩) 15 15), (59, vi64 15), (60, vi64 0), (69, (pt b2376 1))] (by kernel_rfl) fun a hs => ?_
      refine s_load hs (hw.at_ 0 rfl) 1 (by kernel_rfl) (by kernel_rfl) (v := .func (.func 95) #[] #[(pt b1204 0), (pt b1236 0)]) (by kernel_rfl) fun a hs => ?_
      obtain ⟨y2381, h2382, hx2372⟩ := bindE hx2372
      refine s_call hs (by kernel_rfl) (by kernel_rfl) (letter_bare_1_s (x3 := x1.f0) (x4 := x1.f1) (x5 := x1.f2) (x7 := x1.f4) (x8 := x1.f5) (x9 := x1.f6) (x10 := x1.f7) (x11 := x1.f8) (x12 := x1.f9) (x13 := x1.f10) (x14 := x1.f11) (x15 := x1.f12) (x16 := x1.f13.f0) (x17 := x1.f13.f1) (x18 := x1.f13.f2) (x19 := x1.f13.f3) (x20 := x1.f14.f0) (x21 := x1.f14.f1) (x22 := x1.f14.f2) (x26 := x1.f14.f3) (x27 := x1.f14.f4) (x28 := x1.f15) (x32 := x1.f16) (x36 := x1.f17) (x42 := x1.f0) (x43 := x1.f1) (x44 := x1.f2) (x45 := 0) (x46 := 0) (x47 := 0) (x48 := 0) (x49 := 0) (x50 := 0) (x51 := 0) (x52 := 0) (x53 := 0) (x54 := 0) (x55 := 0) (x56 := 0) (x57 := 0) (x58 := 0) (x59 := 0) (x60 := 0) (x61 := []) (x65 := false) (x66 := 0) (x67 := []) (x71 := []) (x75 := []) h2382 h4 h7 h10 h13 (RSl.nil _ _ _) (RSl.nil _ _ _) (RSl.nil _ _ _) (RSl.nil _ _ _) ((hw.pick [4, 2, 1, 3, 5] (by kernel_rfl)).pack 2)) fun a w v hv hs => ?_
      obtain ⟨rfl, hw⟩ := hv
      replace hw := hw.unpack 2 rfl
      refine s_end ?_
      obtain rfl := someE hx2372
      exact (hJ2373 _ _).2 ⟨y2381, hk, hs.cast [2, 3, 6, 58, 59, 60] (by kernel_rfl), hw.pick [2, 1, 3, 0, 4] (by kernel_rfl)⟩
    refine c_cond0 hs (by kernel_rfl) (t := ((bAnd .i64 x1232 1) != 0)) (by kernel_rfl) h2378 ?_
    refine c_skip ?_
    obtain rfl := someE hx2372
    exact (hJ2373 _ _).2 ⟨0, hk, hs.cast [2, 3, 6, 58, 59, 60] (by kernel_rfl), hw.pick [1, 2, 3, 4, 5] (by kernel_rfl)⟩
  intro a w hh
  obtain ⟨x1831, hk, hs, hw⟩ := (hJ2373 _ _).1 hh
  refine c_region ?_
  refine pures hs 2 [2, 3, 6, 58, 59, 60] [(2, (pt b1206 0)), (3, vi64 x1232), (6, (pt b1236 0)), (58, .slice (some ⟨b1240, 0, none⟩) 15 15), (59, vi64 15), (60, vi64 1)] (by kernel_rfl) fun a hs => ?_
  refine s_end ?_
  refine c_unr ?_
  refine c_seq ?_
  refine c_region ?_
  refine pures hs 1 [2, 3, 6, 58, 59, 60, 61] [(2, (pt b1206 0)), (3, vi64 x1232), (6, (pt b1236 0)), (58, .slice (some ⟨b1240, 0, none⟩) 15 15), (59, vi64 15), (60, vi64 1), (61, .bool true)] (by kernel_rfl) fun a hs => ?_
  refine s_end ?_
  refine c_seq ?_
  refine c_condT hs (by kernel_rfl) (by kernel_rfl) ?_
  refine c_skip ?_
  obtain ⟨y2358, hx2359, hk⟩ := bindE hk
  obtain ⟨J2360, hJ2360⟩ : ∃ J : Act → World → Prop, ∀ a w, J a w ↔ (∃ (x1850 : Int), letter_bare_r59 x1232 x1 x1831 x1850 = some r ∧ Sees a 74 [(2, (pt b1206 0)), (3, vi64 x1232), (6, (pt b1236 0)), (58, .slice (some ⟨b1240, 0, none⟩) 15 15), (59, vi64 15), (60, vi64 1)] ∧ St g w [bx b1240 [vi64 1, .func (.func 95) #[] #[(pt b1204 0), (pt b1236 0)], vi64 2, .func (.func 96) #[] #[(pt b1204 0), (pt b1236 0)], vi64 4, .func (.func 97) #[] #[(pt b1204 0), (pt b1236 0)], vi64 8, .func (.func 98) #[] #[(pt b1204 0), (pt b1236 0)], vi64 16, .func (.func 99) #[] #[(pt b1204 0), (pt b1236 0)], vi64 32, .func (.func 100) #[] #[(pt b1204 0), (pt b1236 0)], vi64 64, .func (.func 101) #[] #[(pt b1204 0), (pt b1236 0)], vi64 128, .func (.func 102) #[] #[(pt b1204 0), (pt b1236 0)], vi64 256, .func (.func 103) #[] #[(pt b1204 0), (pt b1236 0)], vi64 512, .func (.func 104) #[] #[(pt b1204 0), (pt b1236 0)], vi64 1024, .func (.func 105) #[] #[(pt b1204 0), (pt b1236 0)], vi64 2048, .func (.func 106) #[] #[(pt b1204 0), (pt b1236 0)], vi64 4096, .func (.func 107) #[] #[(pt b1204 0), (pt b1236 0)], vi64 8192, .func (.func 108) #[] #[(pt b1204 0), (pt b1236 0)], vi64 16384, .func (.func 109) #[] #[(pt b1204 0), (pt b1236 0)]] 163, bx b1236 [vi64 x1.f0, vi64 x1.f1, vi64 x1.f2, vi64 x1831, vu64 x1850, vu64 0, vu64 0, vu64 0, vu64 0, vu64 0, vi64 0, vu32 0, vi64 0, vi64 0, vi64 0, vu64 0, vi64 0, vi64 0, vu64 0, .slice none 0 0, .bool false, vi64 0, .slice none 0 0, .slice none 0 0, .slice none 0 0] 48, bx b1206 [vi64 0, vi64 0, vi64 0, vi64 0, vu64 0, vu64 0, vu64 0, vu64 0, vu64 0, vu64 0, vi64 0, vu32 0, vi64 0, vi64 0, vi64 0, vu64 0, vi64 0, vi64 0, vu64 0, .slice none 0 0, .bool false, vi64 0, .slice none 0 0, .slice none 0 0, .slice none 0 0] 48, bx b1204 [vi64 x1.f0, vi64 x1.f1, vi64 x1.f2, vi64 x1.f3, vu64 x1.f4, vu64 x1.f5, vu64 x1.f6, vu64 x1.f7, vu64 x1.f8, vu64 x1.f9, vi64 x1.f10, vu32 x1.f11, vi64 x1.f12, vi64 x1.f13.f0, vi64 x1.f13.f1, vu64 x1.f13.f2, vi64 x1.f13.f3, vi64 x1.f14.f0, vu64 x1.f14.f1, .slice p2 x1.f14.f2.length c3, .bool x1.f14.f3, vi64 x1.f14.f4, .slice p5 x1.f15.length c6, .slice p8 x1.f16.length c9, .slice p11 x1.f17.length c12] 48, F] ih) := ⟨_, fun _ _ => Iff.rfl⟩
  refine c_seqJ J2360 ?_ ?_
  · refine c_block ?_
    refine c_seq ?_
    refine c_region ?_
    refine pures hs 1 [2, 3, 6, 58, 59, 60, 62] [(2, (pt b1206 0)), (3, vi64 x1232), (6, (pt b1236 0)), (58, .slice (some ⟨b1240, 0, none⟩) 15 15), (59, vi64 15), (60, vi64 1), (62, (pt b1240 2))] (by kernel_rfl) fun a hs => ?_
    refine s_load hs (hw.at_ 0 rfl) 2 (by kernel_rfl) (by kernel_rfl) (v := .agg #[vi64 2, .func (.func 96) #[] #[(pt b1204 0), (pt b1236 0)]]) (by kernel_rfl) fun a hs => ?_
    refine s_new hs hw [vi64 0, .nilFunc] 163 (fun b => (pt b 0)) (by kernel_rfl) (fun _ => by kernel_rfl) fun a w b2363 hs hw => ?_
    refine s_store hs hw 0 rfl 0 (by kernel_rfl) (by kernel_rfl) (v := .agg #[vi64 2, .func (.func 96) #[] #[(pt b1204 0), (pt b1236 0)]]) (by kernel_rfl) (by kernel_rfl) (by kernel_rfl) (by kernel_rfl) fun a w hs hw => ?_
    refine s_end ?_
    refine c_seq ?_
    refine c_region ?_
    refine pures hs 2 [2, 3, 6, 58, 59, 60, 8, 64, 65] [(2, (pt b1206 0)), (3, vi64 x1232), (6, (pt b1236 0)), (58, .slice (some ⟨b1240, 0, none⟩) 15 15), (59, vi64 15), (60, vi64 1), (8, (pt b2363 0)), (64, vi64 x1232), (65, (pt b2363 0))] (by kernel_rfl) fun a hs => ?_
    refine s_load hs (hw.at_ 0 rfl) 0 (by kernel_rfl) (by kernel_rfl) (v := vi64 2) (by kernel_rfl) fun a hs => ?_
    refine pures hs 2 [2, 3, 6, 58, 59, 60, 8, 68] [(2, (pt b1206 0)), (3, vi64 x1232), (6, (pt b1236 0)), (58, .slice (some ⟨b1240, 0, none⟩) 15 15), (59, vi64 15), (60, vi64 1), (8, (pt b2363 0)), (68, .bool ((bAnd .i64 x1232 2) != 0))] (by kernel_rfl) fun a hs => ?_
    refine s_end ?_
    rcases ifbE hx2359 with ⟨h2365, hx2359⟩ | ⟨h2365, hx2359⟩
    · refine c_cond1 hs (by kernel_rfl) (t := ((bAnd .i64 x1232 2) != 0)) (by kernel_rfl) h2365 ?_
      refine c_region ?_
      refine pures hs 1 [2, 3, 6, 58, 59, 60, 69] [(2, (pt b1206 0)), (3, vi64 x1232), (6, (pt b1236 0)), (58, .slice (some ⟨b1240, 0, none⟩) 15 15), (59, vi64 15), (60, vi64 1), (69, (pt b2363 1))] (by kernel_rfl) fun a hs => ?_
      refine s_load hs (hw.at_ 0 rfl) 1 (by kernel_rfl) (by kernel_rfl) (v := .func (.func 96) #[] #[(pt b1204 0), (pt b1236 0)]) (by kernel_rfl) fun a hs => ?_
      obtain ⟨y2368, h2369, hx2359⟩ := bindE hx2359
      refine s_call hs (by kernel_rfl) (by kernel_rfl) (letter_bare_2_s (x3 := x1.f0) (x4 := x1.f1) (x5 := x1.f2) (x6 := x1.f3) (x8 := x1.f5) (x9 := x1.f6) (x10 := x1.f7) (x11 := x1.f8) (x12 := x1.f9) (x13 := x1.f10) (x14 := x1.f11) (x15 := x1.f12) (x16 := x1.f13.f0) (x17 := x1.f13.f1) (x18 := x1.f13.f2) (x19 := x1.f13.f3) (x20 := x1.f14.f0) (x21 := x1.f14.f1) (x22 := x1.f14.f2) (x26 := x1.f14.f3) (x27 := x1.f14.f4) (x28 := x1.f15) (x32 := x1.f16) (x36 := x1.f17) (x42 := x1.f0) (x43 := x1.f1) (x44 := x1.f2) (x45 := x1831) (x46 := 0) (x47 := 0) (x48 := 0) (x49 := 0) (x50 := 0) (x51 := 0) (x52 := 0) (x53 := 0) (x54 := 0) (x55 := 0) (x56 := 0) (x57 := 0) (x58 := 0) (x59 := 0) (x60 := 0) (x61 := []) (x65 := false) (x66 := 0) (x67 := []) (x71 := []) (x75 := []) h2369 h4 h7 h10 h13 (RSl.nil _ _ _) (RSl.nil _ _ _) (RSl.nil _ _ _) (RSl.nil _ _ _) ((hw.pick [4, 2, 1, 3, 5] (by kernel_rfl)).pack 2)) fun a w v hv hs => ?_
      obtain ⟨rfl, hw⟩ := hv
      replace hw := hw.unpack 2 rfl
      refine s_end ?_
      obtain rfl := someE hx2359
      exact (hJ2360 _ _).2 ⟨y2368, hk, hs.cast [2, 3, 6, 58, 59, 60] (by kernel_rfl), hw.pick [2, 1, 3, 0, 4] (by kernel_rfl)⟩
    refine c_cond0 hs (by kernel_rfl) (t := ((bAnd .i64 x1232 2) != 0)) (by kernel_rfl) h2365 ?_
    refine c_skip ?_
    obtain rfl := someE hx2359
    exact (hJ2360 _ _).2 ⟨0, hk, hs.cast [2, 3, 6, 58, 59, 60] (by kernel_rfl), hw.pick [1, 2, 3, 4, 5] (by kernel_rfl)⟩
  intro a w hh
  obtain ⟨x1850, hk, hs, hw⟩ := (hJ2360 _ _).1 hh
  refine c_region ?_
  refine pures hs 2 [2, 3, 6, 58, 59, 60] [(2, (pt b1206 0)), (3, vi64 x1232), (6, (pt b1236 0)), (58, .slice (some ⟨b1240, 0, none⟩) 15 15), (59, vi64 15), (60, vi64 2)] (by kernel_rfl) fun a hs => ?_
  refine s_end ?_
  refine c_unr ?_
  refine c_seq ?_
  refine c_region ?_
  refine pures hs 1 [2, 3, 6, 58, 59, 60, 61] [(2, (pt b1206 0)), (3, vi64 x1232), (6, (pt b1236 0)), (58, .slice (some ⟨b1240, 0, none⟩) 15 15), (59, vi64 15), (60, vi64 2), (61, .bool true)] (by kernel_rfl) fun a hs => ?_
  refine s_end ?_
  refine c_seq ?_
  refine c_condT hs (by kernel_rfl) (by kernel_rfl) ?_
  refine c_skip ?_
  obtain ⟨y2345, hx2346, hk⟩ := bindE hk
  obtain ⟨J2347, hJ2347⟩ : ∃ J : Act → World → Prop, ∀ a w, J a w ↔ (∃ (x1869 : Int), letter_bare_r58 x1232 x1 x1831 x1850 x1869 = some r ∧ Sees a 74 [(2, (pt b1206 0)), (3, vi64 x1232), (6, (pt b1236 0)), (58, .slice (some ⟨b1240, 0, none⟩) 15 15), (59, vi64 15), (60, vi64 2)] ∧ St g w [bx b1240 [vi64 1, .func (.func 95) #[] #[(pt b1204 0), (pt b1236 0)], vi64 2, .func (.func 96) #[] #[(pt b1204 0), (pt b1236 0)], vi64 4, .func (.func 97) #[] #[(pt b1204 0), (pt b1236 0)], vi64 8, .func (.func 98) #[] #[(pt b1204 0), (pt b1236 0)], vi64 16, .func (.func 99) #[] #[(pt b1204 0), (pt b1236 0)], vi64 32, .func (.func 100) #[] #[(pt b1204 0), (pt b1236 0)], vi64 64, .func (.func 101) #[] #[(pt b1204 0), (pt b1236 0)], vi64 128, .func (.func 102) #[] #[(pt b1204 0), (pt b1236 0)], vi64 256, .func (.func 103) #[] #[(pt b1204 0), (pt b1236 0)], vi64 512, .func (.func 104) #[] #[(pt b1204 0), (pt b1236 0)], vi64 1024, .func (.func 105) #[] #[(pt b1204 0), (pt b1236 0)], vi64 2048, .func (.func 106) #[] #[(pt b1204 0), (pt b1236 0)], vi64 4096, .func (.func 107) #[] #[(pt b1204 0), (pt b1236 0)], vi64 8192, .func (.func 108) #[] #[(pt b1204 0), (pt b1236 0)], vi64 16384, .func (.func 109) #[] #[(pt b1204 0), (pt b1236 0)]] 163, bx b1236 [vi64 x1.f0, vi64 x1.f1, vi64 x1.f2, vi64 x1831, vu64 x1850, vu64 x1869, vu64 0, vu64 0, vu64 0, vu64 0, vi64 0, vu32 0, vi64 0, vi64 0, vi64 0, vu64 0, vi64 0, vi64 0, vu64 0, .slice none 0 0, .bool false, vi64 0, .slice none 0 0, .slice none 0 0, .slice none 0 0] 48, bx b1206 [vi64 0, vi64 0, vi64 0, vi64 0, vu64 0, vu64 0, vu64 0, vu64 0, vu64 0, vu64 0, vi64 0, vu32 0, vi64 0, vi64 0, vi64 0, vu64 0, vi64 0, vi64 0, vu64 0, .slice none 0 0, .bool false, vi64 0, .slice none 0 0, .slice none 0 0, .slice none 0 0] 48, bx b1204 [vi64 x1.f0, vi64 x1.f1, vi64 x1.f2, vi64 x1.f3, vu64 x1.f4, vu64 x1.f5, vu64 x1.f6, vu64 x1.f7, vu64 x1.f8, vu64 x1.f9, vi64 x1.f10, vu32 x1.f11, vi64 x1.f12, vi64 x1.f13.f0, vi64 x1.f13.f1, vu64 x1.f13.f2, vi64 x1.f13.f3, vi64 x1.f14.f0, vu64 x1.f14.f1, .slice p2 x1.f14.f2.length c3, .bool x1.f14.f3, vi64 x1.f14.f4, .slice p5 x1.f15.length c6, .slice p8 x1.f16.length c9, .slice p11 x1.f17.length c12] 48, F] ih) := ⟨_, fun _ _ => Iff.rfl⟩
  refine c_seqJ J2347 ?_ ?_
  · refine c_block ?_
    refine c_seq ?_
    refine c_region ?_
    refine pures hs 1 [2, 3, 6, 58, 59, 60, 62] [(2, (pt b1206 0)), (3, vi64 x1232), (6, (pt b1236 0)), (58, .slice (some ⟨b1240, 0, none⟩) 15 15), (59, vi64 15), (60, vi64 2), (62, (pt b1240 4))] (by kernel_rfl) fun a hs => ?_
    refine s_load hs (hw.at_ 0 rfl) 4 (by kernel_rfl) (by kernel_rfl) (v := .agg #[vi64 4, .func (.func 97) #[] #[(pt b1204 0), (pt b1236 0)]]) (by kernel_rfl) fun a hs => ?_
    refine s_new hs hw [vi64 0, .nilFunc] 163 (fun b => (pt b 0)) (by kernel_rfl) (fun _ => by kernel_rfl) fun a w b2350 hs hw => ?_
    refine s_store hs hw 0 rfl 0 (by kernel_rfl) (by kernel_rfl) (v := .agg #[vi64 4, .func (.func 97) #[] #[(pt b1204 0), (pt b1236 0)]]) (by kernel_rfl) (by kernel_rfl) (by kernel_rfl) (by kernel_rfl) fun a w hs hw => ?_
    refine s_end ?_
    refine c_seq ?_
    refine c_region ?_
    refine pures hs 2 [2, 3, 6, 58, 59, 60, 8, 64, 65] [(2, (pt b1206 0)), (3, vi64 x1232), (6, (pt b1236 0)), (58, .slice (some ⟨b1240, 0, none⟩) 15 15), (59, vi64 15), (60, vi64 2), (8, (pt b2350 0)), (64, vi64 x1232), (65, (pt b2350 0))] (by kernel_rfl) fun a hs => ?_
    refine s_load hs (hw.at_ 0 rfl) 0 (by kernel_rfl) (by kernel_rfl) (v := vi64 4) (by kernel_rfl) fun a hs => ?_
    refine pures hs 2 [2, 3, 6, 58, 59, 60, 8, 68] [(2, (pt b1206 0)), (3, vi64 x1232), (6, (pt b1236 0)), (58, .slice (some ⟨b1240, 0, none⟩) 15 15), (59, vi64 15), (60, vi64 2), (8, (pt b2350 0)), (68, .bool ((bAnd .i64 x1232 4) != 0))] (by kernel_rfl) fun a hs => ?_
    refine s_end ?_
    rcases ifbE hx2346 with ⟨h2352, hx2346⟩ | ⟨h2352, hx2346⟩
    · refine c_cond1 hs (by kernel_rfl) (t := ((bAnd .i64 x1232 4) != 0)) (by kernel_rfl) h2352 ?_
      refine c_region ?_
      refine pures hs 1 [2, 3, 6, 58, 59, 60, 69] [(2, (pt b1206 0)), (3, vi64 x1232), (6, (pt b1236 0)), (58, .slice (some ⟨b1240, 0, none⟩) 15 15), (59, vi64 15), (60, vi64 2), (69, (pt b2350 1))] (by kernel_rfl) fun a hs => ?_
      refine s_load hs (hw.at_ 0 rfl) 1 (by kernel_rfl) (by kernel_rfl) (v := .func (.func 97) #[] #[(pt b1204 0), (pt b1236 0)]) (by kernel_rfl) fun a hs => ?_
      obtain ⟨y2355, h2356, hx2346⟩ := bindE hx2346
      refine s_call hs (by kernel_rfl) (by kernel_rfl) (letter_bare_3_s (x3 := x1.f0) (x4 := x1.f1) (x5 := x1.f2) (x6 := x1.f3) (x7 := x1.f4) (x9 := x1.f6) (x10 := x1.f7) (x11 := x1.f8) (x12 := x1.f9) (x13 := x1.f10) (x14 := x1.f11) (x15 := x1.f12) (x16 := x1.f13.f0) (x17 := x1.f13.f1) (x18 := x1.f13.f2) (x19 := x1.f13.f3) (x20 := x1.f14.f0) (x21 := x1.f14.f1) (x22 := x1.f14.f2) (x26 := x1.f14.f3) (x27 := x1.f14.f4) (x28 := x1.f15) (x32 := x1.f16) (x36 := x1.f17) (x42 := x1.f0) (x43 := x1.f1) (x44 := x1.f2) (x45 := x1831) (x46 := x1850) (x47 := 0) (x48 := 0) (x49 := 0) (x50 := 0) (x51 := 0) (x52 := 0) (x53 := 0) (x54 := 0) (x55 := 0) (x56 := 0) (x57 := 0) (x58 := 0) (x59 := 0) (x60 := 0) (x61 := []) (x65 := false) (x66 := 0) (x67 := []) (x71 := []) (x75 := []) h2356 h4 h7 h10 h13 (RSl.nil _ _ _) (RSl.nil _ _ _) (RSl.nil _ _ _) (RSl.nil _ _ _) ((hw.pick [4, 2, 1, 3, 5] (by kernel_rfl)).pack 2)) fun a w v hv hs => ?_
      obtain ⟨rfl, hw⟩ := hv
      replace hw := hw.unpack 2 rfl
      refine s_end ?_
      obtain rfl := someE hx2346
      exact (hJ2347 _ _).2 ⟨y2355, hk, hs.cast [2, 3, 6, 58, 59, 60] (by kernel_rfl), hw.pick [2, 1, 3, 0, 4] (by kernel_rfl)⟩
    refine c_cond0 hs (by kernel_rfl) (t := ((bAnd .i64 x1232 4) != 0)) (by kernel_rfl) h2352 ?_
    refine c_skip ?_
    obtain rfl := someE hx2346
    exact (hJ2347 _ _).2 ⟨0, hk, hs.cast [2, 3, 6, 58, 59, 60] (by kernel_rfl), hw.pick [1, 2, 3, 4, 5] (by kernel_rfl)⟩
  intro a w hh
  obtain ⟨x1869, hk, hs, hw⟩ := (hJ2347 _ _).1 hh
  refine c_region ?_
  refine pures hs 2 [2, 3, 6, 58, 59, 60] [(2, (pt b1206 0)), (3, vi64 x1232), (6, (pt b1236 0)), (58, .slice (some ⟨b1240, 0, none⟩) 15 15), (59, vi64 15), (60, vi64 3)] (by kernel_rfl) fun a hs => ?_
  refine s_end ?_
  refine c_unr ?_
  refine c_seq ?_
  refine c_region ?_
  refine pures hs 1 [2, 3, 6, 58, 59, 60, 61] [(2, (pt b1206 0)), (3, vi64 x1232), (6, (pt b1236 0)), (58, .slice (some ⟨b1240, 0, none⟩) 15 15), (59, vi64 15), (60, vi64 3), (61, .bool true)] (by kernel_rfl) fun a hs => ?_
  refine s_end ?_
  refine c_seq ?_
  refine c_condT hs (by kernel_rfl) (by kernel_rfl) ?_
  refine c_skip ?_
  obtain ⟨y2332, hx2333, hk⟩ := bindE hk
  obtain ⟨J2334, hJ2334⟩ : ∃ J : Act → World → Prop, ∀ a w, J a w ↔ (∃ (x1888 : Int), letter_bare_r57 x1232 x1 x1831 x1850 x1869 x1888 = some r ∧ Sees a 74 [(2, (pt b1206 0)), (3, vi64 x1232), (6, (pt b1236 0)), (58, .slice (some ⟨b1240, 0, none⟩) 15 15), (59, vi64 15), (60, vi64 3)] ∧ St g w [bx b1240 [vi64 1, .func (.func 95) #[] #[(pt b1204 0), (pt b1236 0)], vi64 2, .func (.func 96) #[] #[(pt b1204 0), (pt b1236 0)], vi64 4, .func (.func 97) #[] #[(pt b1204 0), (pt b1236 0)], vi64 8, .func (.func 98) #[] #[(pt b1204 0), (pt b1236 0)], vi64 16, .func (.func 99) #[] #[(pt b1204 0), (pt b1236 0)], vi64 32, .func (.func 100) #[] #[(pt b1204 0), (pt b1236 0)], vi64 64, .func (.func 101) #[] #[(pt b1204 0), (pt b1236 0)], vi64 128, .func (.func 102) #[] #[(pt b1204 0), (pt b1236 0)], vi64 256, .func (.func 103) #[] #[(pt b1204 0), (pt b1236 0)], vi64 512, .func (.func 104) #[] #[(pt b1204 0), (pt b1236 0)], vi64 1024, .func (.func 105) #[] #[(pt b1204 0), (pt b1236 0)], vi64 2048, .func (.func 106) #[] #[(pt b1204 0), (pt b1236 0)], vi64 4096, .func (.func 107) #[] #[(pt b1204 0), (pt b1236 0)], vi64 8192, .func (.func 108) #[] #[(pt b1204 0), (pt b1236 0)], vi64 16384, .func (.func 109) #[] #[(pt b1204 0), (pt b1236 0)]] 163, bx b1236 [vi64 x1.f0, vi64 x1.f1, vi64 x1.f2, vi64 x1831, vu64 x1850, vu64 x1869, vu64 0, vu64 x1888, vu64 0, vu64 0, vi64 0, vu32 0, vi64 0, vi64 0, vi64 0, vu64 0, vi64 0, vi64 0, vu64 0, .slice none 0 0, .bool false, vi64 0, .slice none 0 0, .slice none 0 0, .slice none 0 0] 48, bx b1206 [vi64 0, vi64 0, vi64 0, vi64 0, vu64 0, vu64 0, vu64 0, vu64 0, vu64 0, vu64 0, vi64 0, vu32 0, vi64 0, vi64 0, vi64 0, vu64 0, vi64 0, vi64 0, vu64 0, .slice none 0 0, .bool false, vi64 0, .slice none 0 0, .slice none 0 0, .slice none 0 0] 48, bx b1204 [vi64 x1.f0, vi64 x1.f1, vi64 x1.f2, vi64 x1.f3, vu64 x1.f4, vu64 x1.f5, vu64 x1.f6, vu64 x1.f7, vu64 x1.f8, vu64 x1.f9, vi64 x1.f10, vu32 x1.f11, vi64 x1.f12, vi64 x1.f13.f0, vi64 x1.f13.f1, vu64 x1.f13.f2, vi64 x1.f13.f3, vi64 x1.f14.f0, vu64 x1.f14.f1, .slice p2 x1.f14.f2.length c3, .bool x1.f14.f3, vi64 x1.f14.f4, .slice p5 x1.f15.length c6, .slice p8 x1.f16.length c9, .slice p11 x1.f17.length c12] 48, F] ih) := ⟨_, fun _ _ => Iff.rfl⟩
  refine c_seqJ J2334 ?_ ?_
  · refine c_block ?_
    refine c_seq ?_
    refine c_region ?_
    refine pures hs 1 [2, 3, 6, 58, 59, 60, 62] [(2, (pt b1206 0)), (3, vi64 x1232), (6, (pt b1236 0)), (58, .slice (some ⟨b1240, 0, none⟩) 15 15), (59, vi64 15), (60, vi64 3), (62, (pt b1240 6))] (by kernel_rfl) fun a hs => ?_
    refine s_load hs (hw.at_ 0 rfl) 6 (by kernel_rfl) (by kernel_rfl) (v := .agg #[vi64 8, .func (.func 98) #[] #[(pt b1204 0), (pt b1236 0)]]) (by kernel_rfl) fun a hs => ?_
    refine s_new hs hw [vi64 0, .nilFunc] 163 (fun b => (pt b 0)) (by kernel_rfl) (fun _ => by kernel_rfl) fun a w b2337 hs hw => ?_
    refine s_store hs hw 0 rfl 0 (by kernel_rfl) (by kernel_rfl) (v := .agg #[vi64 8, .func (.func 98) #[] #[(pt b1204 0), (pt b1236 0)]]) (by kernel_rfl) (by kernel_rfl) (by kernel_rfl) (by kernel_rfl) fun a w hs hw => ?_
    refine s_end ?_
    refine c_seq ?_
    refine c_region ?_
    refine pures hs 2 [2, 3, 6, 58, 59, 60, 8, 64, 65] [(2, (pt b1206 0)), (3, vi64 x1232), (6, (pt b1236 0)), (58, .slice (some ⟨b1240, 0, none⟩) 15 15), (59, vi64 15), (60, vi64 3), (8, (pt b2337 0)), (64, vi64 x1232), (65, (pt b2337 0))] (by kernel_rfl) fun a hs => ?_
    refine s_load hs (hw.at_ 0 rfl) 0 (by kernel_rfl) (by kernel_rfl) (v := vi64 8) (by kernel_rfl) fun a hs => ?_
    refine pures hs 2 [2, 3, 6, 58, 59, 60, 8, 68] [(2, (pt b1206 0)), (3, vi64 x1232), (6, (pt b1236 0)), (58, .slice (some ⟨b1240, 0, none⟩) 15 15), (59, vi64 15), (60, vi64 3), (8, (pt b2337 0)), (68, .bool ((bAnd .i64 x1232 8) != 0))] (by kernel_rfl) fun a hs => ?_
    refine s_end ?_
    rcases ifbE hx2333 with ⟨h2339, hx2333⟩ | ⟨h2339, hx2333⟩
    · refine c_cond1 hs (by kernel_rfl) (t := ((bAnd .i64 x1232 8) != 0)) (by kernel_rfl) h2339 ?_
      refine c_region ?_
      refine pures hs 1 [2, 3, 6, 58, 59, 60, 69] [(2, (pt b1206 0)), (3, vi64 x1232), (6, (pt b1236 0)), (58, .slice (some ⟨b1240, 0, none⟩) 15 15), (59, vi64 15), (60, vi64 3), (69, (pt b2337 1))] (by kernel_rfl) fun a hs => ?_
      refine s_load hs (hw.at_ 0 rfl) 1 (by kernel_rfl) (by kernel_rfl) (v := .func (.func 98) #[] #[(pt b1204 0), (pt b1236 0)]) (by kernel_rfl) fun a hs => ?_
      obtain ⟨y2342, h2343, hx2333⟩ := bindE hx2333
      refine s_call hs (by kernel_rfl) (by kernel_rfl) (letter_bare_4_s (x3 := x1.f0) (x4 := x1.f1) (x5 := x1.f2) (x6 := x1.f3) (x7 := x1.f4) (x8 := x1.f5) (x9 := x1.f6) (x11 := x1.f8) (x12 := x1.f9) (x13 := x1.f10) (x14 := x1.f11) (x15 := x1.f12) (x16 := x1.f13.f0) (x17 := x1.f13.f1) (x18 := x1.f13.f2) (x19 := x1.f13.f3) (x20 := x1.f14.f0) (x21 := x1.f14.f1) (x22 := x1.f14.f2) (x26 := x1.f14.f3) (x27 := x1.f14.f4) (x28 := x1.f15) (x32 := x1.f16) (x36 := x1.f17) (x42 := x1.f0) (x43 := x1.f1) (x44 := x1.f2) (x45 := x1831) (x46 := x1850) (x47 := x1869) (x48 := 0) (x49 := 0) (x50 := 0) (x51 := 0) (x52 := 0) (x53 := 0) (x54 := 0) (x55 := 0) (x56 := 0) (x57 := 0) (x58 := 0) (x59 := 0) (x60 := 0) (x61 := []) (x65 := false) (x66 := 0) (x67 := []) (x71 := []) (x75 := []) h2343 h4 h7 h10 h13 (RSl.nil _ _ _) (RSl.nil _ _ _) (RSl.nil _ _ _) (RSl.nil _ _ _) ((hw.pick [4, 2, 1, 3, 5] (by kernel_rfl)).pack 2)) fun a w v hv hs => ?_
      obtain ⟨rfl, hw⟩ := hv
      replace hw := hw.unpack 2 rfl
      refine s_end ?_
      obtain rfl := someE hx2333
      exact (hJ2334 _ _).2 ⟨y2342, hk, hs.cast [2, 3, 6, 58, 59, 60] (by kernel_rfl), hw.pick [2, 1, 3, 0, 4] (by kernel_rfl)⟩
    refine c_cond0 hs (by kernel_rfl) (t := ((bAnd .i64 x1232 8) != 0)) (by kernel_rfl) h2339 ?_
    refine c_skip ?_
    obtain rfl := someE hx2333
    exact (hJ2334 _ _).2 ⟨0, hk, hs.cast [2, 3, 6, 58, 59, 60] (by kernel_rfl), hw.pick [1, 2, 3, 4, 5] (by kernel_rfl)⟩
  intro a w hh
  obtain ⟨x1888, hk, hs, hw⟩ := (hJ2334 _ _).1 hh
  refine c_region ?_
  refine pures hs 2 [2, 3, 6, 58, 59, 60] [(2, (pt b1206 0)), (3, vi64 x1232), (6, (pt b1236 0)), (58, .slice (some ⟨b1240, 0, none⟩) 15 15), (59, vi64 15), (60, vi64 4)] (by kernel_rfl) fun a hs => ?_
  refine s_end ?_
  refine c_unr ?_
  refine c_seq ?_
  refine c_region ?_
  refine pures hs 1 [2, 3, 6, 58, 59, 60, 61] [(2, (pt b1206 0)), (3, vi64 x1232), (6, (pt b1236 0)), (58, .slice (some ⟨b1240, 0, none⟩) 15 15), (59, vi64 15), (60, vi64 4), (61, .bool true)] (by kernel_rfl) fun a hs => ?_
  refine s_end ?_
  refine c_seq ?_
  refine c_condT hs (by kernel_rfl) (by kernel_rfl) ?_
  refine c_skip ?_
  obtain ⟨y2319, hx2320, hk⟩ := bindE hk
  obtain ⟨J2321, hJ2321⟩ : ∃ J : Act → World → Prop, ∀ a w, J a w ↔ (∃ (x1907 : Int), letter_bare_r56 x1232 x1 x1831 x1850 x1869 x1888 x1907 = some r ∧ Sees a 74 [(2, (pt b1206 0)), (3, vi64 x1232), (6, (pt b1236 0)), (58, .slice (some ⟨b1240, 0, none⟩) 15 15), (59, vi64 15), (60, vi64 4)] ∧ St g w [bx b1240 [vi64 1, .func (.func 95) #[] #[(pt b1204 0), (pt b1236 0)], vi64 2, .func (.func 96) #[] #[(pt b1204 0), (pt b1236 0)], vi64 4, .func (.func 97) #[] #[(pt b1204 0), (pt b1236 0)], vi64 8, .func (.func 98) #[] #[(pt b1204 0), (pt b1236 0)], vi64 16, .func (.func 99) #[] #[(pt b1204 0), (pt b1236 0)], vi64 32, .func (.func 100) #[] #[(pt b1204 0), (pt b1236 0)], vi64 64, .func (.func 101) #[] #[(pt b1204 0), (pt b1236 0)], vi64 128, .func (.func 102) #[] #[(pt b1204 0), (pt b1236 0)], vi64 256, .func (.func 103) #[] #[(pt b1204 0), (pt b1236 0)], vi64 512, .func (.func 104) #[] #[(pt b1204 0), (pt b1236 0)], vi64 1024, .func (.func 105) #[] #[(pt b1204 0), (pt b1236 0)], vi64 2048, .func (.func 106) #[] #[(pt b1204 0), (pt b1236 0)], vi64 4096, .func (.func 107) #[] #[(pt b1204 0), (pt b1236 0)], vi64 8192, .func (.func 108) #[] #[(pt b1204 0), (pt b1236 0)], vi64 16384, .func (.func 109) #[] #[(pt b1204 0), (pt b1236 0)]] 163, bx b1236 [vi64 x1.f0, vi64 x1.f1, vi64 x1.f2, vi64 x1831, vu64 x1850, vu64 x1869, vu64 0, vu64 x1888, vu64 x1907, vu64 0, vi64 0, vu32 0, vi64 0, vi64 0, vi64 0, vu64 0, vi64 0, vi64 0, vu64 0, .slice none 0 0, .bool false, vi64 0, .slice none 0 0, .slice none 0 0, .slice none 0 0] 48, bx b1206 [vi64 0, vi64 0, vi64 0, vi64 0, vu64 0, vu64 0, vu64 0, vu64 0, vu64 0, vu64 0, vi64 0, vu32 0, vi64 0, vi64 0, vi64 0, vu64 0, vi64 0, vi64 0, vu64 0, .slice none 0 0, .bool false, vi64 0, .slice none 0 0, .slice none 0 0, .slice none 0 0] 48, bx b1204 [vi64 x1.f0, vi64 x1.f1, vi64 x1.f2, vi64 x1.f3, vu64 x1.f4, vu64 x1.f5, vu64 x1.f6, vu64 x1.f7, vu64 x1.f8, vu64 x1.f9, vi64 x1.f10, vu32 x1.f11, vi64 x1.f12, vi64 x1.f13.f0, vi64 x1.f13.f1, vu64 x1.f13.f2, vi64 x1.f13.f3, vi64 x1.f14.f0, vu64 x1.f14.f1, .slice p2 x1.f14.f2.length c3, .bool x1.f14.f3, vi64 x1.f14.f4, .slice p5 x1.f15.length c6, .slice p8 x1.f16.length c9, .slice p11 x1.f17.length c12] 48, F] ih) := ⟨_, fun _ _ => Iff.rfl⟩
  refine c_seqJ J2321 ?_ ?_
  · refine c_block ?_
    refine c_seq ?_
    refine c_region ?_
    refine pures hs 1 [2, 3, 6, 58, 59, 60, 62] [(2, (pt b1206 0)), (3, vi64 x1232), (6, (pt b1236 0)), (58, .slice (some ⟨b1240, 0, none⟩) 15 15), (59, vi64 15), (60, vi64 4), (62, (pt b1240 8))] (by kernel_rfl) fun a hs => ?_
    refine s_load hs (hw.at_ 0 rfl) 8 (by kernel_rfl) (by kernel_rfl) (v := .agg #[vi64 16, .func (.func 99) #[] #[(pt b1204 0), (pt b1236 0)]]) (by kernel_rfl) fun a hs => ?_
    refine s_new hs hw [vi64 0, .nilFunc] 163 (fun b => (pt b 0)) (by kernel_rfl) (fun _ => by kernel_rfl) fun a w b2324 hs hw => ?_
    refine s_store hs hw 0 rfl 0 (by kernel_rfl) (by kernel_rfl) (v := .agg #[vi64 16, .func (.func 99) #[] #[(pt b1204 0), (pt b1236 0)]]) (by kernel_rfl) (by kernel_rfl) (by kernel_rfl) (by kernel_rfl) fun a w hs hw => ?_
    refine s_end ?_
    refine c_seq ?_
    refine c_region ?_
    refine pures hs 2 [2, 3, 6, 58, 59, 60, 8, 64, 65] [(2, (pt b1206 0)), (3, vi64 x1232), (6, (pt b1236 0)), (58, .slice (some ⟨b1240, 0, none⟩) 15 15), (59, vi64 15), (60, vi64 4), (8, (pt b2324 0)), (64, vi64 x1232), (65, (pt b2324 0))] (by kernel_rfl) fun a hs => ?_
    refine s_load hs (hw.at_ 0 rfl) 0 (by kernel_rfl) (by kernel_rfl) (v := vi64 16) (by kernel_rfl) fun a hs => ?_
    refine pures hs 2 [2, 3, 6, 58, 59, 60, 8, 68] [(2, (pt b1206 0)), (3, vi64 x1232), (6, (pt b1236 0)), (58, .slice (some ⟨b1240, 0, none⟩) 15 15), (59, vi64 15), (60, vi64 4), (8, (pt b2324 0)), (68, .bool ((bAnd .i64 x1232 16) != 0))] (by kernel_rfl) fun a hs => ?_
    refine s_end ?_
    rcases ifbE hx2320 with ⟨h2326, hx2320⟩ | ⟨h2326, hx2320⟩
    · refine c_cond1 hs (by kernel_rfl) (t := ((bAnd .i64 x1232 16) != 0)) (by kernel_rfl) h2326 ?_
      refine c_region ?_
      refine pures hs 1 [2, 3, 6, 58, 59, 60, 69] [(2, (pt b1206 0)), (3, vi64 x1232), (6, (pt b1236 0)), (58, .slice (some ⟨b1240, 0, none⟩) 15 15), (59, vi64 15), (60, vi64 4), (69, (pt b2324 1))] (by kernel_rfl) fun a hs => ?_
      refine s_load hs (hw.at_ 0 rfl) 1 (by kernel_rfl) (by kernel_rfl) (v := .func (.func 99) #[] #[(pt b1204 0), (pt b1236 0)]) (by kernel_rfl) fun a hs => ?_
      obtain ⟨y2329, h2330, hx2320⟩ := bindE hx2320
      refine s_call hs (by kernel_rfl) (by kernel_rfl) (letter_bare_5_s (x3 := x1.f0) (x4 := x1.f1) (x5 := x1.f2) (x6 := x1.f3) (x7 := x1.f4) (x8 := x1.f5) (x9 := x1.f6) (x10 := x1.f7) (x12 := x1.f9) (x13 := x1.f10) (x14 := x1.f11) (x15 := x1.f12) (x16 := x1.f13.f0) (x17 := x1.f13.f1) (x18 := x1.f13.f2) (x19 := x1.f13.f3) (x20 := x1.f14.f0) (x21 := x1.f14.f1) (x22 := x1.f14.f2) (x26 := x1.f14.f3) (x27 := x1.f14.f4) (x28 := x1.f15) (x32 := x1.f16) (x36 := x1.f17) (x42 := x1.f0) (x43 := x1.f1) (x44 := x1.f2) (x45 := x1831) (x46 := x1850) (x47 := x1869) (x48 := 0) (x49 := x1888) (x50 := 0) (x51 := 0) (x52 := 0) (x53 := 0) (x54 := 0) (x55 := 0) (x56 := 0) (x57 := 0) (x58 := 0) (x59 := 0) (x60 := 0) (x61 := []) (x65 := false) (x66 := 0) (x67 := []) (x71 := []) (x75 := []) h2330 h4 h7 h10 h13 (RSl.nil _ _ _) (RSl.nil _ _ _) (RSl.nil _ _ _) (RSl.nil _ _ _) ((hw.pick [4, 2, 1, 3, 5] (by kernel_rfl)).pack 2)) fun a w v hv hs => ?_
      obtain ⟨rfl, hw⟩ := hv
      replace hw := hw.unpack 2 rfl
      refine s_end ?_
      obtain rfl := someE hx2320
      exact (hJ2321 _ _).2 ⟨y2329, hk, hs.cast [2, 3, 6, 58, 59, 60] (by kernel_rfl), hw.pick [2, 1, 3, 0, 4] (by kernel_rfl)⟩
    refine c_cond0 hs (by kernel_rfl) (t := ((bAnd .i64 x1232 16) != 0)) (by kernel_rfl) h2326 ?_
    refine c_skip ?_
    obtain rfl := someE hx2320
    exact (hJ2321 _ _).2 ⟨0, hk, hs.cast [2, 3, 6, 58, 59, 60] (by kernel_rfl), hw.pick [1, 2, 3, 4, 5] (by kernel_rfl)⟩
  intro a w hh
  obtain ⟨x1907, hk, hs, hw⟩ := (hJ2321 _ _).1 hh
  refine c_region ?_
  refine pures hs 2 [2, 3, 6, 58, 59, 60] [(2, (pt b1206 0)), (3, vi64 x1232), (6, (pt b1236 0)), (58, .slice (some ⟨b1240, 0, none⟩) 15 15), (59, vi64 15), (60, vi64 5)] (by kernel_rfl) fun a hs => ?_
  refine s_end ?_
  refine c_unr ?_
  refine c_seq ?_
  refine c_region ?_
  refine pures hs 1 [2, 3, 6, 58, 59, 60, 61] [(2, (pt b1206 0)), (3, vi64 x1232), (6, (pt b1236 0)), (58, .slice (some ⟨b1240, 0, none⟩) 15 15), (59, vi64 15), (60, vi64 5), (61, .bool true)] (by kernel_rfl) fun a hs => ?_
  refine s_end ?_
  refine c_seq ?_
  refine c_condT hs (by kernel_rfl) (by kernel_rfl) ?_
  refine c_skip ?_
  obtain ⟨y2306, hx2307, hk⟩ := bindE hk
  obtain ⟨J2308, hJ2308⟩ : ∃ J : Act → World → Prop, ∀ a w, J a w ↔ (∃ (x1926 : Int), letter_bare_r55 x1232 x1 x1831 x1850 x1869 x1888 x1907 x1926 = some r ∧ Sees a 74 [(2, (pt b1206 0)), (3, vi64 x1232), (6, (pt b1236 0)), (58, .slice (some ⟨b1240, 0, none⟩) 15 15), (59, vi64 15), (60, vi64 5)] ∧ St g w [bx b1240 [vi64 1, .func (.func 95) #[] #[(pt b1204 0), (pt b1236 0)], vi64 2, .func (.func 96) #[] #[(pt b1204 0), (pt b1236 0)], vi64 4, .func (.func 97) #[] #[(pt b1204 0), (pt b1236 0)], vi64 8, .func (.func 98) #[] #[(pt b1204 0), (pt b1236 0)], vi64 16, .func (.func 99) #[] #[(pt b1204 0), (pt b1236 0)], vi64 32, .func (.func 100) #[] #[(pt b1204 0), (pt b1236 0)], vi64 64, .func (.func 101) #[] #[(pt b1204 0), (pt b1236 0)], vi64 128, .func (.func 102) #[] #[(pt b1204 0), (pt b1236 0)], vi64 256, .func (.func 103) #[] #[(pt b1204 0), (pt b1236 0)], vi64 512, .func (.func 104) #[] #[(pt b1204 0), (pt b1236 0)], vi64 1024, .func (.func 105) #[] #[(pt b1204 0), (pt b1236 0)], vi64 2048, .func (.func 106) #[] #[(pt b1204 0), (pt b1236 0)], vi64 4096, .func (.func 107) #[] #[(pt b1204 0), (pt b1236 0)], vi64 8192, .func (.func 108) #[] #[(pt b1204 0), (pt b1236 0)], vi64 16384, .func (.func 109) #[] #[(pt b1204 0), (pt b1236 0)]] 163, bx b1236 [vi64 x1.f0, vi64 x1.f1, vi64 x1.f2, vi64 x1831, vu64 x1850, vu64 x1869, vu64 0, vu64 x1888, vu64 x1907, vu64 0, vi64 x1926, vu32 0, vi64 0, vi64 0, vi64 0, vu64 0, vi64 0, vi64 0, vu64 0, .slice none 0 0, .bool false, vi64 0, .slice none 0 0, .slice none 0 0, .slice none 0 0] 48, bx b1206 [vi64 0, vi64 0, vi64 0, vi64 0, vu64 0, vu64 0, vu64 0, vu64 0, vu64 0, vu64 0, vi64 0, vu32 0, vi64 0, vi64 0, vi64 0, vu64 0, vi64 0, vi64 0, vu64 0, .slice none 0 0, .bool false, vi64 0, .slice none 0 0, .slice none 0 0, .slice none 0 0] 48, bx b1204 [vi64 x1.f0, vi64 x1.f1, vi64 x1.f2, vi64 x1.f3, vu64 x1.f4, vu64 x1.f5, vu64 x1.f6, vu64 x1.f7, vu64 x1.f8, vu64 x1.f9, vi64 x1.f10, vu32 x1.f11, vi64 x1.f12, vi64 x1.f13.f0, vi64 x1.f13.f1, vu64 x1.f13.f2, vi64 x1.f13.f3, vi64 x1.f14.f0, vu64 x1.f14.f1, .slice p2 x1.f14.f2.length c3, .bool x1.f14.f3, vi64 x1.f14.f4, .slice p5 x1.f15.length c6, .slice p8 x1.f16.length c9, .slice p11 x1.f17.length c12] 48, F] ih) := ⟨_, fun _ _ => Iff.rfl⟩
  refine c_seqJ J2308 ?_ ?_
  · refine c_block ?_
    refine c_seq ?_
    refine c_region ?_
    refine pures hs 1 [2, 3, 6, 58, 59, 60, 62] [(2, (pt b1206 0)), (3, vi64 x1232), (6, (pt b1236 0)), (58, .slice (some ⟨b1240, 0, none⟩) 15 15), (59, vi64 15), (60, vi64 5), (62, (pt b1240 10))] (by kernel_rfl) fun a hs => ?_
    refine s_load hs (hw.at_ 0 rfl) 10 (by kernel_rfl) (by kernel_rfl) (v := .agg #[vi64 32, .func (.func 100) #[] #[(pt b1204 0), (pt b1236 0)]]) (by kernel_rfl) fun a hs => ?_
    refine s_new hs hw [vi64 0, .nilFunc] 163 (fun b => (pt b 0)) (by kernel_rfl) (fun _ => by kernel_rfl) fun a w b2311 hs hw => ?_
    refine s_store hs hw 0 rfl 0 (by kernel_rfl) (by kernel_rfl) (v := .agg #[vi64 32, .func (.func 100) #[] #[(pt b1204 0), (pt b1236 0)]]) (by kernel_rfl) (by kernel_rfl) (by kernel_rfl) (by kernel_rfl) fun a w hs hw => ?_
    refine s_end ?_
    refine c_seq ?_
    refine c_region ?_
    refine pures hs 2 [2, 3, 6, 58, 59, 60, 8, 64, 65] [(2, (pt b1206 0)), (3, vi64 x1232), (6, (pt b1236 0)), (58, .slice (some ⟨b1240, 0, none⟩) 15 15), (59, vi64 15), (60, vi64 5), (8, (pt b2311 0)), (64, vi64 x1232), (65, (pt b2311 0))] (by kernel_rfl) fun a hs => ?_
    refine s_load hs (hw.at_ 0 rfl) 0 (by kernel_rfl) (by kernel_rfl) (v := vi64 32) (by kernel_rfl) fun a hs => ?_
    refine pures hs 2 [2, 3, 6, 58, 59, 60, 8, 68] [(2, (pt b1206 0)), (3, vi64 x1232), (6, (pt b1236 0)), (58, .slice (some ⟨b1240, 0, none⟩) 15 15), (59, vi64 15), (60, vi64 5), (8, (pt b2311 0)), (68, .bool ((bAnd .i64 x1232 32) != 0))] (by kernel_rfl) fun a hs => ?_
    refine s_end ?_
    rcases ifbE hx2307 with ⟨h2313, hx2307⟩ | ⟨h2313, hx2307⟩
    · refine c_cond1 hs (by kernel_rfl) (t := ((bAnd .i64 x1232 32) != 0)) (by kernel_rfl) h2313 ?_
      refine c_region ?_
      refine pures hs 1 [2, 3, 6, 58, 59, 60, 69] [(2, (pt b1206 0)), (3, vi64 x1232), (6, (pt b1236 0)), (58, .slice (some ⟨b1240, 0, none⟩) 15 15), (59, vi64 15), (60, vi64 5), (69, (pt b2311 1))] (by kernel_rfl) fun a hs => ?_
      refine s_load hs (hw.at_ 0 rfl) 1 (by kernel_rfl) (by kernel_rfl) (v := .func (.func 100) #[] #[(pt b1204 0), (pt b1236 0)]) (by kernel_rfl) fun a hs => ?_
      obtain ⟨y2316, h2317, hx2307⟩ := bindE hx2307
      refine s_call hs (by kernel_rfl) (by kernel_rfl) (letter_bare_6_s (x3 := x1.f0) (x4 := x1.f1) (x5 := x1.f2) (x6 := x1.f3) (x7 := x1.f4) (x8 := x1.f5) (x9 := x1.f6) (x10 := x1.f7) (x11 := x1.f8) (x12 := x1.f9) (x14 := x1.f11) (x15 := x1.f12) (x16 := x1.f13.f0) (x17 := x1.f13.f1) (x18 := x1.f13.f2) (x19 := x1.f13.f3) (x20 := x1.f14.f0) (x21 := x1.f14.f1) (x22 := x1.f14.f2) (x26 := x1.f14.f3) (x27 := x1.f14.f4) (x28 := x1.f15) (x32 := x1.f16) (x36 := x1.f17) (x42 := x1.f0) (x43 := x1.f1) (x44 := x1.f2) (x45 := x1831) (x46 := x1850) (x47 := x1869) (x48 := 0) (x49 := x1888) (x50 := x1907) (x51 := 0) (x52 := 0) (x53 := 0) (x54 := 0) (x55 := 0) (x56 := 0) (x57 := 0) (x58 := 0) (x59 := 0) (x60 := 0) (x61 := []) (x65 := false) (x66 := 0) (x67 := []) (x71 := []) (x75 := []) h2317 h4 h7 h10 h13 (RSl.nil _ _ _) (RSl.nil _ _ _) (RSl.nil _ _ _) (RSl.nil _ _ _) ((hw.pick [4, 2, 1, 3, 5] (by kernel_rfl)).pack 2)) fun a w v hv hs => ?_
      obtain ⟨rfl, hw⟩ := hv
      replace hw := hw.unpack 2 rfl
      refine s_end ?_
      obtain rfl := someE hx2307
      exact (hJ2308 _ _).2 ⟨y2316, hk, hs.cast [2, 3, 6, 58, 59, 60] (by kernel_rfl), hw.pick [2, 1, 3, 0, 4] (by kernel_rfl)⟩
    refine c_cond0 hs (by kernel_rfl) (t := ((bAnd .i64 x1232 32) != 0)) (by kernel_rfl) h2313 ?_
    refine c_skip ?_
    obtain rfl := someE hx2307
    exact (hJ2308 _ _).2 ⟨0, hk, hs.cast [2, 3, 6, 58, 59, 60] (by kernel_rfl), hw.pick [1, 2, 3, 4, 5] (by kernel_rfl)⟩
  intro a w hh
  obtain ⟨x1926, hk, hs, hw⟩ := (hJ2308 _ _).1 hh
  refine c_region ?_
  refine pures hs 2 [2, 3, 6, 58, 59, 60] [(2, (pt b1206 0)), (3, vi64 x1232), (6, (pt b1236 0)), (58, .slice (some ⟨b1240, 0, none⟩) 15 15), (59, vi64 15), (60, vi64 6)] (by kernel_rfl) fun a hs => ?_
  refine s_end ?_
  refine c_unr ?_
  refine c_seq ?_
  refine c_region ?_
  refine pures hs 1 [2, 3, 6, 58, 59, 60, 61] [(2, (pt b1206 0)), (3, vi64 x1232), (6, (pt b1236 0)), (58, .slice (some ⟨b1240, 0, none⟩) 15 15), (59, vi64 15), (60, vi64 6), (61, .bool true)] (by kernel_rfl) fun a hs => ?_
  refine s_end ?_
  refine c_seq ?_
  refine c_condT hs (by kernel_rfl) (by kernel_rfl) ?_
  refine c_skip ?_
  obtain ⟨y2293, hx2294, hk⟩ := bindE hk
  obtain ⟨J2295, hJ2295⟩ : ∃ J : Act → World → Prop, ∀ a w, J a w ↔ (∃ (x1945 : Int), letter_bare_r54 x1232 x1 x1831 x1850 x1869 x1888 x1907 x1926 x1945 = some r ∧ Sees a 74 [(2, (pt b1206 0)), (3, vi64 x1232), (6, (pt b1236 0)), (58, .slice (some ⟨b1240, 0, none⟩) 15 15), (59, vi64 15), (60, vi64 6)] ∧ St g w [bx b1240 [vi64 1, .func (.func 95) #[] #[(pt b1204 0), (pt b1236 0)], vi64 2, .func (.func 96) #[] #[(pt b1204 0), (pt b1236 0)], vi64 4, .func (.func 97) #[] #[(pt b1204 0), (pt b1236 0)], vi64 8, .func (.func 98) #[] #[(pt b1204 0), (pt b1236 0)], vi64 16, .func (.func 99) #[] #[(pt b1204 0), (pt b1236 0)], vi64 32, .func (.func 100) #[] #[(pt b1204 0), (pt b1236 0)], vi64 64, .func (.func 101) #[] #[(pt b1204 0), (pt b1236 0)], vi64 128, .func (.func 102) #[] #[(pt b1204 0), (pt b1236 0)], vi64 256, .func (.func 103) #[] #[(pt b1204 0), (pt b1236 0)], vi64 512, .func (.func 104) #[] #[(pt b1204 0), (pt b1236 0)], vi64 1024, .func (.func 105) #[] #[(pt b1204 0), (pt b1236 0)], vi64 2048, .func (.func 106) #[] #[(pt b1204 0), (pt b1236 0)], vi64 4096, .func (.func 107) #[] #[(pt b1204 0), (pt b1236 0)], vi64 8192, .func (.func 108) #[] #[(pt b1204 0), (pt b1236 0)], vi64 16384, .func (.func 109) #[] #[(pt b1204 0), (pt b1236 0)]] 163, bx b1236 [vi64 x1.f0, vi64 x1.f1, vi64 x1.f2, vi64 x1831, vu64 x1850, vu64 x1869, vu64 x1945, vu64 x1888, vu64 x1907, vu64 0, vi64 x1926, vu32 0, vi64 0, vi64 0, vi64 0, vu64 0, vi64 0, vi64 0, vu64 0, .slice none 0 0, .bool false, vi64 0, .slice none 0 0, .slice none 0 0, .slice none 0 0] 48, bx b1206 [vi64 0, vi64 0, vi64 0, vi64 0, vu64 0, vu64 0, vu64 0, vu64 0, vu64 0, vu64 0, vi64 0, vu32 0, vi64 0, vi64 0, vi64 0, vu64 0, vi64 0, vi64 0, vu64 0, .slice none 0 0, .bool false, vi64 0, .slice none 0 0, .slice none 0 0, .slice none 0 0] 48, bx b1204 [vi64 x1.f0, vi64 x1.f1, vi64 x1.f2, vi64 x1.f3, vu64 x1.f4, vu64 x1.f5, vu64 x1.f6, vu64 x1.f7, vu64 x1.f8, vu64 x1.f9, vi64 x1.f10, vu32 x1.f11, vi64 x1.f12, vi64 x1.f13.f0, vi64 x1.f13.f1, vu64 x1.f13.f2, vi64 x1.f13.f3, vi64 x1.f14.f0, vu64 x1.f14.f1, .slice p2 x1.f14.f2.length c3, .bool x1.f14.f3, vi64 x1.f14.f4, .slice p5 x1.f15.length c6, .slice p8 x1.f16.length c9, .slice p11 x1.f17.length c12] 48, F] ih) := ⟨_, fun _ _ => Iff.rfl⟩
  refine c_seqJ J2295 ?_ ?_
  · refine c_block ?_
    refine c_seq ?_
    refine c_region ?_
    refine pures hs 1 [2, 3, 6, 58, 59, 60, 62] [(2, (pt b1206 0)), (3, vi64 x1232), (6, (pt b1236 0)), (58, .slice (some ⟨b1240, 0, none⟩) 15 15), (59, vi64 15), (60, vi64 6), (62, (pt b1240 12))] (by kernel_rfl) fun a hs => ?_
    refine s_load hs (hw.at_ 0 rfl) 12 (by kernel_rfl) (by kernel_rfl) (v := .agg #[vi64 64, .func (.func 101) #[] #[(pt b1204 0), (pt b1236 0)]]) (by kernel_rfl) fun a hs => ?_
    refine s_new hs hw [vi64 0, .nilFunc] 163 (fun b => (pt b 0)) (by kernel_rfl) (fun _ => by kernel_rfl) fun a w b2298 hs hw => ?_
    refine s_store hs hw 0 rfl 0 (by kernel_rfl) (by kernel_rfl) (v := .agg #[vi64 64, .func (.func 101) #[] #[(pt b1204 0), (pt b1236 0)]]) (by kernel_rfl) (by kernel_rfl) (by kernel_rfl) (by kernel_rfl) fun a w hs hw => ?_
    refine s_end ?_
    refine c_seq ?_
    refine c_region ?_
    refine pures hs 2 [2, 3, 6, 58, 59, 60, 8, 64, 65] [(2, (pt b1206 0)), (3, vi64 x1232), (6, (pt b1236 0)), (58, .slice (some ⟨b1240, 0, none⟩) 15 15), (59, vi64 15), (60, vi64 6), (8, (pt b2298 0)), (64, vi64 x1232), (65, (pt b2298 0))] (by kernel_rfl) fun a hs => ?_
    refine s_load hs (hw.at_ 0 rfl) 0 (by kernel_rfl) (by kernel_rfl) (v := vi64 64) (by kernel_rfl) fun a hs => ?_
    refine pures hs 2 [2, 3, 6, 58, 59, 60, 8, 68] [(2, (pt b1206 0)), (3, vi64 x1232), (6, (pt b1236 0)), (58, .slice (some ⟨b1240, 0, none⟩) 15 15), (59, vi64 15), (60, vi64 6), (8, (pt b2298 0)), (68, .bool ((bAnd .i64 x1232 64) != 0))] (by kernel_rfl) fun a hs => ?_
    refine s_end ?_
    rcases ifbE hx2294 with ⟨h2300, hx2294⟩ | ⟨h2300, hx2294⟩
    · refine c_cond1 hs (by kernel_rfl) (t := ((bAnd .i64 x1232 64) != 0)) (by kernel_rfl) h2300 ?_
      refine c_region ?_
      refine pures hs 1 [2, 3, 6, 58, 59, 60, 69] [(2, (pt b1206 0)), (3, vi64 x1232), (6, (pt b1236 0)), (58, .slice (some ⟨b1240, 0, none⟩) 15 15), (59, vi64 15), (60, vi64 6), (69, (pt b2298 1))] (by kernel_rfl) fun a hs => ?_
      refine s_load hs (hw.at_ 0 rfl) 1 (by kernel_rfl) (by kernel_rfl) (v := .func (.func 101) #[] #[(pt b1204 0), (pt b1236 0)]) (by kernel_rfl) fun a hs => ?_
      obtain ⟨y2303, h2304, hx2294⟩ := bindE hx2294
      refine s_call hs (by kernel_rfl) (by kernel_rfl) (letter_bare_7_s (x3 := x1.f0) (x4 := x1.f1) (x5 := x1.f2) (x6 := x1.f3) (x7 := x1.f4) (x8 := x1.f5) (x10 := x1.f7) (x11 := x1.f8) (x12 := x1.f9) (x13 := x1.f10) (x14 := x1.f11) (x15 := x1.f12) (x16 := x1.f13.f0) (x17 := x1.f13.f1) (x18 := x1.f13.f2) (x19 := x1.f13.f3) (x20 := x1.f14.f0) (x21 := x1.f14.f1) (x22 := x1.f14.f2) (x26 := x1.f14.f3) (x27 := x1.f14.f4) (x28 := x1.f15) (x32 := x1.f16) (x36 := x1.f17) (x42 := x1.f0) (x43 := x1.f1) (x44 := x1.f2) (x45 := x1831) (x46 := x1850) (x47 := x1869) (x48 := 0) (x49 := x1888) (x50 := x1907) (x51 := 0) (x52 := x1926) (x53 := 0) (x54 := 0) (x55 := 0) (x56 := 0) (x57 := 0) (x58 := 0) (x59 := 0) (x60 := 0) (x61 := []) (x65 := false) (x66 := 0) (x67 := []) (x71 := []) (x75 := []) h2304 h4 h7 h10 h13 (RSl.nil _ _ _) (RSl.nil _ _ _) (RSl.nil _ _ _) (RSl.nil _ _ _) ((hw.pick [4, 2, 1, 3, 5] (by kernel_rfl)).pack 2)) fun a w v hv hs => ?_
      obtain ⟨rfl, hw⟩ := hv
      replace hw := hw.unpack 2 rfl
      refine s_end ?_
      obtain rfl := someE hx2294
      exact (hJ2295 _ _).2 ⟨y2303, hk, hs.cast [2, 3, 6, 58, 59, 60] (by kernel_rfl), hw.pick [2, 1, 3, 0, 4] (by kernel_rfl)⟩
    refine c_cond0 hs (by kernel_rfl) (t := ((bAnd .i64 x1232 64) != 0)) (by kernel_rfl) h2300 ?_
    refine c_skip ?_
    obtain rfl := someE hx2294
    exact (hJ2295 _ _).2 ⟨0, hk, hs.cast [2, 3, 6, 58, 59, 60] (by kernel_rfl), hw.pick [1, 2, 3, 4, 5] (by kernel_rfl)⟩
  intro a w hh
  obtain ⟨x1945, hk, hs, hw⟩ := (hJ2295 _ _).1 hh
  refine c_region ?_
  refine pures hs 2 [2, 3, 6, 58, 59, 60] [(2, (pt b1206 0)), (3, vi64 x1232), (6, (pt b1236 0)), (58, .slice (some ⟨b1240, 0, none⟩) 15 15), (59, vi64 15), (60, vi64 7)] (by kernel_rfl) fun a hs => ?_
  refine s_end ?_
  refine c_unr ?_
  refine c_seq ?_
  refine c_region ?_
  refine pures hs 1 [2, 3, 6, 58, 59, 60, 61] [(2, (pt b1206 0)), (3, vi64 x1232), (6, (pt b1236 0)), (58, .slice (some ⟨b1240, 0, none⟩) 15 15), (59, vi64 15), (60, vi64 7), (61, .bool true)] (by kernel_rfl) fun a hs => ?_
  refine s_end ?_
  refine c_seq ?_
  refine c_condT hs (by kernel_rfl) (by kernel_rfl) ?_
  refine c_skip ?_
  obtain ⟨y2280, hx2281, hk⟩ := bindE hk
  obtain ⟨J2282, hJ2282⟩ : ∃ J : Act → World → Prop, ∀ a w, J a w ↔ (∃ (x1964 : Int), letter_bare_r53 x1232 x1 x1831 x1850 x1869 x1945 x1888 x1907 x1926 x1964 = some r ∧ Sees a 74 [(2, (pt b1206 0)), (3, vi64 x1232), (6, (pt b1236 0)), (58, .slice (some ⟨b1240, 0, none⟩) 15 15), (59, vi64 15), (60, vi64 7)] ∧ St g w [bx b1240 [vi64 1, .func (.func 95) #[] #[(pt b1204 0), (pt b1236 0)], vi64 2, .func (.func 96) #[] #[(pt b1204 0), (pt b1236 0)], vi64 4, .func (.func 97) #[] #[(pt b1204 0), (pt b1236 0)], vi64 8, .func (.func 98) #[] #[(pt b1204 0), (pt b1236 0)], vi64 16, .func (.func 99) #[] #[(pt b1204 0), (pt b1236 0)], vi64 32, .func (.func 100) #[] #[(pt b1204 0), (pt b1236 0)], vi64 64, .func (.func 101) #[] #[(pt b1204 0), (pt b1236 0)], vi64 128, .func (.func 102) #[] #[(pt b1204 0), (pt b1236 0)], vi64 256, .func (.func 103) #[] #[(pt b1204 0), (pt b1236 0)], vi64 512, .func (.func 104) #[] #[(pt b1204 0), (pt b1236 0)], vi64 1024, .func (.func 105) #[] #[(pt b1204 0), (pt b1236 0)], vi64 2048, .func (.func 106) #[] #[(pt b1204 0), (pt b1236 0)], vi64 4096, .func (.func 107) #[] #[(pt b1204 0), (pt b1236 0)], vi64 8192, .func (.func 108) #[] #[(pt b1204 0), (pt b1236 0)], vi64 16384, .func (.func 109) #[] #[(pt b1204 0), (pt b1236 0)]] 163, bx b1236 [vi64 x1.f0, vi64 x1.f1, vi64 x1.f2, vi64 x1831, vu64 x1850, vu64 x1869, vu64 x1945, vu64 x1888, vu64 x1907, vu64 0, vi64 x1926, vu32 0, vi64 x1964, vi64 0, vi64 0, vu64 0, vi64 0, vi64 0, vu64 0, .slice none 0 0, .bool false, vi64 0, .slice none 0 0, .slice none 0 0, .slice none 0 0] 48, bx b1206 [vi64 0, vi64 0, vi64 0, vi64 0, vu64 0, vu64 0, vu64 0, vu64 0, vu64 0, vu64 0, vi64 0, vu32 0, vi64 0, vi64 0, vi64 0, vu64 0, vi64 0, vi64 0, vu64 0, .slice none 0 0, .bool false, vi64 0, .slice none 0 0, .slice none 0 0, .slice none 0 0] 48, bx b1204 [vi64 x1.f0, vi64 x1.f1, vi64 x1.f2, vi64 x1.f3, vu64 x1.f4, vu64 x1.f5, vu64 x1.f6, vu64 x1.f7, vu64 x1.f8, vu64 x1.f9, vi64 x1.f10, vu32 x1.f11, vi64 x1.f12, vi64 x1.f13.f0, vi64 x1.f13.f1, vu64 x1.f13.f2, vi64 x1.f13.f3, vi64 x1.f14.f0, vu64 x1.f14.f1, .slice p2 x1.f14.f2.length c3, .bool x1.f14.f3, vi64 x1.f14.f4, .slice p5 x1.f15.length c6, .slice p8 x1.f16.length c9, .slice p11 x1.f17.length c12] 48, F] ih) := ⟨_, fun _ _ => Iff.rfl⟩
  refine c_seqJ J2282 ?_ ?_
  · refine c_block ?_
    refine c_seq ?_
    refine c_region ?_
    refine pures hs 1 [2, 3, 6, 58, 59, 60, 62] [(2, (pt b1206 0)), (3, vi64 x1232), (6, (pt b1236 0)), (58, .slice (some ⟨b1240, 0, none⟩) 15 15), (59, vi64 15), (60, vi64 7), (62, (pt b1240 14))] (by kernel_rfl) fun a hs => ?_
    refine s_load hs (hw.at_ 0 rfl) 14 (by kernel_rfl) (by kernel_rfl) (v := .agg #[vi64 128, .func (.func 102) #[] #[(pt b1204 0), (pt b1236 0)]]) (by kernel_rfl) fun a hs => ?_
    refine s_new hs hw [vi64 0, .nilFunc] 163 (fun b => (pt b 0)) (by kernel_rfl) (fun _ => by kernel_rfl) fun a w b2285 hs hw => ?_
    refine s_store hs hw 0 rfl 0 (by kernel_rfl) (by kernel_rfl) (v := .agg #[vi64 128, .func (.func 102) #[] #[(pt b1204 0), (pt b1236 0)]]) (by kernel_rfl) (by kernel_rfl) (by kernel_rfl) (by kernel_rfl) fun a w hs hw => ?_
    refine s_end ?_
    refine c_seq ?_
    refine c_region ?_
    refine pures hs 2 [2, 3, 6, 58, 59, 60, 8, 64, 65] [(2, (pt b1206 0)), (3, vi64 x1232), (6, (pt b1236 0)), (58, .slice (some ⟨b1240, 0, none⟩) 15 15), (59, vi64 15), (60, vi64 7), (8, (pt b2285 0)), (64, vi64 x1232), (65, (pt b2285 0))] (by kernel_rfl) fun a hs => ?_
    refine s_load hs (hw.at_ 0 rfl) 0 (by kernel_rfl) (by kernel_rfl) (v := vi64 128) (by kernel_rfl) fun a hs => ?_
    refine pures hs 2 [2, 3, 6, 58, 59, 60, 8, 68] [(2, (pt b1206 0)), (3, vi64 x1232), (6, (pt b1236 0)), (58, .slice (some ⟨b1240, 0, none⟩) 15 15), (59, vi64 15), (60, vi64 7), (8, (pt b2285 0)), (68, .bool ((bAnd .i64 x1232 128) != 0))] (by kernel_rfl) fun a hs => ?_
    refine s_end ?_
    rcases ifbE hx2281 with ⟨h2287, hx2281⟩ | ⟨h2287, hx2281⟩
    · refine c_cond1 hs (by kernel_rfl) (t := ((bAnd .i64 x1232 128) != 0)) (by kernel_rfl) h2287 ?_
      refine c_region ?_
      refine pures hs 1 [2, 3, 6, 58, 59, 60, 69] [(2, (pt b1206 0)), (3, vi64 x1232), (6, (pt b1236 0)), (58, .slice (some ⟨b1240, 0, none⟩) 15 15), (59, vi64 15), (60, vi64 7), (69, (pt b2285 1))] (by kernel_rfl) fun a hs => ?_
      refine s_load hs (hw.at_ 0 rfl) 1 (by kernel_rfl) (by kernel_rfl) (v := .func (.func 102) #[] #[(pt b1204 0), (pt b1236 0)]) (by kernel_rfl) fun a hs => ?_
      obtain ⟨y2290, h2291, hx2281⟩ := bindE hx2281
      refine s_call hs (by kernel_rfl) (by kernel_rfl) (letter_bare_8_s (x3 := x1.f0) (x4 := x1.f1) (x5 := x1.f2) (x6 := x1.f3) (x7 := x1.f4) (x8 := x1.f5) (x9 := x1.f6) (x10 := x1.f7) (x11 := x1.f8) (x12 := x1.f9) (x13 := x1.f10) (x14 := x1.f11) (x16 := x1.f13.f0) (x17 := x1.f13.f1) (x18 := x1.f13.f2) (x19 := x1.f13.f3) (x20 := x1.f14.f0) (x21 := x1.f14.f1) (x22 := x1.f14.f2) (x26 := x1.f14.f3) (x27 := x1.f14.f4) (x28 := x1.f15) (x32 := x1.f16) (x36 := x1.f17) (x42 := x1.f0) (x43 := x1.f1) (x44 := x1.f2) (x45 := x1831) (x46 := x1850) (x47 := x1869) (x48 := x1945) (x49 := x1888) (x50 := x1907) (x51 := 0) (x52 := x1926) (x53 := 0) (x54 := 0) (x55 := 0) (x56 := 0) (x57 := 0) (x58 := 0) (x59 := 0) (x60 := 0) (x61 := []) (x65 := false) (x66 := 0) (x67 := []) (x71 := []) (x75 := []) h2291 h4 h7 h10 h13 (RSl.nil _ _ _) (RSl.nil _ _ _) (RSl.nil _ _ _) (RSl.nil _ _ _) ((hw.pick [4, 2, 1, 3, 5] (by kernel_rfl)).pack 2)) fun a w v hv hs => ?_
      obtain ⟨rfl, hw⟩ := hv
      replace hw := hw.unpack 2 rfl
      refine s_end ?_
      obtain rfl := someE hx2281
      exact (hJ2282 _ _).2 ⟨y2290, hk, hs.cast [2, 3, 6, 58, 59, 60] (by kernel_rfl), hw.pick [2, 1, 3, 0, 4] (by kernel_rfl)⟩
    refine c_cond0 hs (by kernel_rfl) (t := ((bAnd .i64 x1232 128) != 0)) (by kernel_rfl) h2287 ?_
    refine c_skip ?_
    obtain rfl := someE hx2281
    exact (hJ2282 _ _).2 ⟨0, hk, hs.cast [2, 3, 6, 58, 59, 60] (by kernel_rfl), hw.pick [1, 2, 3, 4, 5] (by kernel_rfl)⟩
  intro a w hh
  obtain ⟨x1964, hk, hs, hw⟩ := (hJ2282 _ _).1 hh
  refine c_region ?_
  refine pures hs 2 [2, 3, 6, 58, 59, 60] [(2, (pt b1206 0)), (3, vi64 x1232), (6, (pt b1236 0)), (58, .slice (some ⟨b1240, 0, none⟩) 15 15), (59, vi64 15), (60, vi64 8)] (by kernel_rfl) fun a hs => ?_
  refine s_end ?_
  refine c_unr ?_
  refine c_seq ?_
  refine c_region ?_
  refine pures hs 1 [2, 3, 6, 58, 59, 60, 61] [(2, (pt b1206 0)), (3, vi64 x1232), (6, (pt b1236 0)), (58, .slice (some ⟨b1240, 0, none⟩) 15 15), (59, vi64 15), (60, vi64 8), (61, .bool true)] (by kernel_rfl) fun a hs => ?_
  refine s_end ?_
  refine c_seq ?_
  refine c_condT hs (by kernel_rfl) (by kernel_rfl) ?_
  refine c_skip ?_
  obtain ⟨y2267, hx2268, hk⟩ := bindE hk
  obtain ⟨J2269, hJ2269⟩ : ∃ J : Act → World → Prop, ∀ a w, J a w ↔ (∃ (x1983 : Int), letter_bare_r52 x1232 x1 x1831 x1850 x1869 x1945 x1888 x1907 x1926 x1964 x1983 = some r ∧ Sees a 74 [(2, (pt b1206 0)), (3, vi64 x1232), (6, (pt b1236 0)), (58, .slice (some ⟨b1240, 0, none⟩) 15 15), (59, vi64 15), (60, vi64 8)] ∧ St g w [bx b1240 [vi64 1, .func (.func 95) #[] #[(pt b1204 0), (pt b1236 0)], vi64 2, .func (.func 96) #[] #[(pt b1204 0), (pt b1236 0)], vi64 4, .func (.func 97) #[] #[(pt b1204 0), (pt b1236 0)], vi64 8, .func (.func 98) #[] #[(pt b1204 0), (pt b1236 0)], vi64 16, .func (.func 99) #[] #[(pt b1204 0), (pt b1236 0)], vi64 32, .func (.func 100) #[] #[(pt b1204 0), (pt b1236 0)], vi64 64, .func (.func 101) #[] #[(pt b1204 0), (pt b1236 0)], vi64 128, .func (.func 102) #[] #[(pt b1204 0), (pt b1236 0)], vi64 256, .func (.func 103) #[] #[(pt b1204 0), (pt b1236 0)], vi64 512, .func (.func 104) #[] #[(pt b1204 0), (pt b1236 0)], vi64 1024, .func (.func 105) #[] #[(pt b1204 0), (pt b1236 0)], vi64 2048, .func (.func 106) #[] #[(pt b1204 0), (pt b1236 0)], vi64 4096, .func (.func 107) #[] #[(pt b1204 0), (pt b1236 0)], vi64 8192, .func (.func 108) #[] #[(pt b1204 0), (pt b1236 0)], vi64 16384, .func (.func 109) #[] #[(pt b1204 0), (pt b1236 0)]] 163, bx b1236 [vi64 x1.f0, vi64 x1.f1, vi64 x1.f2, vi64 x1831, vu64 x1850, vu64 x1869, vu64 x1945, vu64 x1888, vu64 x1907, vu64 0, vi64 x1926, vu32 x1983, vi64 x1964, vi64 0, vi64 0, vu64 0, vi64 0, vi64 0, vu64 0, .slice none 0 0, .bool false, vi64 0, .slice none 0 0, .slice none 0 0, .slice none 0 0] 48, bx b1206 [vi64 0, vi64 0, vi64 0, vi64 0, vu64 0, vu64 0, vu64 0, vu64 0, vu64 0, vu64 0, vi64 0, vu32 0, vi64 0, vi64 0, vi64 0, vu64 0, vi64 0, vi64 0, vu64 0, .slice none 0 0, .bool false, vi64 0, .slice none 0 0, .slice none 0 0, .slice none 0 0] 48, bx b1204 [vi64 x1.f0, vi64 x1.f1, vi64 x1.f2, vi64 x1.f3, vu64 x1.f4, vu64 x1.f5, vu64 x1.f6, vu64 x1.f7, vu64 x1.f8, vu64 x1.f9, vi64 x1.f10, vu32 x1.f11, vi64 x1.f12, vi64 x1.f13.f0, vi64 x1.f13.f1, vu64 x1.f13.f2, vi64 x1.f13.f3, vi64 x1.f14.f0, vu64 x1.f14.f1, .slice p2 x1.f14.f2.length c3, .bool x1.f14.f3, vi64 x1.f14.f4, .slice p5 x1.f15.length c6, .slice p8 x1.f16.length c9, .slice p11 x1.f17.length c12] 48, F] ih) := ⟨_, fun _ _ => Iff.rfl⟩
  refine c_seqJ J2269 ?_ ?_
  · refine c_block ?_
    refine c_seq ?_
    refine c_region ?_
    refine pures hs 1 [2, 3, 6, 58, 59, 60, 62] [(2, (pt b1206 0)), (3, vi64 x1232), (6, (pt b1236 0)), (58, .slice (some ⟨b1240, 0, none⟩) 15 15), (59, vi64 15), (60, vi64 8), (62, (pt b1240 16))] (by kernel_rfl) fun a hs => ?_
    refine s_load hs (hw.at_ 0 rfl) 16 (by kernel_rfl) (by kernel_rfl) (v := .agg #[vi64 256, .func (.func 103) #[] #[(pt b1204 0), (pt b1236 0)]]) (by kernel_rfl) fun a hs => ?_
    refine s_new hs hw [vi64 0, .nilFunc] 163 (fun b => (pt b 0)) (by kernel_rfl) (fun _ => by kernel_rfl) fun a w b2272 hs hw => ?_
    refine s_store hs hw 0 rfl 0 (by kernel_rfl) (by kernel_rfl) (v := .agg #[vi64 256, .func (.func 103) #[] #[(pt b1204 0), (pt b1236 0)]]) (by kernel_rfl) (by kernel_rfl) (by kernel_rfl) (by kernel_rfl) fun a w hs hw => ?_
    refine s_end ?_
    refine c_seq ?_
    refine c_region ?_
    refine pures hs 2 [2, 3, 6, 58, 59, 60, 8, 64, 65] [(2, (pt b1206 0)), (3, vi64 x1232), (6, (pt b1236 0)), (58, .slice (some ⟨b1240, 0, none⟩) 15 15), (59, vi64 15), (60, vi64 8), (8, (pt b2272 0)), (64, vi64 x1232), (65, (pt b2272 0))] (by kernel_rfl) fun a hs => ?_
    refine s_load hs (hw.at_ 0 rfl) 0 (by kernel_rfl) (by kernel_rfl) (v := vi64 256) (by kernel_rfl) fun a hs => ?_
    refine pures hs 2 [2, 3, 6, 58, 59, 60, 8, 68] [(2, (pt b1206 0)), (3, vi64 x1232), (6, (pt b1236 0)), (58, .slice (some ⟨b1240, 0, none⟩) 15 15), (59, vi64 15), (60, vi64 8), (8, (pt b2272 0)), (68, .bool ((bAnd .i64 x1232 256) != 0))] (by kernel_rfl) fun a hs => ?_
    refine s_end ?_
    rcases ifbE hx2268 with ⟨h2274, hx2268⟩ | ⟨h2274, hx2268⟩
    · refine c_cond1 hs (by kernel_rfl) (t := ((bAnd .i64 x1232 256) != 0)) (by kernel_rfl) h2274 ?_
      refine c_region ?_
      refine pures hs 1 [2, 3, 6, 58, 59, 60, 69] [(2, (pt b1206 0)), (3, vi64 x1232), (6, (pt b1236 0)), (58, .slice (some ⟨b1240, 0, none⟩) 15 15), (59, vi64 15), (60, vi64 8), (69, (pt b2272 1))] (by kernel_rfl) fun a hs => ?_
      refine s_load hs (hw.at_ 0 rfl) 1 (by kernel_rfl) (by kernel_rfl) (v := .func (.func 103) #[] #[(pt b1204 0), (pt b1236 0)]) (by kernel_rfl) fun a hs => ?_
      obtain ⟨y2277, h2278, hx2268⟩ := bindE hx2268
      refine s_call hs (by kernel_rfl) (by kernel_rfl) (letter_bare_9_s (x3 := x1.f0) (x4 := x1.f1) (x5 := x1.f2) (x6 := x1.f3) (x7 := x1.f4) (x8 := x1.f5) (x9 := x1.f6) (x10 := x1.f7) (x11 := x1.f8) (x12 := x1.f9) (x13 := x1.f10) (x15 := x1.f12) (x16 := x1.f13.f0) (x17 := x1.f13.f1) (x18 := x1.f13.f2) (x19 := x1.f13.f3) (x20 := x1.f14.f0) (x21 := x1.f14.f1) (x22 := x1.f14.f2) (x26 := x1.f14.f3) (x27 := x1.f14.f4) (x28 := x1.f15) (x32 := x1.f16) (x36 := x1.f17) (x42 := x1.f0) (x43 := x1.f1) (x44 := x1.f2) (x45 := x1831) (x46 := x1850) (x47 := x1869) (x48 := x1945) (x49 := x1888) (x50 := x1907) (x51 := 0) (x52 := x1926) (x53 := 0) (x54 := x1964) (x55 := 0) (x56 := 0) (x57 := 0) (x58 := 0) (x59 := 0) (x60 := 0) (x61 := []) (x65 := false) (x66 := 0) (x67 := []) (x71 := []) (x75 := []) h2278 h4 h7 h10 h13 (RSl.nil _ _ _) (RSl.nil _ _ _) (RSl.nil _ _ _) (RSl.nil _ _ _) ((hw.pick [4, 2, 1, 3, 5] (by kernel_rfl)).pack 2)) fun a w v hv hs => ?_
      obtain ⟨rfl, hw⟩ := hv
      replace hw := hw.unpack 2 rfl
      refine s_end ?_
      obtain rfl := someE hx2268
      exact (hJ2269 _ _).2 ⟨y2277, hk, hs.cast [2, 3, 6, 58, 59, 60] (by kernel_rfl), hw.pick [2, 1, 3, 0, 4] (by kernel_rfl)⟩
    refine c_cond0 hs (by kernel_rfl) (t := ((bAnd .i64 x1232 256) != 0)) (by kernel_rfl) h2274 ?_
    refine c_skip ?_
    obtain rfl := someE hx2268
    exact (hJ2269 _ _).2 ⟨0, hk, hs.cast [2, 3, 6, 58, 59, 60] (by kernel_rfl), hw.pick [1, 2, 3, 4, 5] (by kernel_rfl)⟩
  intro a w hh
  obtain ⟨x1983, hk, hs, hw⟩ := (hJ2269 _ _).1 hh
  refine c_region ?_
  refine pures hs 2 [2, 3, 6, 58, 59, 60] [(2, (pt b1206 0)), (3, vi64 x1232), (6, (pt b1236 0)), (58, .slice (some ⟨b1240, 0, none⟩) 15 15), (59, vi64 15), (60, vi64 9)] (by kernel_rfl) fun a hs => ?_
  refine s_end ?_
  refine c_unr ?_
  refine c_seq ?_
  refine c_region ?_
  refine pures hs 1 [2, 3, 6, 58, 59, 60, 61] [(2, (pt b1206 0)), (3, vi64 x1232), (6, (pt b1236 0)), (58, .slice (some ⟨b1240, 0, none⟩) 15 15), (59, vi64 15), (60, vi64 9), (61, .bool true)] (by kernel_rfl) fun a hs => ?_
  refine s_end ?_
  refine c_seq ?_
  refine c_condT hs (by kernel_rfl) (by kernel_rfl) ?_
  refine c_skip ?_
  obtain ⟨y2254, hx2255, hk⟩ := bindE hk
  obtain ⟨J2256, hJ2256⟩ : ∃ J : Act → World → Prop, ∀ a w, J a w ↔ (∃ (x2002 : Int), letter_bare_r51 x1232 x1 x1831 x1850 x1869 x1945 x1888 x1907 x1926 x1983 x1964 x2002 = some r ∧ Sees a 74 [(2, (pt b1206 0)), (3, vi64 x1232), (6, (pt b1236 0)), (58, .slice (some ⟨b1240, 0, none⟩) 15 15), (59, vi64 15), (60, vi64 9)] ∧ St g w [bx b1240 [vi64 1, .func (.func 95) #[] #[(pt b1204 0), (pt b1236 0)], vi64 2, .func (.func 96) #[] #[(pt b1204 0), (pt b1236 0)], vi64 4, .func (.func 97) #[] #[(pt b1204 0), (pt b1236 0)], vi64 8, .func (.func 98) #[] #[(pt b1204 0), (pt b1236 0)], vi64 16, .func (.func 99) #[] #[(pt b1204 0), (pt b1236 0)], vi64 32, .func (.func 100) #[] #[(pt b1204 0), (pt b1236 0)], vi64 64, .func (.func 101) #[] #[(pt b1204 0), (pt b1236 0)], vi64 128, .func (.func 102) #[] #[(pt b1204 0), (pt b1236 0)], vi64 256, .func (.func 103) #[] #[(pt b1204 0), (pt b1236 0)], vi64 512, .func (.func 104) #[] #[(pt b1204 0), (pt b1236 0)], vi64 1024, .func (.func 105) #[] #[(pt b1204 0), (pt b1236 0)], vi64 2048, .func (.func 106) #[] #[(pt b1204 0), (pt b1236 0)], vi64 4096, .func (.func 107) #[] #[(pt b1204 0), (pt b1236 0)], vi64 8192, .func (.func 108) #[] #[(pt b1204 0), (pt b1236 0)], vi64 16384, .func (.func 109) #[] #[(pt b1204 0), (pt b1236 0)]] 163, bx b1236 [vi64 x1.f0, vi64 x1.f1, vi64 x1.f2, vi64 x1831, vu64 x1850, vu64 x1869, vu64 x1945, vu64 x1888, vu64 x1907, vu64 x2002, vi64 x1926, vu32 x1983, vi64 x1964, vi64 0, vi64 0, vu64 0, vi64 0, vi64 0, vu64 0, .slice none 0 0, .bool false, vi64 0, .slice none 0 0, .slice none 0 0, .slice none 0 0] 48, bx b1206 [vi64 0, vi64 0, vi64 0, vi64 0, vu64 0, vu64 0, vu64 0, vu64 0, vu64 0, vu64 0, vi64 0, vu32 0, vi64 0, vi64 0, vi64 0, vu64 0, vi64 0, vi64 0, vu64 0, .slice none 0 0, .bool false, vi64 0, .slice none 0 0, .slice none 0 0, .slice none 0 0] 48, bx b1204 [vi64 x1.f0, vi64 x1.f1, vi64 x1.f2, vi64 x1.f3, vu64 x1.f4, vu64 x1.f5, vu64 x1.f6, vu64 x1.f7, vu64 x1.f8, vu64 x1.f9, vi64 x1.f10, vu32 x1.f11, vi64 x1.f12, vi64 x1.f13.f0, vi64 x1.f13.f1, vu64 x1.f13.f2, vi64 x1.f13.f3, vi64 x1.f14.f0, vu64 x1.f14.f1, .slice p2 x1.f14.f2.length c3, .bool x1.f14.f3, vi64 x1.f14.f4, .slice p5 x1.f15.length c6, .slice p8 x1.f16.length c9, .slice p11 x1.f17.length c12] 48, F] ih) := ⟨_, fun _ _ => Iff.rfl⟩
  refine c_seqJ J2256 ?_ ?_
  · refine c_block ?_
    refine c_seq ?_
    refine c_region ?_
    refine pures hs 1 [2, 3, 6, 58, 59, 60, 62] [(2, (pt b1206 0)), (3, vi64 x1232), (6, (pt b1236 0)), (58, .slice (some ⟨b1240, 0, none⟩) 15 15), (59, vi64 15), (60, vi64 9), (62, (pt b1240 18))] (by kernel_rfl) fun a hs => ?_
    refine s_load hs (hw.at_ 0 rfl) 18 (by kernel_rfl) (by kernel_rfl) (v := .agg #[vi64 512, .func (.func 104) #[] #[(pt b1204 0), (pt b1236 0)]]) (by kernel_rfl) fun a hs => ?_
    refine s_new hs hw [vi64 0, .nilFunc] 163 (fun b => (pt b 0)) (by kernel_rfl) (fun _ => by kernel_rfl) fun a w b2259 hs hw => ?_
    refine s_store hs hw 0 rfl 0 (by kernel_rfl) (by kernel_rfl) (v := .agg #[vi64 512, .func (.func 104) #[] #[(pt b1204 0), (pt b1236 0)]]) (by kernel_rfl) (by kernel_rfl) (by kernel_rfl) (by kernel_rfl) fun a w hs hw => ?_
    refine s_end ?_
    refine c_seq ?_
    refine c_region ?_
    refine pures hs 2 [2, 3, 6, 58, 59, 60, 8, 64, 65] [(2, (pt b1206 0)), (3, vi64 x1232), (6, (pt b1236 0)), (58, .slice (some ⟨b1240, 0, none⟩) 15 15), (59, vi64 15), (60, vi64 9), (8, (pt b2259 0)), (64, vi64 x1232), (65, (pt b2259 0))] (by kernel_rfl) fun a hs => ?_
    refine s_load hs (hw.at_ 0 rfl) 0 (by kernel_rfl) (by kernel_rfl) (v := vi64 512) (by kernel_rfl) fun a hs => ?_
    refine pures hs 2 [2, 3, 6, 58, 59, 60, 8, 68] [(2, (pt b1206 0)), (3, vi64 x1232), (6, (pt b1236 0)), (58, .slice (some ⟨b1240, 0, none⟩) 15 15), (59, vi64 15), (60, vi64 9), (8, (pt b2259 0)), (68, .bool ((bAnd .i64 x1232 512) != 0))] (by kernel_rfl) fun a hs => ?_
    refine s_end ?_
    rcases ifbE hx2255 with ⟨h2261, hx2255⟩ | ⟨h2261, hx2255⟩
    · refine c_cond1 hs (by kernel_rfl) (t := ((bAnd .i64 x1232 512) != 0)) (by kernel_rfl) h2261 ?_
      refine c_region ?_
      refine pures hs 1 [2, 3, 6, 58, 59, 60, 69] [(2, (pt b1206 0)), (3, vi64 x1232), (6, (pt b1236 0)), (58, .slice (some ⟨b1240, 0, none⟩) 15 15), (59, vi64 15), (60, vi64 9), (69, (pt b2259 1))] (by kernel_rfl) fun a hs => ?_
      refine s_load hs (hw.at_ 0 rfl) 1 (by kernel_rfl) (by kernel_rfl) (v := .func (.func 104) #[] #[(pt b1204 0), (pt b1236 0)]) (by kernel_rfl) fun a hs => ?_
      obtain ⟨y2264, h2265, hx2255⟩ := bindE hx2255
      refine s_call hs (by kernel_rfl) (by kernel_rfl) (letter_bare_10_s (x3 := x1.f0) (x4 := x1.f1) (x5 := x1.f2) (x6 := x1.f3) (x7 := x1.f4) (x8 := x1.f5) (x9 := x1.f6) (x10 := x1.f7) (x11 := x1.f8) (x13 := x1.f10) (x14 := x1.f11) (x15 := x1.f12) (x16 := x1.f13.f0) (x17 := x1.f13.f1) (x18 := x1.f13.f2) (x19 := x1.f13.f3) (x20 := x1.f14.f0) (x21 := x1.f14.f1) (x22 := x1.f14.f2) (x26 := x1.f14.f3) (x27 := x1.f14.f4) (x28 := x1.f15) (x32 := x1.f16) (x36 := x1.f17) (x42 := x1.f0) (x43 := x1.f1) (x44 := x1.f2) (x45 := x1831) (x46 := x1850) (x47 := x1869) (x48 := x1945) (x49 := x1888) (x50 := x1907) (x51 := 0) (x52 := x1926) (x53 := x1983) (x54 := x1964) (x55 := 0) (x56 := 0) (x57 := 0) (x58 := 0) (x59 := 0) (x60 := 0) (x61 := []) (x65 := false) (x66 := 0) (x67 := []) (x71 := []) (x75 := []) h2265 h4 h7 h10 h13 (RSl.nil _ _ _) (RSl.nil _ _ _) (RSl.nil _ _ _) (RSl.nil _ _ _) ((hw.pick [4, 2, 1, 3, 5] (by kernel_rfl)).pack 2)) fun a w v hv hs => ?_
      obtain ⟨rfl, hw⟩ := hv
      replace hw := hw.unpack 2 rfl
      refine s_end ?_
      obtain rfl := someE hx2255
      exact (hJ2256 _ _).2 ⟨y2264, hk, hs.cast [2, 3, 6, 58, 59, 60] (by kernel_rfl), hw.pick [2, 1, 3, 0, 4] (by kernel_rfl)⟩
    refine c_cond0 hs (by kernel_rfl) (t := ((bAnd .i64 x1232 512) != 0)) (by kernel_rfl) h2261 ?_
    refine c_skip ?_
    obtain rfl := someE hx2255
    exact (hJ2256 _ _).2 ⟨0, hk, hs.cast [2, 3, 6, 58, 59, 60] (by kernel_rfl), hw.pick [1, 2, 3, 4, 5] (by kernel_rfl)⟩
  intro a w hh
  obtain ⟨x2002, hk, hs, hw⟩ := (hJ2256 _ _).1 hh
  refine c_region ?_
  refine pures hs 2 [2, 3, 6, 58, 59, 60] [(2, (pt b1206 0)), (3, vi64 x1232), (6, (pt b1236 0)), (58, .slice (some ⟨b1240, 0, none⟩) 15 15), (59, vi64 15), (60, vi64 10)] (by kernel_rfl) fun a hs => ?_
  refine s_end ?_
  refine c_unr ?_
  refine c_seq ?_
  refine c_region ?_
  refine pures hs 1 [2, 3, 6, 58, 59, 60, 61] [(2, (pt b1206 0)), (3, vi64 x1232), (6, (pt b1236 0)), (58, .slice (some ⟨b1240, 0, none⟩) 15 15), (59, vi64 15), (60, vi64 10), (61, .bool true)] (by kernel_rfl) fun a hs => ?_
  refine s_end ?_
  refine c_seq ?_
  refine c_condT hs (by kernel_rfl) (by kernel_rfl) ?_
  refine c_skip ?_
  obtain ⟨y2241, hx2242, hk⟩ := bindE hk
  obtain ⟨J2243, hJ2243⟩ : ∃ J : Act → World → Prop, ∀ a w, J a w ↔ (∃ (x2021 : Int) (x2022 : Int) (x2023 : Int) (x2024 : Int), letter_bare_r50 x1232 x1 x1831 x1850 x1869 x1945 x1888 x1907 x2002 x1926 x1983 x1964 x2021 x2022 x2023 x2024 = some r ∧ Sees a 74 [(2, (pt b1206 0)), (3, vi64 x1232), (6, (pt b1236 0)), (58, .slice (some ⟨b1240, 0, none⟩) 15 15), (59, vi64 15), (60, vi64 10)] ∧ St g w [bx b1240 [vi64 1, .func (.func 95) #[] #[(pt b1204 0), (pt b1236 0)], vi64 2, .func (.func 96) #[] #[(pt b1204 0), (pt b1236 0)], vi64 4, .func (.func 97) #[] #[(pt b1204 0), (pt b1236 0)], vi64 8, .func (.func 98) #[] #[(pt b1204 0), (pt b1236 0)], vi64 16, .func (.func 99) #[] #[(pt b1204 0), (pt b1236 0)], vi64 32, .func (.func 100) #[] #[(pt b1204 0), (pt b1236 0)], vi64 64, .func (.func 101) #[] #[(pt b1204 0), (pt b1236 0)], vi64 128, .func (.func 102) #[] #[(pt b1204 0), (pt b1236 0)], vi64 256, .func (.func 103) #[] #[(pt b1204 0), (pt b1236 0)], vi64 512, .func (.func 104) #[] #[(pt b1204 0), (pt b1236 0)], vi64 1024, .func (.func 105) #[] #[(pt b1204 0), (pt b1236 0)], vi64 2048, .func (.func 106) #[] #[(pt b1204 0), (pt b1236 0)], vi64 4096, .func (.func 107) #[] #[(pt b1204 0), (pt b1236 0)], vi64 8192, .func (.func 108) #[] #[(pt b1204 0), (pt b1236 0)], vi64 16384, .func (.func 109) #[] #[(pt b1204 0), (pt b1236 0)]] 163, bx b1236 [vi64 x1.f0, vi64 x1.f1, vi64 x1.f2, vi64 x1831, vu64 x1850, vu64 x1869, vu64 x1945, vu64 x1888, vu64 x1907, vu64 x2002, vi64 x1926, vu32 x1983, vi64 x1964, vi64 x2021, vi64 x2022, vu64 x2023, vi64 x2024, vi64 0, vu64 0, .slice none 0 0, .bool false, vi64 0, .slice none 0 0, .slice none 0 0, .slice none 0 0] 48, bx b1206 [vi64 0, vi64 0, vi64 0, vi64 0, vu64 0, vu64 0, vu64 0, vu64 0, vu64 0, vu64 0, vi64 0, vu32 0, vi64 0, vi64 0, vi64 0, vu64 0, vi64 0, vi64 0, vu64 0, .slice none 0 0, .bool false, vi64 0, .slice none 0 0, .slice none 0 0, .slice none 0 0] 48, bx b1204 [vi64 x1.f0, vi64 x1.f1, vi64 x1.f2, vi64 x1.f3, vu64 x1.f4, vu64 x1.f5, vu64 x1.f6, vu64 x1.f7, vu64 x1.f8, vu64 x1.f9, vi64 x1.f10, vu32 x1.f11, vi64 x1.f12, vi64 x1.f13.f0, vi64 x1.f13.f1, vu64 x1.f13.f2, vi64 x1.f13.f3, vi64 x1.f14.f0, vu64 x1.f14.f1, .slice p2 x1.f14.f2.length c3, .bool x1.f14.f3, vi64 x1.f14.f4, .slice p5 x1.f15.length c6, .slice p8 x1.f16.length c9, .slice p11 x1.f17.length c12] 48, F] ih) := ⟨_, fun _ _ => Iff.rfl⟩
  refine c_seqJ J2243 ?_ ?_
  · refine c_block ?_
    refine c_seq ?_
    refine c_region ?_
    refine pures hs 1 [2, 3, 6, 58, 59, 60, 62] [(2, (pt b1206 0)), (3, vi64 x1232), (6, (pt b1236 0)), (58, .slice (some ⟨b1240, 0, none⟩) 15 15), (59, vi64 15), (60, vi64 10), (62, (pt b1240 20))] (by kernel_rfl) fun a hs => ?_
    refine s_load hs (hw.at_ 0 rfl) 20 (by kernel_rfl) (by kernel_rfl) (v := .agg #[vi64 1024, .func (.func 105) #[] #[(pt b1204 0), (pt b1236 0)]]) (by kernel_rfl) fun a hs => ?_
    refine s_new hs hw [vi64 0, .nilFunc] 163 (fun b => (pt b 0)) (by kernel_rfl) (fun _ => by kernel_rfl) fun a w b2246 hs hw => ?_
    refine s_store hs hw 0 rfl 0 (by kernel_rfl) (by kernel_rfl) (v := .agg #[vi64 1024, .func (.func 105) #[] #[(pt b1204 0), (pt b1236 0)]]) (by kernel_rfl) (by kernel_rfl) (by kernel_rfl) (by kernel_rfl) fun a w hs hw => ?_
    refine s_end ?_
    refine c_seq ?_
    refine c_region ?_
    refine pures hs 2 [2, 3, 6, 58, 59, 60, 8, 64, 65] [(2, (pt b1206 0)), (3, vi64 x1232), (6, (pt b1236 0)), (58, .slice (some ⟨b1240, 0, none⟩) 15 15), (59, vi64 15), (60, vi64 10), (8, (pt b2246 0)), (64, vi64 x1232), (65, (pt b2246 0))] (by kernel_rfl) fun a hs => ?_
    refine s_load hs (hw.at_ 0 rfl) 0 (by kernel_rfl) (by kernel_rfl) (v := vi64 1024) (by kernel_rfl) fun a hs => ?_
    refine pures hs 2 [2, 3, 6, 58, 59, 60, 8, 68] [(2, (pt b1206 0)), (3, vi64 x1232), (6, (pt b1236 0)), (58, .slice (some ⟨b1240, 0, none⟩) 15 15), (59, vi64 15), (60, vi64 10), (8, (pt b2246 0)), (68, .bool ((bAnd .i64 x1232 1024) != 0))] (by kernel_rfl) fun a hs => ?_
    refine s_end ?_
    rcases ifbE hx2242 with ⟨h2248, hx2242⟩ | ⟨h2248, hx2242⟩
    · refine c_cond1 hs (by kernel_rfl) (t := ((bAnd .i64 x1232 1024) != 0)) (by kernel_rfl) h2248 ?_
      refine c_region ?_
      refine pures hs 1 [2, 3, 6, 58, 59, 60, 69] [(2, (pt b1206 0)), (3, vi64 x1232), (6, (pt b1236 0)), (58, .slice (some ⟨b1240, 0, none⟩) 15 15), (59, vi64 15), (60, vi64 10), (69, (pt b2246 1))] (by kernel_rfl) fun a hs => ?_
      refine s_load hs (hw.at_ 0 rfl) 1 (by kernel_rfl) (by kernel_rfl) (v := .func (.func 105) #[] #[(pt b1204 0), (pt b1236 0)]) (by kernel_rfl) fun a hs => ?_
      obtain ⟨y2251, h2252, hx2242⟩ := bindE hx2242
      refine s_call hs (by kernel_rfl) (by kernel_rfl) (letter_bare_11_s (x3 := x1.f0) (x4 := x1.f1) (x5 := x1.f2) (x6 := x1.f3) (x7 := x1.f4) (x8 := x1.f5) (x9 := x1.f6) (x10 := x1.f7) (x11 := x1.f8) (x12 := x1.f9) (x13 := x1.f10) (x14 := x1.f11) (x15 := x1.f12) (x20 := x1.f14.f0) (x21 := x1.f14.f1) (x22 := x1.f14.f2) (x26 := x1.f14.f3) (x27 := x1.f14.f4) (x28 := x1.f15) (x32 := x1.f16) (x36 := x1.f17) (x42 := x1.f0) (x43 := x1.f1) (x44 := x1.f2) (x45 := x1831) (x46 := x1850) (x47 := x1869) (x48 := x1945) (x49 := x1888) (x50 := x1907) (x51 := x2002) (x52 := x1926) (x53 := x1983) (x54 := x1964) (x55 := 0) (x56 := 0) (x57 := 0) (x58 := 0) (x59 := 0) (x60 := 0) (x61 := []) (x65 := false) (x66 := 0) (x67 := []) (x71 := []) (x75 := []) h2252 h4 h7 h10 h13 (RSl.nil _ _ _) (RSl.nil _ _ _) (RSl.nil _ _ _) (RSl.nil _ _ _) ((hw.pick [4, 2, 1, 3, 5] (by kernel_rfl)).pack 2)) fun a w v hv hs => ?_
      obtain ⟨rfl, hw⟩ := hv
      replace hw := hw.unpack 2 rfl
      refine s_end ?_
      obtain rfl := someE hx2242
      exact (hJ2243 _ _).2 ⟨y2251.1, y2251.2.1, y2251.2.2.1, y2251.2.2.2, hk, hs.cast [2, 3, 6, 58, 59, 60] (by kernel_rfl), hw.pick [2, 1, 3, 0, 4] (by kernel_rfl)⟩
    refine c_cond0 hs (by kernel_rfl) (t := ((bAnd .i64 x1232 1024) != 0)) (by kernel_rfl) h2248 ?_
    refine c_skip ?_
    obtain rfl := someE hx2242
    exact (hJ2243 _ _).2 ⟨0, 0, 0, 0, hk, hs.cast [2, 3, 6, 58, 59, 60] (by kernel_rfl), hw.pick [1, 2, 3, 4, 5] (by kernel_rfl)⟩
  intro a w hh
  obtain ⟨x2021, x2022, x2023, x2024, hk, hs, hw⟩ := (hJ2243 _ _).1 hh
  refine c_region ?_
  refine pures hs 2 [2, 3, 6, 58, 59, 60] [(2, (pt b1206 0)), (3, vi64 x1232), (6, (pt b1236 0)), (58, .slice (some ⟨b1240, 0, none⟩) 15 15), (59, vi64 15), (60, vi64 11)] (by kernel_rfl) fun a hs => ?_
  refine s_end ?_
  refine c_unr ?_
  refine c_seq ?_
  refine c_region ?_
  refine pures hs 1 [2, 3, 6, 58, 59, 60, 61] [(2, (pt b1206 0)), (3, vi64 x1232), (6, (pt b1236 0)), (58, .slice (some ⟨b1240, 0, none⟩) 15 15), (59, vi64 15), (60, vi64 11), (61, .bool true)] (by kernel_rfl) fun a hs => ?_
  refine s_end ?_
  refine c_seq ?_
  refine c_condT hs (by kernel_rfl) (by kernel_rfl) ?_
  refine c_skip ?_
  obtain ⟨y2222, hx2223, hk⟩ := bindE hk
  obtain ⟨J2224, hJ2224⟩ : ∃ J : Act → World → Prop, ∀ a w, J a w ↔ (∃ (x2055 : Int) (x2056 : Int) (x2057 : List Int) (x2061 : Bool) (x2062 : Int) (p2058 : Option Addr) (c2059 : Nat), letter_bare_r49 x1232 x1 x1831 x1850 x1869 x1945 x1888 x1907 x2002 x1926 x1983 x1964 x2021 x2022 x2023 x2024 x2055 x2056 x2057 x2061 x2062 = some r ∧ Sees a 74 [(2, (pt b1206 0)), (3, vi64 x1232), (6, (pt b1236 0)), (58, .slice (some ⟨b1240, 0, none⟩) 15 15), (59, vi64 15), (60, vi64 11)] ∧ St g w [bx b1240 [vi64 1, .func (.func 95) #[] #[(pt b1204 0), (pt b1236 0)], vi64 2, .func (.func 96) #[] #[(pt b1204 0), (pt b1236 0)], vi64 4, .func (.func 97) #[] #[(pt b1204 0), (pt b1236 0)], vi64 8, .func (.func 98) #[] #[(pt b1204 0), (pt b1236 0)], vi64 16, .func (.func 99) #[] #[(pt b1204 0), (pt b1236 0)], vi64 32, .func (.func 100) #[] #[(pt b1204 0), (pt b1236 0)], vi64 64, .func (.func 101) #[] #[(pt b1204 0), (pt b1236 0)], vi64 128, .func (.func 102) #[] #[(pt b1204 0), (pt b1236 0)], vi64 256, .func (.func 103) #[] #[(pt b1204 0), (pt b1236 0)], vi64 512, .func (.func 104) #[] #[(pt b1204 0), (pt b1236 0)], vi64 1024, .func (.func 105) #[] #[(pt b1204 0), (pt b1236 0)], vi64 2048, .func (.func 106) #[] #[(pt b1204 0), (pt b1236 0)], vi64 4096, .func (.func 107) #[] #[(pt b1204 0), (pt b1236 0)], vi64 8192, .func (.func 108) #[] #[(pt b1204 0), (pt b1236 0)], vi64 16384, .func (.func 109) #[] #[(pt b1204 0), (pt b1236 0)]] 163, bx b1236 [vi64 x1.f0, vi64 x1.f1, vi64 x1.f2, vi64 x1831, vu64 x1850, vu64 x1869, vu64 x1945, vu64 x1888, vu64 x1907, vu64 x2002, vi64 x1926, vu32 x1983, vi64 x1964, vi64 x2021, vi64 x2022, vu64 x2023, vi64 x2024, vi64 x2055, vu64 x2056, .slice p2058 x2057.length c2059, .bool x2061, vi64 x2062, .slice none 0 0, .slice none 0 0, .slice none 0 0] 48, bx b1206 [vi64 0, vi64 0, vi64 0, vi64 0, vu64 0, vu64 0, vu64 0, vu64 0, vu64 0, vu64 0, vi64 0, vu32 0, vi64 0, vi64 0, vi64 0, vu64 0, vi64 0, vi64 0, vu64 0, .slice none 0 0, .bool false, vi64 0, .slice none 0 0, .slice none 0 0, .slice none 0 0] 48, bx b1204 [vi64 x1.f0, vi64 x1.f1, vi64 x1.f2, vi64 x1.f3, vu64 x1.f4, vu64 x1.f5, vu64 x1.f6, vu64 x1.f7, vu64 x1.f8, vu64 x1.f9, vi64 x1.f10, vu32 x1.f11, vi64 x1.f12, vi64 x1.f13.f0, vi64 x1.f13.f1, vu64 x1.f13.f2, vi64 x1.f13.f3, vi64 x1.f14.f0, vu64 x1.f14.f1, .slice p2 x1.f14.f2.length c3, .bool x1.f14.f3, vi64 x1.f14.f4, .slice p5 x1.f15.length c6, .slice p8 x1.f16.length c9, .slice p11 x1.f17.length c12] 48, F] ih ∧ RSl e3 ih [] p2058 c2059 x2057) := ⟨_, fun _ _ => Iff.rfl⟩
  refine c_seqJ J2224 ?_ ?_
  · refine c_block ?_
    refine c_seq ?_
    refine c_region ?_
    refine pures hs 1 [2, 3, 6, 58, 59, 60, 62] [(2, (pt b1206 0)), (3, vi64 x1232), (6, (pt b1236 0)), (58, .slice (some ⟨b1240, 0, none⟩) 15 15), (59, vi64 15), (60, vi64 11), (62, (pt b1240 22))] (by kernel_rfl) fun a hs => ?_
    refine s_load hs (hw.at_ 0 rfl) 22 (by kernel_rfl) (by kernel_rfl) (v := .agg #[vi64 2048, .func (.func 106) #[] #[(pt b1204 0), (pt b1236 0)]]) (by kernel_rfl) fun a hs => ?_
    refine s_new hs hw [vi64 0, .nilFunc] 163 (fun b => (pt b 0)) (by kernel_rfl) (fun _ => by kernel_rfl) fun a w b2227 hs hw => ?_
    refine s_store hs hw 0 rfl 0 (by kernel_rfl) (by kernel_rfl) (v := .agg #[vi64 2048, .func (.func 106) #[] #[(pt b1204 0), (pt b1236 0)]]) (by kernel_rfl) (by kernel_rfl) (by kernel_rfl) (by kernel_rfl) fun a w hs hw => ?_
    refine s_end ?_
    refine c_seq ?_
    refine c_region ?_
    refine pures hs 2 [2, 3, 6, 58, 59, 60, 8, 64, 65] [(2, (pt b1206 0)), (3, vi64 x1232), (6, (pt b1236 0)), (58, .slice (some ⟨b1240, 0, none⟩) 15 15), (59, vi64 15), (60, vi64 11), (8, (pt b2227 0)), (64, vi64 x1232), (65, (pt b2227 0))] (by kernel_rfl) fun a hs => ?_
    refine s_load hs (hw.at_ 0 rfl) 0 (by kernel_rfl) (by kernel_rfl) (v := vi64 2048) (by kernel_rfl) fun a hs => ?_
    refine pures hs 2 [2, 3, 6, 58, 59, 60, 8, 68] [(2, (pt b1206 0)), (3, vi64 x1232), (6, (pt b1236 0)), (58, .slice (some ⟨b1240, 0, none⟩) 15 15), (59, vi64 15), (60, vi64 11), (8, (pt b2227 0)), (68, .bool ((bAnd .i64 x1232 2048) != 0))] (by kernel_rfl) fun a hs => ?_
    refine s_end ?_
    rcases ifbE hx2223 with ⟨h2229, hx2223⟩ | ⟨h2229, hx2223⟩
    · refine c_cond1 hs (by kernel_rfl) (t := ((bAnd .i64 x1232 2048) != 0)) (by kernel_rfl) h2229 ?_
      refine c_region ?_
      refine pures hs 1 [2, 3, 6, 58, 59, 60, 69] [(2, (pt b1206 0)), (3, vi64 x1232), (6, (pt b1236 0)), (58, .slice (some ⟨b1240, 0, none⟩) 15 15), (59, vi64 15), (60, vi64 11), (69, (pt b2227 1))] (by kernel_rfl) fun a hs => ?_
      refine s_load hs (hw.at_ 0 rfl) 1 (by kernel_rfl) (by kernel_rfl) (v := .func (.func 106) #[] #[(pt b1204 0), (pt b1236 0)]) (by kernel_rfl) fun a hs => ?_
      obtain ⟨y2235, h2236, hx2223⟩ := bindE hx2223
      refine s_call hs (by kernel_rfl) (by kernel_rfl) (letter_bare_12_s (x3 := x1.f0) (x4 := x1.f1) (x5 := x1.f2) (x6 := x1.f3) (x7 := x1.f4) (x8 := x1.f5) (x9 := x1.f6) (x10 := x1.f7) (x11 := x1.f8) (x12 := x1.f9) (x13 := x1.f10) (x14 := x1.f11) (x15 := x1.f12) (x16 := x1.f13.f0) (x17 := x1.f13.f1) (x18 := x1.f13.f2) (x19 := x1.f13.f3) (x28 := x1.f15) (x32 := x1.f16) (x36 := x1.f17) (x42 := x1.f0) (x43 := x1.f1) (x44 := x1.f2) (x45 := x1831) (x46 := x1850) (x47 := x1869) (x48 := x1945) (x49 := x1888) (x50 := x1907) (x51 := x2002) (x52 := x1926) (x53 := x1983) (x54 := x1964) (x55 := x2021) (x56 := x2022) (x57 := x2023) (x58 := x2024) (x59 := 0) (x60 := 0) (x61 := []) (x65 := false) (x66 := 0) (x67 := []) (x71 := []) (x75 := []) h2236 h4 h7 h10 h13 (RSl.nil _ _ _) (RSl.nil _ _ _) (RSl.nil _ _ _) (RSl.nil _ _ _) ((hw.pick [4, 2, 1, 3, 5] (by kernel_rfl)).pack 2)) fun a w v hv hs => ?_
      obtain ⟨p2237, c2238, rfl, hw, h2239⟩ := hv
      replace hw := hw.unpack 2 rfl
      refine s_end ?_
      obtain rfl := someE hx2223
      exact (hJ2224 _ _).2 ⟨y2235.1, y2235.2.1, y2235.2.2.1, y2235.2.2.2.1, y2235.2.2.2.2, p2237, c2238, hk, hs.cast [2, 3, 6, 58, 59, 60] (by kernel_rfl), hw.pick [2, 1, 3, 0, 4] (by kernel_rfl), h2239⟩
    refine c_cond0 hs (by kernel_rfl) (t := ((bAnd .i64 x1232 2048) != 0)) (by kernel_rfl) h2229 ?_
    refine c_skip ?_
    obtain rfl := someE hx2223
    exact (hJ2224 _ _).2 ⟨0, 0, ([]), false, 0, none, 0, hk, hs.cast [2, 3, 6, 58, 59, 60] (by kernel_rfl), hw.pick [1, 2, 3, 4, 5] (by kernel_rfl), (RSl.nil _ _ _)⟩
  intro a w hh
  obtain ⟨x2055, x2056, x2057, x2061, x2062, p2058, c2059, hk, hs, hw, h2060⟩ := (hJ2224 _ _).1 hh
  refine c_region ?_
  refine pures hs 2 [2, 3, 6, 58, 59, 60] [(2, (pt b1206 0)), (3, vi64 x1232), (6, (pt b1236 0)), (58, .slice (some ⟨b1240, 0, none⟩) 15 15), (59, vi64 15), (60, vi64 12)] (by kernel_rfl) fun a hs => ?_
  refine s_end ?_
  refine c_unr ?_
  refine c_seq ?_
  refine c_region ?_
  refine pures hs 1 [2, 3, 6, 58, 59, 60, 61] [(2, (pt b1206 0)), (3, vi64 x1232), (6, (pt b1236 0)), (58, .slice (some ⟨b1240, 0, none⟩) 15 15), (59, vi64 15), (60, vi64 12), (61, .bool true)] (by kernel_rfl) fun a hs => ?_
  refine s_end ?_
  refine c_seq ?_
  refine c_condT hs (by kernel_rfl) (by kernel_rfl) ?_
  refine c_skip ?_
  obtain ⟨y2203, hx2204, hk⟩ := bindE hk
  obtain ⟨J2205, hJ2205⟩ : ∃ J : Act → World → Prop, ∀ a w, J a w ↔ (∃ (x2093 : List M156) (p2094 : Option Addr) (c2095 : Nat), letter_bare_r48 x1232 x1 x1831 x1850 x1869 x1945 x1888 x1907 x2002 x1926 x1983 x1964 x2021 x2022 x2023 x2024 x2055 x2056 x2057 x2061 x2062 x2093 = some r ∧ Sees a 74 [(2, (pt b1206 0)), (3, vi64 x1232), (6, (pt b1236 0)), (58, .slice (some ⟨b1240, 0, none⟩) 15 15), (59, vi64 15), (60, vi64 12)] ∧ St g w [bx b1240 [vi64 1, .func (.func 95) #[] #[(pt b1204 0), (pt b1236 0)], vi64 2, .func (.func 96) #[] #[(pt b1204 0), (pt b1236 0)], vi64 4, .func (.func 97) #[] #[(pt b1204 0), (pt b1236 0)], vi64 8, .func (.func 98) #[] #[(pt b1204 0), (pt b1236 0)], vi64 16, .func (.func 99) #[] #[(pt b1204 0), (pt b1236 0)], vi64 32, .func (.func 100) #[] #[(pt b1204 0), (pt b1236 0)], vi64 64, .func (.func 101) #[] #[(pt b1204 0), (pt b1236 0)], vi64 128, .func (.func 102) #[] #[(pt b1204 0), (pt b1236 0)], vi64 256, .func (.func 103) #[] #[(pt b1204 0), (pt b1236 0)], vi64 512, .func (.func 104) #[] #[(pt b1204 0), (pt b1236 0)], vi64 1024, .func (.func 105) #[] #[(pt b1204 0), (pt b1236 0)], vi64 2048, .func (.func 106) #[] #[(pt b1204 0), (pt b1236 0)], vi64 4096, .func (.func 107) #[] #[(pt b1204 0), (pt b1236 0)], vi64 8192, .func (.func 108) #[] #[(pt b1204 0), (pt b1236 0)], vi64 16384, .func (.func 109) #[] #[(pt b1204 0), (pt b1236 0)]] 163, bx b1236 [vi64 x1.f0, vi64 x1.f1, vi64 x1.f2, vi64 x1831, vu64 x1850, vu64 x1869, vu64 x1945, vu64 x1888, vu64 x1907, vu64 x2002, vi64 x1926, vu32 x1983, vi64 x1964, vi64 x2021, vi64 x2022, vu64 x2023, vi64 x2024, vi64 x2055, vu64 x2056, .slice p2058 x2057.length c2059, .bool x2061, vi64 x2062, .slice p2094 x2093.length c2095, .slice none 0 0, .slice none 0 0] 48, bx b1206 [vi64 0, vi64 0, vi64 0, vi64 0, vu64 0, vu64 0, vu64 0, vu64 0, vu64 0, vu64 0, vi64 0, vu32 0, vi64 0, vi64 0, vi64 0, vu64 0, vi64 0, vi64 0, vu64 0, .slice none 0 0, .bool false, vi64 0, .slice none 0 0, .slice none 0 0, .slice none 0 0] 48, bx b1204 [vi64 x1.f0, vi64 x1.f1, vi64 x1.f2, vi64 x1.f3, vu64 x1.f4, vu64 x1.f5, vu64 x1.f6, vu64 x1.f7, vu64 x1.f8, vu64 x1.f9, vi64 x1.f10, vu32 x1.f11, vi64 x1.f12, vi64 x1.f13.f0, vi64 x1.f13.f1, vu64 x1.f13.f2, vi64 x1.f13.f3, vi64 x1.f14.f0, vu64 x1.f14.f1, .slice p2 x1.f14.f2.length c3, .bool x1.f14.f3, vi64 x1.f14.f4, .slice p5 x1.f15.length c6, .slice p8 x1.f16.length c9, .slice p11 x1.f17.length c12] 48, F] ih ∧ RSl e156 ih [] p2094 c2095 x2093) := ⟨_, fun _ _ => Iff.rfl⟩
  refine c_seqJ J2205 ?_ ?_
  · refine c_block ?_
    refine c_seq ?_
    refine c_region ?_
    refine pures hs 1 [2, 3, 6, 58, 59, 60, 62] [(2, (pt b1206 0)), (3, vi64 x1232), (6, (pt b1236 0)), (58, .slice (some ⟨b1240, 0, none⟩) 15 15), (59, vi64 15), (60, vi64 12), (62, (pt b1240 24))] (by kernel_rfl) fun a hs => ?_
    refine s_load hs (hw.at_ 0 rfl) 24 (by kernel_rfl) (by kernel_rfl) (v := .agg #[vi64 4096, .func (.func 107) #[] #[(pt b1204 0), (pt b1236 0)]]) (by kernel_rfl) fun a hs => ?_
    refine s_new hs hw [vi64 0, .nilFunc] 163 (fun b => (pt b 0)) (by kernel_rfl) (fun _ => by kernel_rfl) fun a w b2208 hs hw => ?_
    refine s_store hs hw 0 rfl 0 (by kernel_rfl) (by kernel_rfl) (v := .agg #[vi64 4096, .func (.func 107) #[] #[(pt b1204 0), (pt b1236 0)]]) (by kernel_rfl) (by kernel_rfl) (by kernel_rfl) (by kernel_rfl) fun a w hs hw => ?_
    refine s_end ?_
    refine c_seq ?_
    refine c_region ?_
    refine pures hs 2 [2, 3, 6, 58, 59, 60, 8, 64, 65] [(2, (pt b1206 0)), (3, vi64 x1232), (6, (pt b1236 0)), (58, .slice (some ⟨b1240, 0, none⟩) 15 15), (59, vi64 15), (60, vi64 12), (8, (pt b2208 0)), (64, vi64 x1232), (65, (pt b2208 0))] (by kernel_rfl) fun a hs => ?_
    refine s_load hs (hw.at_ 0 rfl) 0 (by kernel_rfl) (by kernel_rfl) (v := vi64 4096) (by kernel_rfl) fun a hs => ?_
    refine pures hs 2 [2, 3, 6, 58, 59, 60, 8, 68] [(2, (pt b1206 0)), (3, vi64 x1232), (6, (pt b1236 0)), (58, .slice (some ⟨b1240, 0, none⟩) 15 15), (59, vi64 15), (60, vi64 12), (8, (pt b2208 0)), (68, .bool ((bAnd .i64 x1232 4096) != 0))] (by kernel_rfl) fun a hs => ?_
    refine s_end ?_
    rcases ifbE hx2204 with ⟨h2210, hx2204⟩ | ⟨h2210, hx2204⟩
    · refine c_cond1 hs (by kernel_rfl) (t := ((bAnd .i64 x1232 4096) != 0)) (by kernel_rfl) h2210 ?_
      refine c_region ?_
      refine pures hs 1 [2, 3, 6, 58, 59, 60, 69] [(2, (pt b1206 0)), (3, vi64 x1232), (6, (pt b1236 0)), (58, .slice (some ⟨b1240, 0, none⟩) 15 15), (59, vi64 15), (60, vi64 12), (69, (pt b2208 1))] (by kernel_rfl) fun a hs => ?_
      refine s_load hs (hw.at_ 0 rfl) 1 (by kernel_rfl) (by kernel_rfl) (v := .func (.func 107) #[] #[(pt b1204 0), (pt b1236 0)]) (by kernel_rfl) fun a hs => ?_
      obtain ⟨y2216, h2217, hx2204⟩ := bindE hx2204
      refine s_call hs (by kernel_rfl) (by kernel_rfl) (letter_bare_13_s (x3 := x1.f0) (x4 := x1.f1) (x5 := x1.f2) (x6 := x1.f3) (x7 := x1.f4) (x8 := x1.f5) (x9 := x1.f6) (x10 := x1.f7) (x11 := x1.f8) (x12 := x1.f9) (x13 := x1.f10) (x14 := x1.f11) (x15 := x1.f12) (x16 := x1.f13.f0) (x17 := x1.f13.f1) (x18 := x1.f13.f2) (x19 := x1.f13.f3) (x20 := x1.f14.f0) (x21 := x1.f14.f1) (x22 := x1.f14.f2) (x26 := x1.f14.f3) (x27 := x1.f14.f4) (x32 := x1.f16) (x36 := x1.f17) (x42 := x1.f0) (x43 := x1.f1) (x44 := x1.f2) (x45 := x1831) (x46 := x1850) (x47 := x1869) (x48 := x1945) (x49 := x1888) (x50 := x1907) (x51 := x2002) (x52 := x1926) (x53 := x1983) (x54 := x1964) (x55 := x2021) (x56 := x2022) (x57 := x2023) (x58 := x2024) (x59 := x2055) (x60 := x2056) (x61 := x2057) (x65 := x2061) (x66 := x2062) (x67 := []) (x71 := []) (x75 := []) h2217 h4 h7 h10 h13 h2060 (RSl.nil _ _ _) (RSl.nil _ _ _) (RSl.nil _ _ _) ((hw.pick [4, 2, 1, 3, 5] (by kernel_rfl)).pack 2)) fun a w v hv hs => ?_
      obtain ⟨p2218, c2219, rfl, hw, h2220⟩ := hv
      replace hw := hw.unpack 2 rfl
      refine s_end ?_
      obtain rfl := someE hx2204
      exact (hJ2205 _ _).2 ⟨y2216, p2218, c2219, hk, hs.cast [2, 3, 6, 58, 59, 60] (by kernel_rfl), hw.pick [2, 1, 3, 0, 4] (by kernel_rfl), h2220⟩
    refine c_cond0 hs (by kernel_rfl) (t := ((bAnd .i64 x1232 4096) != 0)) (by kernel_rfl) h2210 ?_
    refine c_skip ?_
    obtain rfl := someE hx2204
    exact (hJ2205 _ _).2 ⟨([]), none, 0, hk, hs.cast [2, 3, 6, 58, 59, 60] (by kernel_rfl), hw.pick [1, 2, 3, 4, 5] (by kernel_rfl), (RSl.nil _ _ _)⟩
  intro a w hh
  obtain ⟨x2093, p2094, c2095, hk, hs, hw, h2096⟩ := (hJ2205 _ _).1 hh
  refine c_region ?_
  refine pures hs 2 [2, 3, 6, 58, 59, 60] [(2, (pt b1206 0)), (3, vi64 x1232), (6, (pt b1236 0)), (58, .slice (some ⟨b1240, 0, none⟩) 15 15), (59, vi64 15), (60, vi64 13)] (by kernel_rfl) fun a hs => ?_
  refine s_end ?_
  refine c_unr ?_
  refine c_seq ?_
  refine c_region ?_
  refine pures hs 1 [2, 3, 6, 58, 59, 60, 61] [(2, (pt b1206 0)), (3, vi64 x1232), (6, (pt b1236 0)), (58, .slice (some ⟨b1240, 0, none⟩) 15 15), (59, vi64 15), (60, vi64 13), (61, .bool true)] (by kernel_rfl) fun a hs => ?_
  refine s_end ?_
  refine c_seq ?_
  refine c_condT hs (by kernel_rfl) (by kernel_rfl) ?_
  refine c_skip ?_
  obtain ⟨y2184, hx2185, hk⟩ := bindE hk
  obtain ⟨J2186, hJ2186⟩ : ∃ J : Act → World → Prop, ∀ a w, J a w ↔ (∃ (x2127 : List M96) (p2128 : Option Addr) (c2129 : Nat), letter_bare_r47 x1232 x1 x1831 x1850 x1869 x1945 x1888 x1907 x2002 x1926 x1983 x1964 x2021 x2022 x2023 x2024 x2055 x2056 x2057 x2061 x2062 x2093 x2127 = some r ∧ Sees a 74 [(2, (pt b1206 0)), (3, vi64 x1232), (6, (pt b1236 0)), (58, .slice (some ⟨b1240, 0, none⟩) 15 15), (59, vi64 15), (60, vi64 13)] ∧ St g w [bx b1240 [vi64 1, .func (.func 95) #[] #[(pt b1204 0), (pt b1236 0)], vi64 2, .func (.func 96) #[] #[(pt b1204 0), (pt b1236 0)], vi64 4, .func (.func 97) #[] #[(pt b1204 0), (pt b1236 0)], vi64 8, .func (.func 98) #[] #[(pt b1204 0), (pt b1236 0)], vi64 16, .func (.func 99) #[] #[(pt b1204 0), (pt b1236 0)], vi64 32, .func (.func 100) #[] #[(pt b1204 0), (pt b1236 0)], vi64 64, .func (.func 101) #[] #[(pt b1204 0), (pt b1236 0)], vi64 128, .func (.func 102) #[] #[(pt b1204 0), (pt b1236 0)], vi64 256, .func (.func 103) #[] #[(pt b1204 0), (pt b1236 0)], vi64 512, .func (.func 104) #[] #[(pt b1204 0), (pt b1236 0)], vi64 1024, .func (.func 105) #[] #[(pt b1204 0), (pt b1236 0)], vi64 2048, .func (.func 106) #[] #[(pt b1204 0), (pt b1236 0)], vi64 4096, .func (.func 107) #[] #[(pt b1204 0), (pt b1236 0)], vi64 8192, .func (.func 108) #[] #[(pt b1204 0), (pt b1236 0)], vi64 16384, .func (.func 109) #[] #[(pt b1204 0), (pt b1236 0)]] 163, bx b1236 [vi64 x1.f0, vi64 x1.f1, vi64 x1.f2, vi64 x1831, vu64 x1850, vu64 x1869, vu64 x1945, vu64 x1888, vu64 x1907, vu64 x2002, vi64 x1926, vu32 x1983, vi64 x1964, vi64 x2021, vi64 x2022, vu64 x2023, vi64 x2024, vi64 x2055, vu64 x2056, .slice p2058 x2057.length c2059, .bool x2061, vi64 x2062, .slice p2094 x2093.length c2095, .slice p2128 x2127.length c2129, .slice none 0 0] 48, bx b1206 [vi64 0, vi64 0, vi64 0, vi64 0, vu64 0, vu64 0, vu64 0, vu64 0, vu64 0, vu64 0, vi64 0, vu32 0, vi64 0, vi64 0, vi64 0, vu64 0, vi64 0, vi64 0, vu64 0, .slice none 0 0, .bool false, vi64 0, .slice none 0 0, .slice none 0 0, .slice none 0 0] 48, bx b1204 [vi64 x1.f0, vi64 x1.f1, vi64 x1.f2, vi64 x1.f3, vu64 x1.f4, vu64 x1.f5, vu64 x1.f6, vu64 x1.f7, vu64 x1.f8, vu64 x1.f9, vi64 x1.f10, vu32 x1.f11, vi64 x1.f12, vi64 x1.f13.f0, vi64 x1.f13.f1, vu64 x1.f13.f2, vi64 x1.f13.f3, vi64 x1.f14.f0, vu64 x1.f14.f1, .slice p2 x1.f14.f2.length c3, .bool x1.f14.f3, vi64 x1.f14.f4, .slice p5 x1.f15.length c6, .slice p8 x1.f16.length c9, .slice p11 x1.f17.length c12] 48, F] ih ∧ RSl e96 ih [] p2128 c2129 x2127) := ⟨_, fun _ _ => Iff.rfl⟩
  refine c_seqJ J2186 ?_ ?_
  · refine c_block ?_
    refine c_seq ?_
    refine c_region ?_
    refine pures hs 1 [2, 3, 6, 58, 59, 60, 62] [(2, (pt b1206 0)), (3, vi64 x1232), (6, (pt b1236 0)), (58, .slice (some ⟨b1240, 0, none⟩) 15 15), (59, vi64 15), (60, vi64 13), (62, (pt b1240 26))] (by kernel_rfl) fun a hs => ?_
    refine s_load hs (hw.at_ 0 rfl) 26 (by kernel_rfl) (by kernel_rfl) (v := .agg #[vi64 8192, .func (.func 108) #[] #[(pt b1204 0), (pt b1236 0)]]) (by kernel_rfl) fun a hs => ?_
    refine s_new hs hw [vi64 0, .nilFunc] 163 (fun b => (pt b 0)) (by kernel_rfl) (fun _ => by kernel_rfl) fun a w b2189 hs hw => ?_
    refine s_store hs hw 0 rfl 0 (by kernel_rfl) (by kernel_rfl) (v := .agg #[vi64 8192, .func (.func 108) #[] #[(pt b1204 0), (pt b1236 0)]]) (by kernel_rfl) (by kernel_rfl) (by kernel_rfl) (by kernel_rfl) fun a w hs hw => ?_
    refine s_end ?_
    refine c_seq ?_
    refine c_region ?_
    refine pures hs 2 [2, 3, 6, 58, 59, 60, 8, 64, 65] [(2, (pt b1206 0)), (3, vi64 x1232), (6, (pt b1236 0)), (58, .slice (some ⟨b1240, 0, none⟩) 15 15), (59, vi64 15), (60, vi64 13), (8, (pt b2189 0)), (64, vi64 x1232), (65, (pt b2189 0))] (by kernel_rfl) fun a hs => ?_
    refine s_load hs (hw.at_ 0 rfl) 0 (by kernel_rfl) (by kernel_rfl) (v := vi64 8192) (by kernel_rfl) fun a hs => ?_
    refine pures hs 2 [2, 3, 6, 58, 59, 60, 8, 68] [(2, (pt b1206 0)), (3, vi64 x1232), (6, (pt b1236 0)), (58, .slice (some ⟨b1240, 0, none⟩) 15 15), (59, vi64 15), (60, vi64 13), (8, (pt b2189 0)), (68, .bool ((bAnd .i64 x1232 8192) != 0))] (by kernel_rfl) fun a hs => ?_
    refine s_end ?_
    rcases ifbE hx2185 with ⟨h2191, hx2185⟩ | ⟨h2191, hx2185⟩
    · refine c_cond1 hs (by kernel_rfl) (t := ((bAnd .i64 x1232 8192) != 0)) (by kernel_rfl) h2191 ?_
      refine c_region ?_
      refine pures hs 1 [2, 3, 6, 58, 59, 60, 69] [(2, (pt b1206 0)), (3, vi64 x1232), (6, (pt b1236 0)), (58, .slice (some ⟨b1240, 0, none⟩) 15 15), (59, vi64 15), (60, vi64 13), (69, (pt b2189 1))] (by kernel_rfl) fun a hs => ?_
      refine s_load hs (hw.at_ 0 rfl) 1 (by kernel_rfl) (by kernel_rfl) (v := .func (.func 108) #[] #[(pt b1204 0), (pt b1236 0)]) (by kernel_rfl) fun a hs => ?_
      obtain ⟨y2197, h2198, hx2185⟩ := bindE hx2185
      refine s_call hs (by kernel_rfl) (by kernel_rfl) (letter_bare_14_s (x3 := x1.f0) (x4 := x1.f1) (x5 := x1.f2) (x6 := x1.f3) (x7 := x1.f4) (x8 := x1.f5) (x9 := x1.f6) (x10 := x1.f7) (x11 := x1.f8) (x12 := x1.f9) (x13 := x1.f10) (x14 := x1.f11) (x15 := x1.f12) (x16 := x1.f13.f0) (x17 := x1.f13.f1) (x18 := x1.f13.f2) (x19 := x1.f13.f3) (x20 := x1.f14.f0) (x21 := x1.f14.f1) (x22 := x1.f14.f2) (x26 := x1.f14.f3) (x27 := x1.f14.f4) (x28 := x1.f15) (x36 := x1.f17) (x42 := x1.f0) (x43 := x1.f1) (x44 := x1.f2) (x45 := x1831) (x46 := x1850) (x47 := x1869) (x48 := x1945) (x49 := x1888) (x50 := x1907) (x51 := x2002) (x52 := x1926) (x53 := x1983) (x54 := x1964) (x55 := x2021) (x56 := x2022) (x57 := x2023) (x58 := x2024) (x59 := x2055) (x60 := x2056) (x61 := x2057) (x65 := x2061) (x66 := x2062) (x67 := x2093) (x71 := []) (x75 := []) h2198 h4 h7 h10 h13 h2060 h2096 (RSl.nil _ _ _) (RSl.nil _ _ _) ((hw.pick [4, 2, 1, 3, 5] (by kernel_rfl)).pack 2)) fun a w v hv hs => ?_
      obtain ⟨p2199, c2200, rfl, hw, h2201⟩ := hv
      replace hw := hw.unpack 2 rfl
      refine s_end ?_
      obtain rfl := someE hx2185
      exact (hJ2186 _ _).2 ⟨y2197, p2199, c2200, hk, hs.cast [2, 3, 6, 58, 59, 60] (by kernel_rfl), hw.pick [2, 1, 3, 0, 4] (by kernel_rfl), h2201⟩
    refine c_cond0 hs (by kernel_rfl) (t := ((bAnd .i64 x1232 8192) != 0)) (by kernel_rfl) h2191 ?_
    refine c_skip ?_
    obtain rfl := someE hx2185
    exact (hJ2186 _ _).2 ⟨([]), none, 0, hk, hs.cast [2, 3, 6, 58, 59, 60] (by kernel_rfl), hw.pick [1, 2, 3, 4, 5] (by kernel_rfl), (RSl.nil _ _ _)⟩
  intro a w hh
  obtain ⟨x2127, p2128, c2129, hk, hs, hw, h2130⟩ := (hJ2186 _ _).1 hh
  refine c_region ?_
  refine pures hs 2 [2, 3, 6, 58, 59, 60] [(2, (pt b1206 0)), (3, vi64 x1232), (6, (pt b1236 0)), (58, .slice (some ⟨b1240, 0, none⟩) 15 15), (59, vi64 15), (60, vi64 14)] (by kernel_rfl) fun a hs => ?_
  refine s_end ?_
  refine c_unr ?_
  refine c_seq ?_
  refine c_region ?_
  refine pures hs 1 [2, 3, 6, 58, 59, 60, 61] [(2, (pt b1206 0)), (3, vi64 x1232), (6, (pt b1236 0)), (58, .slice (some ⟨b1240, 0, none⟩) 15 15), (59, vi64 15), (60, vi64 14), (61, .bool true)] (by kernel_rfl) fun a hs => ?_
  refine s_end ?_
  refine c_seq ?_
  refine c_condT hs (by kernel_rfl) (by kernel_rfl) ?_
  refine c_skip ?_
  obtain ⟨y2165, hx2166, hk⟩ := bindE hk
  obtain ⟨J2167, hJ2167⟩ : ∃ J : Act → World → Prop, ∀ a w, J a w ↔ (∃ (x2161 : List Int) (p2162 : Option Addr) (c2163 : Nat), letter_bare_r46 x1 x1831 x1850 x1869 x1945 x1888 x1907 x2002 x1926 x1983 x1964 x2021 x2022 x2023 x2024 x2055 x2056 x2057 x2061 x2062 x2093 x2127 x2161 = some r ∧ Sees a 74 [(2, (pt b1206 0)), (3, vi64 x1232), (6, (pt b1236 0)), (58, .slice (some ⟨b1240, 0, none⟩) 15 15), (59, vi64 15), (60, vi64 14)] ∧ St g w [bx b1240 [vi64 1, .func (.func 95) #[] #[(pt b1204 0), (pt b1236 0)], vi64 2, .func (.func 96) #[] #[(pt b1204 0), (pt b1236 0)], vi64 4, .func (.func 97) #[] #[(pt b1204 0), (pt b1236 0)], vi64 8, .func (.func 98) #[] #[(pt b1204 0), (pt b1236 0)], vi64 16, .func (.func 99) #[] #[(pt b1204 0), (pt b1236 0)], vi64 32, .func (.func 100) #[] #[(pt b1204 0), (pt b1236 0)], vi64 64, .func (.func 101) #[] #[(pt b1204 0), (pt b1236 0)], vi64 128, .func (.func 102) #[] #[(pt b1204 0), (pt b1236 0)], vi64 256, .func (.func 103) #[] #[(pt b1204 0), (pt b1236 0)], vi64 512, .func (.func 104) #[] #[(pt b1204 0), (pt b1236 0)], vi64 1024, .func (.func 105) #[] #[(pt b1204 0), (pt b1236 0)], vi64 2048, .func (.func 106) #[] #[(pt b1204 0), (pt b1236 0)], vi64 4096, .func (.func 107) #[] #[(pt b1204 0), (pt b1236 0)], vi64 8192, .func (.func 108) #[] #[(pt b1204 0), (pt b1236 0)], vi64 16384, .func (.func 109) #[] #[(pt b1204 0), (pt b1236 0)]] 163, bx b1236 [vi64 x1.f0, vi64 x1.f1, vi64 x1.f2, vi64 x1831, vu64 x1850, vu64 x1869, vu64 x1945, vu64 x1888, vu64 x1907, vu64 x2002, vi64 x1926, vu32 x1983, vi64 x1964, vi64 x2021, vi64 x2022, vu64 x2023, vi64 x2024, vi64 x2055, vu64 x2056, .slice p2058 x2057.length c2059, .bool x2061, vi64 x2062, .slice p2094 x2093.length c2095, .slice p2128 x2127.length c2129, .slice p2162 x2161.length c2163] 48, bx b1206 [vi64 0, vi64 0, vi64 0, vi64 0, vu64 0, vu64 0, vu64 0, vu64 0, vu64 0, vu64 0, vi64 0, vu32 0, vi64 0, vi64 0, vi64 0, vu64 0, vi64 0, vi64 0, vu64 0, .slice none 0 0, .bool false, vi64 0, .slice none 0 0, .slice none 0 0, .slice none 0 0] 48, bx b1204 [vi64 x1.f0, vi64 x1.f1, vi64 x1.f2, vi64 x1.f3, vu64 x1.f4, vu64 x1.f5, vu64 x1.f6, vu64 x1.f7, vu64 x1.f8, vu64 x1.f9, vi64 x1.f10, vu32 x1.f11, vi64 x1.f12, vi64 x1.f13.f0, vi64 x1.f13.f1, vu64 x1.f13.f2, vi64 x1.f13.f3, vi64 x1.f14.f0, vu64 x1.f14.f1, .slice p2 x1.f14.f2.length c3, .bool x1.f14.f3, vi64 x1.f14.f4, .slice p5 x1.f15.length c6, .slice p8 x1.f16.length c9, .slice p11 x1.f17.length c12] 48, F] ih ∧ RSl e5 ih [] p2162 c2163 x2161) := ⟨_, fun _ _ => Iff.rfl⟩
  refine c_seqJ J2167 ?_ ?_
  · refine c_block ?_
    refine c_seq ?_
    refine c_region ?_
    refine pures hs 1 [2, 3, 6, 58, 59, 60, 62] [(2, (pt b1206 0)), (3, vi64 x1232), (6, (pt b1236 0)), (58, .slice (some ⟨b1240, 0, none⟩) 15 15), (59, vi64 15), (60, vi64 14), (62, (pt b1240 28))] (by kernel_rfl) fun a hs => ?_
    refine s_load hs (hw.at_ 0 rfl) 28 (by kernel_rfl) (by kernel_rfl) (v := .agg #[vi64 16384, .func (.func 109) #[] #[(pt b1204 0), (pt b1236 0)]]) (by kernel_rfl) fun a hs => ?_
    refine s_new hs hw [vi64 0, .nilFunc] 163 (fun b => (pt b 0)) (by kernel_rfl) (fun _ => by kernel_rfl) fun a w b2170 hs hw => ?_
    refine s_store hs hw 0 rfl 0 (by kernel_rfl) (by kernel_rfl) (v := .agg #[vi64 16384, .func (.func 109) #[] #[(pt b1204 0), (pt b1236 0)]]) (by kernel_rfl) (by kernel_rfl) (by kernel_rfl) (by kernel_rfl) fun a w hs hw => ?_
    refine s_end ?_
    refine c_seq ?_
    refine c_region ?_
    refine pures hs 2 [2, 3, 6, 58, 59, 60, 8, 64, 65] [(2, (pt b1206 0)), (3, vi64 x1232), (6, (pt b1236 0)), (58, .slice (some ⟨b1240, 0, none⟩) 15 15), (59, vi64 15), (60, vi64 14), (8, (pt b2170 0)), (64, vi64 x1232), (65, (pt b2170 0))] (by kernel_rfl) fun a hs => ?_
    refine s_load hs (hw.at_ 0 rfl) 0 (by kernel_rfl) (by kernel_rfl) (v := vi64 16384) (by kernel_rfl) fun a hs => ?_
    refine pures hs 2 [2, 3, 6, 58, 59, 60, 8, 68] [(2, (pt b1206 0)), (3, vi64 x1232), (6, (pt b1236 0)), (58, .slice (some ⟨b1240, 0, none⟩) 15 15), (59, vi64 15), (60, vi64 14), (8, (pt b2170 0)), (68, .bool ((bAnd .i64 x1232 16384) != 0))] (by kernel_rfl) fun a hs => ?_
    refine s_end ?_
    rcases ifbE hx2166 with ⟨h2172, hx2166⟩ | ⟨h2172, hx2166⟩
    · refine c_cond1 hs (by kernel_rfl) (t := ((bAnd .i64 x1232 16384) != 0)) (by kernel_rfl) h2172 ?_
      refine c_region ?_
      refine pures hs 1 [2, 3, 6, 58, 59, 60, 69] [(2, (pt b1206 0)), (3, vi64 x1232), (6, (pt b1236 0)), (58, .slice (some ⟨b1240, 0, none⟩) 15 15), (59, vi64 15), (60, vi64 14), (69, (pt b2170 1))] (by kernel_rfl) fun a hs => ?_
      refine s_load hs (hw.at_ 0 rfl) 1 (by kernel_rfl) (by kernel_rfl) (v := .func (.func 109) #[] #[(pt b1204 0), (pt b1236 0)]) (by kernel_rfl) fun a hs => ?_
      obtain ⟨y2178, h2179, hx2166⟩ := bindE hx2166
      refine s_call hs (by kernel_rfl) (by kernel_rfl) (letter_bare_15_s (x3 := x1.f0) (x4 := x1.f1) (x5 := x1.f2) (x6 := x1.f3) (x7 := x1.f4) (x8 := x1.f5) (x9 := x1.f6) (x10 := x1.f7) (x11 := x1.f8) (x12 := x1.f9) (x13 := x1.f10) (x14 := x1.f11) (x15 := x1.f12) (x16 := x1.f13.f0) (x17 := x1.f13.f1) (x18 := x1.f13.f2) (x19 := x1.f13.f3) (x20 := x1.f14.f0) (x21 := x1.f14.f1) (x22 := x1.f14.f2) (x26 := x1.f14.f3) (x27 := x1.f14.f4) (x28 := x1.f15) (x32 := x1.f16) (x42 := x1.f0) (x43 := x1.f1) (x44 := x1.f2) (x45 := x1831) (x46 := x1850) (x47 := x1869) (x48 := x1945) (x49 := x1888) (x50 := x1907) (x51 := x2002) (x52 := x1926) (x53 := x1983) (x54 := x1964) (x55 := x2021) (x56 := x2022) (x57 := x2023) (x58 := x2024) (x59 := x2055) (x60 := x2056) (x61 := x2057) (x65 := x2061) (x66 := x2062) (x67 := x2093) (x71 := x2127) (x75 := []) h2179 h4 h7 h10 h13 h2060 h2096 h2130 (RSl.nil _ _ _) ((hw.pick [4, 2, 1, 3, 5] (by kernel_rfl)).pack 2)) fun a w v hv hs => ?_
      obtain ⟨p2180, c2181, rfl, hw, h2182⟩ := hv
      replace hw := hw.unpack 2 rfl
      refine s_end ?_
      obtain rfl := someE hx2166
      exact (hJ2167 _ _).2 ⟨y2178, p2180, c2181, hk, hs.cast [2, 3, 6, 58, 59, 60] (by kernel_rfl), hw.pick [2, 1, 3, 0, 4] (by kernel_rfl), h2182⟩
    refine c_cond0 hs (by kernel_rfl) (t := ((bAnd .i64 x1232 16384) != 0)) (by kernel_rfl) h2172 ?_
    refine c_skip ?_
    obtain rfl := someE hx2166
    exact (hJ2167 _ _).2 ⟨([]), none, 0, hk, hs.cast [2, 3, 6, 58, 59, 60] (by kernel_rfl), hw.pick [1, 2, 3, 4, 5] (by kernel_rfl), (RSl.nil _ _ _)⟩
  intro a w hh
  obtain ⟨x2161, p2162, c2163, hk, hs, hw, h2164⟩ := (hJ2167 _ _).1 hh
  refine c_region ?_
  refine pures hs 2 [2, 3, 6, 58, 59, 60] [(2, (pt b1206 0)), (3, vi64 x1232), (6, (pt b1236 0)), (58, .slice (some ⟨b1240, 0, none⟩) 15 15), (59, vi64 15), (60, vi64 15)] (by kernel_rfl) fun a hs => ?_
  refine s_end ?_
  refine c_unr ?_
  refine c_seq ?_
  refine c_region ?_
  refine pures hs 1 [2, 3, 6, 58, 59, 60, 61] [(2, (pt b1206 0)), (3, vi64 x1232), (6, (pt b1236 0)), (58, .slice (some ⟨b1240, 0, none⟩) 15 15), (59, vi64 15), (60, vi64 15), (61, .bool false)] (by kernel_rfl) fun a hs => ?_
  refine s_end ?_
  refine c_seq ?_
  refine c_condF hs (by kernel_rfl) (by kernel_rfl) ?_
  refine c_exit ?_
  refine c_seq ?_
  refine c_region ?_
  refine s_load hs (hw.at_ 1 rfl) 0 (by kernel_rfl) (by kernel_rfl) (v := .agg #[vi64 x1.f0, vi64 x1.f1, vi64 x1.f2, vi64 x1831, vu64 x1850, vu64 x1869, vu64 x1945, vu64 x1888, vu64 x1907, vu64 x2002, vi64 x1926, vu32 x1983, vi64 x1964, vi64 x2021, vi64 x2022, vu64 x2023, vi64 x2024, vi64 x2055, vu64 x2056, .slice p2058 x2057.length c2059, .bool x2061, vi64 x2062, .slice p2094 x2093.length c2095, .slice p2128 x2127.length c2129, .slice p2162 x2161.length c2163]) (by kernel_rfl) fun a hs => ?_
  refine s_store hs hw 2 rfl 0 (by kernel_rfl) (by kernel_rfl) (v := .agg #[vi64 x1.f0, vi64 x1.f1, vi64 x1.f2, vi64 x1831, vu64 x1850, vu64 x1869, vu64 x1945, vu64 x1888, vu64 x1907, vu64 x2002, vi64 x1926, vu32 x1983, vi64 x1964, vi64 x2021, vi64 x2022, vu64 x2023, vi64 x2024, vi64 x2055, vu64 x2056, .slice p2058 x2057.length c2059, .bool x2061, vi64 x2062, .slice p2094 x2093.length c2095, .slice p2128 x2127.length c2129, .slice p2162 x2161.length c2163]) (by kernel_rfl) (by kernel_rfl) (by kernel_rfl) (by kernel_rfl) fun a w hs hw => ?_
  refine s_end ?_
  refine c_ret ?_
  obtain rfl := someE hk
  refine hQ _ _ (f_retC hs rfl (hw.at_ 2 rfl) (by kernel_rfl) (v := .agg #[vi64 x1.f0, vi64 x1.f1, vi64 x1.f2, vi64 x1831, vu64 x1850, vu64 x1869, vu64 x1945, vu64 x1888, vu64 x1907, vu64 x2002, vi64 x1926, vu32 x1983, vi64 x1964, vi64 x2021, vi64 x2022, vu64 x2023, vi64 x2024, vi64 x2055, vu64 x2056, .slice p2058 x2057.length c2059, .bool x2061, vi64 x2062, .slice p2094 x2093.length c2095, .slice p2128 x2127.length c2129, .slice p2162 x2161.length c2163]) (by kernel_rfl) ⟨p2058, c2059, p2094, c2095, p2128, c2129, p2162, c2163, rfl, hw.pick [4] (by kernel_rfl), h2060, h2096, h2130, h2164⟩)
def slices_Equal_int_int_r10 : Option Bool :=
  some true
def slices_Equal_int_int_r12 (rec_slices_Equal_int_int_l11 : Int → Option (Sum Bool Unit)) (x217 : Int) (x272 : Bool) : Option (Sum Bool Unit) :=
  if x272 = true then some (.inl false)
  else rec_slices_Equal_int_int_l11 (IntKind.i64.wrap (x217 + 1))
def slices_Equal_int_int_l11 (x1 : List Int) (x7 : List Int) : Nat → Int → Option (Sum Bool Unit)
  | 0, _ => none
  | j + 1, x217 =>
    if (decide (x217 < (x1.length : Int))) = true then (
      ((ix x1 x217).bind fun x277 =>
        (ix x7 x217).bind fun x281 =>
        some (x277 != x281) : Option Bool).bind fun s285 => slices_Equal_int_int_r12 (slices_Equal_int_int_l11 x1 x7 j) x217 s285)
    else some (.inr ())
def slices_Equal_int_int (k : Nat) (x1 : List Int) (x7 : List Int) : Option Bool :=
  if ((x1.length : Int) != (x7.length : Int)) = true then some false
  else (slices_Equal_int_int_l11 x1 x7 k 0 : Option (Sum Bool Unit)).bind fun
    | .inl z => some z
    | .inr _ => slices_Equal_int_int_r10
theorem slices_Equal_int_int_s {k : Nat} {x1 : List Int} {x7 : List Int} {p2 : Option Addr} {c3 : Nat} {d5 : Ch} {p8 : Option Addr} {c9 : Nat} {d11 : Ch} {r : Bool} (hk : slices_Equal_int_int k x1 x7 = some r) {g w : World} {F : Ch} {ih : IH} (h4 : RSl e3 ih d5 p2 c3 x1) (h6 : ∀ q ∈ d5, q ∈ F) (h10 : RSl e3 ih d11 p8 c9 x7) (h12 : ∀ q ∈ d11, q ∈ F) (hw : St g w [F] ih) :
    CallsR Tryz.prog 128 #[.slice p2 x1.length c3, .slice p8 x7.length c9] w fun v w' => v = .bool r ∧ St g w' [F] ih := by
  refine f_in (vs := [.slice p2 x1.length c3, .slice p8 x7.length c9]) Tryz.func128 rfl 26 rfl (by kernel_rfl) [(0, .slice p2 x1.length c3), (1, .slice p8 x7.length c9)] (by kernel_rfl) fun a Qf hQ hQn hs => ?_
  refine c_seq ?_
  refine c_region ?_
  refine pures hs 1 [0, 1] [(0, .slice p2 x1.length c3), (1, .slice p8 x7.length c9)] (by kernel_rfl) fun a hs => ?_
  refine s_end ?_
  refine c_seq ?_
  refine c_seq ?_
  refine c_region ?_
  refine pures hs 5 [0, 1, 10] [(0, .slice p2 x1.length c3), (1, .slice p8 x7.length c9), (10, .bool ((x1.length : Int) != (x7.length : Int)))] (by kernel_rfl) fun a hs => ?_
  refine s_end ?_
  rcases ifbE hk with ⟨h151, hk⟩ | ⟨h151, hk⟩
  · refine c_cond1 hs (by kernel_rfl) (t := ((x1.length : Int) != (x7.length : Int))) (by kernel_rfl) h151 ?_
    refine c_seq ?_
    refine c_region ?_
    refine pures hs 1 [4] [(4, .bool false)] (by kernel_rfl) fun a hs => ?_
    refine s_end ?_
    refine c_ret ?_
    obtain rfl := someE hk
    refine hQ _ _ (f_ret1 hs rfl (v := .bool false) (by kernel_rfl) ⟨rfl, hw.pick [0] (by kernel_rfl)⟩)
  refine c_cond0 hs (by kernel_rfl) (t := ((x1.length : Int) != (x7.length : Int))) (by kernel_rfl) h151 ?_
  refine c_skip ?_
  refine c_seq ?_
  refine c_seq ?_
  refine c_region ?_
  refine pures hs 3 [0, 1, 12, 13] [(0, .slice p2 x1.length c3), (1, .slice p8 x7.length c9), (12, vi64 (x1.length : Int)), (13, vi64 0)] (by kernel_rfl) fun a hs => ?_
  refine s_end ?_
  refine c_block ?_
  obtain ⟨y250, hx251, hk⟩ := bindE hk
  obtain ⟨J252, hJ252⟩ : ∃ J : Act → World → Prop, ∀ a w, J a w ↔ (slices_Equal_int_int_r10 = some r ∧ Sees a 26 [] ∧ St g w [F] ih) := ⟨_, fun _ _ => Iff.rfl⟩
  obtain ⟨I253, hI253⟩ : ∃ J : Nat → Act → World → Prop, ∀ j a w, J j a w ↔ (∃ (x217 : Int), slices_Equal_int_int_l11 x1 x7 j x217 = some y250 ∧ Sees a 26 [(0, .slice p2 x1.length c3), (1, .slice p8 x7.length c9), (12, vi64 (x1.length : Int)), (13, vi64 x217)] ∧ St g w [F] ih) := ⟨_, fun _ _ _ => Iff.rfl⟩
  refine c_exitJ 0 J252 ?_ ?_
  · refine c_loop I253 k ((hI253 _ _ _).2 ⟨0, hx251, hs.cast [0, 1, 12, 13] (by kernel_rfl), hw.pick [0] (by kernel_rfl)⟩) (fun a w h0 => ?_) fun j a w hh => ?_
    · obtain ⟨_, h, _⟩ := (hI253 _ _ _).1 h0
      cases h
    obtain ⟨x217, hx251, hs, hw⟩ := (hI253 _ _ _).1 hh
    refine c_seq ?_
    refine c_region ?_
    refine pures hs 1 [0, 1, 12, 13, 14] [(0, .slice p2 x1.length c3), (1, .slice p8 x7.length c9), (12, vi64 (x1.length : Int)), (13, vi64 x217), (14, .bool (decide (x217 < (x1.length : Int))))] (by kernel_rfl) fun a hs => ?_
    refine s_end ?_
    refine c_seq ?_
    rcases ifbE hx251 with ⟨h254, hx251⟩ | ⟨h254, hx251⟩
    · refine c_cond1 hs (by kernel_rfl) (t := (decide (x217 < (x1.length : Int)))) (by kernel_rfl) h254 ?_
      refine c_skip ?_
      refine c_seq ?_
      refine c_block ?_
      refine c_seq ?_
      refine c_region ?_
      refine pures hs 2 [0, 1, 12, 13, 5] [(0, .slice p2 x1.length c3), (1, .slice p8 x7.length c9), (12, vi64 (x1.length : Int)), (13, vi64 x217), (5, vi64 x217)] (by kernel_rfl) fun a hs => ?_
      refine s_end ?_
      refine c_seq ?_
      obtain ⟨S255, hS255, kS255⟩ := mkSX (X := [([], F)]) (ih := ih) (K := []) rfl
      obtain ⟨y274, hx275, hx251⟩ := bindE hx251
      obtain ⟨J276, hJ276⟩ : ∃ J : Act → World → Prop, ∀ a w, J a w ↔ (∃ (x272 : Bool), slices_Equal_int_int_r12 (slices_Equal_int_int_l11 x1 x7 j) x217 x272 = some y250 ∧ Sees a 26 [(0, .slice p2 x1.length c3), (1, .slice p8 x7.length c9), (12, vi64 (x1.length : Int)), (13, vi64 x217), (24, .bool x272)] ∧ St g w [F] ih) := ⟨_, fun _ _ => Iff.rfl⟩
      refine c_draw (by kernel_rfl) (N := 9) rfl S255 J276 ?_ ?_
      · have hw := hw.drew
        have hS : S255 (Array.replicate 9 false) _ := SX_now hS255 (hw.vws [0]) (by kernel_rfl)
        refine d_pures (fuel := 7) kS255 hs hS [0, 1] [0, 1, 12, 13, 5, 16, 17] [(0, .slice p2 x1.length c3), (1, .slice p8 x7.length c9), (12, vi64 (x1.length : Int)), (13, vi64 x217), (5, vi64 x217), (16, .slice p2 x1.length c3), (17, vi64 x217)] (by kernel_rfl) fun a hs hS => ?_
        obtain ⟨x277, h278, hx275⟩ := bindE hx275
        refine d_index (fuel := 6) kS255 hs hS 2 rfl (by kernel_rfl) h4 (by kernel_rfl) (by kernel_rfl) (k := .i64) (by kernel_rfl) 3 (by kernel_rfl) (by kernel_rfl) h278 fun a r279 cs henc at280 hs hS => ?_
        obtain rfl := henc
        refine d_load (fuel := 5) kS255 hs hS 3 rfl (by kernel_rfl) (fun l w hu hS => at280 w (((SX_ch hS255 0 rfl (by kernel_rfl) l w hu hS).sub h6).anti (Le.refl _))) 0 (by kernel_rfl) (by kernel_rfl) (v := vi64 x277) (by kernel_rfl) fun a hs hS => ?_
        refine d_pures (fuel := 3) kS255 hs hS [4, 5] [0, 1, 12, 13, 19, 20, 21] [(0, .slice p2 x1.length c3), (1, .slice p8 x7.length c9), (12, vi64 (x1.length : Int)), (13, vi64 x217), (19, vi64 x277), (20, .slice p8 x7.length c9), (21, vi64 x217)] (by kernel_rfl) fun a hs hS => ?_
        obtain ⟨x281, h282, hx275⟩ := bindE hx275
        refine d_index (fuel := 2) kS255 hs hS 6 rfl (by kernel_rfl) h10 (by kernel_rfl) (by kernel_rfl) (k := .i64) (by kernel_rfl) 3 (by kernel_rfl) (by kernel_rfl) h282 fun a r283 cs henc at284 hs hS => ?_
        obtain rfl := henc
        refine d_load (fuel := 1) kS255 hs hS 7 rfl (by kernel_rfl) (fun l w hu hS => at284 w (((SX_ch hS255 0 rfl (by kernel_rfl) l w hu hS).sub h12).anti (Le.refl _))) 0 (by kernel_rfl) (by kernel_rfl) (v := vi64 x281) (by kernel_rfl) fun a hs hS => ?_
        refine d_pures (fuel := 0) kS255 hs hS [8] [0, 1, 12, 13, 24] [(0, .slice p2 x1.length c3), (1, .slice p8 x7.length c9), (12, vi64 (x1.length : Int)), (13, vi64 x217), (24, .bool (x277 != x281))] (by kernel_rfl) fun a hs hS => ?_
        refine d_done (by kernel_rfl) ?_
        obtain rfl := someE hx275
        exact (hJ276 _ _).2 ⟨(x277 != x281), hx251, hs.cast [0, 1, 12, 13, 24] (by kernel_rfl), hw.pick [0] (by kernel_rfl)⟩
      intro a w hh
      obtain ⟨x272, hx251, hs, hw⟩ := (hJ276 _ _).1 hh
      rcases ifbE hx251 with ⟨h273, hx251⟩ | ⟨h273, hx251⟩
      · refine c_cond1 hs (by kernel_rfl) (t := x272) (by kernel_rfl) h273 ?_
        refine c_seq ?_
        refine c_region ?_
        refine pures hs 1 [4] [(4, .bool false)] (by kernel_rfl) fun a hs => ?_
        refine s_end ?_
        refine c_ret ?_
        obtain rfl := someE hx251
        obtain rfl := someE hk
        refine hQ _ _ (f_ret1 hs rfl (v := .bool false) (by kernel_rfl) ⟨rfl, hw.pick [0] (by kernel_rfl)⟩)
      refine c_cond0 hs (by kernel_rfl) (t := x272) (by kernel_rfl) h273 ?_
      refine c_skip ?_
      refine c_region ?_
      refine pures hs 2 [0, 1, 12, 13] [(0, .slice p2 x1.length c3), (1, .slice p8 x7.length c9), (12, vi64 (x1.length : Int)), (13, vi64 (IntKind.i64.wrap (x217 + 1)))] (by kernel_rfl) fun a hs => ?_
      refine s_end ?_
      exact (hI253 _ _ _).2 ⟨(IntKind.i64.wrap (x217 + 1)), hx251, hs.cast [0, 1, 12, 13] (by kernel_rfl), hw.pick [0] (by kernel_rfl)⟩
    refine c_cond0 hs (by kernel_rfl) (t := (decide (x217 < (x1.length : Int)))) (by kernel_rfl) h254 ?_
    refine c_exit ?_
    obtain rfl := someE hx251
    exact (hJ252 _ _).2 ⟨hk, hs.cast [] (by kernel_rfl), hw.pick [0] (by kernel_rfl)⟩
  intro a w hh
  obtain ⟨hk, hs, hw⟩ := (hJ252 _ _).1 hh
  refine c_seq ?_
  refine c_region ?_
  refine pures hs 1 [4] [(4, .bool true)] (by kernel_rfl) fun a hs => ?_
  refine s_end ?_
  refine c_ret ?_
  obtain rfl := someE hk
  refine hQ _ _ (f_ret1 hs rfl (v := .bool true) (by kernel_rfl) ⟨rfl, hw.pick [0] (by kernel_rfl)⟩)
def conf_Same_r2 (x62 : Bool) : Option Bool :=
  some x62
def conf_Same (k : Nat) (x1 : M44) (x5 : M44) : Option Bool :=
  (if (x1.f0 == x5.f0) = true then (
      if (x1.f1 == x5.f1) = true then (
        if (x1.f3 == x5.f3) = true then (
          if (x1.f4 == x5.f4) = true then (
            (slices_Equal_int_int k x1.f2 x5.f2).bind fun y70 =>
            some y70)
          else some false)
        else some false)
      else some false)
    else some false : Option Bool).bind fun s72 => conf_Same_r2 s72
theorem conf_Same_s {k : Nat} {x1 : M44} {x5 : M44} {p2 : Option Addr} {c3 : Nat} {p6 : Option Addr} {c7 : Nat} {r : Bool} (hk : conf_Same k x1 x5 = some r) {g w : World} {F : Ch} {ih : IH} (h4 : RSl e3 ih [] p2 c3 x1.f2) (h8 : RSl e3 ih [] p6 c7 x5.f2) (hw : St g w [F] ih) :
    CallsR Tryz.prog 90 #[.agg #[vi64 x1.f0, vu64 x1.f1, .slice p2 x1.f2.length c3, .bool x1.f3, vi64 x1.f4], .agg #[vi64 x5.f0, vu64 x5.f1, .slice p6 x5.f2.length c7, .bool x5.f3, vi64 x5.f4]] w fun v w' => v = .bool r ∧ St g w' [F] ih := by
  refine f_in (vs := [.agg #[vi64 x1.f0, vu64 x1.f1, .slice p2 x1.f2.length c3, .bool x1.f3, vi64 x1.f4], .agg #[vi64 x5.f0, vu64 x5.f1, .slice p6 x5.f2.length c7, .bool x5.f3, vi64 x5.f4]]) Tryz.func90 rfl 38 rfl (by kernel_rfl) [(0, .agg #[vi64 x1.f0, vu64 x1.f1, .slice p2 x1.f2.length c3, .bool x1.f3, vi64 x1.f4]), (1, .agg #[vi64 x5.f0, vu64 x5.f1, .slice p6 x5.f2.length c7, .bool x5.f3, vi64 x5.f4])] (by kernel_rfl) fun a Qf hQ hQn hs => ?_
  refine c_seq ?_
  refine c_region ?_
  refine s_new hs hw [vi64 x1.f0, vu64 x1.f1, .slice p2 x1.f2.length c3, .bool x1.f3, vi64 x1.f4] 44 (fun b => (pt b 0)) (by kernel_rfl) (fun _ => by kernel_rfl) fun a w b46 hs hw => ?_
  refine s_new hs hw [vi64 x5.f0, vu64 x5.f1, .slice p6 x5.f2.length c7, .bool x5.f3, vi64 x5.f4] 44 (fun b => (pt b 0)) (by kernel_rfl) (fun _ => by kernel_rfl) fun a w b48 hs hw => ?_
  refine pures hs 1 [2, 3] [(2, (pt b46 0)), (3, (pt b48 0))] (by kernel_rfl) fun a hs => ?_
  refine s_end ?_
  refine c_seq ?_
  obtain ⟨y63, hx64, hk⟩ := bindE hk
  obtain ⟨J65, hJ65⟩ : ∃ J : Act → World → Prop, ∀ a w, J a w ↔ (∃ (x62 : Bool), conf_Same_r2 x62 = some r ∧ Sees a 38 [(4, .bool x62)] ∧ St g w [F] ih) := ⟨_, fun _ _ => Iff.rfl⟩
  refine c_regJ J65 ?_ ?_
  · refine pures hs 1 [2, 3, 5] [(2, (pt b46 0)), (3, (pt b48 0)), (5, (pt b46 0))] (by kernel_rfl) fun a hs => ?_
    refine s_load hs (hw.at_ 1 rfl) 0 (by kernel_rfl) (by kernel_rfl) (v := vi64 x1.f0) (by kernel_rfl) fun a hs => ?_
    refine pures hs 1 [2, 3, 6, 7] [(2, (pt b46 0)), (3, (pt b48 0)), (6, vi64 x1.f0), (7, (pt b48 0))] (by kernel_rfl) fun a hs => ?_
    refine s_load hs (hw.at_ 0 rfl) 0 (by kernel_rfl) (by kernel_rfl) (v := vi64 x5.f0) (by kernel_rfl) fun a hs => ?_
    refine pures hs 2 [2, 3, 10] [(2, (pt b46 0)), (3, (pt b48 0)), (10, .bool (x1.f0 == x5.f0))] (by kernel_rfl) fun a hs => ?_
    rcases ifbE hx64 with ⟨h66, hx64⟩ | ⟨h66, hx64⟩
    · replace hs := hs.altB 10 true (by kernel_rfl) h66
      refine pures hs 1 [2, 3, 10, 11] [(2, (pt b46 0)), (3, (pt b48 0)), (10, .bool true), (11, (pt b46 1))] (by kernel_rfl) fun a hs => ?_
      refine s_load hs (hw.at_ 1 rfl) 1 (by kernel_rfl) (by kernel_rfl) (v := vu64 x1.f1) (by kernel_rfl) fun a hs => ?_
      refine pures hs 1 [2, 3, 10, 12, 13] [(2, (pt b46 0)), (3, (pt b48 0)), (10, .bool true), (12, vu64 x1.f1), (13, (pt b48 1))] (by kernel_rfl) fun a hs => ?_
      refine s_load hs (hw.at_ 0 rfl) 1 (by kernel_rfl) (by kernel_rfl) (v := vu64 x5.f1) (by kernel_rfl) fun a hs => ?_
      refine pures hs 3 [2, 3, 17] [(2, (pt b46 0)), (3, (pt b48 0)), (17, .bool (x1.f1 == x5.f1))] (by kernel_rfl) fun a hs => ?_
      rcases ifbE hx64 with ⟨h67, hx64⟩ | ⟨h67, hx64⟩
      · replace hs := hs.altB 17 true (by kernel_rfl) h67
        refine pures hs 1 [2, 3, 17, 18] [(2, (pt b46 0)), (3, (pt b48 0)), (17, .bool true), (18, (pt b46 3))] (by kernel_rfl) fun a hs => ?_
        refine s_load hs (hw.at_ 1 rfl) 3 (by kernel_rfl) (by kernel_rfl) (v := .bool x1.f3) (by kernel_rfl) fun a hs => ?_
        refine pures hs 1 [2, 3, 17, 19, 20] [(2, (pt b46 0)), (3, (pt b48 0)), (17, .bool true), (19, .bool x1.f3), (20, (pt b48 3))] (by kernel_rfl) fun a hs => ?_
        refine s_load hs (hw.at_ 0 rfl) 3 (by kernel_rfl) (by kernel_rfl) (v := .bool x5.f3) (by kernel_rfl) fun a hs => ?_
        refine pures hs 3 [2, 3, 24] [(2, (pt b46 0)), (3, (pt b48 0)), (24, .bool (x1.f3 == x5.f3))] (by kernel_rfl) fun a hs => ?_
        rcases ifbE hx64 with ⟨h68, hx64⟩ | ⟨h68, hx64⟩
        · replace hs := hs.altB 24 true (by kernel_rfl) h68
          refine pures hs 1 [2, 3, 24, 25] [(2, (pt b46 0)), (3, (pt b48 0)), (24, .bool true), (25, (pt b46 4))] (by kernel_rfl) fun a hs => ?_
          refine s_load hs (hw.at_ 1 rfl) 4 (by kernel_rfl) (by kernel_rfl) (v := vi64 x1.f4) (by kernel_rfl) fun a hs => ?_
          refine pures hs 1 [2, 3, 24, 26, 27] [(2, (pt b46 0)), (3, (pt b48 0)), (24, .bool true), (26, vi64 x1.f4), (27, (pt b48 4))] (by kernel_rfl) fun a hs => ?_
          refine s_load hs (hw.at_ 0 rfl) 4 (by kernel_rfl) (by kernel_rfl) (v := vi64 x5.f4) (by kernel_rfl) fun a hs => ?_
          refine pures hs 3 [2, 3, 31] [(2, (pt b46 0)), (3, (pt b48 0)), (31, .bool (x1.f4 == x5.f4))] (by kernel_rfl) fun a hs => ?_
          rcases ifbE hx64 with ⟨h69, hx64⟩ | ⟨h69, hx64⟩
          · replace hs := hs.altB 31 true (by kernel_rfl) h69
            refine pures hs 1 [3, 31, 32] [(3, (pt b48 0)), (31, .bool true), (32, (pt b46 2))] (by kernel_rfl) fun a hs => ?_
            refine s_load hs (hw.at_ 1 rfl) 2 (by kernel_rfl) (by kernel_rfl) (v := .slice p2 x1.f2.length c3) (by kernel_rfl) fun a hs => ?_
            refine pures hs 1 [31, 33, 34] [(31, .bool true), (33, .slice p2 x1.f2.length c3), (34, (pt b48 2))] (by kernel_rfl) fun a hs => ?_
            refine s_load hs (hw.at_ 0 rfl) 2 (by kernel_rfl) (by kernel_rfl) (v := .slice p6 x5.f2.length c7) (by kernel_rfl) fun a hs => ?_
            obtain ⟨y70, h71, hx64⟩ := bindE hx64
            refine s_call hs (by kernel_rfl) (by kernel_rfl) (slices_Equal_int_int_s h71 h4 (nilSub _) h8 (nilSub _) ((hw.pick [2] (by kernel_rfl)).pack 0)) fun a w v hv hs => ?_
            obtain ⟨rfl, hw⟩ := hv
            replace hw := hw.unpack 0 rfl
            refine pures hs 2 [4] [(4, .bool y70)] (by kernel_rfl) fun a hs => ?_
            refine s_end ?_
            obtain rfl := someE hx64
            exact (hJ65 _ _).2 ⟨y70, hk, hs.cast [4] (by kernel_rfl), hw.pick [0] (by kernel_rfl)⟩
          replace hs := hs.altB 31 false (by kernel_rfl) h69
          refine pures hs 7 [4] [(4, .bool false)] (by kernel_rfl) fun a hs => ?_
          refine s_end ?_
          obtain rfl := someE hx64
          exact (hJ65 _ _).2 ⟨false, hk, hs.cast [4] (by kernel_rfl), hw.pick [2] (by kernel_rfl)⟩
        replace hs := hs.altB 24 false (by kernel_rfl) h68
        refine pures hs 14 [4] [(4, .bool false)] (by kernel_rfl) fun a hs => ?_
        refine s_end ?_
        obtain rfl := someE hx64
        exact (hJ65 _ _).2 ⟨false, hk, hs.cast [4] (by kernel_rfl), hw.pick [2] (by kernel_rfl)⟩
      replace hs := hs.altB 17 false (by kernel_rfl) h67
      refine pures hs 21 [4] [(4, .bool false)] (by kernel_rfl) fun a hs => ?_
      refine s_end ?_
      obtain rfl := someE hx64
      exact (hJ65 _ _).2 ⟨false, hk, hs.cast [4] (by kernel_rfl), hw.pick [2] (by kernel_rfl)⟩
    replace hs := hs.altB 10 false (by kernel_rfl) h66
    refine pures hs 28 [4] [(4, .bool false)] (by kernel_rfl) fun a hs => ?_
    refine s_end ?_
    obtain rfl := someE hx64
    exact (hJ65 _ _).2 ⟨false, hk, hs.cast [4] (by kernel_rfl), hw.pick [2] (by kernel_rfl)⟩
  intro a w hh
  obtain ⟨x62, hk, hs, hw⟩ := (hJ65 _ _).1 hh
  refine c_ret ?_
  obtain rfl := someE hk
  refine hQ _ _ (f_ret1 hs rfl (v := .bool x62) (by kernel_rfl) ⟨rfl, hw.pick [0] (by kernel_rfl)⟩)
def slices_Equal_api_Vote_api_Vote_r10 : Option Bool :=
  some true
def slices_Equal_api_Vote_api_Vote_r12 (rec_slices_Equal_api_Vote_api_Vote_l11 : Int → Option (Sum Bool Unit)) (x217 : Int) (x272 : Bool) : Option (Sum Bool Unit) :=
  if x272 = true then some (.inl false)
  else rec_slices_Equal_api_Vote_api_Vote_l11 (IntKind.i64.wrap (x217 + 1))
def slices_Equal_api_Vote_api_Vote_l11 (x1 : List M156) (x7 : List M156) : Nat → Int → Option (Sum Bool Unit)
  | 0, _ => none
  | j + 1, x217 =>
    if (decide (x217 < (x1.length : Int))) = true then (
      ((ix x1 x217).bind fun x277 =>
        (ix x7 x217).bind fun x281 =>
        some (!((x277.f0 == x281.f0) && ((x277.f1 == x281.f1) && (((x277.f2.f0 == x281.f2.f0) && ((x277.f2.f1 == x281.f2.f1) && ((x277.f2.f2 == x281.f2.f2) && ((x277.f2.f3 == x281.f2.f3) && true)))) && true)))) : Option Bool).bind fun s285 => slices_Equal_api_Vote_api_Vote_r12 (slices_Equal_api_Vote_api_Vote_l11 x1 x7 j) x217 s285)
    else some (.inr ())
def slices_Equal_api_Vote_api_Vote (k : Nat) (x1 : List M156) (x7 : List M156) : Option Bool :=
  if ((x1.length : Int) != (x7.length : Int)) = true then some false
  else (slices_Equal_api_Vote_api_Vote_l11 x1 x7 k 0 : Option (Sum Bool Unit)).bind fun
    | .inl z => some z
    | .inr _ => slices_Equal_api_Vote_api_Vote_r10
theorem slices_Equal_api_Vote_api_Vote_s {k : Nat} {x1 : List M156} {x7 : List M156} {p2 : Option Addr} {c3 : Nat} {d5 : Ch} {p8 : Option Addr} {c9 : Nat} {d11 : Ch} {r : Bool} (hk : slices_Equal_api_Vote_api_Vote k x1 x7 = some r) {g w : World} {F : Ch} {ih : IH} (h4 : RSl e156 ih d5 p2 c3 x1) (h6 : ∀ q ∈ d5, q ∈ F) (h10 : RSl e156 ih d11 p8 c9 x7) (h12 : ∀ q ∈ d11, q ∈ F) (hw : St g w [F] ih) :
    CallsR Tryz.prog 91 #[.slice p2 x1.length c3, .slice p8 x7.length c9] w fun v w' => v = .bool r ∧ St g w' [F] ih := by
  refine f_in (vs := [.slice p2 x1.length c3, .slice p8 x7.length c9]) Tryz.func91 rfl 26 rfl (by kernel_rfl) [(0, .slice p2 x1.length c3), (1, .slice p8 x7.length c9)] (by kernel_rfl) fun a Qf hQ hQn hs => ?_
  refine c_seq ?_
  refine c_region ?_
  refine pures hs 1 [0, 1] [(0, .slice p2 x1.length c3), (1, .slice p8 x7.length c9)] (by kernel_rfl) fun a hs => ?_
  refine s_end ?_
  refine c_seq ?_
  refine c_seq ?_
  refine c_region ?_
  refine pures hs 5 [0, 1, 10] [(0, .slice p2 x1.length c3), (1, .slice p8 x7.length c9), (10, .bool ((x1.length : Int) != (x7.length : Int)))] (by kernel_rfl) fun a hs => ?_
  refine s_end ?_
  rcases ifbE hk with ⟨h151, hk⟩ | ⟨h151, hk⟩
  · refine c_cond1 hs (by kernel_rfl) (t := ((x1.length : Int) != (x7.length : Int))) (by kernel_rfl) h151 ?_
    refine c_seq ?_
    refine c_region ?_
    refine pures hs 1 [4] [(4, .bool false)] (by kernel_rfl) fun a hs => ?_
    refine s_end ?_
    refine c_ret ?_
    obtain rfl := someE hk
    refine hQ _ _ (f_ret1 hs rfl (v := .bool false) (by kernel_rfl) ⟨rfl, hw.pick [0] (by kernel_rfl)⟩)
  refine c_cond0 hs (by kernel_rfl) (t := ((x1.length : Int) != (x7.length : Int))) (by kernel_rfl) h151 ?_
  refine c_skip ?_
  refine c_seq ?_
  refine c_seq ?_
  refine c_region ?_
  refine pures hs 3 [0, 1, 12, 13] [(0, .slice p2 x1.length c3), (1, .slice p8 x7.length c9), (12, vi64 (x1.length : Int)), (13, vi64 0)] (by kernel_rfl) fun a hs => ?_
  refine s_end ?_
  refine c_block ?_
  obtain ⟨y250, hx251, hk⟩ := bindE hk
  obtain ⟨J252, hJ252⟩ : ∃ J : Act → World → Prop, ∀ a w, J a w ↔ (slices_Equal_api_Vote_api_Vote_r10 = some r ∧ Sees a 26 [] ∧ St g w [F] ih) := ⟨_, fun _ _ => Iff.rfl⟩
  obtain ⟨I253, hI253⟩ : ∃ J : Nat → Act → World → Prop, ∀ j a w, J j a w ↔ (∃ (x217 : Int), slices_Equal_api_Vote_api_Vote_l11 x1 x7 j x217 = some y250 ∧ Sees a 26 [(0, .slice p2 x1.length c3), (1, .slice p8 x7.length c9), (12, vi64 (x1.length : Int)), (13, vi64 x217)] ∧ St g w [F] ih) := ⟨_, fun _ _ _ => Iff.rfl⟩
  refine c_exitJ 0 J252 ?_ ?_
  · refine c_loop I253 k ((hI253 _ _ _).2 ⟨0, hx251, hs.cast [0, 1, 12, 13] (by kernel_rfl), hw.pick [0] (by kernel_rfl)⟩) (fun a w h0 => ?_) fun j a w hh => ?_
    · obtain ⟨_, h, _⟩ := (hI253 _ _ _).1 h0
      cases h
    obtain ⟨x217, hx251, hs, hw⟩ := (hI253 _ _ _).1 hh
    refine c_seq ?_
    refine c_region ?_
    refine pures hs 1 [0, 1, 12, 13, 14] [(0, .slice p2 x1.length c3), (1, .slice p8 x7.length c9), (12, vi64 (x1.length : Int)), (13, vi64 x217), (14, .bool (decide (x217 < (x1.length : Int))))] (by kernel_rfl) fun a hs => ?_
    refine s_end ?_
    refine c_seq ?_
    rcases ifbE hx251 with ⟨h254, hx251⟩ | ⟨h254, hx251⟩
    · refine c_cond1 hs (by kernel_rfl) (t := (decide (x217 < (x1.length : Int)))) (by kernel_rfl) h254 ?_
      refine c_skip ?_
      refine c_seq ?_
      refine c_block ?_
      refine c_seq ?_
      refine c_region ?_
      refine pures hs 2 [0, 1, 12, 13, 5] [(0, .slice p2 x1.length c3), (1, .slice p8 x7.length c9), (12, vi64 (x1.length : Int)), (13, vi64 x217), (5, vi64 x217)] (by kernel_rfl) fun a hs => ?_
      refine s_end ?_
      refine c_seq ?_
      obtain ⟨S255, hS255, kS255⟩ := mkSX (X := [([], F)]) (ih := ih) (K := []) rfl
      obtain ⟨y274, hx275, hx251⟩ := bindE hx251
      obtain ⟨J276, hJ276⟩ : ∃ J : Act → World → Prop, ∀ a w, J a w ↔ (∃ (x272 : Bool), slices_Equal_api_Vote_api_Vote_r12 (slices_Equal_api_Vote_api_Vote_l11 x1 x7 j) x217 x272 = some y250 ∧ Sees a 26 [(0, .slice p2 x1.length c3), (1, .slice p8 x7.length c9), (12, vi64 (x1.length : Int)), (13, vi64 x217), (24, .bool x272)] ∧ St g w [F] ih) := ⟨_, fun _ _ => Iff.rfl⟩
      refine c_draw (by kernel_rfl) (N := 9) rfl S255 J276 ?_ ?_
      · have hw := hw.drew
        have hS : S255 (Array.replicate 9 false) _ := SX_now hS255 (hw.vws [0]) (by kernel_rfl)
        refine d_pures (fuel := 7) kS255 hs hS [0, 1] [0, 1, 12, 13, 5, 16, 17] [(0, .slice p2 x1.length c3), (1, .slice p8 x7.length c9), (12, vi64 (x1.length : Int)), (13, vi64 x217), (5, vi64 x217), (16, .slice p2 x1.length c3), (17, vi64 x217)] (by kernel_rfl) fun a hs hS => ?_
        obtain ⟨x277, h278, hx275⟩ := bindE hx275
        refine d_index (fuel := 6) kS255 hs hS 2 rfl (by kernel_rfl) h4 (by kernel_rfl) (by kernel_rfl) (k := .i64) (by kernel_rfl) 156 (by kernel_rfl) (by kernel_rfl) h278 fun a r279 cs henc at280 hs hS => ?_
        obtain rfl := henc
        refine d_load (fuel := 5) kS255 hs hS 3 rfl (by kernel_rfl) (fun l w hu hS => at280 w (((SX_ch hS255 0 rfl (by kernel_rfl) l w hu hS).sub h6).anti (Le.refl _))) 0 (by kernel_rfl) (by kernel_rfl) (v := .agg #[vi64 x277.f0, vu64 x277.f1, vi64 x277.f2.f0, vi64 x277.f2.f1, vu64 x277.f2.f2, vi64 x277.f2.f3]) (by kernel_rfl) fun a hs hS => ?_
        refine d_pures (fuel := 3) kS255 hs hS [4, 5] [0, 1, 12, 13, 19, 20, 21] [(0, .slice p2 x1.length c3), (1, .slice p8 x7.length c9), (12, vi64 (x1.length : Int)), (13, vi64 x217), (19, .agg #[vi64 x277.f0, vu64 x277.f1, vi64 x277.f2.f0, vi64 x277.f2.f1, vu64 x277.f2.f2, vi64 x277.f2.f3]), (20, .slice p8 x7.length c9), (21, vi64 x217)] (by kernel_rfl) fun a hs hS => ?_
        obtain ⟨x281, h282, hx275⟩ := bindE hx275
        refine d_index (fuel := 2) kS255 hs hS 6 rfl (by kernel_rfl) h10 (by kernel_rfl) (by kernel_rfl) (k := .i64) (by kernel_rfl) 156 (by kernel_rfl) (by kernel_rfl) h282 fun a r283 cs henc at284 hs hS => ?_
        obtain rfl := henc
        refine d_load (fuel := 1) kS255 hs hS 7 rfl (by kernel_rfl) (fun l w hu hS => at284 w (((SX_ch hS255 0 rfl (by kernel_rfl) l w hu hS).sub h12).anti (Le.refl _))) 0 (by kernel_rfl) (by kernel_rfl) (v := .agg #[vi64 x281.f0, vu64 x281.f1, vi64 x281.f2.f0, vi64 x281.f2.f1, vu64 x281.f2.f2, vi64 x281.f2.f3]) (by kernel_rfl) fun a hs hS => ?_
        refine d_ne (fuel := 0) kS255 hs hS 8 rfl (by kernel_rfl) (c1 := [vi64 x277.f0, vu64 x277.f1, vi64 x277.f2.f0, vi64 x277.f2.f1, vu64 x277.f2.f2, vi64 x277.f2.f3]) (c2 := [vi64 x281.f0, vu64 x281.f1, vi64 x281.f2.f0, vi64 x281.f2.f1, vu64 x281.f2.f2, vi64 x281.f2.f3]) ((x277.f0 == x281.f0) && ((x277.f1 == x281.f1) && (((x277.f2.f0 == x281.f2.f0) && ((x277.f2.f1 == x281.f2.f1) && ((x277.f2.f2 == x281.f2.f2) && ((x277.f2.f3 == x281.f2.f3) && true)))) && true))) (by kernel_rfl) (by kernel_rfl) (by kernel_rfl) (by kernel_rfl) (by kernel_rfl) fun a hs hS => ?_
        refine d_done (by kernel_rfl) ?_
        obtain rfl := someE hx275
        exact (hJ276 _ _).2 ⟨(!((x277.f0 == x281.f0) && ((x277.f1 == x281.f1) && (((x277.f2.f0 == x281.f2.f0) && ((x277.f2.f1 == x281.f2.f1) && ((x277.f2.f2 == x281.f2.f2) && ((x277.f2.f3 == x281.f2.f3) && true)))) && true)))), hx251, hs.cast [0, 1, 12, 13, 24] (by kernel_rfl), hw.pick [0] (by kernel_rfl)⟩
      intro a w hh
      obtain ⟨x272, hx251, hs, hw⟩ := (hJ276 _ _).1 hh
      rcases ifbE hx251 with ⟨h273, hx251⟩ | ⟨h273, hx251⟩
      · refine c_cond1 hs (by kernel_rfl) (t := x272) (by kernel_rfl) h273 ?_
        refine c_seq ?_
        refine c_region ?_
        refine pures hs 1 [4] [(4, .bool false)] (by kernel_rfl) fun a hs => ?_
        refine s_end ?_
        refine c_ret ?_
        obtain rfl := someE hx251
        obtain rfl := someE hk
        refine hQ _ _ (f_ret1 hs rfl (v := .bool false) (by kernel_rfl) ⟨rfl, hw.pick [0] (by kernel_rfl)⟩)
      refine c_cond0 hs (by kernel_rfl) (t := x272) (by kernel_rfl) h273 ?_
      refine c_skip ?_
      refine c_region ?_
      refine pures hs 2 [0, 1, 12, 13] [(0, .slice p2 x1.length c3), (1, .slice p8 x7.length c9), (12, vi64 (x1.length : Int)), (13, vi64 (IntKind.i64.wrap (x217 + 1)))] (by kernel_rfl) fun a hs => ?_
      refine s_end ?_
      exact (hI253 _ _ _).2 ⟨(IntKind.i64.wrap (x217 + 1)), hx251, hs.cast [0, 1, 12, 13] (by kernel_rfl), hw.pick [0] (by kernel_rfl)⟩
    refine c_cond0 hs (by kernel_rfl) (t := (decide (x217 < (x1.length : Int)))) (by kernel_rfl) h254 ?_
    refine c_exit ?_
    obtain rfl := someE hx251
    exact (hJ252 _ _).2 ⟨hk, hs.cast [] (by kernel_rfl), hw.pick [0] (by kernel_rfl)⟩
  intro a w hh
  obtain ⟨hk, hs, hw⟩ := (hJ252 _ _).1 hh
  refine c_seq ?_
  refine c_region ?_
  refine pures hs 1 [4] [(4, .bool true)] (by kernel_rfl) fun a hs => ?_
  refine s_end ?_
  refine c_ret ?_
  obtain rfl := someE hk
  refine hQ _ _ (f_ret1 hs rfl (v := .bool true) (by kernel_rfl) ⟨rfl, hw.pick [0] (by kernel_rfl)⟩)
def bytes_Equal (x1 : List Int) (x7 : List Int) : Option Bool :=
  some (beqS x1 x7)
theorem bytes_Equal_s {x1 : List Int} {x7 : List Int} {p2 : Option Addr} {c3 : Nat} {d5 : Ch} {p8 : Option Addr} {c9 : Nat} {d11 : Ch} {r : Bool} (hk : bytes_Equal x1 x7 = some r) {g w : World} {F : Ch} {ih : IH} (h4 : RSl e5 ih d5 p2 c3 x1) (h6 : ∀ q ∈ d5, q ∈ F) (h10 : RSl e5 ih d11 p8 c9 x7) (h12 : ∀ q ∈ d11, q ∈ F) (hw : St g w [F] ih) :
    CallsR Tryz.prog 94 #[.slice p2 x1.length c3, .slice p8 x7.length c9] w fun v w' => v = .bool r ∧ St g w' [F] ih := by
  refine f_in (vs := [.slice p2 x1.length c3, .slice p8 x7.length c9]) Tryz.func94 rfl 10 rfl (by kernel_rfl) [(0, .slice p2 x1.length c3), (1, .slice p8 x7.length c9)] (by kernel_rfl) fun a Qf hQ hQn hs => ?_
  refine c_seq ?_
  refine c_region ?_
  refine pures hs 1 [0, 1] [(0, .slice p2 x1.length c3), (1, .slice p8 x7.length c9)] (by kernel_rfl) fun a hs => ?_
  refine s_end ?_
  refine c_seq ?_
  refine c_region ?_
  refine pures hs 1 [1, 5] [(1, .slice p8 x7.length c9), (5, .slice p2 x1.length c3)] (by kernel_rfl) fun a hs => ?_
  refine s_convS hs (t := 5) h4 (((hw.vw 0 rfl).sub h6).anti (Le.refl _)) (by kernel_rfl) (by kernel_rfl) 5 (by kernel_rfl) (by kernel_rfl) (by kernel_rfl) fun a hs => ?_
  refine pures hs 1 [6, 7] [(6, .string (strOf x1)), (7, .slice p8 x7.length c9)] (by kernel_rfl) fun a hs => ?_
  refine s_convS hs (t := 5) h10 (((hw.vw 0 rfl).sub h12).anti (Le.refl _)) (by kernel_rfl) (by kernel_rfl) 5 (by kernel_rfl) (by kernel_rfl) (by kernel_rfl) fun a hs => ?_
  refine s_eqS hs (s1 := (strOf x1)) (s2 := (strOf x7)) (beqS x1 x7) (by kernel_rfl) (by kernel_rfl) (by kernel_rfl) (by kernel_rfl) (by kernel_rfl) fun a hs => ?_
  refine pures hs 1 [4] [(4, .bool (beqS x1 x7))] (by kernel_rfl) fun a hs => ?_
  refine s_end ?_
  refine c_ret ?_
  obtain rfl := someE hk
  refine hQ _ _ (f_ret1 hs rfl (v := .bool (beqS x1 x7)) (by kernel_rfl) ⟨rfl, hw.pick [0] (by kernel_rfl)⟩)
def letter_SameUpdate_r2 (x72 : Bool) : Option Bool :=
  some x72
def letter_SameUpdate (x1 : M96) (x5 : M96) : Option Bool :=
  (if (x1.f0 == x5.f0) = true then (
      if (x1.f1 == x5.f1) = true then (
        if (x1.f2 == x5.f2) = true then (
          if (x1.f3 == x5.f3) = true then (
            if (x1.f4 == x5.f4) = true then (
              if (x1.f5 == x5.f5) = true then (
                (bytes_Equal x1.f6 x5.f6).bind fun y82 =>
                some y82)
              else some false)
            else some false)
          else some false)
        else some false)
      else some false)
    else some false : Option Bool).bind fun s84 => letter_SameUpdate_r2 s84
theorem letter_SameUpdate_s {x1 : M96} {x5 : M96} {p2 : Option Addr} {c3 : Nat} {p6 : Option Addr} {c7 : Nat} {r : Bool} (hk : letter_SameUpdate x1 x5 = some r) {g w : World} {F : Ch} {ih : IH} (h4 : RSl e5 ih [] p2 c3 x1.f6) (h8 : RSl e5 ih [] p6 c7 x5.f6) (hw : St g w [F] ih) :
    CallsR Tryz.prog 93 #[.agg #[vu64 x1.f0, vi64 x1.f1, vu64 x1.f2, vi64 x1.f3, vu32 x1.f4, vu64 x1.f5, .slice p2 x1.f6.length c3], .agg #[vu64 x5.f0, vi64 x5.f1, vu64 x5.f2, vi64 x5.f3, vu32 x5.f4, vu64 x5.f5, .slice p6 x5.f6.length c7]] w fun v w' => v = .bool r ∧ St g w' [F] ih := by
  refine f_in (vs := [.agg #[vu64 x1.f0, vi64 x1.f1, vu64 x1.f2, vi64 x1.f3, vu32 x1.f4, vu64 x1.f5, .slice p2 x1.f6.length c3], .agg #[vu64 x5.f0, vi64 x5.f1, vu64 x5.f2, vi64 x5.f3, vu32 x5.f4, vu64 x5.f5, .slice p6 x5.f6.length c7]]) Tryz.func93 rfl 52 rfl (by kernel_rfl) [(0, .agg #[vu64 x1.f0, vi64 x1.f1, vu64 x1.f2, vi64 x1.f3, vu32 x1.f4, vu64 x1.f5, .slice p2 x1.f6.length c3]), (1, .agg #[vu64 x5.f0, vi64 x5.f1, vu64 x5.f2, vi64 x5.f3, vu32 x5.f4, vu64 x5.f5, .slice p6 x5.f6.length c7])] (by kernel_rfl) fun a Qf hQ hQn hs => ?_
  refine c_seq ?_
  refine c_region ?_
  refine s_new hs hw [vu64 x1.f0, vi64 x1.f1, vu64 x1.f2, vi64 x1.f3, vu32 x1.f4, vu64 x1.f5, .slice p2 x1.f6.length c3] 96 (fun b => (pt b 0)) (by kernel_rfl) (fun _ => by kernel_rfl) fun a w b52 hs hw => ?_
  refine s_new hs hw [vu64 x5.f0, vi64 x5.f1, vu64 x5.f2, vi64 x5.f3, vu32 x5.f4, vu64 x5.f5, .slice p6 x5.f6.length c7] 96 (fun b => (pt b 0)) (by kernel_rfl) (fun _ => by kernel_rfl) fun a w b54 hs hw => ?_
  refine pures hs 1 [2, 3] [(2, (pt b52 0)), (3, (pt b54 0))] (by kernel_rfl) fun a hs => ?_
  refine s_end ?_
  refine c_seq ?_
  obtain ⟨y73, hx74, hk⟩ := bindE hk
  obtain ⟨J75, hJ75⟩ : ∃ J : Act → World → Prop, ∀ a w, J a w ↔ (∃ (x72 : Bool), letter_SameUpdate_r2 x72 = some r ∧ Sees a 52 [(4, .bool x72)] ∧ St g w [F] ih) := ⟨_, fun _ _ => Iff.rfl⟩
  refine c_regJ J75 ?_ ?_
  · refine pures hs 1 [2, 3, 5] [(2, (pt b52 0)), (3, (pt b54 0)), (5, (pt b52 0))] (by kernel_rfl) fun a hs => ?_
    refine s_load hs (hw.at_ 1 rfl) 0 (by kernel_rfl) (by kernel_rfl) (v := vu64 x1.f0) (by kernel_rfl) fun a hs => ?_
    refine pures hs 1 [2, 3, 6, 7] [(2, (pt b52 0)), (3, (pt b54 0)), (6, vu64 x1.f0), (7, (pt b54 0))] (by kernel_rfl) fun a hs => ?_
    refine s_load hs (hw.at_ 0 rfl) 0 (by kernel_rfl) (by kernel_rfl) (v := vu64 x5.f0) (by kernel_rfl) fun a hs => ?_
    refine pures hs 2 [2, 3, 10] [(2, (pt b52 0)), (3, (pt b54 0)), (10, .bool (x1.f0 == x5.f0))] (by kernel_rfl) fun a hs => ?_
    rcases ifbE hx74 with ⟨h76, hx74⟩ | ⟨h76, hx74⟩
    · replace hs := hs.altB 10 true (by kernel_rfl) h76
      refine pures hs 1 [2, 3, 10, 11] [(2, (pt b52 0)), (3, (pt b54 0)), (10, .bool true), (11, (pt b52 1))] (by kernel_rfl) fun a hs => ?_
      refine s_load hs (hw.at_ 1 rfl) 1 (by kernel_rfl) (by kernel_rfl) (v := vi64 x1.f1) (by kernel_rfl) fun a hs => ?_
      refine pures hs 1 [2, 3, 10, 12, 13] [(2, (pt b52 0)), (3, (pt b54 0)), (10, .bool true), (12, vi64 x1.f1), (13, (pt b54 1))] (by kernel_rfl) fun a hs => ?_
      refine s_load hs (hw.at_ 0 rfl) 1 (by kernel_rfl) (by kernel_rfl) (v := vi64 x5.f1) (by kernel_rfl) fun a hs => ?_
      refine pures hs 3 [2, 3, 17] [(2, (pt b52 0)), (3, (pt b54 0)), (17, .bool (x1.f1 == x5.f1))] (by kernel_rfl) fun a hs => ?_
      rcases ifbE hx74 with ⟨h77, hx74⟩ | ⟨h77, hx74⟩
      · replace hs := hs.altB 17 true (by kernel_rfl) h77
        refine pures hs 1 [2, 3, 17, 18] [(2, (pt b52 0)), (3, (pt b54 0)), (17, .bool true), (18, (pt b52 2))] (by kernel_rfl) fun a hs => ?_
        refine s_load hs (hw.at_ 1 rfl) 2 (by kernel_rfl) (by kernel_rfl) (v := vu64 x1.f2) (by kernel_rfl) fun a hs => ?_
        refine pures hs 1 [2, 3, 17, 19, 20] [(2, (pt b52 0)), (3, (pt b54 0)), (17, .bool true), (19, vu64 x1.f2), (20, (pt b54 2))] (by kernel_rfl) fun a hs => ?_
        refine s_load hs (hw.at_ 0 rfl) 2 (by kernel_rfl) (by kernel_rfl) (v := vu64 x5.f2) (by kernel_rfl) fun a hs => ?_
        refine pures hs 3 [2, 3, 24] [(2, (pt b52 0)), (3, (pt b54 0)), (24, .bool (x1.f2 == x5.f2))] (by kernel_rfl) fun a hs => ?_
        rcases ifbE hx74 with ⟨h78, hx74⟩ | ⟨h78, hx74⟩
        · replace hs := hs.altB 24 true (by kernel_rfl) h78
          refine pures hs 1 [2, 3, 24, 25] [(2, (pt b52 0)), (3, (pt b54 0)), (24, .bool true), (25, (pt b52 3))] (by kernel_rfl) fun a hs => ?_
          refine s_load hs (hw.at_ 1 rfl) 3 (by kernel_rfl) (by kernel_rfl) (v := vi64 x1.f3) (by kernel_rfl) fun a hs => ?_
          refine pures hs 1 [2, 3, 24, 26, 27] [(2, (pt b52 0)), (3, (pt b54 0)), (24, .bool true), (26, vi64 x1.f3), (27, (pt b54 3))] (by kernel_rfl) fun a hs => ?_
          refine s_load hs (hw.at_ 0 rfl) 3 (by kernel_rfl) (by kernel_rfl) (v := vi64 x5.f3) (by kernel_rfl) fun a hs => ?_
          refine pures hs 3 [2, 3, 31] [(2, (pt b52 0)), (3, (pt b54 0)), (31, .bool (x1.f3 == x5.f3))] (by kernel_rfl) fun a hs => ?_
          rcases ifbE hx74 with ⟨h79, hx74⟩ | ⟨h79, hx74⟩
          · replace hs := hs.altB 31 true (by kernel_rfl) h79
            refine pures hs 1 [2, 3, 31, 32] [(2, (pt b52 0)), (3, (pt b54 0)), (31, .bool true), (32, (pt b52 4))] (by kernel_rfl) fun a hs => ?_
            refine s_load hs (hw.at_ 1 rfl) 4 (by kernel_rfl) (by kernel_rfl) (v := vu32 x1.f4) (by kernel_rfl) fun a hs => ?_
            refine pures hs 1 [2, 3, 31, 33, 34] [(2, (pt b52 0)), (3, (pt b54 0)), (31, .bool true), (33, vu32 x1.f4), (34, (pt b54 4))] (by kernel_rfl) fun a hs => ?_
            refine s_load hs (hw.at_ 0 rfl) 4 (by kernel_rfl) (by kernel_rfl) (v := vu32 x5.f4) (by kernel_rfl) fun a hs => ?_
            refine pures hs 3 [2, 3, 38] [(2, (pt b52 0)), (3, (pt b54 0)), (38, .bool (x1.f4 == x5.f4))] (by kernel_rfl) fun a hs => ?_
            rcases ifbE hx74 with ⟨h80, hx74⟩ | ⟨h80, hx74⟩
            · replace hs := hs.altB 38 true (by kernel_rfl) h80
              refine pures hs 1 [2, 3, 38, 39] [(2, (pt b52 0)), (3, (pt b54 0)), (38, .bool true), (39, (pt b52 5))] (by kernel_rfl) fun a hs => ?_
              refine s_load hs (hw.at_ 1 rfl) 5 (by kernel_rfl) (by kernel_rfl) (v := vu64 x1.f5) (by kernel_rfl) fun a hs => ?_
              refine pures hs 1 [2, 3, 38, 40, 41] [(2, (pt b52 0)), (3, (pt b54 0)), (38, .bool true), (40, vu64 x1.f5), (41, (pt b54 5))] (by kernel_rfl) fun a hs => ?_
              refine s_load hs (hw.at_ 0 rfl) 5 (by kernel_rfl) (by kernel_rfl) (v := vu64 x5.f5) (by kernel_rfl) fun a hs => ?_
              refine pures hs 3 [2, 3, 45] [(2, (pt b52 0)), (3, (pt b54 0)), (45, .bool (x1.f5 == x5.f5))] (by kernel_rfl) fun a hs => ?_
              rcases ifbE hx74 with ⟨h81, hx74⟩ | ⟨h81, hx74⟩
              · replace hs := hs.altB 45 true (by kernel_rfl) h81
                refine pures hs 1 [3, 45, 46] [(3, (pt b54 0)), (45, .bool true), (46, (pt b52 6))] (by kernel_rfl) fun a hs => ?_
                refine s_load hs (hw.at_ 1 rfl) 6 (by kernel_rfl) (by kernel_rfl) (v := .slice p2 x1.f6.length c3) (by kernel_rfl) fun a hs => ?_
                refine pures hs 1 [45, 47, 48] [(45, .bool true), (47, .slice p2 x1.f6.length c3), (48, (pt b54 6))] (by kernel_rfl) fun a hs => ?_
                refine s_load hs (hw.at_ 0 rfl) 6 (by kernel_rfl) (by kernel_rfl) (v := .slice p6 x5.f6.length c7) (by kernel_rfl) fun a hs => ?_
                obtain ⟨y82, h83, hx74⟩ := bindE hx74
                refine s_call hs (by kernel_rfl) (by kernel_rfl) (bytes_Equal_s h83 h4 (nilSub _) h8 (nilSub _) ((hw.pick [2] (by kernel_rfl)).pack 0)) fun a w v hv hs => ?_
                obtain ⟨rfl, hw⟩ := hv
                replace hw := hw.unpack 0 rfl
                refine pures hs 2 [4] [(4, .bool y82)] (by kernel_rfl) fun a hs => ?_
                refine s_end ?_
                obtain rfl := someE hx74
                exact (hJ75 _ _).2 ⟨y82, hk, hs.cast [4] (by kernel_rfl), hw.pick [0] (by kernel_rfl)⟩
              replace hs := hs.altB 45 false (by kernel_rfl) h81
              refine pures hs 7 [4] [(4, .bool false)] (by kernel_rfl) fun a hs => ?_
              refine s_end ?_
              obtain rfl := someE hx74
              exact (hJ75 _ _).2 ⟨false, hk, hs.cast [4] (by kernel_rfl), hw.pick [2] (by kernel_rfl)⟩
            replace hs := hs.altB 38 false (by kernel_rfl) h80
            refine pures hs 14 [4] [(4, .bool false)] (by kernel_rfl) fun a hs => ?_
            refine s_end ?_
            obtain rfl := someE hx74
            exact (hJ75 _ _).2 ⟨false, hk, hs.cast [4] (by kernel_rfl), hw.pick [2] (by kernel_rfl)⟩
          replace hs := hs.altB 31 false (by kernel_rfl) h79
          refine pures hs 21 [4] [(4, .bool false)] (by kernel_rfl) fun a hs => ?_
          refine s_end ?_
          obtain rfl := someE hx74
          exact (hJ75 _ _).2 ⟨false, hk, hs.cast [4] (by kernel_rfl), hw.pick [2] (by kernel_rfl)⟩
        replace hs := hs.altB 24 false (by kernel_rfl) h78
        refine pures hs 28 [4] [(4, .bool false)] (by kernel_rfl) fun a hs => ?_
        refine s_end ?_
        obtain rfl := someE hx74
        exact (hJ75 _ _).2 ⟨false, hk, hs.cast [4] (by kernel_rfl), hw.pick [2] (by kernel_rfl)⟩
      replace hs := hs.altB 17 false (by kernel_rfl) h77
      refine pures hs 35 [4] [(4, .bool false)] (by kernel_rfl) fun a hs => ?_
      refine s_end ?_
      obtain rfl := someE hx74
      exact (hJ75 _ _).2 ⟨false, hk, hs.cast [4] (by kernel_rfl), hw.pick [2] (by kernel_rfl)⟩
    replace hs := hs.altB 10 false (by kernel_rfl) h76
    refine pures hs 42 [4] [(4, .bool false)] (by kernel_rfl) fun a hs => ?_
    refine s_end ?_
    obtain rfl := someE hx74
    exact (hJ75 _ _).2 ⟨false, hk, hs.cast [4] (by kernel_rfl), hw.pick [2] (by kernel_rfl)⟩
  intro a w hh
  obtain ⟨x72, hk, hs, hw⟩ := (hJ75 _ _).1 hh
  refine c_ret ?_
  obtain rfl := someE hk
  refine hQ _ _ (f_ret1 hs rfl (v := .bool x72) (by kernel_rfl) ⟨rfl, hw.pick [0] (by kernel_rfl)⟩)
def slices_EqualFunc_api_Update_api_Update_api_Update_api_Update_r3 : Option Bool :=
  some true
def slices_EqualFunc_api_Update_api_Update_api_Update_api_Update_l4 (x1 : List M96) (x7 : List M96) : Nat → Int → Option (Sum Bool Unit)
  | 0, _ => none
  | j + 1, x277 =>
    if (decide (x277 < (x1.length : Int))) = true then (
      (ix x1 x277).bind fun x334 =>
      (ix x7 x277).bind fun x352 =>
      (letter_SameUpdate x334 x352).bind fun y363 =>
      if (!y363) = true then some (.inl false)
      else slices_EqualFunc_api_Update_api_Update_api_Update_api_Update_l4 x1 x7 j (IntKind.i64.wrap (x277 + 1)))
    else some (.inr ())
def slices_EqualFunc_api_Update_api_Update_api_Update_api_Update (k : Nat) (x1 : List M96) (x7 : List M96) : Option Bool :=
  if ((x1.length : Int) != (x7.length : Int)) = true then some false
  else (slices_EqualFunc_api_Update_api_Update_api_Update_api_Update_l4 x1 x7 k 0 : Option (Sum Bool Unit)).bind fun
    | .inl z => some z
    | .inr _ => slices_EqualFunc_api_Update_api_Update_api_Update_api_Update_r3
theorem slices_EqualFunc_api_Update_api_Update_api_Update_api_Update_s {k : Nat} {x1 : List M96} {x7 : List M96} {p2 : Option Addr} {c3 : Nat} {d5 : Ch} {p8 : Option Addr} {c9 : Nat} {d11 : Ch} {r : Bool} (hk : slices_EqualFunc_api_Update_api_Update_api_Update_api_Update k x1 x7 = some r) {g w : World} {F : Ch} {ih : IH} (h4 : RSl e96 ih d5 p2 c3 x1) (h6 : ∀ q ∈ d5, q ∈ F) (h10 : RSl e96 ih d11 p8 c9 x7) (h12 : ∀ q ∈ d11, q ∈ F) (hw : St g w [F] ih) :
    CallsR Tryz.prog 92 #[.slice p2 x1.length c3, .slice p8 x7.length c9, .func (.func 93) #[] #[]] w fun v w' => v = .bool r ∧ St g w' [F] ih := by
  refine f_in (vs := [.slice p2 x1.length c3, .slice p8 x7.length c9, .func (.func 93) #[] #[]]) Tryz.func92 rfl 32 rfl (by kernel_rfl) [(0, .slice p2 x1.length c3), (1, .slice p8 x7.length c9), (2, .func (.func 93) #[] #[])] (by kernel_rfl) fun a Qf hQ hQn hs => ?_
  refine c_seq ?_
  refine c_region ?_
  refine pures hs 1 [0, 1, 2] [(0, .slice p2 x1.length c3), (1, .slice p8 x7.length c9), (2, .func (.func 93) #[] #[])] (by kernel_rfl) fun a hs => ?_
  refine s_end ?_
  refine c_seq ?_
  refine c_seq ?_
  refine c_region ?_
  refine pures hs 5 [0, 1, 2, 14] [(0, .slice p2 x1.length c3), (1, .slice p8 x7.length c9), (2, .func (.func 93) #[] #[]), (14, .bool ((x1.length : Int) != (x7.length : Int)))] (by kernel_rfl) fun a hs => ?_
  refine s_end ?_
  rcases ifbE hk with ⟨h191, hk⟩ | ⟨h191, hk⟩
  · refine c_cond1 hs (by kernel_rfl) (t := ((x1.length : Int) != (x7.length : Int))) (by kernel_rfl) h191 ?_
    refine c_seq ?_
    refine c_region ?_
    refine pures hs 1 [6] [(6, .bool false)] (by kernel_rfl) fun a hs => ?_
    refine s_end ?_
    refine c_ret ?_
    obtain rfl := someE hk
    refine hQ _ _ (f_ret1 hs rfl (v := .bool false) (by kernel_rfl) ⟨rfl, hw.pick [0] (by kernel_rfl)⟩)
  refine c_cond0 hs (by kernel_rfl) (t := ((x1.length : Int) != (x7.length : Int))) (by kernel_rfl) h191 ?_
  refine c_skip ?_
  refine c_seq ?_
  refine c_seq ?_
  refine c_region ?_
  refine pures hs 3 [1, 2, 15, 16, 17] [(1, .slice p8 x7.length c9), (2, .func (.func 93) #[] #[]), (15, .slice p2 x1.length c3), (16, vi64 (x1.length : Int)), (17, vi64 0)] (by kernel_rfl) fun a hs => ?_
  refine s_end ?_
  refine c_block ?_
  obtain ⟨y320, hx321, hk⟩ := bindE hk
  obtain ⟨J322, hJ322⟩ : ∃ J : Act → World → Prop, ∀ a w, J a w ↔ (slices_EqualFunc_api_Update_api_Update_api_Update_api_Update_r3 = some r ∧ Sees a 32 [] ∧ St g w [F] ih) := ⟨_, fun _ _ => Iff.rfl⟩
  obtain ⟨I323, hI323⟩ : ∃ J : Nat → Act → World → Prop, ∀ j a w, J j a w ↔ (∃ (x277 : Int), slices_EqualFunc_api_Update_api_Update_api_Update_api_Update_l4 x1 x7 j x277 = some y320 ∧ Sees a 32 [(1, .slice p8 x7.length c9), (2, .func (.func 93) #[] #[]), (15, .slice p2 x1.length c3), (16, vi64 (x1.length : Int)), (17, vi64 x277)] ∧ St g w [F] ih) := ⟨_, fun _ _ _ => Iff.rfl⟩
  refine c_exitJ 0 J322 ?_ ?_
  · refine c_loop I323 k ((hI323 _ _ _).2 ⟨0, hx321, hs.cast [1, 2, 15, 16, 17] (by kernel_rfl), hw.pick [0] (by kernel_rfl)⟩) (fun a w h0 => ?_) fun j a w hh => ?_
    · obtain ⟨_, h, _⟩ := (hI323 _ _ _).1 h0
      cases h
    obtain ⟨x277, hx321, hs, hw⟩ := (hI323 _ _ _).1 hh
    refine c_seq ?_
    refine c_region ?_
    refine pures hs 1 [1, 2, 15, 16, 17, 18] [(1, .slice p8 x7.length c9), (2, .func (.func 93) #[] #[]), (15, .slice p2 x1.length c3), (16, vi64 (x1.length : Int)), (17, vi64 x277), (18, .bool (decide (x277 < (x1.length : Int))))] (by kernel_rfl) fun a hs => ?_
    refine s_end ?_
    refine c_seq ?_
    rcases ifbE hx321 with ⟨h324, hx321⟩ | ⟨h324, hx321⟩
    · refine c_cond1 hs (by kernel_rfl) (t := (decide (x277 < (x1.length : Int)))) (by kernel_rfl) h324 ?_
      refine c_skip ?_
      refine c_seq ?_
      refine c_block ?_
      refine c_seq ?_
      refine c_region ?_
      refine pures hs 1 [1, 2, 15, 16, 17, 19] [(1, .slice p8 x7.length c9), (2, .func (.func 93) #[] #[]), (15, .slice p2 x1.length c3), (16, vi64 (x1.length : Int)), (17, vi64 x277), (19, vi64 x277)] (by kernel_rfl) fun a hs => ?_
      obtain ⟨x334, h335, hx321⟩ := bindE hx321
      refine s_index hs h4 (by kernel_rfl) (by kernel_rfl) (k := .i64) (by kernel_rfl) 96 (by kernel_rfl) (by kernel_rfl) h335 fun a r336 cs henc at337 hs => ?_
      obtain ⟨p338, c339, rfl, h340⟩ := henc
      refine s_load hs (at337 _ (((hw.vw 0 rfl).sub h6).anti (Le.refl _))) 0 (by kernel_rfl) (by kernel_rfl) (v := .agg #[vu64 x334.f0, vi64 x334.f1, vu64 x334.f2, vi64 x334.f3, vu32 x334.f4, vu64 x334.f5, .slice p338 x334.f6.length c339]) (by kernel_rfl) fun a hs => ?_
      refine s_new hs hw [vu64 0, vi64 0, vu64 0, vi64 0, vu32 0, vu64 0, .slice none 0 0] 96 (fun b => (pt b 0)) (by kernel_rfl) (fun _ => by kernel_rfl) fun a w b341 hs hw => ?_
      refine pures hs 1 [1, 2, 15, 16, 17, 21, 8, 7] [(1, .slice p8 x7.length c9), (2, .func (.func 93) #[] #[]), (15, .slice p2 x1.length c3), (16, vi64 (x1.length : Int)), (17, vi64 x277), (21, .agg #[vu64 x334.f0, vi64 x334.f1, vu64 x334.f2, vi64 x334.f3, vu32 x334.f4, vu64 x334.f5, .slice p338 x334.f6.length c339]), (8, (pt b341 0)), (7, vi64 x277)] (by kernel_rfl) fun a hs => ?_
      refine s_store hs hw 0 rfl 0 (by kernel_rfl) (by kernel_rfl) (v := .agg #[vu64 x334.f0, vi64 x334.f1, vu64 x334.f2, vi64 x334.f3, vu32 x334.f4, vu64 x334.f5, .slice p338 x334.f6.length c339]) (by kernel_rfl) (by kernel_rfl) (by kernel_rfl) (by kernel_rfl) fun a w hs hw => ?_
      refine s_end ?_
      refine c_seq ?_
      refine c_region ?_
      refine pures hs 2 [1, 2, 15, 16, 17, 8, 22, 23] [(1, .slice p8 x7.length c9), (2, .func (.func 93) #[] #[]), (15, .slice p2 x1.length c3), (16, vi64 (x1.length : Int)), (17, vi64 x277), (8, (pt b341 0)), (22, .slice p8 x7.length c9), (23, vi64 x277)] (by kernel_rfl) fun a hs => ?_
      obtain ⟨x352, h353, hx321⟩ := bindE hx321
      refine s_index hs h10 (by kernel_rfl) (by kernel_rfl) (k := .i64) (by kernel_rfl) 96 (by kernel_rfl) (by kernel_rfl) h353 fun a r354 cs henc at355 hs => ?_
      obtain ⟨p356, c357, rfl, h358⟩ := henc
      refine s_load hs (at355 _ (((hw.vw 1 rfl).sub h12).anti (Le.refl _))) 0 (by kernel_rfl) (by kernel_rfl) (v := .agg #[vu64 x352.f0, vi64 x352.f1, vu64 x352.f2, vi64 x352.f3, vu32 x352.f4, vu64 x352.f5, .slice p356 x352.f6.length c357]) (by kernel_rfl) fun a hs => ?_
      refine s_new hs hw [vu64 0, vi64 0, vu64 0, vi64 0, vu32 0, vu64 0, .slice none 0 0] 96 (fun b => (pt b 0)) (by kernel_rfl) (fun _ => by kernel_rfl) fun a w b359 hs hw => ?_
      refine s_store hs hw 0 rfl 0 (by kernel_rfl) (by kernel_rfl) (v := .agg #[vu64 x352.f0, vi64 x352.f1, vu64 x352.f2, vi64 x352.f3, vu32 x352.f4, vu64 x352.f5, .slice p356 x352.f6.length c357]) (by kernel_rfl) (by kernel_rfl) (by kernel_rfl) (by kernel_rfl) fun a w hs hw => ?_
      refine s_end ?_
      refine c_seq ?_
      refine c_region ?_
      refine pures hs 1 [1, 2, 15, 16, 17, 8, 9, 26] [(1, .slice p8 x7.length c9), (2, .func (.func 93) #[] #[]), (15, .slice p2 x1.length c3), (16, vi64 (x1.length : Int)), (17, vi64 x277), (8, (pt b341 0)), (9, (pt b359 0)), (26, .func (.func 93) #[] #[])] (by kernel_rfl) fun a hs => ?_
      refine s_load hs (hw.at_ 1 rfl) 0 (by kernel_rfl) (by kernel_rfl) (v := .agg #[vu64 x334.f0, vi64 x334.f1, vu64 x334.f2, vi64 x334.f3, vu32 x334.f4, vu64 x334.f5, .slice p338 x334.f6.length c339]) (by kernel_rfl) fun a hs => ?_
      refine s_load hs (hw.at_ 0 rfl) 0 (by kernel_rfl) (by kernel_rfl) (v := .agg #[vu64 x352.f0, vi64 x352.f1, vu64 x352.f2, vi64 x352.f3, vu32 x352.f4, vu64 x352.f5, .slice p356 x352.f6.length c357]) (by kernel_rfl) fun a hs => ?_
      obtain ⟨y363, h364, hx321⟩ := bindE hx321
      refine s_call hs (by kernel_rfl) (by kernel_rfl) (letter_SameUpdate_s h364 h340 h358 ((hw.pick [2] (by kernel_rfl)).pack 0)) fun a w v hv hs => ?_
      obtain ⟨rfl, hw⟩ := hv
      replace hw := hw.unpack 0 rfl
      refine pures hs 1 [1, 2, 15, 16, 17, 30] [(1, .slice p8 x7.length c9), (2, .func (.func 93) #[] #[]), (15, .slice p2 x1.length c3), (16, vi64 (x1.length : Int)), (17, vi64 x277), (30, .bool (!y363))] (by kernel_rfl) fun a hs => ?_
      refine s_end ?_
      rcases ifbE hx321 with ⟨h365, hx321⟩ | ⟨h365, hx321⟩
      · refine c_cond1 hs (by kernel_rfl) (t := (!y363)) (by kernel_rfl) h365 ?_
        refine c_seq ?_
        refine c_region ?_
        refine pures hs 1 [6] [(6, .bool false)] (by kernel_rfl) fun a hs => ?_
        refine s_end ?_
        refine c_ret ?_
        obtain rfl := someE hx321
        obtain rfl := someE hk
        refine hQ _ _ (f_ret1 hs rfl (v := .bool false) (by kernel_rfl) ⟨rfl, hw.pick [0] (by kernel_rfl)⟩)
      refine c_cond0 hs (by kernel_rfl) (t := (!y363)) (by kernel_rfl) h365 ?_
      refine c_skip ?_
      refine c_region ?_
      refine pures hs 2 [1, 2, 15, 16, 17] [(1, .slice p8 x7.length c9), (2, .func (.func 93) #[] #[]), (15, .slice p2 x1.length c3), (16, vi64 (x1.length : Int)), (17, vi64 (IntKind.i64.wrap (x277 + 1)))] (by kernel_rfl) fun a hs => ?_
      refine s_end ?_
      exact (hI323 _ _ _).2 ⟨(IntKind.i64.wrap (x277 + 1)), hx321, hs.cast [1, 2, 15, 16, 17] (by kernel_rfl), hw.pick [0] (by kernel_rfl)⟩
    refine c_cond0 hs (by kernel_rfl) (t := (decide (x277 < (x1.length : Int)))) (by kernel_rfl) h324 ?_
    refine c_exit ?_
    obtain rfl := someE hx321
    exact (hJ322 _ _).2 ⟨hk, hs.cast [] (by kernel_rfl), hw.pick [0] (by kernel_rfl)⟩
  intro a w hh
  obtain ⟨hk, hs, hw⟩ := (hJ322 _ _).1 hh
  refine c_seq ?_
  refine c_region ?_
  refine pures hs 1 [6] [(6, .bool true)] (by kernel_rfl) fun a hs => ?_
  refine s_end ?_
  refine c_ret ?_
  obtain rfl := someE hk
  refine hQ _ _ (f_ret1 hs rfl (v := .bool true) (by kernel_rfl) ⟨rfl, hw.pick [0] (by kernel_rfl)⟩)
def letter_Same_r3 (x191 : Bool) : Option Bool :=
  some x191
def letter_Same_r4 (k : Nat) (x1 : M48) (x14 : M48) (x173 : Bool) : Option Bool :=
  if x173 = true then some false
  else ((slices_Equal_api_Vote_api_Vote k x1.f15 x14.f15).bind fun y195 =>
    if y195 = true then (
      (slices_EqualFunc_api_Update_api_Update_api_Update_api_Update k x1.f16 x14.f16).bind fun y198 =>
      if y198 = true then (
        (bytes_Equal x1.f17 x14.f17).bind fun y201 =>
        some y201)
      else some false)
    else some false : Option Bool).bind fun s203 => letter_Same_r3 s203
def letter_Same (k : Nat) (x1 : M48) (x14 : M48) : Option Bool :=
  if ((x1.f0 != x14.f0) || ((x1.f1 != x14.f1) || ((x1.f2 != x14.f2) || ((x1.f3 != x14.f3) || ((x1.f10 != x14.f10) || ((x1.f11 != x14.f11) || (x1.f12 != x14.f12))))))) = true then some false
  else if ((x1.f4 != x14.f4) || ((x1.f5 != x14.f5) || ((x1.f6 != x14.f6) || ((x1.f7 != x14.f7) || ((x1.f8 != x14.f8) || (x1.f9 != x14.f9)))))) = true then some false
  else (if (!((x1.f13.f0 == x14.f13.f0) && ((x1.f13.f1 == x14.f13.f1) && ((x1.f13.f2 == x14.f13.f2) && ((x1.f13.f3 == x14.f13.f3) && true))))) = true then some true
    else (conf_Same k x1.f14 x14.f14).bind fun y208 =>
    some (!y208) : Option Bool).bind fun s210 => letter_Same_r4 k x1 x14 s210
theorem letter_Same_s {k : Nat} {x1 : M48} {x14 : M48} {p2 : Option Addr} {c3 : Nat} {p5 : Option Addr} {c6 : Nat} {p8 : Option Addr} {c9 : Nat} {p11 : Option Addr} {c12 : Nat} {p15 : Option Addr} {c16 : Nat} {p18 : Option Addr} {c19 : Nat} {p21 : Option Addr} {c22 : Nat} {p24 : Option Addr} {c25 : Nat} {r : Bool} (hk : letter_Same k x1 x14 = some r) {g w : World} {F : Ch} {ih : IH} (h4 : RSl e3 ih [] p2 c3 x1.f14.f2) (h7 : RSl e156 ih [] p5 c6 x1.f15) (h10 : RSl e96 ih [] p8 c9 x1.f16) (h13 : RSl e5 ih [] p11 c12 x1.f17) (h17 : RSl e3 ih [] p15 c16 x14.f14.f2) (h20 : RSl e156 ih [] p18 c19 x14.f15) (h23 : RSl e96 ih [] p21 c22 x14.f16) (h26 : RSl e5 ih [] p24 c25 x14.f17) (hw : St g w [F] ih) :
    CallsR Tryz.prog 59 #[.agg #[vi64 x1.f0, vi64 x1.f1, vi64 x1.f2, vi64 x1.f3, vu64 x1.f4, vu64 x1.f5, vu64 x1.f6, vu64 x1.f7, vu64 x1.f8, vu64 x1.f9, vi64 x1.f10, vu32 x1.f11, vi64 x1.f12, vi64 x1.f13.f0, vi64 x1.f13.f1, vu64 x1.f13.f2, vi64 x1.f13.f3, vi64 x1.f14.f0, vu64 x1.f14.f1, .slice p2 x1.f14.f2.length c3, .bool x1.f14.f3, vi64 x1.f14.f4, .slice p5 x1.f15.length c6, .slice p8 x1.f16.length c9, .slice p11 x1.f17.length c12], .agg #[vi64 x14.f0, vi64 x14.f1, vi64 x14.f2, vi64 x14.f3, vu64 x14.f4, vu64 x14.f5, vu64 x14.f6, vu64 x14.f7, vu64 x14.f8, vu64 x14.f9, vi64 x14.f10, vu32 x14.f11, vi64 x14.f12, vi64 x14.f13.f0, vi64 x14.f13.f1, vu64 x14.f13.f2, vi64 x14.f13.f3, vi64 x14.f14.f0, vu64 x14.f14.f1, .slice p15 x14.f14.f2.length c16, .bool x14.f14.f3, vi64 x14.f14.f4, .slice p18 x14.f15.length c19, .slice p21 x14.f16.length c22, .slice p24 x14.f17.length c25]] w fun v w' => v = .bool r ∧ St g w' [F] ih := by
  refine f_in (vs := [.agg #[vi64 x1.f0, vi64 x1.f1, vi64 x1.f2, vi64 x1.f3, vu64 x1.f4, vu64 x1.f5, vu64 x1.f6, vu64 x1.f7, vu64 x1.f8, vu64 x1.f9, vi64 x1.f10, vu32 x1.f11, vi64 x1.f12, vi64 x1.f13.f0, vi64 x1.f13.f1, vu64 x1.f13.f2, vi64 x1.f13.f3, vi64 x1.f14.f0, vu64 x1.f14.f1, .slice p2 x1.f14.f2.length c3, .bool x1.f14.f3, vi64 x1.f14.f4, .slice p5 x1.f15.length c6, .slice p8 x1.f16.length c9, .slice p11 x1.f17.length c12], .agg #[vi64 x14.f0, vi64 x14.f1, vi64 x14.f2, vi64 x14.f3, vu64 x14.f4, vu64 x14.f5, vu64 x14.f6, vu64 x14.f7, vu64 x14.f8, vu64 x14.f9, vi64 x14.f10, vu32 x14.f11, vi64 x14.f12, vi64 x14.f13.f0, vi64 x14.f13.f1, vu64 x14.f13.f2, vi64 x14.f13.f3, vi64 x14.f14.f0, vu64 x14.f14.f1, .slice p15 x14.f14.f2.length c16, .bool x14.f14.f3, vi64 x14.f14.f4, .slice p18 x14.f15.length c19, .slice p21 x14.f16.length c22, .slice p24 x14.f17.length c25]]) Tryz.func59 rfl 127 rfl (by kernel_rfl) [(0, .agg #[vi64 x1.f0, vi64 x1.f1, vi64 x1.f2, vi64 x1.f3, vu64 x1.f4, vu64 x1.f5, vu64 x1.f6, vu64 x1.f7, vu64 x1.f8, vu64 x1.f9, vi64 x1.f10, vu32 x1.f11, vi64 x1.f12, vi64 x1.f13.f0, vi64 x1.f13.f1, vu64 x1.f13.f2, vi64 x1.f13.f3, vi64 x1.f14.f0, vu64 x1.f14.f1, .slice p2 x1.f14.f2.length c3, .bool x1.f14.f3, vi64 x1.f14.f4, .slice p5 x1.f15.length c6, .slice p8 x1.f16.length c9, .slice p11 x1.f17.length c12]), (1, .agg #[vi64 x14.f0, vi64 x14.f1, vi64 x14.f2, vi64 x14.f3, vu64 x14.f4, vu64 x14.f5, vu64 x14.f6, vu64 x14.f7, vu64 x14.f8, vu64 x14.f9, vi64 x14.f10, vu32 x14.f11, vi64 x14.f12, vi64 x14.f13.f0, vi64 x14.f13.f1, vu64 x14.f13.f2, vi64 x14.f13.f3, vi64 x14.f14.f0, vu64 x14.f14.f1, .slice p15 x14.f14.f2.length c16, .bool x14.f14.f3, vi64 x14.f14.f4, .slice p18 x14.f15.length c19, .slice p21 x14.f16.length c22, .slice p24 x14.f17.length c25])] (by kernel_rfl) fun a Qf hQ hQn hs => ?_
  refine c_seq ?_
  refine c_region ?_
  refine s_new hs hw [vi64 x1.f0, vi64 x1.f1, vi64 x1.f2, vi64 x1.f3, vu64 x1.f4, vu64 x1.f5, vu64 x1.f6, vu64 x1.f7, vu64 x1.f8, vu64 x1.f9, vi64 x1.f10, vu32 x1.f11, vi64 x1.f12, vi64 x1.f13.f0, vi64 x1.f13.f1, vu64 x1.f13.f2, vi64 x1.f13.f3, vi64 x1.f14.f0, vu64 x1.f14.f1, .slice p2 x1.f14.f2.length c3, .bool x1.f14.f3, vi64 x1.f14.f4, .slice p5 x1.f15.length c6, .slice p8 x1.f16.length c9, .slice p11 x1.f17.length c12] 48 (fun b => (pt b 0)) (by kernel_rfl) (fun _ => by kernel_rfl) fun a w b124 hs hw => ?_
  refine s_new hs hw [vi64 x14.f0, vi64 x14.f1, vi64 x14.f2, vi64 x14.f3, vu64 x14.f4, vu64 x14.f5, vu64 x14.f6, vu64 x14.f7, vu64 x14.f8, vu64 x14.f9, vi64 x14.f10, vu32 x14.f11, vi64 x14.f12, vi64 x14.f13.f0, vi64 x14.f13.f1, vu64 x14.f13.f2, vi64 x14.f13.f3, vi64 x14.f14.f0, vu64 x14.f14.f1, .slice p15 x14.f14.f2.length c16, .bool x14.f14.f3, vi64 x14.f14.f4, .slice p18 x14.f15.length c19, .slice p21 x14.f16.length c22, .slice p24 x14.f17.length c25] 48 (fun b => (pt b 0)) (by kernel_rfl) (fun _ => by kernel_rfl) fun a w b126 hs hw => ?_
  refine pures hs 1 [2, 3] [(2, (pt b124 0)), (3, (pt b126 0))] (by kernel_rfl) fun a hs => ?_
  refine s_end ?_
  refine c_seq ?_
  refine c_block ?_
  refine c_seq ?_
  obtain ⟨J141, hJ141⟩ : ∃ J : Act → World → Prop, ∀ a w, J a w ↔ (Sees a 127 [(2, (pt b124 0)), (3, (pt b126 0)), (5, .bool ((x1.f0 != x14.f0) || ((x1.f1 != x14.f1) || ((x1.f2 != x14.f2) || ((x1.f3 != x14.f3) || ((x1.f10 != x14.f10) || ((x1.f11 != x14.f11) || (x1.f12 != x14.f12))))))))] ∧ St g w [bx b126 [vi64 x14.f0, vi64 x14.f1, vi64 x14.f2, vi64 x14.f3, vu64 x14.f4, vu64 x14.f5, vu64 x14.f6, vu64 x14.f7, vu64 x14.f8, vu64 x14.f9, vi64 x14.f10, vu32 x14.f11, vi64 x14.f12, vi64 x14.f13.f0, vi64 x14.f13.f1, vu64 x14.f13.f2, vi64 x14.f13.f3, vi64 x14.f14.f0, vu64 x14.f14.f1, .slice p15 x14.f14.f2.length c16, .bool x14.f14.f3, vi64 x14.f14.f4, .slice p18 x14.f15.length c19, .slice p21 x14.f16.length c22, .slice p24 x14.f17.length c25] 48, bx b124 [vi64 x1.f0, vi64 x1.f1, vi64 x1.f2, vi64 x1.f3, vu64 x1.f4, vu64 x1.f5, vu64 x1.f6, vu64 x1.f7, vu64 x1.f8, vu64 x1.f9, vi64 x1.f10, vu32 x1.f11, vi64 x1.f12, vi64 x1.f13.f0, vi64 x1.f13.f1, vu64 x1.f13.f2, vi64 x1.f13.f3, vi64 x1.f14.f0, vu64 x1.f14.f1, .slice p2 x1.f14.f2.length c3, .bool x1.f14.f3, vi64 x1.f14.f4, .slice p5 x1.f15.length c6, .slice p8 x1.f16.length c9, .slice p11 x1.f17.length c12] 48, F] ih) := ⟨_, fun _ _ => Iff.rfl⟩
  refine c_regJ J141 ?_ ?_
  · refine pures hs 1 [2, 3, 6] [(2, (pt b124 0)), (3, (pt b126 0)), (6, (pt b124 0))] (by kernel_rfl) fun a hs => ?_
    refine s_load hs (hw.at_ 1 rfl) 0 (by kernel_rfl) (by kernel_rfl) (v := vi64 x1.f0) (by kernel_rfl) fun a hs => ?_
    refine pures hs 1 [2, 3, 7, 8] [(2, (pt b124 0)), (3, (pt b126 0)), (7, vi64 x1.f0), (8, (pt b126 0))] (by kernel_rfl) fun a hs => ?_
    refine s_load hs (hw.at_ 0 rfl) 0 (by kernel_rfl) (by kernel_rfl) (v := vi64 x14.f0) (by kernel_rfl) fun a hs => ?_
    refine pures hs 2 [2, 3, 11] [(2, (pt b124 0)), (3, (pt b126 0)), (11, .bool (x1.f0 != x14.f0))] (by kernel_rfl) fun a hs => ?_
    rcases boolE (x1.f0 != x14.f0) with h142 | h142
    · replace hs := hs.altB 11 true (by kernel_rfl) h142
      refine pures hs 42 [2, 3, 5] [(2, (pt b124 0)), (3, (pt b126 0)), (5, .bool true)] (by kernel_rfl) fun a hs => ?_
      refine s_end ?_
      exact (hJ141 _ _).2 ⟨(hs.altB (b := true) 5 ((x1.f0 != x14.f0) || ((x1.f1 != x14.f1) || ((x1.f2 != x14.f2) || ((x1.f3 != x14.f3) || ((x1.f10 != x14.f10) || ((x1.f11 != x14.f11) || (x1.f12 != x14.f12))))))) (by kernel_rfl) (by rw [h142] <;> rfl)).cast [2, 3, 5] (by kernel_rfl), hw.pick [0, 1, 2] (by kernel_rfl)⟩
    replace hs := hs.altB 11 false (by kernel_rfl) h142
    refine pures hs 1 [2, 3, 11, 12] [(2, (pt b124 0)), (3, (pt b126 0)), (11, .bool false), (12, (pt b124 1))] (by kernel_rfl) fun a hs => ?_
    refine s_load hs (hw.at_ 1 rfl) 1 (by kernel_rfl) (by kernel_rfl) (v := vi64 x1.f1) (by kernel_rfl) fun a hs => ?_
    refine pures hs 1 [2, 3, 11, 13, 14] [(2, (pt b124 0)), (3, (pt b126 0)), (11, .bool false), (13, vi64 x1.f1), (14, (pt b126 1))] (by kernel_rfl) fun a hs => ?_
    refine s_load hs (hw.at_ 0 rfl) 1 (by kernel_rfl) (by kernel_rfl) (v := vi64 x14.f1) (by kernel_rfl) fun a hs => ?_
    refine pures hs 3 [2, 3, 18] [(2, (pt b124 0)), (3, (pt b126 0)), (18, .bool (x1.f1 != x14.f1))] (by kernel_rfl) fun a hs => ?_
    rcases boolE (x1.f1 != x14.f1) with h143 | h143
    · replace hs := hs.altB 18 true (by kernel_rfl) h143
      refine pures hs 35 [2, 3, 5] [(2, (pt b124 0)), (3, (pt b126 0)), (5, .bool true)] (by kernel_rfl) fun a hs => ?_
      refine s_end ?_
      exact (hJ141 _ _).2 ⟨(hs.altB (b := true) 5 ((x1.f0 != x14.f0) || ((x1.f1 != x14.f1) || ((x1.f2 != x14.f2) || ((x1.f3 != x14.f3) || ((x1.f10 != x14.f10) || ((x1.f11 != x14.f11) || (x1.f12 != x14.f12))))))) (by kernel_rfl) (by rw [h142, h143] <;> rfl)).cast [2, 3, 5] (by kernel_rfl), hw.pick [0, 1, 2] (by kernel_rfl)⟩
    replace hs := hs.altB 18 false (by kernel_rfl) h143
    refine pures hs 1 [2, 3, 18, 19] [(2, (pt b124 0)), (3, (pt b126 0)), (18, .bool false), (19, (pt b124 2))] (by kernel_rfl) fun a hs => ?_
    refine s_load hs (hw.at_ 1 rfl) 2 (by kernel_rfl) (by kernel_rfl) (v := vi64 x1.f2) (by kernel_rfl) fun a hs => ?_
    refine pures hs 1 [2, 3, 18, 20, 21] [(2, (pt b124 0)), (3, (pt b126 0)), (18, .bool false), (20, vi64 x1.f2), (21, (pt b126 2))] (by kernel_rfl) fun a hs => ?_
    refine s_load hs (hw.at_ 0 rfl) 2 (by kernel_rfl) (by kernel_rfl) (v := vi64 x14.f2) (by kernel_rfl) fun a hs => ?_
    refine pures hs 3 [2, 3, 25] [(2, (pt b124 0)), (3, (pt b126 0)), (25, .bool (x1.f2 != x14.f2))] (by kernel_rfl) fun a hs => ?_
    rcases boolE (x1.f2 != x14.f2) with h144 | h144
    · replace hs := hs.altB 25 true (by kernel_rfl) h144
      refine pures hs 28 [2, 3, 5] [(2, (pt b124 0)), (3, (pt b126 0)), (5, .bool true)] (by kernel_rfl) fun a hs => ?_
      refine s_end ?_
      exact (hJ141 _ _).2 ⟨(hs.altB (b := true) 5 ((x1.f0 != x14.f0) || ((x1.f1 != x14.f1) || ((x1.f2 != x14.f2) || ((x1.f3 != x14.f3) || ((x1.f10 != x14.f10) || ((x1.f11 != x14.f11) || (x1.f12 != x14.f12))))))) (by kernel_rfl) (by rw [h142, h143, h144] <;> rfl)).cast [2, 3, 5] (by kernel_rfl), hw.pick [0, 1, 2] (by kernel_rfl)⟩
    replace hs := hs.altB 25 false (by kernel_rfl) h144
    refine pures hs 1 [2, 3, 25, 26] [(2, (pt b124 0)), (3, (pt b126 0)), (25, .bool false), (26, (pt b124 3))] (by kernel_rfl) fun a hs => ?_
    refine s_load hs (hw.at_ 1 rfl) 3 (by kernel_rfl) (by kernel_rfl) (v := vi64 x1.f3) (by kernel_rfl) fun a hs => ?_
    refine pures hs 1 [2, 3, 25, 27, 28] [(2, (pt b124 0)), (3, (pt b126 0)), (25, .bool false), (27, vi64 x1.f3), (28, (pt b126 3))] (by kernel_rfl) fun a hs => ?_
    refine s_load hs (hw.at_ 0 rfl) 3 (by kernel_rfl) (by kernel_rfl) (v := vi64 x14.f3) (by kernel_rfl) fun a hs => ?_
    refine pures hs 3 [2, 3, 32] [(2, (pt b124 0)), (3, (pt b126 0)), (32, .bool (x1.f3 != x14.f3))] (by kernel_rfl) fun a hs => ?_
    rcases boolE (x1.f3 != x14.f3) with h145 | h145
    · replace hs := hs.altB 32 true (by kernel_rfl) h145
      refine pures hs 21 [2, 3, 5] [(2, (pt b124 0)), (3, (pt b126 0)), (5, .bool true)] (by kernel_rfl) fun a hs => ?_
      refine s_end ?_
      exact (hJ141 _ _).2 ⟨(hs.altB (b := true) 5 ((x1.f0 != x14.f0) || ((x1.f1 != x14.f1) || ((x1.f2 != x14.f2) || ((x1.f3 != x14.f3) || ((x1.f10 != x14.f10) || ((x1.f11 != x14.f11) || (x1.f12 != x14.f12))))))) (by kernel_rfl) (by rw [h142, h143, h144, h145] <;> rfl)).cast [2, 3, 5] (by kernel_rfl), hw.pick [0, 1, 2] (by kernel_rfl)⟩
    replace hs := hs.altB 32 false (by kernel_rfl) h145
    refine pures hs 1 [2, 3, 32, 33] [(2, (pt b124 0)), (3, (pt b126 0)), (32, .bool false), (33, (pt b124 10))] (by kernel_rfl) fun a hs => ?_
    refine s_load hs (hw.at_ 1 rfl) 10 (by kernel_rfl) (by kernel_rfl) (v := vi64 x1.f10) (by kernel_rfl) fun a hs => ?_
    refine pures hs 1 [2, 3, 32, 34, 35] [(2, (pt b124 0)), (3, (pt b126 0)), (32, .bool false), (34, vi64 x1.f10), (35, (pt b126 10))] (by kernel_rfl) fun a hs => ?_
    refine s_load hs (hw.at_ 0 rfl) 10 (by kernel_rfl) (by kernel_rfl) (v := vi64 x14.f10) (by kernel_rfl) fun a hs => ?_
    refine pures hs 3 [2, 3, 39] [(2, (pt b124 0)), (3, (pt b126 0)), (39, .bool (x1.f10 != x14.f10))] (by kernel_rfl) fun a hs => ?_
    rcases boolE (x1.f10 != x14.f10) with h146 | h146
    · replace hs := hs.altB 39 true (by kernel_rfl) h146
      refine pures hs 14 [2, 3, 5] [(2, (pt b124 0)), (3, (pt b126 0)), (5, .bool true)] (by kernel_rfl) fun a hs => ?_
      refine s_end ?_
      exact (hJ141 _ _).2 ⟨(hs.altB (b := true) 5 ((x1.f0 != x14.f0) || ((x1.f1 != x14.f1) || ((x1.f2 != x14.f2) || ((x1.f3 != x14.f3) || ((x1.f10 != x14.f10) || ((x1.f11 != x14.f11) || (x1.f12 != x14.f12))))))) (by kernel_rfl) (by rw [h142, h143, h144, h145, h146] <;> rfl)).cast [2, 3, 5] (by kernel_rfl), hw.pick [0, 1, 2] (by kernel_rfl)⟩
    replace hs := hs.altB 39 false (by kernel_rfl) h146
    refine pures hs 1 [2, 3, 39, 40] [(2, (pt b124 0)), (3, (pt b126 0)), (39, .bool false), (40, (pt b124 11))] (by kernel_rfl) fun a hs => ?_
    refine s_load hs (hw.at_ 1 rfl) 11 (by kernel_rfl) (by kernel_rfl) (v := vu32 x1.f11) (by kernel_rfl) fun a hs => ?_
    refine pures hs 1 [2, 3, 39, 41, 42] [(2, (pt b124 0)), (3, (pt b126 0)), (39, .bool false), (41, vu32 x1.f11), (42, (pt b126 11))] (by kernel_rfl) fun a hs => ?_
    refine s_load hs (hw.at_ 0 rfl) 11 (by kernel_rfl) (by kernel_rfl) (v := vu32 x14.f11) (by kernel_rfl) fun a hs => ?_
    refine pures hs 3 [2, 3, 46] [(2, (pt b124 0)), (3, (pt b126 0)), (46, .bool (x1.f11 != x14.f11))] (by kernel_rfl) fun a hs => ?_
    rcases boolE (x1.f11 != x14.f11) with h147 | h147
    · replace hs := hs.altB 46 true (by kernel_rfl) h147
      refine pures hs 7 [2, 3, 5] [(2, (pt b124 0)), (3, (pt b126 0)), (5, .bool true)] (by kernel_rfl) fun a hs => ?_
      refine s_end ?_
      exact (hJ141 _ _).2 ⟨(hs.altB (b := true) 5 ((x1.f0 != x14.f0) || ((x1.f1 != x14.f1) || ((x1.f2 != x14.f2) || ((x1.f3 != x14.f3) || ((x1.f10 != x14.f10) || ((x1.f11 != x14.f11) || (x1.f12 != x14.f12))))))) (by kernel_rfl) (by rw [h142, h143, h144, h145, h146, h147] <;> rfl)).cast [2, 3, 5] (by kernel_rfl), hw.pick [0, 1, 2] (by kernel_rfl)⟩
    replace hs := hs.altB 46 false (by kernel_rfl) h147
    refine pures hs 1 [2, 3, 46, 47] [(2, (pt b124 0)), (3, (pt b126 0)), (46, .bool false), (47, (pt b124 12))] (by kernel_rfl) fun a hs => ?_
    refine s_load hs (hw.at_ 1 rfl) 12 (by kernel_rfl) (by kernel_rfl) (v := vi64 x1.f12) (by kernel_rfl) fun a hs => ?_
    refine pures hs 1 [2, 3, 46, 48, 49] [(2, (pt b124 0)), (3, (pt b126 0)), (46, .bool false), (48, vi64 x1.f12), (49, (pt b126 12))] (by kernel_rfl) fun a hs => ?_
    refine s_load hs (hw.at_ 0 rfl) 12 (by kernel_rfl) (by kernel_rfl) (v := vi64 x14.f12) (by kernel_rfl) fun a hs => ?_
    refine pures hs 3 [2, 3, 5] [(2, (pt b124 0)), (3, (pt b126 0)), (5, .bool (x1.f12 != x14.f12))] (by kernel_rfl) fun a hs => ?_
    refine s_end ?_
    exact (hJ141 _ _).2 ⟨(hs.altB (b := (x1.f12 != x14.f12)) 5 ((x1.f0 != x14.f0) || ((x1.f1 != x14.f1) || ((x1.f2 != x14.f2) || ((x1.f3 != x14.f3) || ((x1.f10 != x14.f10) || ((x1.f11 != x14.f11) || (x1.f12 != x14.f12))))))) (by kernel_rfl) (by rw [h142, h143, h144, h145, h146, h147] <;> rfl)).cast [2, 3, 5] (by kernel_rfl), hw.pick [0, 1, 2] (by kernel_rfl)⟩
  intro a w hh
  obtain ⟨hs, hw⟩ := (hJ141 _ _).1 hh
  rcases ifbE hk with ⟨h148, hk⟩ | ⟨h148, hk⟩
  · refine c_cond1 hs (by kernel_rfl) (t := ((x1.f0 != x14.f0) || ((x1.f1 != x14.f1) || ((x1.f2 != x14.f2) || ((x1.f3 != x14.f3) || ((x1.f10 != x14.f10) || ((x1.f11 != x14.f11) || (x1.f12 != x14.f12)))))))) (by kernel_rfl) h148 ?_
    refine c_seq ?_
    refine c_region ?_
    refine pures hs 1 [4] [(4, .bool false)] (by kernel_rfl) fun a hs => ?_
    refine s_end ?_
    refine c_ret ?_
    obtain rfl := someE hk
    refine hQ _ _ (f_ret1 hs rfl (v := .bool false) (by kernel_rfl) ⟨rfl, hw.pick [2] (by kernel_rfl)⟩)
  refine c_cond0 hs (by kernel_rfl) (t := ((x1.f0 != x14.f0) || ((x1.f1 != x14.f1) || ((x1.f2 != x14.f2) || ((x1.f3 != x14.f3) || ((x1.f10 != x14.f10) || ((x1.f11 != x14.f11) || (x1.f12 != x14.f12)))))))) (by kernel_rfl) h148 ?_
  refine c_seq ?_
  obtain ⟨J160, hJ160⟩ : ∃ J : Act → World → Prop, ∀ a w, J a w ↔ (Sees a 127 [(2, (pt b124 0)), (3, (pt b126 0)), (53, .bool ((x1.f4 != x14.f4) || ((x1.f5 != x14.f5) || ((x1.f6 != x14.f6) || ((x1.f7 != x14.f7) || ((x1.f8 != x14.f8) || (x1.f9 != x14.f9)))))))] ∧ St g w [bx b126 [vi64 x14.f0, vi64 x14.f1, vi64 x14.f2, vi64 x14.f3, vu64 x14.f4, vu64 x14.f5, vu64 x14.f6, vu64 x14.f7, vu64 x14.f8, vu64 x14.f9, vi64 x14.f10, vu32 x14.f11, vi64 x14.f12, vi64 x14.f13.f0, vi64 x14.f13.f1, vu64 x14.f13.f2, vi64 x14.f13.f3, vi64 x14.f14.f0, vu64 x14.f14.f1, .slice p15 x14.f14.f2.length c16, .bool x14.f14.f3, vi64 x14.f14.f4, .slice p18 x14.f15.length c19, .slice p21 x14.f16.length c22, .slice p24 x14.f17.length c25] 48, bx b124 [vi64 x1.f0, vi64 x1.f1, vi64 x1.f2, vi64 x1.f3, vu64 x1.f4, vu64 x1.f5, vu64 x1.f6, vu64 x1.f7, vu64 x1.f8, vu64 x1.f9, vi64 x1.f10, vu32 x1.f11, vi64 x1.f12, vi64 x1.f13.f0, vi64 x1.f13.f1, vu64 x1.f13.f2, vi64 x1.f13.f3, vi64 x1.f14.f0, vu64 x1.f14.f1, .slice p2 x1.f14.f2.length c3, .bool x1.f14.f3, vi64 x1.f14.f4, .slice p5 x1.f15.length c6, .slice p8 x1.f16.length c9, .slice p11 x1.f17.length c12] 48, F] ih) := ⟨_, fun _ _ => Iff.rfl⟩
  refine c_regJ J160 ?_ ?_
  · refine pures hs 1 [2, 3, 54] [(2, (pt b124 0)), (3, (pt b126 0)), (54, (pt b124 4))] (by kernel_rfl) fun a hs => ?_
    refine s_load hs (hw.at_ 1 rfl) 4 (by kernel_rfl) (by kernel_rfl) (v := vu64 x1.f4) (by kernel_rfl) fun a hs => ?_
    refine pures hs 1 [2, 3, 55, 56] [(2, (pt b124 0)), (3, (pt b126 0)), (55, vu64 x1.f4), (56, (pt b126 4))] (by kernel_rfl) fun a hs => ?_
    refine s_load hs (hw.at_ 0 rfl) 4 (by kernel_rfl) (by kernel_rfl) (v := vu64 x14.f4) (by kernel_rfl) fun a hs => ?_
    refine pures hs 2 [2, 3, 59] [(2, (pt b124 0)), (3, (pt b126 0)), (59, .bool (x1.f4 != x14.f4))] (by kernel_rfl) fun a hs => ?_
    rcases boolE (x1.f4 != x14.f4) with h161 | h161
    · replace hs := hs.altB 59 true (by kernel_rfl) h161
      refine pures hs 35 [2, 3, 53] [(2, (pt b124 0)), (3, (pt b126 0)), (53, .bool true)] (by kernel_rfl) fun a hs => ?_
      refine s_end ?_
      exact (hJ160 _ _).2 ⟨(hs.altB (b := true) 53 ((x1.f4 != x14.f4) || ((x1.f5 != x14.f5) || ((x1.f6 != x14.f6) || ((x1.f7 != x14.f7) || ((x1.f8 != x14.f8) || (x1.f9 != x14.f9)))))) (by kernel_rfl) (by rw [h161] <;> rfl)).cast [2, 3, 53] (by kernel_rfl), hw.pick [0, 1, 2] (by kernel_rfl)⟩
    replace hs := hs.altB 59 false (by kernel_rfl) h161
    refine pures hs 1 [2, 3, 59, 60] [(2, (pt b124 0)), (3, (pt b126 0)), (59, .bool false), (60, (pt b124 5))] (by kernel_rfl) fun a hs => ?_
    refine s_load hs (hw.at_ 1 rfl) 5 (by kernel_rfl) (by kernel_rfl) (v := vu64 x1.f5) (by kernel_rfl) fun a hs => ?_
    refine pures hs 1 [2, 3, 59, 61, 62] [(2, (pt b124 0)), (3, (pt b126 0)), (59, .bool false), (61, vu64 x1.f5), (62, (pt b126 5))] (by kernel_rfl) fun a hs => ?_
    refine s_load hs (hw.at_ 0 rfl) 5 (by kernel_rfl) (by kernel_rfl) (v := vu64 x14.f5) (by kernel_rfl) fun a hs => ?_
    refine pures hs 3 [2, 3, 66] [(2, (pt b124 0)), (3, (pt b126 0)), (66, .bool (x1.f5 != x14.f5))] (by kernel_rfl) fun a hs => ?_
    rcases boolE (x1.f5 != x14.f5) with h162 | h162
    · replace hs := hs.altB 66 true (by kernel_rfl) h162
      refine pures hs 28 [2, 3, 53] [(2, (pt b124 0)), (3, (pt b126 0)), (53, .bool true)] (by kernel_rfl) fun a hs => ?_
      refine s_end ?_
      exact (hJ160 _ _).2 ⟨(hs.altB (b := true) 53 ((x1.f4 != x14.f4) || ((x1.f5 != x14.f5) || ((x1.f6 != x14.f6) || ((x1.f7 != x14.f7) || ((x1.f8 != x14.f8) || (x1.f9 != x14.f9)))))) (by kernel_rfl) (by rw [h161, h162] <;> rfl)).cast [2, 3, 53] (by kernel_rfl), hw.pick [0, 1, 2] (by kernel_rfl)⟩
    replace hs := hs.altB 66 false (by kernel_rfl) h162
    refine pures hs 1 [2, 3, 66, 67] [(2, (pt b124 0)), (3, (pt b126 0)), (66, .bool false), (67, (pt b124 6))] (by kernel_rfl) fun a hs => ?_
    refine s_load hs (hw.at_ 1 rfl) 6 (by kernel_rfl) (by kernel_rfl) (v := vu64 x1.f6) (by kernel_rfl) fun a hs => ?_
    refine pures hs 1 [2, 3, 66, 68, 69] [(2, (pt b124 0)), (3, (pt b126 0)), (66, .bool false), (68, vu64 x1.f6), (69, (pt b126 6))] (by kernel_rfl) fun a hs => ?_
    refine s_load hs (hw.at_ 0 rfl) 6 (by kernel_rfl) (by kernel_rfl) (v := vu64 x14.f6) (by kernel_rfl) fun a hs => ?_
    refine pures hs 3 [2, 3, 73] [(2, (pt b124 0)), (3, (pt b126 0)), (73, .bool (x1.f6 != x14.f6))] (by kernel_rfl) fun a hs => ?_
    rcases boolE (x1.f6 != x14.f6) with h163 | h163
    · replace hs := hs.altB 73 true (by kernel_rfl) h163
      refine pures hs 21 [2, 3, 53] [(2, (pt b124 0)), (3, (pt b126 0)), (53, .bool true)] (by kernel_rfl) fun a hs => ?_
      refine s_end ?_
      exact (hJ160 _ _).2 ⟨(hs.altB (b := true) 53 ((x1.f4 != x14.f4) || ((x1.f5 != x14.f5) || ((x1.f6 != x14.f6) || ((x1.f7 != x14.f7) || ((x1.f8 != x14.f8) || (x1.f9 != x14.f9)))))) (by kernel_rfl) (by rw [h161, h162, h163] <;> rfl)).cast [2, 3, 53] (by kernel_rfl), hw.pick [0, 1, 2] (by kernel_rfl)⟩
    replace hs := hs.altB 73 false (by kernel_rfl) h163
    refine pures hs 1 [2, 3, 73, 74] [(2, (pt b124 0)), (3, (pt b126 0)), (73, .bool false), (74, (pt b124 7))] (by kernel_rfl) fun a hs => ?_
    refine s_load hs (hw.at_ 1 rfl) 7 (by kernel_rfl) (by kernel_rfl) (v := vu64 x1.f7) (by kernel_rfl) fun a hs => ?_
    refine pures hs 1 [2, 3, 73, 75, 76] [(2, (pt b124 0)), (3, (pt b126 0)), (73, .bool false), (75, vu64 x1.f7), (76, (pt b126 7))] (by kernel_rfl) fun a hs => ?_
    refine s_load hs (hw.at_ 0 rfl) 7 (by kernel_rfl) (by kernel_rfl) (v := vu64 x14.f7) (by kernel_rfl) fun a hs => ?_
    refine pures hs 3 [2, 3, 80] [(2, (pt b124 0)), (3, (pt b126 0)), (80, .bool (x1.f7 != x14.f7))] (by kernel_rfl) fun a hs => ?_
    rcases boolE (x1.f7 != x14.f7) with h164 | h164
    · replace hs := hs.altB 80 true (by kernel_rfl) h164
      refine pures hs 14 [2, 3, 53] [(2, (pt b124 0)), (3, (pt b126 0)), (53, .bool true)] (by kernel_rfl) fun a hs => ?_
      refine s_end ?_
      exact (hJ160 _ _).2 ⟨(hs.altB (b := true) 53 ((x1.f4 != x14.f4) || ((x1.f5 != x14.f5) || ((x1.f6 != x14.f6) || ((x1.f7 != x14.f7) || ((x1.f8 != x14.f8) || (x1.f9 != x14.f9)))))) (by kernel_rfl) (by rw [h161, h162, h163, h164] <;> rfl)).cast [2, 3, 53] (by kernel_rfl), hw.pick [0, 1, 2] (by kernel_rfl)⟩
    replace hs := hs.altB 80 false (by kernel_rfl) h164
    refine pures hs 1 [2, 3, 80, 81] [(2, (pt b124 0)), (3, (pt b126 0)), (80, .bool false), (81, (pt b124 8))] (by kernel_rfl) fun a hs => ?_
    refine s_load hs (hw.at_ 1 rfl) 8 (by kernel_rfl) (by kernel_rfl) (v := vu64 x1.f8) (by kernel_rfl) fun a hs => ?_
    refine pures hs 1 [2, 3, 80, 82, 83] [(2, (pt b124 0)), (3, (pt b126 0)), (80, .bool false), (82, vu64 x1.f8), (83, (pt b126 8))] (by kernel_rfl) fun a hs => ?_
    refine s_load hs (hw.at_ 0 rfl) 8 (by kernel_rfl) (by kernel_rfl) (v := vu64 x14.f8) (by kernel_rfl) fun a hs => ?_
    refine pures hs 3 [2, 3, 87] [(2, (pt b124 0)), (3, (pt b126 0)), (87, .bool (x1.f8 != x14.f8))] (by kernel_rfl) fun a hs => ?_
    rcases boolE (x1.f8 != x14.f8) with h165 | h165
    · replace hs := hs.altB 87 true (by kernel_rfl) h165
      refine pures hs 7 [2, 3, 53] [(2, (pt b124 0)), (3, (pt b126 0)), (53, .bool true)] (by kernel_rfl) fun a hs => ?_
      refine s_end ?_
      exact (hJ160 _ _).2 ⟨(hs.altB (b := true) 53 ((x1.f4 != x14.f4) || ((x1.f5 != x14.f5) || ((x1.f6 != x14.f6) || ((x1.f7 != x14.f7) || ((x1.f8 != x14.f8) || (x1.f9 != x14.f9)))))) (by kernel_rfl) (by rw [h161, h162, h163, h164, h165] <;> rfl)).cast [2, 3, 53] (by kernel_rfl), hw.pick [0, 1, 2] (by kernel_rfl)⟩
    replace hs := hs.altB 87 false (by kernel_rfl) h165
    refine pures hs 1 [2, 3, 87, 88] [(2, (pt b124 0)), (3, (pt b126 0)), (87, .bool false), (88, (pt b124 9))] (by kernel_rfl) fun a hs => ?_
    refine s_load hs (hw.at_ 1 rfl) 9 (by kernel_rfl) (by kernel_rfl) (v := vu64 x1.f9) (by kernel_rfl) fun a hs => ?_
    refine pures hs 1 [2, 3, 87, 89, 90] [(2, (pt b124 0)), (3, (pt b126 0)), (87, .bool false), (89, vu64 x1.f9), (90, (pt b126 9))] (by kernel_rfl) fun a hs => ?_
    refine s_load hs (hw.at_ 0 rfl) 9 (by kernel_rfl) (by kernel_rfl) (v := vu64 x14.f9) (by kernel_rfl) fun a hs => ?_
    refine pures hs 3 [2, 3, 53] [(2, (pt b124 0)), (3, (pt b126 0)), (53, .bool (x1.f9 != x14.f9))] (by kernel_rfl) fun a hs => ?_
    refine s_end ?_
    exact (hJ160 _ _).2 ⟨(hs.altB (b := (x1.f9 != x14.f9)) 53 ((x1.f4 != x14.f4) || ((x1.f5 != x14.f5) || ((x1.f6 != x14.f6) || ((x1.f7 != x14.f7) || ((x1.f8 != x14.f8) || (x1.f9 != x14.f9)))))) (by kernel_rfl) (by rw [h161, h162, h163, h164, h165] <;> rfl)).cast [2, 3, 53] (by kernel_rfl), hw.pick [0, 1, 2] (by kernel_rfl)⟩
  intro a w hh
  obtain ⟨hs, hw⟩ := (hJ160 _ _).1 hh
  rcases ifbE hk with ⟨h166, hk⟩ | ⟨h166, hk⟩
  · refine c_cond1 hs (by kernel_rfl) (t := ((x1.f4 != x14.f4) || ((x1.f5 != x14.f5) || ((x1.f6 != x14.f6) || ((x1.f7 != x14.f7) || ((x1.f8 != x14.f8) || (x1.f9 != x14.f9))))))) (by kernel_rfl) h166 ?_
    refine c_seq ?_
    refine c_region ?_
    refine pures hs 1 [4] [(4, .bool false)] (by kernel_rfl) fun a hs => ?_
    refine s_end ?_
    refine c_ret ?_
    obtain rfl := someE hk
    refine hQ _ _ (f_ret1 hs rfl (v := .bool false) (by kernel_rfl) ⟨rfl, hw.pick [2] (by kernel_rfl)⟩)
  refine c_cond0 hs (by kernel_rfl) (t := ((x1.f4 != x14.f4) || ((x1.f5 != x14.f5) || ((x1.f6 != x14.f6) || ((x1.f7 != x14.f7) || ((x1.f8 != x14.f8) || (x1.f9 != x14.f9))))))) (by kernel_rfl) h166 ?_
  refine c_seq ?_
  obtain ⟨y204, hx205, hk⟩ := bindE hk
  obtain ⟨J206, hJ206⟩ : ∃ J : Act → World → Prop, ∀ a w, J a w ↔ (∃ (x173 : Bool), letter_Same_r4 k x1 x14 x173 = some r ∧ Sees a 127 [(2, (pt b124 0)), (3, (pt b126 0)), (94, .bool x173)] ∧ St g w [bx b126 [vi64 x14.f0, vi64 x14.f1, vi64 x14.f2, vi64 x14.f3, vu64 x14.f4, vu64 x14.f5, vu64 x14.f6, vu64 x14.f7, vu64 x14.f8, vu64 x14.f9, vi64 x14.f10, vu32 x14.f11, vi64 x14.f12, vi64 x14.f13.f0, vi64 x14.f13.f1, vu64 x14.f13.f2, vi64 x14.f13.f3, vi64 x14.f14.f0, vu64 x14.f14.f1, .slice p15 x14.f14.f2.length c16, .bool x14.f14.f3, vi64 x14.f14.f4, .slice p18 x14.f15.length c19, .slice p21 x14.f16.length c22, .slice p24 x14.f17.length c25] 48, bx b124 [vi64 x1.f0, vi64 x1.f1, vi64 x1.f2, vi64 x1.f3, vu64 x1.f4, vu64 x1.f5, vu64 x1.f6, vu64 x1.f7, vu64 x1.f8, vu64 x1.f9, vi64 x1.f10, vu32 x1.f11, vi64 x1.f12, vi64 x1.f13.f0, vi64 x1.f13.f1, vu64 x1.f13.f2, vi64 x1.f13.f3, vi64 x1.f14.f0, vu64 x1.f14.f1, .slice p2 x1.f14.f2.length c3, .bool x1.f14.f3, vi64 x1.f14.f4, .slice p5 x1.f15.length c6, .slice p8 x1.f16.length c9, .slice p11 x1.f17.length c12] 48, F] ih) := ⟨_, fun _ _ => Iff.rfl⟩
  refine c_regJ J206 ?_ ?_
  · refine pures hs 1 [2, 3, 95] [(2, (pt b124 0)), (3, (pt b126 0)), (95, (pt b124 13))] (by kernel_rfl) fun a hs => ?_
    refine s_load hs (hw.at_ 1 rfl) 13 (by kernel_rfl) (by kernel_rfl) (v := .agg #[vi64 x1.f13.f0, vi64 x1.f13.f1, vu64 x1.f13.f2, vi64 x1.f13.f3]) (by kernel_rfl) fun a hs => ?_
    refine pures hs 1 [2, 3, 96, 97] [(2, (pt b124 0)), (3, (pt b126 0)), (96, .agg #[vi64 x1.f13.f0, vi64 x1.f13.f1, vu64 x1.f13.f2, vi64 x1.f13.f3]), (97, (pt b126 13))] (by kernel_rfl) fun a hs => ?_
    refine s_load hs (hw.at_ 0 rfl) 13 (by kernel_rfl) (by kernel_rfl) (v := .agg #[vi64 x14.f13.f0, vi64 x14.f13.f1, vu64 x14.f13.f2, vi64 x14.f13.f3]) (by kernel_rfl) fun a hs => ?_
    refine s_ne hs (c1 := [vi64 x1.f13.f0, vi64 x1.f13.f1, vu64 x1.f13.f2, vi64 x1.f13.f3]) (c2 := [vi64 x14.f13.f0, vi64 x14.f13.f1, vu64 x14.f13.f2, vi64 x14.f13.f3]) ((x1.f13.f0 == x14.f13.f0) && ((x1.f13.f1 == x14.f13.f1) && ((x1.f13.f2 == x14.f13.f2) && ((x1.f13.f3 == x14.f13.f3) && true)))) (by kernel_rfl) (by kernel_rfl) (by kernel_rfl) (by kernel_rfl) (by kernel_rfl) fun a hs => ?_
    refine pures hs 1 [2, 3, 100] [(2, (pt b124 0)), (3, (pt b126 0)), (100, .bool (!((x1.f13.f0 == x14.f13.f0) && ((x1.f13.f1 == x14.f13.f1) && ((x1.f13.f2 == x14.f13.f2) && ((x1.f13.f3 == x14.f13.f3) && true))))))] (by kernel_rfl) fun a hs => ?_
    rcases ifbE hx205 with ⟨h207, hx205⟩ | ⟨h207, hx205⟩
    · replace hs := hs.altB 100 true (by kernel_rfl) h207
      refine pures hs 8 [2, 3, 94] [(2, (pt b124 0)), (3, (pt b126 0)), (94, .bool true)] (by kernel_rfl) fun a hs => ?_
      refine s_end ?_
      obtain rfl := someE hx205
      exact (hJ206 _ _).2 ⟨true, hk, hs.cast [2, 3, 94] (by kernel_rfl), hw.pick [0, 1, 2] (by kernel_rfl)⟩
    replace hs := hs.altB 100 false (by kernel_rfl) h207
    refine pures hs 1 [2, 3, 100, 101] [(2, (pt b124 0)), (3, (pt b126 0)), (100, .bool false), (101, (pt b124 17))] (by kernel_rfl) fun a hs => ?_
    refine s_load hs (hw.at_ 1 rfl) 17 (by kernel_rfl) (by kernel_rfl) (v := .agg #[vi64 x1.f14.f0, vu64 x1.f14.f1, .slice p2 x1.f14.f2.length c3, .bool x1.f14.f3, vi64 x1.f14.f4]) (by kernel_rfl) fun a hs => ?_
    refine pures hs 1 [2, 3, 100, 102, 103] [(2, (pt b124 0)), (3, (pt b126 0)), (100, .bool false), (102, .agg #[vi64 x1.f14.f0, vu64 x1.f14.f1, .slice p2 x1.f14.f2.length c3, .bool x1.f14.f3, vi64 x1.f14.f4]), (103, (pt b126 17))] (by kernel_rfl) fun a hs => ?_
    refine s_load hs (hw.at_ 0 rfl) 17 (by kernel_rfl) (by kernel_rfl) (v := .agg #[vi64 x14.f14.f0, vu64 x14.f14.f1, .slice p15 x14.f14.f2.length c16, .bool x14.f14.f3, vi64 x14.f14.f4]) (by kernel_rfl) fun a hs => ?_
    obtain ⟨y208, h209, hx205⟩ := bindE hx205
    refine s_call hs (by kernel_rfl) (by kernel_rfl) (conf_Same_s h209 h4 h17 ((hw.pick [0, 1, 2] (by kernel_rfl)).pack 0)) fun a w v hv hs => ?_
    obtain ⟨rfl, hw⟩ := hv
    replace hw := hw.unpack 0 rfl
    refine pures hs 3 [2, 3, 94] [(2, (pt b124 0)), (3, (pt b126 0)), (94, .bool (!y208))] (by kernel_rfl) fun a hs => ?_
    refine s_end ?_
    obtain rfl := someE hx205
    exact (hJ206 _ _).2 ⟨(!y208), hk, hs.cast [2, 3, 94] (by kernel_rfl), hw.pick [0, 1, 2] (by kernel_rfl)⟩
  intro a w hh
  obtain ⟨x173, hk, hs, hw⟩ := (hJ206 _ _).1 hh
  rcases ifbE hk with ⟨h174, hk⟩ | ⟨h174, hk⟩
  · refine c_cond1 hs (by kernel_rfl) (t := x173) (by kernel_rfl) h174 ?_
    refine c_seq ?_
    refine c_region ?_
    refine pures hs 1 [4] [(4, .bool false)] (by kernel_rfl) fun a hs => ?_
    refine s_end ?_
    refine c_ret ?_
    obtain rfl := someE hk
    refine hQ _ _ (f_ret1 hs rfl (v := .bool false) (by kernel_rfl) ⟨rfl, hw.pick [2] (by kernel_rfl)⟩)
  refine c_cond0 hs (by kernel_rfl) (t := x173) (by kernel_rfl) h174 ?_
  refine c_skip ?_
  refine c_seq ?_
  obtain ⟨y192, hx193, hk⟩ := bindE hk
  obtain ⟨J194, hJ194⟩ : ∃ J : Act → World → Prop, ∀ a w, J a w ↔ (∃ (x191 : Bool), letter_Same_r3 x191 = some r ∧ Sees a 127 [(4, .bool x191)] ∧ St g w [F] ih) := ⟨_, fun _ _ => Iff.rfl⟩
  refine c_regJ J194 ?_ ?_
  · refine pures hs 1 [2, 3, 108] [(2, (pt b124 0)), (3, (pt b126 0)), (108, (pt b124 22))] (by kernel_rfl) fun a hs => ?_
    refine s_load hs (hw.at_ 1 rfl) 22 (by kernel_rfl) (by kernel_rfl) (v := .slice p5 x1.f15.length c6) (by kernel_rfl) fun a hs => ?_
    refine pures hs 1 [2, 3, 109, 110] [(2, (pt b124 0)), (3, (pt b126 0)), (109, .slice p5 x1.f15.length c6), (110, (pt b126 22))] (by kernel_rfl) fun a hs => ?_
    refine s_load hs (hw.at_ 0 rfl) 22 (by kernel_rfl) (by kernel_rfl) (v := .slice p18 x14.f15.length c19) (by kernel_rfl) fun a hs => ?_
    obtain ⟨y195, h196, hx193⟩ := bindE hx193
    refine s_call hs (by kernel_rfl) (by kernel_rfl) (slices_Equal_api_Vote_api_Vote_s h196 h7 (nilSub _) h20 (nilSub _) ((hw.pick [0, 1, 2] (by kernel_rfl)).pack 0)) fun a w v hv hs => ?_
    obtain ⟨rfl, hw⟩ := hv
    replace hw := hw.unpack 0 rfl
    refine pures hs 1 [2, 3, 113] [(2, (pt b124 0)), (3, (pt b126 0)), (113, .bool y195)] (by kernel_rfl) fun a hs => ?_
    rcases ifbE hx193 with ⟨h197, hx193⟩ | ⟨h197, hx193⟩
    · replace hs := hs.altB 113 true (by kernel_rfl) h197
      refine pures hs 1 [2, 3, 113, 114] [(2, (pt b124 0)), (3, (pt b126 0)), (113, .bool true), (114, (pt b124 23))] (by kernel_rfl) fun a hs => ?_
      refine s_load hs (hw.at_ 1 rfl) 23 (by kernel_rfl) (by kernel_rfl) (v := .slice p8 x1.f16.length c9) (by kernel_rfl) fun a hs => ?_
      refine pures hs 1 [2, 3, 113, 115, 116] [(2, (pt b124 0)), (3, (pt b126 0)), (113, .bool true), (115, .slice p8 x1.f16.length c9), (116, (pt b126 23))] (by kernel_rfl) fun a hs => ?_
      refine s_load hs (hw.at_ 0 rfl) 23 (by kernel_rfl) (by kernel_rfl) (v := .slice p21 x14.f16.length c22) (by kernel_rfl) fun a hs => ?_
      obtain ⟨y198, h199, hx193⟩ := bindE hx193
      refine s_call hs (by kernel_rfl) (by kernel_rfl) (slices_EqualFunc_api_Update_api_Update_api_Update_api_Update_s h199 h10 (nilSub _) h23 (nilSub _) ((hw.pick [0, 1, 2] (by kernel_rfl)).pack 0)) fun a w v hv hs => ?_
      obtain ⟨rfl, hw⟩ := hv
      replace hw := hw.unpack 0 rfl
      refine pures hs 2 [2, 3, 120] [(2, (pt b124 0)), (3, (pt b126 0)), (120, .bool y198)] (by kernel_rfl) fun a hs => ?_
      rcases ifbE hx193 with ⟨h200, hx193⟩ | ⟨h200, hx193⟩
      · replace hs := hs.altB 120 true (by kernel_rfl) h200
        refine pures hs 1 [3, 120, 121] [(3, (pt b126 0)), (120, .bool true), (121, (pt b124 24))] (by kernel_rfl) fun a hs => ?_
        refine s_load hs (hw.at_ 1 rfl) 24 (by kernel_rfl) (by kernel_rfl) (v := .slice p11 x1.f17.length c12) (by kernel_rfl) fun a hs => ?_
        refine pures hs 1 [120, 122, 123] [(120, .bool true), (122, .slice p11 x1.f17.length c12), (123, (pt b126 24))] (by kernel_rfl) fun a hs => ?_
        refine s_load hs (hw.at_ 0 rfl) 24 (by kernel_rfl) (by kernel_rfl) (v := .slice p24 x14.f17.length c25) (by kernel_rfl) fun a hs => ?_
        obtain ⟨y201, h202, hx193⟩ := bindE hx193
        refine s_call hs (by kernel_rfl) (by kernel_rfl) (bytes_Equal_s h202 h13 (nilSub _) h26 (nilSub _) ((hw.pick [2] (by kernel_rfl)).pack 0)) fun a w v hv hs => ?_
        obtain ⟨rfl, hw⟩ := hv
        replace hw := hw.unpack 0 rfl
        refine pures hs 2 [4] [(4, .bool y201)] (by kernel_rfl) fun a hs => ?_
        refine s_end ?_
        obtain rfl := someE hx193
        exact (hJ194 _ _).2 ⟨y201, hk, hs.cast [4] (by kernel_rfl), hw.pick [0] (by kernel_rfl)⟩
      replace hs := hs.altB 120 false (by kernel_rfl) h200
      refine pures hs 7 [4] [(4, .bool false)] (by kernel_rfl) fun a hs => ?_
      refine s_end ?_
      obtain rfl := someE hx193
      exact (hJ194 _ _).2 ⟨false, hk, hs.cast [4] (by kernel_rfl), hw.pick [2] (by kernel_rfl)⟩
    replace hs := hs.altB 113 false (by kernel_rfl) h197
    refine pures hs 14 [4] [(4, .bool false)] (by kernel_rfl) fun a hs => ?_
    refine s_end ?_
    obtain rfl := someE hx193
    exact (hJ194 _ _).2 ⟨false, hk, hs.cast [4] (by kernel_rfl), hw.pick [2] (by kernel_rfl)⟩
  intro a w hh
  obtain ⟨x191, hk, hs, hw⟩ := (hJ194 _ _).1 hh
  refine c_ret ?_
  obtain rfl := someE hk
  refine hQ _ _ (f_ret1 hs rfl (v := .bool x191) (by kernel_rfl) ⟨rfl, hw.pick [0] (by kernel_rfl)⟩)
def letter_small : Option Unit :=
  some ()
theorem letter_small_s {r : Unit} (hk : letter_small = some r) {g w : World} {F : Ch} {ih : IH} (hw : St g w [F] ih) :
    CallsR Tryz.prog 129 #[vi64 1, .func (.func 130) #[] #[], .func (.func 131) #[] #[]] w fun v w' => ∃ (b27 : Nat) (b29 : Nat), v = .agg #[.func (.func 130) #[] #[], .func (.func 152) #[] #[(pt b27 0), (pt b29 0)], .func (.func 154) #[] #[(pt b29 0), (pt b27 0)]] ∧ St g w' [bx b27 [.func (.func 131) #[] #[]] 181, bx b29 [vi64 1] 3, F] ih := by
  refine f_in (vs := [vi64 1, .func (.func 130) #[] #[], .func (.func 131) #[] #[]]) Tryz.func129 rfl 11 rfl (by kernel_rfl) [(0, vi64 1), (1, .func (.func 130) #[] #[]), (2, .func (.func 131) #[] #[])] (by kernel_rfl) fun a Qf hQ hQn hs => ?_
  refine c_seq ?_
  refine c_region ?_
  refine s_new hs hw [vi64 1] 3 (fun b => (pt b 0)) (by kernel_rfl) (fun _ => by kernel_rfl) fun a w b21 hs hw => ?_
  refine s_new hs hw [.func (.func 131) #[] #[]] 181 (fun b => (pt b 0)) (by kernel_rfl) (fun _ => by kernel_rfl) fun a w b23 hs hw => ?_
  refine s_new hs hw [.nilFunc, .nilFunc, .nilFunc] 134 (fun b => (pt b 0)) (by kernel_rfl) (fun _ => by kernel_rfl) fun a w b25 hs hw => ?_
  refine s_end ?_
  refine c_seq ?_
  refine c_region ?_
  refine pures hs 4 [6, 10] [(6, (pt b25 0)), (10, .agg #[.func (.func 130) #[] #[], .func (.func 152) #[] #[(pt b23 0), (pt b21 0)], .func (.func 154) #[] #[(pt b21 0), (pt b23 0)]])] (by kernel_rfl) fun a hs => ?_
  refine s_store hs hw 0 rfl 0 (by kernel_rfl) (by kernel_rfl) (v := .agg #[.func (.func 130) #[] #[], .func (.func 152) #[] #[(pt b23 0), (pt b21 0)], .func (.func 154) #[] #[(pt b21 0), (pt b23 0)]]) (by kernel_rfl) (by kernel_rfl) (by kernel_rfl) (by kernel_rfl) fun a w hs hw => ?_
  refine s_end ?_
  refine c_ret ?_
  obtain rfl := someE hk
  refine hQ _ _ (f_retC hs rfl (hw.at_ 0 rfl) (by kernel_rfl) (v := .agg #[.func (.func 130) #[] #[], .func (.func 152) #[] #[(pt b23 0), (pt b21 0)], .func (.func 154) #[] #[(pt b21 0), (pt b23 0)]]) (by kernel_rfl) ⟨b23, b21, rfl, hw.pick [1, 2, 3] (by kernel_rfl)⟩)
def letter_small_2 : Option Unit :=
  some ()
theorem letter_small_2_s {r : Unit} (hk : letter_small_2 = some r) {g w : World} {F : Ch} {ih : IH} (hw : St g w [F] ih) :
    CallsR Tryz.prog 129 #[vi64 2, .func (.func 132) #[] #[], .func (.func 133) #[] #[]] w fun v w' => ∃ (b27 : Nat) (b29 : Nat), v = .agg #[.func (.func 132) #[] #[], .func (.func 152) #[] #[(pt b27 0), (pt b29 0)], .func (.func 154) #[] #[(pt b29 0), (pt b27 0)]] ∧ St g w' [bx b27 [.func (.func 133) #[] #[]] 181, bx b29 [vi64 2] 3, F] ih := by
  refine f_in (vs := [vi64 2, .func (.func 132) #[] #[], .func (.func 133) #[] #[]]) Tryz.func129 rfl 11 rfl (by kernel_rfl) [(0, vi64 2), (1, .func (.func 132) #[] #[]), (2, .func (.func 133) #[] #[])] (by kernel_rfl) fun a Qf hQ hQn hs => ?_
  refine c_seq ?_
  refine c_region ?_
  refine s_new hs hw [vi64 2] 3 (fun b => (pt b 0)) (by kernel_rfl) (fun _ => by kernel_rfl) fun a w b21 hs hw => ?_
  refine s_new hs hw [.func (.func 133) #[] #[]] 181 (fun b => (pt b 0)) (by kernel_rfl) (fun _ => by kernel_rfl) fun a w b23 hs hw => ?_
  refine s_new hs hw [.nilFunc, .nilFunc, .nilFunc] 134 (fun b => (pt b 0)) (by kernel_rfl) (fun _ => by kernel_rfl) fun a w b25 hs hw => ?_
  refine s_end ?_
  refine c_seq ?_
  refine c_region ?_
  refine pures hs 4 [6, 10] [(6, (pt b25 0)), (10, .agg #[.func (.func 132) #[] #[], .func (.func 152) #[] #[(pt b23 0), (pt b21 0)], .func (.func 154) #[] #[(pt b21 0), (pt b23 0)]])] (by kernel_rfl) fun a hs => ?_
  refine s_store hs hw 0 rfl 0 (by kernel_rfl) (by kernel_rfl) (v := .agg #[.func (.func 132) #[] #[], .func (.func 152) #[] #[(pt b23 0), (pt b21 0)], .func (.func 154) #[] #[(pt b21 0), (pt b23 0)]]) (by kernel_rfl) (by kernel_rfl) (by kernel_rfl) (by kernel_rfl) fun a w hs hw => ?_
  refine s_end ?_
  refine c_ret ?_
  obtain rfl := someE hk
  refine hQ _ _ (f_retC hs rfl (hw.at_ 0 rfl) (by kernel_rfl) (v := .agg #[.func (.func 132) #[] #[], .func (.func 152) #[] #[(pt b23 0), (pt b21 0)], .func (.func 154) #[] #[(pt b21 0), (pt b23 0)]]) (by kernel_rfl) ⟨b23, b21, rfl, hw.pick [1, 2, 3] (by kernel_rfl)⟩)
def letter_word : Option Unit :=
  some ()
theorem letter_word_s {r : Unit} (hk : letter_word = some r) {g w : World} {F : Ch} {ih : IH} (hw : St g w [F] ih) :
    CallsR Tryz.prog 134 #[.func (.func 135) #[] #[], .func (.func 136) #[] #[]] w fun v w' => ∃ (b19 : Nat), v = .agg #[.func (.func 135) #[] #[], .func (.func 156) #[] #[(pt b19 0)], .func (.func 157) #[] #[(pt b19 0)]] ∧ St g w' [bx b19 [.func (.func 136) #[] #[]] 184, F] ih := by
  refine f_in (vs := [.func (.func 135) #[] #[], .func (.func 136) #[] #[]]) Tryz.func134 rfl 9 rfl (by kernel_rfl) [(0, .func (.func 135) #[] #[]), (1, .func (.func 136) #[] #[])] (by kernel_rfl) fun a Qf hQ hQn hs => ?_
  refine c_seq ?_
  refine c_region ?_
  refine s_new hs hw [.func (.func 136) #[] #[]] 184 (fun b => (pt b 0)) (by kernel_rfl) (fun _ => by kernel_rfl) fun a w b15 hs hw => ?_
  refine s_new hs hw [.nilFunc, .nilFunc, .nilFunc] 134 (fun b => (pt b 0)) (by kernel_rfl) (fun _ => by kernel_rfl) fun a w b17 hs hw => ?_
  refine s_end ?_
  refine c_seq ?_
  refine c_region ?_
  refine pures hs 4 [4, 8] [(4, (pt b17 0)), (8, .agg #[.func (.func 135) #[] #[], .func (.func 156) #[] #[(pt b15 0)], .func (.func 157) #[] #[(pt b15 0)]])] (by kernel_rfl) fun a hs => ?_
  refine s_store hs hw 0 rfl 0 (by kernel_rfl) (by kernel_rfl) (v := .agg #[.func (.func 135) #[] #[], .func (.func 156) #[] #[(pt b15 0)], .func (.func 157) #[] #[(pt b15 0)]]) (by kernel_rfl) (by kernel_rfl) (by kernel_rfl) (by kernel_rfl) fun a w hs hw => ?_
  refine s_end ?_
  refine c_ret ?_
  obtain rfl := someE hk
  refine hQ _ _ (f_retC hs rfl (hw.at_ 0 rfl) (by kernel_rfl) (v := .agg #[.func (.func 135) #[] #[], .func (.func 156) #[] #[(pt b15 0)], .func (.func 157) #[] #[(pt b15 0)]]) (by kernel_rfl) ⟨b15, rfl, hw.pick [1, 2] (by kernel_rfl)⟩)
def letter_word_2 : Option Unit :=
  some ()
theorem letter_word_2_s {r : Unit} (hk : letter_word_2 = some r) {g w : World} {F : Ch} {ih : IH} (hw : St g w [F] ih) :
    CallsR Tryz.prog 134 #[.func (.func 137) #[] #[], .func (.func 139) #[] #[]] w fun v w' => ∃ (b19 : Nat), v = .agg #[.func (.func 137) #[] #[], .func (.func 156) #[] #[(pt b19 0)], .func (.func 157) #[] #[(pt b19 0)]] ∧ St g w' [bx b19 [.func (.func 139) #[] #[]] 184, F] ih := by
  refine f_in (vs := [.func (.func 137) #[] #[], .func (.func 139) #[] #[]]) Tryz.func134 rfl 9 rfl (by kernel_rfl) [(0, .func (.func 137) #[] #[]), (1, .func (.func 139) #[] #[])] (by kernel_rfl) fun a Qf hQ hQn hs => ?_
  refine c_seq ?_
  refine c_region ?_
  refine s_new hs hw [.func (.func 139) #[] #[]] 184 (fun b => (pt b 0)) (by kernel_rfl) (fun _ => by kernel_rfl) fun a w b15 hs hw => ?_
  refine s_new hs hw [.nilFunc, .nilFunc, .nilFunc] 134 (fun b => (pt b 0)) (by kernel_rfl) (fun _ => by kernel_rfl) fun a w b17 hs hw => ?_
  refine s_end ?_
  refine c_seq ?_
  refine c_region ?_
  refine pures hs 4 [4, 8] [(4, (pt b17 0)), (8, .agg #[.func (.func 137) #[] #[], .func (.func 156) #[] #[(pt b15 0)], .func (.func 157) #[] #[(pt b15 0)]])] (by kernel_rfl) fun a hs => ?_
  refine s_store hs hw 0 rfl 0 (by kernel_rfl) (by kernel_rfl) (v := .agg #[.func (.func 137) #[] #[], .func (.func 156) #[] #[(pt b15 0)], .func (.func 157) #[] #[(pt b15 0)]]) (by kernel_rfl) (by kernel_rfl) (by kernel_rfl) (by kernel_rfl) fun a w hs hw => ?_
  refine s_end ?_
  refine c_ret ?_
  obtain rfl := someE hk
  refine hQ _ _ (f_retC hs rfl (hw.at_ 0 rfl) (by kernel_rfl) (v := .agg #[.func (.func 137) #[] #[], .func (.func 156) #[] #[(pt b15 0)], .func (.func 157) #[] #[(pt b15 0)]]) (by kernel_rfl) ⟨b15, rfl, hw.pick [1, 2] (by kernel_rfl)⟩)
def letter_word_3 : Option Unit :=
  some ()
theorem letter_word_3_s {r : Unit} (hk : letter_word_3 = some r) {g w : World} {F : Ch} {ih : IH} (hw : St g w [F] ih) :
    CallsR Tryz.prog 134 #[.func (.func 140) #[] #[], .func (.func 141) #[] #[]] w fun v w' => ∃ (b19 : Nat), v = .agg #[.func (.func 140) #[] #[], .func (.func 156) #[] #[(pt b19 0)], .func (.func 157) #[] #[(pt b19 0)]] ∧ St g w' [bx b19 [.func (.func 141) #[] #[]] 184, F] ih := by
  refine f_in (vs := [.func (.func 140) #[] #[], .func (.func 141) #[] #[]]) Tryz.func134 rfl 9 rfl (by kernel_rfl) [(0, .func (.func 140) #[] #[]), (1, .func (.func 141) #[] #[])] (by kernel_rfl) fun a Qf hQ hQn hs => ?_
  refine c_seq ?_
  refine c_region ?_
  refine s_new hs hw [.func (.func 141) #[] #[]] 184 (fun b => (pt b 0)) (by kernel_rfl) (fun _ => by kernel_rfl) fun a w b15 hs hw => ?_
  refine s_new hs hw [.nilFunc, .nilFunc, .nilFunc] 134 (fun b => (pt b 0)) (by kernel_rfl) (fun _ => by kernel_rfl) fun a w b17 hs hw => ?_
  refine s_end ?_
  refine c_seq ?_
  refine c_region ?_
  refine pures hs 4 [4, 8] [(4, (pt b17 0)), (8, .agg #[.func (.func 140) #[] #[], .func (.func 156) #[] #[(pt b15 0)], .func (.func 157) #[] #[(pt b15 0)]])] (by kernel_rfl) fun a hs => ?_
  refine s_store hs hw 0 rfl 0 (by kernel_rfl) (by kernel_rfl) (v := .agg #[.func (.func 140) #[] #[], .func (.func 156) #[] #[(pt b15 0)], .func (.func 157) #[] #[(pt b15 0)]]) (by kernel_rfl) (by kernel_rfl) (by kernel_rfl) (by kernel_rfl) fun a w hs hw => ?_
  refine s_end ?_
  refine c_ret ?_
  obtain rfl := someE hk
  refine hQ _ _ (f_retC hs rfl (hw.at_ 0 rfl) (by kernel_rfl) (v := .agg #[.func (.func 140) #[] #[], .func (.func 156) #[] #[(pt b15 0)], .func (.func 157) #[] #[(pt b15 0)]]) (by kernel_rfl) ⟨b15, rfl, hw.pick [1, 2] (by kernel_rfl)⟩)
def letter_word_4 : Option Unit :=
  some ()
theorem letter_word_4_s {r : Unit} (hk : letter_word_4 = some r) {g w : World} {F : Ch} {ih : IH} (hw : St g w [F] ih) :
    CallsR Tryz.prog 134 #[.func (.func 140) #[] #[], .func (.func 142) #[] #[]] w fun v w' => ∃ (b19 : Nat), v = .agg #[.func (.func 140) #[] #[], .func (.func 156) #[] #[(pt b19 0)], .func (.func 157) #[] #[(pt b19 0)]] ∧ St g w' [bx b19 [.func (.func 142) #[] #[]] 184, F] ih := by
  refine f_in (vs := [.func (.func 140) #[] #[], .func (.func 142) #[] #[]]) Tryz.func134 rfl 9 rfl (by kernel_rfl) [(0, .func (.func 140) #[] #[]), (1, .func (.func 142) #[] #[])] (by kernel_rfl) fun a Qf hQ hQn hs => ?_
  refine c_seq ?_
  refine c_region ?_
  refine s_new hs hw [.func (.func 142) #[] #[]] 184 (fun b => (pt b 0)) (by kernel_rfl) (fun _ => by kernel_rfl) fun a w b15 hs hw => ?_
  refine s_new hs hw [.nilFunc, .nilFunc, .nilFunc] 134 (fun b => (pt b 0)) (by kernel_rfl) (fun _ => by kernel_rfl) fun a w b17 hs hw => ?_
  refine s_end ?_
  refine c_seq ?_
  refine c_region ?_
  refine pures hs 4 [4, 8] [(4, (pt b17 0)), (8, .agg #[.func (.func 140) #[] #[], .func (.func 156) #[] #[(pt b15 0)], .func (.func 157) #[] #[(pt b15 0)]])] (by kernel_rfl) fun a hs => ?_
  refine s_store hs hw 0 rfl 0 (by kernel_rfl) (by kernel_rfl) (v := .agg #[.func (.func 140) #[] #[], .func (.func 156) #[] #[(pt b15 0)], .func (.func 157) #[] #[(pt b15 0)]]) (by kernel_rfl) (by kernel_rfl) (by kernel_rfl) (by kernel_rfl) fun a w hs hw => ?_
  refine s_end ?_
  refine c_ret ?_
  obtain rfl := someE hk
  refine hQ _ _ (f_retC hs rfl (hw.at_ 0 rfl) (by kernel_rfl) (v := .agg #[.func (.func 140) #[] #[], .func (.func 156) #[] #[(pt b15 0)], .func (.func 157) #[] #[(pt b15 0)]]) (by kernel_rfl) ⟨b15, rfl, hw.pick [1, 2] (by kernel_rfl)⟩)
def letter_word_5 : Option Unit :=
  some ()
theorem letter_word_5_s {r : Unit} (hk : letter_word_5 = some r) {g w : World} {F : Ch} {ih : IH} (hw : St g w [F] ih) :
    CallsR Tryz.prog 134 #[.func (.func 140) #[] #[], .func (.func 143) #[] #[]] w fun v w' => ∃ (b19 : Nat), v = .agg #[.func (.func 140) #[] #[], .func (.func 156) #[] #[(pt b19 0)], .func (.func 157) #[] #[(pt b19 0)]] ∧ St g w' [bx b19 [.func (.func 143) #[] #[]] 184, F] ih := by
  refine f_in (vs := [.func (.func 140) #[] #[], .func (.func 143) #[] #[]]) Tryz.func134 rfl 9 rfl (by kernel_rfl) [(0, .func (.func 140) #[] #[]), (1, .func (.func 143) #[] #[])] (by kernel_rfl) fun a Qf hQ hQn hs => ?_
  refine c_seq ?_
  refine c_region ?_
  refine s_new hs hw [.func (.func 143) #[] #[]] 184 (fun b => (pt b 0)) (by kernel_rfl) (fun _ => by kernel_rfl) fun a w b15 hs hw => ?_
  refine s_new hs hw [.nilFunc, .nilFunc, .nilFunc] 134 (fun b => (pt b 0)) (by kernel_rfl) (fun _ => by kernel_rfl) fun a w b17 hs hw => ?_
  refine s_end ?_
  refine c_seq ?_
  refine c_region ?_
  refine pures hs 4 [4, 8] [(4, (pt b17 0)), (8, .agg #[.func (.func 140) #[] #[], .func (.func 156) #[] #[(pt b15 0)], .func (.func 157) #[] #[(pt b15 0)]])] (by kernel_rfl) fun a hs => ?_
  refine s_store hs hw 0 rfl 0 (by kernel_rfl) (by kernel_rfl) (v := .agg #[.func (.func 140) #[] #[], .func (.func 156) #[] #[(pt b15 0)], .func (.func 157) #[] #[(pt b15 0)]]) (by kernel_rfl) (by kernel_rfl) (by kernel_rfl) (by kernel_rfl) fun a w hs hw => ?_
  refine s_end ?_
  refine c_ret ?_
  obtain rfl := someE hk
  refine hQ _ _ (f_retC hs rfl (hw.at_ 0 rfl) (by kernel_rfl) (v := .agg #[.func (.func 140) #[] #[], .func (.func 156) #[] #[(pt b15 0)], .func (.func 157) #[] #[(pt b15 0)]]) (by kernel_rfl) ⟨b15, rfl, hw.pick [1, 2] (by kernel_rfl)⟩)
def letter_word_6 : Option Unit :=
  some ()
theorem letter_word_6_s {r : Unit} (hk : letter_word_6 = some r) {g w : World} {F : Ch} {ih : IH} (hw : St g w [F] ih) :
    CallsR Tryz.prog 134 #[.func (.func 140) #[] #[], .func (.func 144) #[] #[]] w fun v w' => ∃ (b19 : Nat), v = .agg #[.func (.func 140) #[] #[], .func (.func 156) #[] #[(pt b19 0)], .func (.func 157) #[] #[(pt b19 0)]] ∧ St g w' [bx b19 [.func (.func 144) #[] #[]] 184, F] ih := by
  refine f_in (vs := [.func (.func 140) #[] #[], .func (.func 144) #[] #[]]) Tryz.func134 rfl 9 rfl (by kernel_rfl) [(0, .func (.func 140) #[] #[]), (1, .func (.func 144) #[] #[])] (by kernel_rfl) fun a Qf hQ hQn hs => ?_
  refine c_seq ?_
  refine c_region ?_
  refine s_new hs hw [.func (.func 144) #[] #[]] 184 (fun b => (pt b 0)) (by kernel_rfl) (fun _ => by kernel_rfl) fun a w b15 hs hw => ?_
  refine s_new hs hw [.nilFunc, .nilFunc, .nilFunc] 134 (fun b => (pt b 0)) (by kernel_rfl) (fun _ => by kernel_rfl) fun a w b17 hs hw => ?_
  refine s_end ?_
  refine c_seq ?_
  refine c_region ?_
  refine pures hs 4 [4, 8] [(4, (pt b17 0)), (8, .agg #[.func (.func 140) #[] #[], .func (.func 156) #[] #[(pt b15 0)], .func (.func 157) #[] #[(pt b15 0)]])] (by kernel_rfl) fun a hs => ?_
  refine s_store hs hw 0 rfl 0 (by kernel_rfl) (by kernel_rfl) (v := .agg #[.func (.func 140) #[] #[], .func (.func 156) #[] #[(pt b15 0)], .func (.func 157) #[] #[(pt b15 0)]]) (by kernel_rfl) (by kernel_rfl) (by kernel_rfl) (by kernel_rfl) fun a w hs hw => ?_
  refine s_end ?_
  refine c_ret ?_
  obtain rfl := someE hk
  refine hQ _ _ (f_retC hs rfl (hw.at_ 0 rfl) (by kernel_rfl) (v := .agg #[.func (.func 140) #[] #[], .func (.func 156) #[] #[(pt b15 0)], .func (.func 157) #[] #[(pt b15 0)]]) (by kernel_rfl) ⟨b15, rfl, hw.pick [1, 2] (by kernel_rfl)⟩)
end Go.Proofs.YteiinkhbgpldeaaGreatDoor.Sx
