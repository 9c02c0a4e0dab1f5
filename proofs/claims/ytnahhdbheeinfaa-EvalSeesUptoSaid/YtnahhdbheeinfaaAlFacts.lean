/- The facts about types and functions that the walks of this seat use, and that its program has them. -/
import Derived.Test.YtnahhdbheeinfaaAlEx2
import Derived.Test.YtnahhdbheeinfaaProg
import Derived.KernelRfl
namespace Go.Proofs.Ytnahhdbheeinfaa
open Go.AL

class Facts (P : Program) : Prop where
  s1 : isSliceT P 1 = false
  t1 : isStrT P 1 = false
  h1 : hasU P 1 = true
  c1 : P.cellsOf 1 = 1
  a1 : aggT P 1 = false
  z1 : zbox P 1 = some (A.nfn, 8)
  u2 : P.underlying 2 = some (.int .i64)
  s2 : isSliceT P 2 = false
  t2 : isStrT P 2 = false
  h2 : hasU P 2 = true
  i2 : intT P 2 = some .i64
  c2 : P.cellsOf 2 = 1
  a2 : aggT P 2 = false
  z2 : zbox P 2 = some (A.int .i64 0, 8)
  u3 : P.underlying 3 = some (.int .i64)
  s3 : isSliceT P 3 = false
  t3 : isStrT P 3 = false
  h3 : hasU P 3 = true
  i3 : intT P 3 = some .i64
  c3 : P.cellsOf 3 = 1
  a3 : aggT P 3 = false
  z3 : zbox P 3 = some (A.int .i64 0, 8)
  u4 : P.underlying 4 = some (.bool)
  s4 : isSliceT P 4 = false
  t4 : isStrT P 4 = false
  h4 : hasU P 4 = true
  d4 : isBoolT P 4 = true
  c4 : P.cellsOf 4 = 1
  a4 : aggT P 4 = false
  z4 : zbox P 4 = some (A.bool false, 1)
  u5 : P.underlying 5 = some (.int .u8)
  s5 : isSliceT P 5 = false
  t5 : isStrT P 5 = false
  h5 : hasU P 5 = true
  i5 : intT P 5 = some .u8
  c5 : P.cellsOf 5 = 1
  a5 : aggT P 5 = false
  z5 : zbox P 5 = some (A.int .u8 0, 1)
  u9 : P.underlying 9 = some (.string)
  s9 : isSliceT P 9 = false
  t9 : isStrT P 9 = true
  h9 : hasU P 9 = true
  c9 : P.cellsOf 9 = 1
  a9 : aggT P 9 = false
  z9 : zbox P 9 = some (A.str [], 16)
  u12 : P.underlying 12 = some (.int .u64)
  s12 : isSliceT P 12 = false
  t12 : isStrT P 12 = false
  h12 : hasU P 12 = true
  i12 : intT P 12 = some .u64
  c12 : P.cellsOf 12 = 1
  a12 : aggT P 12 = false
  z12 : zbox P 12 = some (A.int .u64 0, 8)
  u21 : P.underlying 21 = some (.int .i32)
  s21 : isSliceT P 21 = false
  t21 : isStrT P 21 = false
  h21 : hasU P 21 = true
  i21 : intT P 21 = some .i32
  c21 : P.cellsOf 21 = 1
  a21 : aggT P 21 = false
  z21 : zbox P 21 = some (A.int .i32 0, 4)
  u22 : P.underlying 22 = some (.int .i64)
  s22 : isSliceT P 22 = false
  t22 : isStrT P 22 = false
  h22 : hasU P 22 = true
  i22 : intT P 22 = some .i64
  c22 : P.cellsOf 22 = 1
  a22 : aggT P 22 = false
  z22 : zbox P 22 = some (A.int .i64 0, 8)
  s23 : isSliceT P 23 = false
  t23 : isStrT P 23 = false
  h23 : hasU P 23 = true
  c23 : P.cellsOf 23 = 1
  a23 : aggT P 23 = false
  z23 : zbox P 23 = some (A.nfn, 8)
  s24 : isSliceT P 24 = false
  t24 : isStrT P 24 = false
  h24 : hasU P 24 = true
  c24 : P.cellsOf 24 = 1
  a24 : aggT P 24 = false
  z24 : zbox P 24 = some (A.nfn, 8)
  s25 : isSliceT P 25 = false
  t25 : isStrT P 25 = false
  h25 : hasU P 25 = true
  c25 : P.cellsOf 25 = 1
  a25 : aggT P 25 = false
  z25 : zbox P 25 = some (A.nfn, 8)
  s26 : isSliceT P 26 = false
  t26 : isStrT P 26 = false
  h26 : hasU P 26 = true
  c26 : P.cellsOf 26 = 1
  a26 : aggT P 26 = false
  z26 : zbox P 26 = some (A.nfn, 8)
  u27 : P.underlying 27 = some (.slice 3)
  s27 : isSliceT P 27 = true
  l27 : selem P 27 = 3
  t27 : isStrT P 27 = false
  h27 : hasU P 27 = true
  c27 : P.cellsOf 27 = 1
  a27 : aggT P 27 = false
  z27 : zbox P 27 = some (A.sl true [], 24)
  g28_0 : fld P 28 0 = some (3, 0)
  g28_1 : fld P 28 1 = some (27, 1)
  g28_2 : fld P 28 2 = some (27, 2)
  g28_3 : fld P 28 3 = some (27, 3)
  g28_4 : fld P 28 4 = some (27, 4)
  g28_5 : fld P 28 5 = some (27, 5)
  s28 : isSliceT P 28 = false
  t28 : isStrT P 28 = false
  h28 : hasU P 28 = true
  w28 : ftl P 28 = some [(3, 0), (27, 1), (27, 2), (27, 3), (27, 4), (27, 5)]
  c28 : P.cellsOf 28 = 6
  a28 : aggT P 28 = true
  z28 : zbox P 28 = some (A.agg [A.int .i64 0, A.sl true [], A.sl true [], A.sl true [], A.sl true [], A.sl true []], 128)
  b28 : bplan P 28 = some ([A.int .i64 0, A.sl true [], A.sl true [], A.sl true [], A.sl true [], A.sl true []], [(0, 1), (1, 1), (2, 1), (3, 1), (4, 1), (5, 1)])
  g29_0 : fld P 29 0 = some (3, 0)
  g29_1 : fld P 29 1 = some (27, 1)
  g29_2 : fld P 29 2 = some (27, 2)
  g29_3 : fld P 29 3 = some (27, 3)
  g29_4 : fld P 29 4 = some (27, 4)
  g29_5 : fld P 29 5 = some (27, 5)
  s29 : isSliceT P 29 = false
  t29 : isStrT P 29 = false
  h29 : hasU P 29 = true
  w29 : ftl P 29 = some [(3, 0), (27, 1), (27, 2), (27, 3), (27, 4), (27, 5)]
  c29 : P.cellsOf 29 = 6
  a29 : aggT P 29 = true
  z29 : zbox P 29 = some (A.agg [A.int .i64 0, A.sl true [], A.sl true [], A.sl true [], A.sl true [], A.sl true []], 128)
  b29 : bplan P 29 = some ([A.int .i64 0, A.sl true [], A.sl true [], A.sl true [], A.sl true [], A.sl true []], [(0, 1), (1, 1), (2, 1), (3, 1), (4, 1), (5, 1)])
  u30 : P.underlying 30 = some (.slice 32)
  s30 : isSliceT P 30 = true
  l30 : selem P 30 = 32
  t30 : isStrT P 30 = false
  h30 : hasU P 30 = true
  c30 : P.cellsOf 30 = 1
  a30 : aggT P 30 = false
  z30 : zbox P 30 = some (A.sl true [], 24)
  g31_0 : fld P 31 0 = some (22, 0)
  g31_1 : fld P 31 1 = some (9, 1)
  g31_2 : fld P 31 2 = some (3, 2)
  g31_3 : fld P 31 3 = some (30, 3)
  s31 : isSliceT P 31 = false
  t31 : isStrT P 31 = false
  h31 : hasU P 31 = true
  w31 : ftl P 31 = some [(22, 0), (9, 1), (3, 2), (30, 3)]
  c31 : P.cellsOf 31 = 4
  a31 : aggT P 31 = true
  z31 : zbox P 31 = some (A.agg [A.int .i64 0, A.str [], A.int .i64 0, A.sl true []], 56)
  b31 : bplan P 31 = some ([A.int .i64 0, A.str [], A.int .i64 0, A.sl true []], [(0, 1), (1, 1), (2, 1), (3, 1)])
  g32_0 : fld P 32 0 = some (22, 0)
  g32_1 : fld P 32 1 = some (9, 1)
  g32_2 : fld P 32 2 = some (3, 2)
  g32_3 : fld P 32 3 = some (30, 3)
  s32 : isSliceT P 32 = false
  t32 : isStrT P 32 = false
  h32 : hasU P 32 = true
  w32 : ftl P 32 = some [(22, 0), (9, 1), (3, 2), (30, 3)]
  c32 : P.cellsOf 32 = 4
  a32 : aggT P 32 = true
  z32 : zbox P 32 = some (A.agg [A.int .i64 0, A.str [], A.int .i64 0, A.sl true []], 56)
  b32 : bplan P 32 = some ([A.int .i64 0, A.str [], A.int .i64 0, A.sl true []], [(0, 1), (1, 1), (2, 1), (3, 1)])
  s33 : isSliceT P 33 = false
  t33 : isStrT P 33 = false
  h33 : hasU P 33 = true
  c33 : P.cellsOf 33 = 1
  a33 : aggT P 33 = false
  z33 : zbox P 33 = some (A.nfn, 8)
  u34 : P.underlying 34 = some (.int .i64)
  s34 : isSliceT P 34 = false
  t34 : isStrT P 34 = false
  h34 : hasU P 34 = true
  i34 : intT P 34 = some .i64
  c34 : P.cellsOf 34 = 1
  a34 : aggT P 34 = false
  z34 : zbox P 34 = some (A.int .i64 0, 8)
  s35 : isSliceT P 35 = false
  t35 : isStrT P 35 = false
  h35 : hasU P 35 = true
  c35 : P.cellsOf 35 = 1
  a35 : aggT P 35 = false
  z35 : zbox P 35 = some (A.nfn, 8)
  s36 : isSliceT P 36 = false
  t36 : isStrT P 36 = false
  h36 : hasU P 36 = true
  c36 : P.cellsOf 36 = 1
  a36 : aggT P 36 = false
  z36 : zbox P 36 = some (A.nfn, 8)
  s37 : isSliceT P 37 = false
  t37 : isStrT P 37 = false
  h37 : hasU P 37 = true
  c37 : P.cellsOf 37 = 1
  a37 : aggT P 37 = false
  z37 : zbox P 37 = some (A.nfn, 8)
  s38 : isSliceT P 38 = false
  t38 : isStrT P 38 = false
  h38 : hasU P 38 = true
  c38 : P.cellsOf 38 = 1
  a38 : aggT P 38 = false
  z38 : zbox P 38 = some (A.nfn, 8)
  s39 : isSliceT P 39 = false
  t39 : isStrT P 39 = false
  h39 : hasU P 39 = true
  c39 : P.cellsOf 39 = 1
  a39 : aggT P 39 = false
  z39 : zbox P 39 = some (A.nfn, 8)
  s40 : isSliceT P 40 = false
  t40 : isStrT P 40 = false
  h40 : hasU P 40 = true
  c40 : P.cellsOf 40 = 1
  a40 : aggT P 40 = false
  z40 : zbox P 40 = some (A.nfn, 8)
  s41 : isSliceT P 41 = false
  t41 : isStrT P 41 = false
  h41 : hasU P 41 = true
  c41 : P.cellsOf 41 = 1
  a41 : aggT P 41 = false
  z41 : zbox P 41 = some (A.nfn, 8)
  s42 : isSliceT P 42 = false
  t42 : isStrT P 42 = false
  h42 : hasU P 42 = true
  c42 : P.cellsOf 42 = 1
  a42 : aggT P 42 = false
  z42 : zbox P 42 = some (A.nfn, 8)
  s43 : isSliceT P 43 = false
  t43 : isStrT P 43 = false
  h43 : hasU P 43 = true
  c43 : P.cellsOf 43 = 1
  a43 : aggT P 43 = false
  z43 : zbox P 43 = some (A.nfn, 8)
  s44 : isSliceT P 44 = false
  t44 : isStrT P 44 = false
  h44 : hasU P 44 = true
  c44 : P.cellsOf 44 = 1
  a44 : aggT P 44 = false
  z44 : zbox P 44 = some (A.nfn, 8)
  s45 : isSliceT P 45 = false
  t45 : isStrT P 45 = false
  h45 : hasU P 45 = true
  c45 : P.cellsOf 45 = 1
  a45 : aggT P 45 = false
  z45 : zbox P 45 = some (A.nfn, 8)
  s46 : isSliceT P 46 = false
  t46 : isStrT P 46 = false
  h46 : hasU P 46 = true
  c46 : P.cellsOf 46 = 1
  a46 : aggT P 46 = false
  z46 : zbox P 46 = some (A.nfn, 8)
  s47 : isSliceT P 47 = false
  t47 : isStrT P 47 = false
  h47 : hasU P 47 = true
  c47 : P.cellsOf 47 = 1
  a47 : aggT P 47 = false
  z47 : zbox P 47 = some (A.nfn, 8)
  g48_0 : fld P 48 0 = some (4, 0)
  s48 : isSliceT P 48 = false
  t48 : isStrT P 48 = false
  h48 : hasU P 48 = true
  w48 : ftl P 48 = some [(4, 0)]
  c48 : P.cellsOf 48 = 1
  a48 : aggT P 48 = true
  z48 : zbox P 48 = some (A.agg [A.bool false], 1)
  b48 : bplan P 48 = some ([A.bool false], [(0, 1)])
  e48 : eqT P 48 = some [1]
  g49_0 : fld P 49 0 = some (4, 0)
  s49 : isSliceT P 49 = false
  t49 : isStrT P 49 = false
  h49 : hasU P 49 = true
  w49 : ftl P 49 = some [(4, 0)]
  c49 : P.cellsOf 49 = 1
  a49 : aggT P 49 = true
  z49 : zbox P 49 = some (A.agg [A.bool false], 1)
  b49 : bplan P 49 = some ([A.bool false], [(0, 1)])
  e49 : eqT P 49 = some [1]
  u50 : P.underlying 50 = some (.int .u64)
  s50 : isSliceT P 50 = false
  t50 : isStrT P 50 = false
  h50 : hasU P 50 = true
  i50 : intT P 50 = some .u64
  c50 : P.cellsOf 50 = 1
  a50 : aggT P 50 = false
  z50 : zbox P 50 = some (A.int .u64 0, 8)
  s52 : isSliceT P 52 = false
  t52 : isStrT P 52 = false
  h52 : hasU P 52 = true
  c52 : P.cellsOf 52 = 1
  a52 : aggT P 52 = false
  z52 : zbox P 52 = some (A.nfn, 8)
  s53 : isSliceT P 53 = false
  t53 : isStrT P 53 = false
  h53 : hasU P 53 = true
  c53 : P.cellsOf 53 = 1
  a53 : aggT P 53 = false
  z53 : zbox P 53 = some (A.nfn, 8)
  s54 : isSliceT P 54 = false
  t54 : isStrT P 54 = false
  h54 : hasU P 54 = true
  c54 : P.cellsOf 54 = 1
  a54 : aggT P 54 = false
  z54 : zbox P 54 = some (A.nfn, 8)
  s55 : isSliceT P 55 = false
  t55 : isStrT P 55 = false
  h55 : hasU P 55 = true
  c55 : P.cellsOf 55 = 1
  a55 : aggT P 55 = false
  z55 : zbox P 55 = some (A.nfn, 8)
  u56 : P.underlying 56 = some (.int .u64)
  s56 : isSliceT P 56 = false
  t56 : isStrT P 56 = false
  h56 : hasU P 56 = true
  i56 : intT P 56 = some .u64
  c56 : P.cellsOf 56 = 1
  a56 : aggT P 56 = false
  z56 : zbox P 56 = some (A.int .u64 0, 8)
  s57 : isSliceT P 57 = false
  t57 : isStrT P 57 = false
  h57 : hasU P 57 = true
  c57 : P.cellsOf 57 = 1
  a57 : aggT P 57 = false
  z57 : zbox P 57 = some (A.nfn, 8)
  s58 : isSliceT P 58 = false
  t58 : isStrT P 58 = false
  h58 : hasU P 58 = true
  c58 : P.cellsOf 58 = 1
  a58 : aggT P 58 = false
  z58 : zbox P 58 = some (A.nfn, 8)
  s59 : isSliceT P 59 = false
  t59 : isStrT P 59 = false
  h59 : hasU P 59 = true
  c59 : P.cellsOf 59 = 1
  a59 : aggT P 59 = false
  z59 : zbox P 59 = some (A.nfn, 8)
  s61 : isSliceT P 61 = false
  t61 : isStrT P 61 = false
  h61 : hasU P 61 = true
  c61 : P.cellsOf 61 = 1
  a61 : aggT P 61 = false
  z61 : zbox P 61 = some (A.nfn, 8)
  s62 : isSliceT P 62 = false
  t62 : isStrT P 62 = false
  h62 : hasU P 62 = true
  c62 : P.cellsOf 62 = 1
  a62 : aggT P 62 = false
  z62 : zbox P 62 = some (A.nfn, 8)
  s63 : isSliceT P 63 = false
  t63 : isStrT P 63 = false
  h63 : hasU P 63 = true
  c63 : P.cellsOf 63 = 1
  a63 : aggT P 63 = false
  z63 : zbox P 63 = some (A.nfn, 8)
  s64 : isSliceT P 64 = false
  t64 : isStrT P 64 = false
  h64 : hasU P 64 = true
  c64 : P.cellsOf 64 = 1
  a64 : aggT P 64 = false
  z64 : zbox P 64 = some (A.nfn, 8)
  s65 : isSliceT P 65 = false
  t65 : isStrT P 65 = false
  h65 : hasU P 65 = true
  c65 : P.cellsOf 65 = 1
  a65 : aggT P 65 = false
  z65 : zbox P 65 = some (A.nfn, 8)
  u66 : P.underlying 66 = some (.slice 9)
  s66 : isSliceT P 66 = true
  l66 : selem P 66 = 9
  t66 : isStrT P 66 = false
  h66 : hasU P 66 = true
  c66 : P.cellsOf 66 = 1
  a66 : aggT P 66 = false
  z66 : zbox P 66 = some (A.sl true [], 24)
  s67 : isSliceT P 67 = false
  t67 : isStrT P 67 = false
  h67 : hasU P 67 = true
  c67 : P.cellsOf 67 = 1
  a67 : aggT P 67 = false
  z67 : zbox P 67 = some (A.nfn, 8)
  s68 : isSliceT P 68 = false
  t68 : isStrT P 68 = false
  h68 : hasU P 68 = true
  c68 : P.cellsOf 68 = 1
  a68 : aggT P 68 = false
  z68 : zbox P 68 = some (A.nfn, 8)
  u71 : P.underlying 71 = some (.array 0 16)
  s71 : isSliceT P 71 = false
  t71 : isStrT P 71 = false
  r71 : arrT P 71 = some (0, 16)
  h71 : hasU P 71 = true
  n71 : bplan P 71 = none
  c71 : P.cellsOf 71 = 0
  a71 : aggT P 71 = true
  z71 : zbox P 71 = some (A.agg [], 0)
  b71 : aplan P 71 = some ([], 1)
  s74 : isSliceT P 74 = false
  t74 : isStrT P 74 = false
  h74 : hasU P 74 = true
  c74 : P.cellsOf 74 = 1
  a74 : aggT P 74 = false
  z74 : zbox P 74 = some (A.nfn, 8)
  u75 : P.underlying 75 = some (.int .u32)
  s75 : isSliceT P 75 = false
  t75 : isStrT P 75 = false
  h75 : hasU P 75 = true
  i75 : intT P 75 = some .u32
  c75 : P.cellsOf 75 = 1
  a75 : aggT P 75 = false
  z75 : zbox P 75 = some (A.int .u32 0, 4)
  s78 : isSliceT P 78 = false
  t78 : isStrT P 78 = false
  h78 : hasU P 78 = true
  c78 : P.cellsOf 78 = 1
  a78 : aggT P 78 = false
  z78 : zbox P 78 = some (A.nfn, 8)
  g82_0 : fld P 82 0 = some (12, 0)
  g82_1 : fld P 82 1 = some (12, 1)
  g82_2 : fld P 82 2 = some (75, 2)
  g82_3 : fld P 82 3 = some (76, 3)
  g82_4 : fld P 82 4 = some (5, 4)
  g82_5 : fld P 82 5 = some (5, 5)
  g82_6 : fld P 82 6 = some (77, 6)
  g82_7 : fld P 82 7 = some (78, 7)
  g82_8 : fld P 82 8 = some (79, 8)
  g82_9 : fld P 82 9 = some (80, 9)
  g82_10 : fld P 82 10 = some (81, 10)
  s82 : isSliceT P 82 = false
  t82 : isStrT P 82 = false
  h82 : hasU P 82 = true
  w82 : ftl P 82 = some [(12, 0), (12, 1), (75, 2), (76, 3), (5, 4), (5, 5), (77, 6), (78, 7), (79, 8), (80, 9), (81, 10)]
  c82 : P.cellsOf 82 = 11
  a82 : aggT P 82 = true
  z82 : zbox P 82 = some (A.agg [A.int .u64 0, A.int .u64 0, A.int .u32 0, A.int .u8 0, A.int .u8 0, A.int .u8 0, A.int .u8 0, A.nfn, A.nptr, A.int .i32 0, A.int .i32 0], 48)
  b82 : bplan P 82 = some ([A.int .u64 0, A.int .u64 0, A.int .u32 0, A.int .u8 0, A.int .u8 0, A.int .u8 0, A.int .u8 0, A.nfn, A.nptr, A.int .i32 0, A.int .i32 0], [(0, 1), (1, 1), (2, 1), (3, 1), (4, 1), (5, 1), (6, 1), (7, 1), (8, 1), (9, 1), (10, 1)])
  q0 : P.cellsOf 4294967295 = 0
  mo : P.follows .mixedOrders = true
  f0 : P.funcs[0]? = some Try.f0
  f1 : P.funcs[1]? = some Try.f1
  f2 : P.funcs[2]? = some Try.f2
  f3 : P.funcs[3]? = some Try.f3
  f4 : P.funcs[4]? = some Try.f4
  f5 : P.funcs[5]? = some Try.f5
  f6 : P.funcs[6]? = some Try.f6
  f7 : P.funcs[7]? = some Try.f7
  f8 : P.funcs[8]? = some Try.f8
  f9 : P.funcs[9]? = some Try.f9
  f10 : P.funcs[10]? = some Try.f10
  f11 : P.funcs[11]? = some Try.f11
  f12 : P.funcs[12]? = some Try.f12
  f13 : P.funcs[13]? = some Try.f13
  f14 : P.funcs[14]? = some Try.f14
  f15 : P.funcs[15]? = some Try.f15
  f16 : P.funcs[16]? = some Try.f16
  f17 : P.funcs[17]? = some Try.f17
  f18 : P.funcs[18]? = some Try.f18
  f19 : P.funcs[19]? = some Try.f19
  f20 : P.funcs[20]? = some Try.f20
  f21 : P.funcs[21]? = some Try.f21
  f22 : P.funcs[22]? = some Try.f22
  f23 : P.funcs[23]? = some Try.f23
  f24 : P.funcs[24]? = some Try.f24
  f25 : P.funcs[25]? = some Try.f25
  f26 : P.funcs[26]? = some Try.f26
  f27 : P.funcs[27]? = some Try.f27
  f28 : P.funcs[28]? = some Try.f28
  f29 : P.funcs[29]? = some Try.f29
  f30 : P.funcs[30]? = some Try.f30
  f31 : P.funcs[31]? = some Try.f31
  f32 : P.funcs[32]? = some Try.f32
  f33 : P.funcs[33]? = some Try.f33
  f34 : P.funcs[34]? = some Try.f34
  f35 : P.funcs[35]? = some Try.f35
  f36 : P.funcs[36]? = some Try.f36
  f37 : P.funcs[37]? = some Try.f37
  f38 : P.funcs[38]? = some Try.f38
  f39 : P.funcs[39]? = some Try.f39
  f40 : P.funcs[40]? = some Try.f40
  f41 : P.funcs[41]? = some Try.f41
  f42 : P.funcs[42]? = some Try.f42
  f43 : P.funcs[43]? = some Try.f43
  f44 : P.funcs[44]? = some Try.f44
  f45 : P.funcs[45]? = some Try.f45
  f46 : P.funcs[46]? = some Try.f46
  f47 : P.funcs[47]? = some Try.f47
  f48 : P.funcs[48]? = some Try.f48
  f49 : P.funcs[49]? = some Try.f49
  f50 : P.funcs[50]? = some Try.f50
  f51 : P.funcs[51]? = some Try.f51
  f52 : P.funcs[52]? = some Try.f52
  f53 : P.funcs[53]? = some Try.f53
  f54 : P.funcs[54]? = some Try.f54
  f55 : P.funcs[55]? = some Try.f55
  f56 : P.funcs[56]? = some Try.f56
  f57 : P.funcs[57]? = some Try.f57
  f58 : P.funcs[58]? = some Try.f58
  f59 : P.funcs[59]? = some Try.f59
  f60 : P.funcs[60]? = some Try.f60
  f61 : P.funcs[61]? = some Try.f61
  f62 : P.funcs[62]? = some Try.f62
  f63 : P.funcs[63]? = some Try.f63
  f64 : P.funcs[64]? = some Try.f64
  f65 : P.funcs[65]? = some Try.f65
  f66 : P.funcs[66]? = some Try.f66
  f67 : P.funcs[67]? = some Try.f67
  f68 : P.funcs[68]? = some Try.f68
  f69 : P.funcs[69]? = some Try.f69
  f70 : P.funcs[70]? = some Try.f70
  f71 : P.funcs[71]? = some Try.f71
  f72 : P.funcs[72]? = some Try.f72
  f73 : P.funcs[73]? = some Try.f73
  f74 : P.funcs[74]? = some Try.f74
  f75 : P.funcs[75]? = some Try.f75
  f76 : P.funcs[76]? = some Try.f76
  f77 : P.funcs[77]? = some Try.f77
  f78 : P.funcs[78]? = some Try.f78
  f79 : P.funcs[79]? = some Try.f79
  f80 : P.funcs[80]? = some Try.f80
  f81 : P.funcs[81]? = some Try.f81
  f82 : P.funcs[82]? = some Try.f82
  f83 : P.funcs[83]? = some Try.f83
  f84 : P.funcs[84]? = some Try.f84
  f85 : P.funcs[85]? = some Try.f85
  f86 : P.funcs[86]? = some Try.f86
  f87 : P.funcs[87]? = some Try.f87
  f88 : P.funcs[88]? = some Try.f88

section
variable {P : Program}
@[simp] theorem s1_ [h : Facts P] : isSliceT P 1 = false := h.s1
@[simp] theorem t1_ [h : Facts P] : isStrT P 1 = false := h.t1
@[simp] theorem h1_ [h : Facts P] : hasU P 1 = true := h.h1
@[simp] theorem c1_ [h : Facts P] : P.cellsOf 1 = 1 := h.c1
@[simp] theorem a1_ [h : Facts P] : aggT P 1 = false := h.a1
@[simp] theorem z1_ [h : Facts P] : zbox P 1 = some (A.nfn, 8) := h.z1
@[simp] theorem u2_ [h : Facts P] : P.underlying 2 = some (.int .i64) := h.u2
@[simp] theorem s2_ [h : Facts P] : isSliceT P 2 = false := h.s2
@[simp] theorem t2_ [h : Facts P] : isStrT P 2 = false := h.t2
@[simp] theorem h2_ [h : Facts P] : hasU P 2 = true := h.h2
@[simp] theorem i2_ [h : Facts P] : intT P 2 = some .i64 := h.i2
@[simp] theorem c2_ [h : Facts P] : P.cellsOf 2 = 1 := h.c2
@[simp] theorem a2_ [h : Facts P] : aggT P 2 = false := h.a2
@[simp] theorem z2_ [h : Facts P] : zbox P 2 = some (A.int .i64 0, 8) := h.z2
@[simp] theorem u3_ [h : Facts P] : P.underlying 3 = some (.int .i64) := h.u3
@[simp] theorem s3_ [h : Facts P] : isSliceT P 3 = false := h.s3
@[simp] theorem t3_ [h : Facts P] : isStrT P 3 = false := h.t3
@[simp] theorem h3_ [h : Facts P] : hasU P 3 = true := h.h3
@[simp] theorem i3_ [h : Facts P] : intT P 3 = some .i64 := h.i3
@[simp] theorem c3_ [h : Facts P] : P.cellsOf 3 = 1 := h.c3
@[simp] theorem a3_ [h : Facts P] : aggT P 3 = false := h.a3
@[simp] theorem z3_ [h : Facts P] : zbox P 3 = some (A.int .i64 0, 8) := h.z3
@[simp] theorem u4_ [h : Facts P] : P.underlying 4 = some (.bool) := h.u4
@[simp] theorem s4_ [h : Facts P] : isSliceT P 4 = false := h.s4
@[simp] theorem t4_ [h : Facts P] : isStrT P 4 = false := h.t4
@[simp] theorem h4_ [h : Facts P] : hasU P 4 = true := h.h4
@[simp] theorem d4_ [h : Facts P] : isBoolT P 4 = true := h.d4
@[simp] theorem c4_ [h : Facts P] : P.cellsOf 4 = 1 := h.c4
@[simp] theorem a4_ [h : Facts P] : aggT P 4 = false := h.a4
@[simp] theorem z4_ [h : Facts P] : zbox P 4 = some (A.bool false, 1) := h.z4
@[simp] theorem u5_ [h : Facts P] : P.underlying 5 = some (.int .u8) := h.u5
@[simp] theorem s5_ [h : Facts P] : isSliceT P 5 = false := h.s5
@[simp] theorem t5_ [h : Facts P] : isStrT P 5 = false := h.t5
@[simp] theorem h5_ [h : Facts P] : hasU P 5 = true := h.h5
@[simp] theorem i5_ [h : Facts P] : intT P 5 = some .u8 := h.i5
@[simp] theorem c5_ [h : Facts P] : P.cellsOf 5 = 1 := h.c5
@[simp] theorem a5_ [h : Facts P] : aggT P 5 = false := h.a5
@[simp] theorem z5_ [h : Facts P] : zbox P 5 = some (A.int .u8 0, 1) := h.z5
@[simp] theorem u9_ [h : Facts P] : P.underlying 9 = some (.string) := h.u9
@[simp] theorem s9_ [h : Facts P] : isSliceT P 9 = false := h.s9
@[simp] theorem t9_ [h : Facts P] : isStrT P 9 = true := h.t9
@[simp] theorem h9_ [h : Facts P] : hasU P 9 = true := h.h9
@[simp] theorem c9_ [h : Facts P] : P.cellsOf 9 = 1 := h.c9
@[simp] theorem a9_ [h : Facts P] : aggT P 9 = false := h.a9
@[simp] theorem z9_ [h : Facts P] : zbox P 9 = some (A.str [], 16) := h.z9
@[simp] theorem u12_ [h : Facts P] : P.underlying 12 = some (.int .u64) := h.u12
@[simp] theorem s12_ [h : Facts P] : isSliceT P 12 = false := h.s12
@[simp] theorem t12_ [h : Facts P] : isStrT P 12 = false := h.t12
@[simp] theorem h12_ [h : Facts P] : hasU P 12 = true := h.h12
@[simp] theorem i12_ [h : Facts P] : intT P 12 = some .u64 := h.i12
@[simp] theorem c12_ [h : Facts P] : P.cellsOf 12 = 1 := h.c12
@[simp] theorem a12_ [h : Facts P] : aggT P 12 = false := h.a12
@[simp] theorem z12_ [h : Facts P] : zbox P 12 = some (A.int .u64 0, 8) := h.z12
@[simp] theorem u21_ [h : Facts P] : P.underlying 21 = some (.int .i32) := h.u21
@[simp] theorem s21_ [h : Facts P] : isSliceT P 21 = false := h.s21
@[simp] theorem t21_ [h : Facts P] : isStrT P 21 = false := h.t21
@[simp] theorem h21_ [h : Facts P] : hasU P 21 = true := h.h21
@[simp] theorem i21_ [h : Facts P] : intT P 21 = some .i32 := h.i21
@[simp] theorem c21_ [h : Facts P] : P.cellsOf 21 = 1 := h.c21
@[simp] theorem a21_ [h : Facts P] : aggT P 21 = false := h.a21
@[simp] theorem z21_ [h : Facts P] : zbox P 21 = some (A.int .i32 0, 4) := h.z21
@[simp] theorem u22_ [h : Facts P] : P.underlying 22 = some (.int .i64) := h.u22
@[simp] theorem s22_ [h : Facts P] : isSliceT P 22 = false := h.s22
@[simp] theorem t22_ [h : Facts P] : isStrT P 22 = false := h.t22
@[simp] theorem h22_ [h : Facts P] : hasU P 22 = true := h.h22
@[simp] theorem i22_ [h : Facts P] : intT P 22 = some .i64 := h.i22
@[simp] theorem c22_ [h : Facts P] : P.cellsOf 22 = 1 := h.c22
@[simp] theorem a22_ [h : Facts P] : aggT P 22 = false := h.a22
@[simp] theorem z22_ [h : Facts P] : zbox P 22 = some (A.int .i64 0, 8) := h.z22
@[simp] theorem s23_ [h : Facts P] : isSliceT P 23 = false := h.s23
@[simp] theorem t23_ [h : Facts P] : isStrT P 23 = false := h.t23
@[simp] theorem h23_ [h : Facts P] : hasU P 23 = true := h.h23
@[simp] theorem c23_ [h : Facts P] : P.cellsOf 23 = 1 := h.c23
@[simp] theorem a23_ [h : Facts P] : aggT P 23 = false := h.a23
@[simp] theorem z23_ [h : Facts P] : zbox P 23 = some (A.nfn, 8) := h.z23
@[simp] theorem s24_ [h : Facts P] : isSliceT P 24 = false := h.s24
@[simp] theorem t24_ [h : Facts P] : isStrT P 24 = false := h.t24
@[simp] theorem h24_ [h : Facts P] : hasU P 24 = true := h.h24
@[simp] theorem c24_ [h : Facts P] : P.cellsOf 24 = 1 := h.c24
@[simp] theorem a24_ [h : Facts P] : aggT P 24 = false := h.a24
@[simp] theorem z24_ [h : Facts P] : zbox P 24 = some (A.nfn, 8) := h.z24
@[simp] theorem s25_ [h : Facts P] : isSliceT P 25 = false := h.s25
@[simp] theorem t25_ [h : Facts P] : isStrT P 25 = false := h.t25
@[simp] theorem h25_ [h : Facts P] : hasU P 25 = true := h.h25
@[simp] theorem c25_ [h : Facts P] : P.cellsOf 25 = 1 := h.c25
@[simp] theorem a25_ [h : Facts P] : aggT P 25 = false := h.a25
@[simp] theorem z25_ [h : Facts P] : zbox P 25 = some (A.nfn, 8) := h.z25
@[simp] theorem s26_ [h : Facts P] : isSliceT P 26 = false := h.s26
@[simp] theorem t26_ [h : Facts P] : isStrT P 26 = false := h.t26
@[simp] theorem h26_ [h : Facts P] : hasU P 26 = true := h.h26
@[simp] theorem c26_ [h : Facts P] : P.cellsOf 26 = 1 := h.c26
@[simp] theorem a26_ [h : Facts P] : aggT P 26 = false := h.a26
@[simp] theorem z26_ [h : Facts P] : zbox P 26 = some (A.nfn, 8) := h.z26
@[simp] theorem u27_ [h : Facts P] : P.underlying 27 = some (.slice 3) := h.u27
@[simp] theorem s27_ [h : Facts P] : isSliceT P 27 = true := h.s27
@[simp] theorem l27_ [h : Facts P] : selem P 27 = 3 := h.l27
@[simp] theorem t27_ [h : Facts P] : isStrT P 27 = false := h.t27
@[simp] theorem h27_ [h : Facts P] : hasU P 27 = true := h.h27
@[simp] theorem c27_ [h : Facts P] : P.cellsOf 27 = 1 := h.c27
@[simp] theorem a27_ [h : Facts P] : aggT P 27 = false := h.a27
@[simp] theorem z27_ [h : Facts P] : zbox P 27 = some (A.sl true [], 24) := h.z27
@[simp] theorem g28_0_ [h : Facts P] : fld P 28 0 = some (3, 0) := h.g28_0
@[simp] theorem g28_1_ [h : Facts P] : fld P 28 1 = some (27, 1) := h.g28_1
@[simp] theorem g28_2_ [h : Facts P] : fld P 28 2 = some (27, 2) := h.g28_2
@[simp] theorem g28_3_ [h : Facts P] : fld P 28 3 = some (27, 3) := h.g28_3
@[simp] theorem g28_4_ [h : Facts P] : fld P 28 4 = some (27, 4) := h.g28_4
@[simp] theorem g28_5_ [h : Facts P] : fld P 28 5 = some (27, 5) := h.g28_5
@[simp] theorem s28_ [h : Facts P] : isSliceT P 28 = false := h.s28
@[simp] theorem t28_ [h : Facts P] : isStrT P 28 = false := h.t28
@[simp] theorem h28_ [h : Facts P] : hasU P 28 = true := h.h28
@[simp] theorem w28_ [h : Facts P] : ftl P 28 = some [(3, 0), (27, 1), (27, 2), (27, 3), (27, 4), (27, 5)] := h.w28
@[simp] theorem c28_ [h : Facts P] : P.cellsOf 28 = 6 := h.c28
@[simp] theorem a28_ [h : Facts P] : aggT P 28 = true := h.a28
@[simp] theorem z28_ [h : Facts P] : zbox P 28 = some (A.agg [A.int .i64 0, A.sl true [], A.sl true [], A.sl true [], A.sl true [], A.sl true []], 128) := h.z28
@[simp] theorem b28_ [h : Facts P] : bplan P 28 = some ([A.int .i64 0, A.sl true [], A.sl true [], A.sl true [], A.sl true [], A.sl true []], [(0, 1), (1, 1), (2, 1), (3, 1), (4, 1), (5, 1)]) := h.b28
@[simp] theorem g29_0_ [h : Facts P] : fld P 29 0 = some (3, 0) := h.g29_0
@[simp] theorem g29_1_ [h : Facts P] : fld P 29 1 = some (27, 1) := h.g29_1
@[simp] theorem g29_2_ [h : Facts P] : fld P 29 2 = some (27, 2) := h.g29_2
@[simp] theorem g29_3_ [h : Facts P] : fld P 29 3 = some (27, 3) := h.g29_3
@[simp] theorem g29_4_ [h : Facts P] : fld P 29 4 = some (27, 4) := h.g29_4
@[simp] theorem g29_5_ [h : Facts P] : fld P 29 5 = some (27, 5) := h.g29_5
@[simp] theorem s29_ [h : Facts P] : isSliceT P 29 = false := h.s29
@[simp] theorem t29_ [h : Facts P] : isStrT P 29 = false := h.t29
@[simp] theorem h29_ [h : Facts P] : hasU P 29 = true := h.h29
@[simp] theorem w29_ [h : Facts P] : ftl P 29 = some [(3, 0), (27, 1), (27, 2), (27, 3), (27, 4), (27, 5)] := h.w29
@[simp] theorem c29_ [h : Facts P] : P.cellsOf 29 = 6 := h.c29
@[simp] theorem a29_ [h : Facts P] : aggT P 29 = true := h.a29
@[simp] theorem z29_ [h : Facts P] : zbox P 29 = some (A.agg [A.int .i64 0, A.sl true [], A.sl true [], A.sl true [], A.sl true [], A.sl true []], 128) := h.z29
@[simp] theorem b29_ [h : Facts P] : bplan P 29 = some ([A.int .i64 0, A.sl true [], A.sl true [], A.sl true [], A.sl true [], A.sl true []], [(0, 1), (1, 1), (2, 1), (3, 1), (4, 1), (5, 1)]) := h.b29
@[simp] theorem u30_ [h : Facts P] : P.underlying 30 = some (.slice 32) := h.u30
@[simp] theorem s30_ [h : Facts P] : isSliceT P 30 = true := h.s30
@[simp] theorem l30_ [h : Facts P] : selem P 30 = 32 := h.l30
@[simp] theorem t30_ [h : Facts P] : isStrT P 30 = false := h.t30
@[simp] theorem h30_ [h : Facts P] : hasU P 30 = true := h.h30
@[simp] theorem c30_ [h : Facts P] : P.cellsOf 30 = 1 := h.c30
@[simp] theorem a30_ [h : Facts P] : aggT P 30 = false := h.a30
@[simp] theorem z30_ [h : Facts P] : zbox P 30 = some (A.sl true [], 24) := h.z30
@[simp] theorem g31_0_ [h : Facts P] : fld P 31 0 = some (22, 0) := h.g31_0
@[simp] theorem g31_1_ [h : Facts P] : fld P 31 1 = some (9, 1) := h.g31_1
@[simp] theorem g31_2_ [h : Facts P] : fld P 31 2 = some (3, 2) := h.g31_2
@[simp] theorem g31_3_ [h : Facts P] : fld P 31 3 = some (30, 3) := h.g31_3
@[simp] theorem s31_ [h : Facts P] : isSliceT P 31 = false := h.s31
@[simp] theorem t31_ [h : Facts P] : isStrT P 31 = false := h.t31
@[simp] theorem h31_ [h : Facts P] : hasU P 31 = true := h.h31
@[simp] theorem w31_ [h : Facts P] : ftl P 31 = some [(22, 0), (9, 1), (3, 2), (30, 3)] := h.w31
@[simp] theorem c31_ [h : Facts P] : P.cellsOf 31 = 4 := h.c31
@[simp] theorem a31_ [h : Facts P] : aggT P 31 = true := h.a31
@[simp] theorem z31_ [h : Facts P] : zbox P 31 = some (A.agg [A.int .i64 0, A.str [], A.int .i64 0, A.sl true []], 56) := h.z31
@[simp] theorem b31_ [h : Facts P] : bplan P 31 = some ([A.int .i64 0, A.str [], A.int .i64 0, A.sl true []], [(0, 1), (1, 1), (2, 1), (3, 1)]) := h.b31
@[simp] theorem g32_0_ [h : Facts P] : fld P 32 0 = some (22, 0) := h.g32_0
@[simp] theorem g32_1_ [h : Facts P] : fld P 32 1 = some (9, 1) := h.g32_1
@[simp] theorem g32_2_ [h : Facts P] : fld P 32 2 = some (3, 2) := h.g32_2
@[simp] theorem g32_3_ [h : Facts P] : fld P 32 3 = some (30, 3) := h.g32_3
@[simp] theorem s32_ [h : Facts P] : isSliceT P 32 = false := h.s32
@[simp] theorem t32_ [h : Facts P] : isStrT P 32 = false := h.t32
@[simp] theorem h32_ [h : Facts P] : hasU P 32 = true := h.h32
@[simp] theorem w32_ [h : Facts P] : ftl P 32 = some [(22, 0), (9, 1), (3, 2), (30, 3)] := h.w32
@[simp] theorem c32_ [h : Facts P] : P.cellsOf 32 = 4 := h.c32
@[simp] theorem a32_ [h : Facts P] : aggT P 32 = true := h.a32
@[simp] theorem z32_ [h : Facts P] : zbox P 32 = some (A.agg [A.int .i64 0, A.str [], A.int .i64 0, A.sl true []], 56) := h.z32
@[simp] theorem b32_ [h : Facts P] : bplan P 32 = some ([A.int .i64 0, A.str [], A.int .i64 0, A.sl true []], [(0, 1), (1, 1), (2, 1), (3, 1)]) := h.b32
@[simp] theorem s33_ [h : Facts P] : isSliceT P 33 = false := h.s33
@[simp] theorem t33_ [h : Facts P] : isStrT P 33 = false := h.t33
@[simp] theorem h33_ [h : Facts P] : hasU P 33 = true := h.h33
@[simp] theorem c33_ [h : Facts P] : P.cellsOf 33 = 1 := h.c33
@[simp] theorem a33_ [h : Facts P] : aggT P 33 = false := h.a33
@[simp] theorem z33_ [h : Facts P] : zbox P 33 = some (A.nfn, 8) := h.z33
@[simp] theorem u34_ [h : Facts P] : P.underlying 34 = some (.int .i64) := h.u34
@[simp] theorem s34_ [h : Facts P] : isSliceT P 34 = false := h.s34
@[simp] theorem t34_ [h : Facts P] : isStrT P 34 = false := h.t34
@[simp] theorem h34_ [h : Facts P] : hasU P 34 = true := h.h34
@[simp] theorem i34_ [h : Facts P] : intT P 34 = some .i64 := h.i34
@[simp] theorem c34_ [h : Facts P] : P.cellsOf 34 = 1 := h.c34
@[simp] theorem a34_ [h : Facts P] : aggT P 34 = false := h.a34
@[simp] theorem z34_ [h : Facts P] : zbox P 34 = some (A.int .i64 0, 8) := h.z34
@[simp] theorem s35_ [h : Facts P] : isSliceT P 35 = false := h.s35
@[simp] theorem t35_ [h : Facts P] : isStrT P 35 = false := h.t35
@[simp] theorem h35_ [h : Facts P] : hasU P 35 = true := h.h35
@[simp] theorem c35_ [h : Facts P] : P.cellsOf 35 = 1 := h.c35
@[simp] theorem a35_ [h : Facts P] : aggT P 35 = false := h.a35
@[simp] theorem z35_ [h : Facts P] : zbox P 35 = some (A.nfn, 8) := h.z35
@[simp] theorem s36_ [h : Facts P] : isSliceT P 36 = false := h.s36
@[simp] theorem t36_ [h : Facts P] : isStrT P 36 = false := h.t36
@[simp] theorem h36_ [h : Facts P] : hasU P 36 = true := h.h36
@[simp] theorem c36_ [h : Facts P] : P.cellsOf 36 = 1 := h.c36
@[simp] theorem a36_ [h : Facts P] : aggT P 36 = false := h.a36
@[simp] theorem z36_ [h : Facts P] : zbox P 36 = some (A.nfn, 8) := h.z36
@[simp] theorem s37_ [h : Facts P] : isSliceT P 37 = false := h.s37
@[simp] theorem t37_ [h : Facts P] : isStrT P 37 = false := h.t37
@[simp] theorem h37_ [h : Facts P] : hasU P 37 = true := h.h37
@[simp] theorem c37_ [h : Facts P] : P.cellsOf 37 = 1 := h.c37
@[simp] theorem a37_ [h : Facts P] : aggT P 37 = false := h.a37
@[simp] theorem z37_ [h : Facts P] : zbox P 37 = some (A.nfn, 8) := h.z37
@[simp] theorem s38_ [h : Facts P] : isSliceT P 38 = false := h.s38
@[simp] theorem t38_ [h : Facts P] : isStrT P 38 = false := h.t38
@[simp] theorem h38_ [h : Facts P] : hasU P 38 = true := h.h38
@[simp] theorem c38_ [h : Facts P] : P.cellsOf 38 = 1 := h.c38
@[simp] theorem a38_ [h : Facts P] : aggT P 38 = false := h.a38
@[simp] theorem z38_ [h : Facts P] : zbox P 38 = some (A.nfn, 8) := h.z38
@[simp] theorem s39_ [h : Facts P] : isSliceT P 39 = false := h.s39
@[simp] theorem t39_ [h : Facts P] : isStrT P 39 = false := h.t39
@[simp] theorem h39_ [h : Facts P] : hasU P 39 = true := h.h39
@[simp] theorem c39_ [h : Facts P] : P.cellsOf 39 = 1 := h.c39
@[simp] theorem a39_ [h : Facts P] : aggT P 39 = false := h.a39
@[simp] theorem z39_ [h : Facts P] : zbox P 39 = some (A.nfn, 8) := h.z39
@[simp] theorem s40_ [h : Facts P] : isSliceT P 40 = false := h.s40
@[simp] theorem t40_ [h : Facts P] : isStrT P 40 = false := h.t40
@[simp] theorem h40_ [h : Facts P] : hasU P 40 = true := h.h40
@[simp] theorem c40_ [h : Facts P] : P.cellsOf 40 = 1 := h.c40
@[simp] theorem a40_ [h : Facts P] : aggT P 40 = false := h.a40
@[simp] theorem z40_ [h : Facts P] : zbox P 40 = some (A.nfn, 8) := h.z40
@[simp] theorem s41_ [h : Facts P] : isSliceT P 41 = false := h.s41
@[simp] theorem t41_ [h : Facts P] : isStrT P 41 = false := h.t41
@[simp] theorem h41_ [h : Facts P] : hasU P 41 = true := h.h41
@[simp] theorem c41_ [h : Facts P] : P.cellsOf 41 = 1 := h.c41
@[simp] theorem a41_ [h : Facts P] : aggT P 41 = false := h.a41
@[simp] theorem z41_ [h : Facts P] : zbox P 41 = some (A.nfn, 8) := h.z41
@[simp] theorem s42_ [h : Facts P] : isSliceT P 42 = false := h.s42
@[simp] theorem t42_ [h : Facts P] : isStrT P 42 = false := h.t42
@[simp] theorem h42_ [h : Facts P] : hasU P 42 = true := h.h42
@[simp] theorem c42_ [h : Facts P] : P.cellsOf 42 = 1 := h.c42
@[simp] theorem a42_ [h : Facts P] : aggT P 42 = false := h.a42
@[simp] theorem z42_ [h : Facts P] : zbox P 42 = some (A.nfn, 8) := h.z42
@[simp] theorem s43_ [h : Facts P] : isSliceT P 43 = false := h.s43
@[simp] theorem t43_ [h : Facts P] : isStrT P 43 = false := h.t43
@[simp] theorem h43_ [h : Facts P] : hasU P 43 = true := h.h43
@[simp] theorem c43_ [h : Facts P] : P.cellsOf 43 = 1 := h.c43
@[simp] theorem a43_ [h : Facts P] : aggT P 43 = false := h.a43
@[simp] theorem z43_ [h : Facts P] : zbox P 43 = some (A.nfn, 8) := h.z43
@[simp] theorem s44_ [h : Facts P] : isSliceT P 44 = false := h.s44
@[simp] theorem t44_ [h : Facts P] : isStrT P 44 = false := h.t44
@[simp] theorem h44_ [h : Facts P] : hasU P 44 = true := h.h44
@[simp] theorem c44_ [h : Facts P] : P.cellsOf 44 = 1 := h.c44
@[simp] theorem a44_ [h : Facts P] : aggT P 44 = false := h.a44
@[simp] theorem z44_ [h : Facts P] : zbox P 44 = some (A.nfn, 8) := h.z44
@[simp] theorem s45_ [h : Facts P] : isSliceT P 45 = false := h.s45
@[simp] theorem t45_ [h : Facts P] : isStrT P 45 = false := h.t45
@[simp] theorem h45_ [h : Facts P] : hasU P 45 = true := h.h45
@[simp] theorem c45_ [h : Facts P] : P.cellsOf 45 = 1 := h.c45
@[simp] theorem a45_ [h : Facts P] : aggT P 45 = false := h.a45
@[simp] theorem z45_ [h : Facts P] : zbox P 45 = some (A.nfn, 8) := h.z45
@[simp] theorem s46_ [h : Facts P] : isSliceT P 46 = false := h.s46
@[simp] theorem t46_ [h : Facts P] : isStrT P 46 = false := h.t46
@[simp] theorem h46_ [h : Facts P] : hasU P 46 = true := h.h46
@[simp] theorem c46_ [h : Facts P] : P.cellsOf 46 = 1 := h.c46
@[simp] theorem a46_ [h : Facts P] : aggT P 46 = false := h.a46
@[simp] theorem z46_ [h : Facts P] : zbox P 46 = some (A.nfn, 8) := h.z46
@[simp] theorem s47_ [h : Facts P] : isSliceT P 47 = false := h.s47
@[simp] theorem t47_ [h : Facts P] : isStrT P 47 = false := h.t47
@[simp] theorem h47_ [h : Facts P] : hasU P 47 = true := h.h47
@[simp] theorem c47_ [h : Facts P] : P.cellsOf 47 = 1 := h.c47
@[simp] theorem a47_ [h : Facts P] : aggT P 47 = false := h.a47
@[simp] theorem z47_ [h : Facts P] : zbox P 47 = some (A.nfn, 8) := h.z47
@[simp] theorem g48_0_ [h : Facts P] : fld P 48 0 = some (4, 0) := h.g48_0
@[simp] theorem s48_ [h : Facts P] : isSliceT P 48 = false := h.s48
@[simp] theorem t48_ [h : Facts P] : isStrT P 48 = false := h.t48
@[simp] theorem h48_ [h : Facts P] : hasU P 48 = true := h.h48
@[simp] theorem w48_ [h : Facts P] : ftl P 48 = some [(4, 0)] := h.w48
@[simp] theorem c48_ [h : Facts P] : P.cellsOf 48 = 1 := h.c48
@[simp] theorem a48_ [h : Facts P] : aggT P 48 = true := h.a48
@[simp] theorem z48_ [h : Facts P] : zbox P 48 = some (A.agg [A.bool false], 1) := h.z48
@[simp] theorem b48_ [h : Facts P] : bplan P 48 = some ([A.bool false], [(0, 1)]) := h.b48
@[simp] theorem e48_ [h : Facts P] : eqT P 48 = some [1] := h.e48
@[simp] theorem g49_0_ [h : Facts P] : fld P 49 0 = some (4, 0) := h.g49_0
@[simp] theorem s49_ [h : Facts P] : isSliceT P 49 = false := h.s49
@[simp] theorem t49_ [h : Facts P] : isStrT P 49 = false := h.t49
@[simp] theorem h49_ [h : Facts P] : hasU P 49 = true := h.h49
@[simp] theorem w49_ [h : Facts P] : ftl P 49 = some [(4, 0)] := h.w49
@[simp] theorem c49_ [h : Facts P] : P.cellsOf 49 = 1 := h.c49
@[simp] theorem a49_ [h : Facts P] : aggT P 49 = true := h.a49
@[simp] theorem z49_ [h : Facts P] : zbox P 49 = some (A.agg [A.bool false], 1) := h.z49
@[simp] theorem b49_ [h : Facts P] : bplan P 49 = some ([A.bool false], [(0, 1)]) := h.b49
@[simp] theorem e49_ [h : Facts P] : eqT P 49 = some [1] := h.e49
@[simp] theorem u50_ [h : Facts P] : P.underlying 50 = some (.int .u64) := h.u50
@[simp] theorem s50_ [h : Facts P] : isSliceT P 50 = false := h.s50
@[simp] theorem t50_ [h : Facts P] : isStrT P 50 = false := h.t50
@[simp] theorem h50_ [h : Facts P] : hasU P 50 = true := h.h50
@[simp] theorem i50_ [h : Facts P] : intT P 50 = some .u64 := h.i50
@[simp] theorem c50_ [h : Facts P] : P.cellsOf 50 = 1 := h.c50
@[simp] theorem a50_ [h : Facts P] : aggT P 50 = false := h.a50
@[simp] theorem z50_ [h : Facts P] : zbox P 50 = some (A.int .u64 0, 8) := h.z50
@[simp] theorem s52_ [h : Facts P] : isSliceT P 52 = false := h.s52
@[simp] theorem t52_ [h : Facts P] : isStrT P 52 = false := h.t52
@[simp] theorem h52_ [h : Facts P] : hasU P 52 = true := h.h52
@[simp] theorem c52_ [h : Facts P] : P.cellsOf 52 = 1 := h.c52
@[simp] theorem a52_ [h : Facts P] : aggT P 52 = false := h.a52
@[simp] theorem z52_ [h : Facts P] : zbox P 52 = some (A.nfn, 8) := h.z52
@[simp] theorem s53_ [h : Facts P] : isSliceT P 53 = false := h.s53
@[simp] theorem t53_ [h : Facts P] : isStrT P 53 = false := h.t53
@[simp] theorem h53_ [h : Facts P] : hasU P 53 = true := h.h53
@[simp] theorem c53_ [h : Facts P] : P.cellsOf 53 = 1 := h.c53
@[simp] theorem a53_ [h : Facts P] : aggT P 53 = false := h.a53
@[simp] theorem z53_ [h : Facts P] : zbox P 53 = some (A.nfn, 8) := h.z53
@[simp] theorem s54_ [h : Facts P] : isSliceT P 54 = false := h.s54
@[simp] theorem t54_ [h : Facts P] : isStrT P 54 = false := h.t54
@[simp] theorem h54_ [h : Facts P] : hasU P 54 = true := h.h54
@[simp] theorem c54_ [h : Facts P] : P.cellsOf 54 = 1 := h.c54
@[simp] theorem a54_ [h : Facts P] : aggT P 54 = false := h.a54
@[simp] theorem z54_ [h : Facts P] : zbox P 54 = some (A.nfn, 8) := h.z54
@[simp] theorem s55_ [h : Facts P] : isSliceT P 55 = false := h.s55
@[simp] theorem t55_ [h : Facts P] : isStrT P 55 = false := h.t55
@[simp] theorem h55_ [h : Facts P] : hasU P 55 = true := h.h55
@[simp] theorem c55_ [h : Facts P] : P.cellsOf 55 = 1 := h.c55
@[simp] theorem a55_ [h : Facts P] : aggT P 55 = false := h.a55
@[simp] theorem z55_ [h : Facts P] : zbox P 55 = some (A.nfn, 8) := h.z55
@[simp] theorem u56_ [h : Facts P] : P.underlying 56 = some (.int .u64) := h.u56
@[simp] theorem s56_ [h : Facts P] : isSliceT P 56 = false := h.s56
@[simp] theorem t56_ [h : Facts P] : isStrT P 56 = false := h.t56
@[simp] theorem h56_ [h : Facts P] : hasU P 56 = true := h.h56
@[simp] theorem i56_ [h : Facts P] : intT P 56 = some .u64 := h.i56
@[simp] theorem c56_ [h : Facts P] : P.cellsOf 56 = 1 := h.c56
@[simp] theorem a56_ [h : Facts P] : aggT P 56 = false := h.a56
@[simp] theorem z56_ [h : Facts P] : zbox P 56 = some (A.int .u64 0, 8) := h.z56
@[simp] theorem s57_ [h : Facts P] : isSliceT P 57 = false := h.s57
@[simp] theorem t57_ [h : Facts P] : isStrT P 57 = false := h.t57
@[simp] theorem h57_ [h : Facts P] : hasU P 57 = true := h.h57
@[simp] theorem c57_ [h : Facts P] : P.cellsOf 57 = 1 := h.c57
@[simp] theorem a57_ [h : Facts P] : aggT P 57 = false := h.a57
@[simp] theorem z57_ [h : Facts P] : zbox P 57 = some (A.nfn, 8) := h.z57
@[simp] theorem s58_ [h : Facts P] : isSliceT P 58 = false := h.s58
@[simp] theorem t58_ [h : Facts P] : isStrT P 58 = false := h.t58
@[simp] theorem h58_ [h : Facts P] : hasU P 58 = true := h.h58
@[simp] theorem c58_ [h : Facts P] : P.cellsOf 58 = 1 := h.c58
@[simp] theorem a58_ [h : Facts P] : aggT P 58 = false := h.a58
@[simp] theorem z58_ [h : Facts P] : zbox P 58 = some (A.nfn, 8) := h.z58
@[simp] theorem s59_ [h : Facts P] : isSliceT P 59 = false := h.s59
@[simp] theorem t59_ [h : Facts P] : isStrT P 59 = false := h.t59
@[simp] theorem h59_ [h : Facts P] : hasU P 59 = true := h.h59
@[simp] theorem c59_ [h : Facts P] : P.cellsOf 59 = 1 := h.c59
@[simp] theorem a59_ [h : Facts P] : aggT P 59 = false := h.a59
@[simp] theorem z59_ [h : Facts P] : zbox P 59 = some (A.nfn, 8) := h.z59
@[simp] theorem s61_ [h : Facts P] : isSliceT P 61 = false := h.s61
@[simp] theorem t61_ [h : Facts P] : isStrT P 61 = false := h.t61
@[simp] theorem h61_ [h : Facts P] : hasU P 61 = true := h.h61
@[simp] theorem c61_ [h : Facts P] : P.cellsOf 61 = 1 := h.c61
@[simp] theorem a61_ [h : Facts P] : aggT P 61 = false := h.a61
@[simp] theorem z61_ [h : Facts P] : zbox P 61 = some (A.nfn, 8) := h.z61
@[simp] theorem s62_ [h : Facts P] : isSliceT P 62 = false := h.s62
@[simp] theorem t62_ [h : Facts P] : isStrT P 62 = false := h.t62
@[simp] theorem h62_ [h : Facts P] : hasU P 62 = true := h.h62
@[simp] theorem c62_ [h : Facts P] : P.cellsOf 62 = 1 := h.c62
@[simp] theorem a62_ [h : Facts P] : aggT P 62 = false := h.a62
@[simp] theorem z62_ [h : Facts P] : zbox P 62 = some (A.nfn, 8) := h.z62
@[simp] theorem s63_ [h : Facts P] : isSliceT P 63 = false := h.s63
@[simp] theorem t63_ [h : Facts P] : isStrT P 63 = false := h.t63
@[simp] theorem h63_ [h : Facts P] : hasU P 63 = true := h.h63
@[simp] theorem c63_ [h : Facts P] : P.cellsOf 63 = 1 := h.c63
@[simp] theorem a63_ [h : Facts P] : aggT P 63 = false := h.a63
@[simp] theorem z63_ [h : Facts P] : zbox P 63 = some (A.nfn, 8) := h.z63
@[simp] theorem s64_ [h : Facts P] : isSliceT P 64 = false := h.s64
@[simp] theorem t64_ [h : Facts P] : isStrT P 64 = false := h.t64
@[simp] theorem h64_ [h : Facts P] : hasU P 64 = true := h.h64
@[simp] theorem c64_ [h : Facts P] : P.cellsOf 64 = 1 := h.c64
@[simp] theorem a64_ [h : Facts P] : aggT P 64 = false := h.a64
@[simp] theorem z64_ [h : Facts P] : zbox P 64 = some (A.nfn, 8) := h.z64
@[simp] theorem s65_ [h : Facts P] : isSliceT P 65 = false := h.s65
@[simp] theorem t65_ [h : Facts P] : isStrT P 65 = false := h.t65
@[simp] theorem h65_ [h : Facts P] : hasU P 65 = true := h.h65
@[simp] theorem c65_ [h : Facts P] : P.cellsOf 65 = 1 := h.c65
@[simp] theorem a65_ [h : Facts P] : aggT P 65 = false := h.a65
@[simp] theorem z65_ [h : Facts P] : zbox P 65 = some (A.nfn, 8) := h.z65
@[simp] theorem u66_ [h : Facts P] : P.underlying 66 = some (.slice 9) := h.u66
@[simp] theorem s66_ [h : Facts P] : isSliceT P 66 = true := h.s66
@[simp] theorem l66_ [h : Facts P] : selem P 66 = 9 := h.l66
@[simp] theorem t66_ [h : Facts P] : isStrT P 66 = false := h.t66
@[simp] theorem h66_ [h : Facts P] : hasU P 66 = true := h.h66
@[simp] theorem c66_ [h : Facts P] : P.cellsOf 66 = 1 := h.c66
@[simp] theorem a66_ [h : Facts P] : aggT P 66 = false := h.a66
@[simp] theorem z66_ [h : Facts P] : zbox P 66 = some (A.sl true [], 24) := h.z66
@[simp] theorem s67_ [h : Facts P] : isSliceT P 67 = false := h.s67
@[simp] theorem t67_ [h : Facts P] : isStrT P 67 = false := h.t67
@[simp] theorem h67_ [h : Facts P] : hasU P 67 = true := h.h67
@[simp] theorem c67_ [h : Facts P] : P.cellsOf 67 = 1 := h.c67
@[simp] theorem a67_ [h : Facts P] : aggT P 67 = false := h.a67
@[simp] theorem z67_ [h : Facts P] : zbox P 67 = some (A.nfn, 8) := h.z67
@[simp] theorem s68_ [h : Facts P] : isSliceT P 68 = false := h.s68
@[simp] theorem t68_ [h : Facts P] : isStrT P 68 = false := h.t68
@[simp] theorem h68_ [h : Facts P] : hasU P 68 = true := h.h68
@[simp] theorem c68_ [h : Facts P] : P.cellsOf 68 = 1 := h.c68
@[simp] theorem a68_ [h : Facts P] : aggT P 68 = false := h.a68
@[simp] theorem z68_ [h : Facts P] : zbox P 68 = some (A.nfn, 8) := h.z68
@[simp] theorem u71_ [h : Facts P] : P.underlying 71 = some (.array 0 16) := h.u71
@[simp] theorem s71_ [h : Facts P] : isSliceT P 71 = false := h.s71
@[simp] theorem t71_ [h : Facts P] : isStrT P 71 = false := h.t71
@[simp] theorem r71_ [h : Facts P] : arrT P 71 = some (0, 16) := h.r71
@[simp] theorem h71_ [h : Facts P] : hasU P 71 = true := h.h71
@[simp] theorem n71_ [h : Facts P] : bplan P 71 = none := h.n71
@[simp] theorem c71_ [h : Facts P] : P.cellsOf 71 = 0 := h.c71
@[simp] theorem a71_ [h : Facts P] : aggT P 71 = true := h.a71
@[simp] theorem z71_ [h : Facts P] : zbox P 71 = some (A.agg [], 0) := h.z71
@[simp] theorem b71_ [h : Facts P] : aplan P 71 = some ([], 1) := h.b71
@[simp] theorem s74_ [h : Facts P] : isSliceT P 74 = false := h.s74
@[simp] theorem t74_ [h : Facts P] : isStrT P 74 = false := h.t74
@[simp] theorem h74_ [h : Facts P] : hasU P 74 = true := h.h74
@[simp] theorem c74_ [h : Facts P] : P.cellsOf 74 = 1 := h.c74
@[simp] theorem a74_ [h : Facts P] : aggT P 74 = false := h.a74
@[simp] theorem z74_ [h : Facts P] : zbox P 74 = some (A.nfn, 8) := h.z74
@[simp] theorem u75_ [h : Facts P] : P.underlying 75 = some (.int .u32) := h.u75
@[simp] theorem s75_ [h : Facts P] : isSliceT P 75 = false := h.s75
@[simp] theorem t75_ [h : Facts P] : isStrT P 75 = false := h.t75
@[simp] theorem h75_ [h : Facts P] : hasU P 75 = true := h.h75
@[simp] theorem i75_ [h : Facts P] : intT P 75 = some .u32 := h.i75
@[simp] theorem c75_ [h : Facts P] : P.cellsOf 75 = 1 := h.c75
@[simp] theorem a75_ [h : Facts P] : aggT P 75 = false := h.a75
@[simp] theorem z75_ [h : Facts P] : zbox P 75 = some (A.int .u32 0, 4) := h.z75
@[simp] theorem s78_ [h : Facts P] : isSliceT P 78 = false := h.s78
@[simp] theorem t78_ [h : Facts P] : isStrT P 78 = false := h.t78
@[simp] theorem h78_ [h : Facts P] : hasU P 78 = true := h.h78
@[simp] theorem c78_ [h : Facts P] : P.cellsOf 78 = 1 := h.c78
@[simp] theorem a78_ [h : Facts P] : aggT P 78 = false := h.a78
@[simp] theorem z78_ [h : Facts P] : zbox P 78 = some (A.nfn, 8) := h.z78
@[simp] theorem g82_0_ [h : Facts P] : fld P 82 0 = some (12, 0) := h.g82_0
@[simp] theorem g82_1_ [h : Facts P] : fld P 82 1 = some (12, 1) := h.g82_1
@[simp] theorem g82_2_ [h : Facts P] : fld P 82 2 = some (75, 2) := h.g82_2
@[simp] theorem g82_3_ [h : Facts P] : fld P 82 3 = some (76, 3) := h.g82_3
@[simp] theorem g82_4_ [h : Facts P] : fld P 82 4 = some (5, 4) := h.g82_4
@[simp] theorem g82_5_ [h : Facts P] : fld P 82 5 = some (5, 5) := h.g82_5
@[simp] theorem g82_6_ [h : Facts P] : fld P 82 6 = some (77, 6) := h.g82_6
@[simp] theorem g82_7_ [h : Facts P] : fld P 82 7 = some (78, 7) := h.g82_7
@[simp] theorem g82_8_ [h : Facts P] : fld P 82 8 = some (79, 8) := h.g82_8
@[simp] theorem g82_9_ [h : Facts P] : fld P 82 9 = some (80, 9) := h.g82_9
@[simp] theorem g82_10_ [h : Facts P] : fld P 82 10 = some (81, 10) := h.g82_10
@[simp] theorem s82_ [h : Facts P] : isSliceT P 82 = false := h.s82
@[simp] theorem t82_ [h : Facts P] : isStrT P 82 = false := h.t82
@[simp] theorem h82_ [h : Facts P] : hasU P 82 = true := h.h82
@[simp] theorem w82_ [h : Facts P] : ftl P 82 = some [(12, 0), (12, 1), (75, 2), (76, 3), (5, 4), (5, 5), (77, 6), (78, 7), (79, 8), (80, 9), (81, 10)] := h.w82
@[simp] theorem c82_ [h : Facts P] : P.cellsOf 82 = 11 := h.c82
@[simp] theorem a82_ [h : Facts P] : aggT P 82 = true := h.a82
@[simp] theorem z82_ [h : Facts P] : zbox P 82 = some (A.agg [A.int .u64 0, A.int .u64 0, A.int .u32 0, A.int .u8 0, A.int .u8 0, A.int .u8 0, A.int .u8 0, A.nfn, A.nptr, A.int .i32 0, A.int .i32 0], 48) := h.z82
@[simp] theorem b82_ [h : Facts P] : bplan P 82 = some ([A.int .u64 0, A.int .u64 0, A.int .u32 0, A.int .u8 0, A.int .u8 0, A.int .u8 0, A.int .u8 0, A.nfn, A.nptr, A.int .i32 0, A.int .i32 0], [(0, 1), (1, 1), (2, 1), (3, 1), (4, 1), (5, 1), (6, 1), (7, 1), (8, 1), (9, 1), (10, 1)]) := h.b82
@[simp] theorem q0_ [h : Facts P] : P.cellsOf 4294967295 = 0 := h.q0
end

theorem has_s1 : isSliceT Try.prog 1 = false := by kernel_rfl
theorem has_t1 : isStrT Try.prog 1 = false := by kernel_rfl
theorem has_h1 : hasU Try.prog 1 = true := by kernel_rfl
theorem has_c1 : Try.prog.cellsOf 1 = 1 := by kernel_rfl
theorem has_a1 : aggT Try.prog 1 = false := by kernel_rfl
theorem has_z1 : zbox Try.prog 1 = some (A.nfn, 8) := by kernel_rfl
theorem has_u2 : Try.prog.underlying 2 = some (.int .i64) := by kernel_rfl
theorem has_s2 : isSliceT Try.prog 2 = false := by kernel_rfl
theorem has_t2 : isStrT Try.prog 2 = false := by kernel_rfl
theorem has_h2 : hasU Try.prog 2 = true := by kernel_rfl
theorem has_i2 : intT Try.prog 2 = some .i64 := by kernel_rfl
theorem has_c2 : Try.prog.cellsOf 2 = 1 := by kernel_rfl
theorem has_a2 : aggT Try.prog 2 = false := by kernel_rfl
theorem has_z2 : zbox Try.prog 2 = some (A.int .i64 0, 8) := by kernel_rfl
theorem has_u3 : Try.prog.underlying 3 = some (.int .i64) := by kernel_rfl
theorem has_s3 : isSliceT Try.prog 3 = false := by kernel_rfl
theorem has_t3 : isStrT Try.prog 3 = false := by kernel_rfl
theorem has_h3 : hasU Try.prog 3 = true := by kernel_rfl
theorem has_i3 : intT Try.prog 3 = some .i64 := by kernel_rfl
theorem has_c3 : Try.prog.cellsOf 3 = 1 := by kernel_rfl
theorem has_a3 : aggT Try.prog 3 = false := by kernel_rfl
theorem has_z3 : zbox Try.prog 3 = some (A.int .i64 0, 8) := by kernel_rfl
theorem has_u4 : Try.prog.underlying 4 = some (.bool) := by kernel_rfl
theorem has_s4 : isSliceT Try.prog 4 = false := by kernel_rfl
theorem has_t4 : isStrT Try.prog 4 = false := by kernel_rfl
theorem has_h4 : hasU Try.prog 4 = true := by kernel_rfl
theorem has_d4 : isBoolT Try.prog 4 = true := by kernel_rfl
theorem has_c4 : Try.prog.cellsOf 4 = 1 := by kernel_rfl
theorem has_a4 : aggT Try.prog 4 = false := by kernel_rfl
theorem has_z4 : zbox Try.prog 4 = some (A.bool false, 1) := by kernel_rfl
theorem has_u5 : Try.prog.underlying 5 = some (.int .u8) := by kernel_rfl
theorem has_s5 : isSliceT Try.prog 5 = false := by kernel_rfl
theorem has_t5 : isStrT Try.prog 5 = false := by kernel_rfl
theorem has_h5 : hasU Try.prog 5 = true := by kernel_rfl
theorem has_i5 : intT Try.prog 5 = some .u8 := by kernel_rfl
theorem has_c5 : Try.prog.cellsOf 5 = 1 := by kernel_rfl
theorem has_a5 : aggT Try.prog 5 = false := by kernel_rfl
theorem has_z5 : zbox Try.prog 5 = some (A.int .u8 0, 1) := by kernel_rfl
theorem has_u9 : Try.prog.underlying 9 = some (.string) := by kernel_rfl
theorem has_s9 : isSliceT Try.prog 9 = false := by kernel_rfl
theorem has_t9 : isStrT Try.prog 9 = true := by kernel_rfl
theorem has_h9 : hasU Try.prog 9 = true := by kernel_rfl
theorem has_c9 : Try.prog.cellsOf 9 = 1 := by kernel_rfl
theorem has_a9 : aggT Try.prog 9 = false := by kernel_rfl
theorem has_z9 : zbox Try.prog 9 = some (A.str [], 16) := by kernel_rfl
theorem has_u12 : Try.prog.underlying 12 = some (.int .u64) := by kernel_rfl
theorem has_s12 : isSliceT Try.prog 12 = false := by kernel_rfl
theorem has_t12 : isStrT Try.prog 12 = false := by kernel_rfl
theorem has_h12 : hasU Try.prog 12 = true := by kernel_rfl
theorem has_i12 : intT Try.prog 12 = some .u64 := by kernel_rfl
theorem has_c12 : Try.prog.cellsOf 12 = 1 := by kernel_rfl
theorem has_a12 : aggT Try.prog 12 = false := by kernel_rfl
theorem has_z12 : zbox Try.prog 12 = some (A.int .u64 0, 8) := by kernel_rfl
theorem has_u21 : Try.prog.underlying 21 = some (.int .i32) := by kernel_rfl
theorem has_s21 : isSliceT Try.prog 21 = false := by kernel_rfl
theorem has_t21 : isStrT Try.prog 21 = false := by kernel_rfl
theorem has_h21 : hasU Try.prog 21 = true := by kernel_rfl
theorem has_i21 : intT Try.prog 21 = some .i32 := by kernel_rfl
theorem has_c21 : Try.prog.cellsOf 21 = 1 := by kernel_rfl
theorem has_a21 : aggT Try.prog 21 = false := by kernel_rfl
theorem has_z21 : zbox Try.prog 21 = some (A.int .i32 0, 4) := by kernel_rfl
theorem has_u22 : Try.prog.underlying 22 = some (.int .i64) := by kernel_rfl
theorem has_s22 : isSliceT Try.prog 22 = false := by kernel_rfl
theorem has_t22 : isStrT Try.prog 22 = false := by kernel_rfl
theorem has_h22 : hasU Try.prog 22 = true := by kernel_rfl
theorem has_i22 : intT Try.prog 22 = some .i64 := by kernel_rfl
theorem has_c22 : Try.prog.cellsOf 22 = 1 := by kernel_rfl
theorem has_a22 : aggT Try.prog 22 = false := by kernel_rfl
theorem has_z22 : zbox Try.prog 22 = some (A.int .i64 0, 8) := by kernel_rfl
theorem has_s23 : isSliceT Try.prog 23 = false := by kernel_rfl
theorem has_t23 : isStrT Try.prog 23 = false := by kernel_rfl
theorem has_h23 : hasU Try.prog 23 = true := by kernel_rfl
theorem has_c23 : Try.prog.cellsOf 23 = 1 := by kernel_rfl
theorem has_a23 : aggT Try.prog 23 = false := by kernel_rfl
theorem has_z23 : zbox Try.prog 23 = some (A.nfn, 8) := by kernel_rfl
theorem has_s24 : isSliceT Try.prog 24 = false := by kernel_rfl
theorem has_t24 : isStrT Try.prog 24 = false := by kernel_rfl
theorem has_h24 : hasU Try.prog 24 = true := by kernel_rfl
theorem has_c24 : Try.prog.cellsOf 24 = 1 := by kernel_rfl
theorem has_a24 : aggT Try.prog 24 = false := by kernel_rfl
theorem has_z24 : zbox Try.prog 24 = some (A.nfn, 8) := by kernel_rfl
theorem has_s25 : isSliceT Try.prog 25 = false := by kernel_rfl
theorem has_t25 : isStrT Try.prog 25 = false := by kernel_rfl
theorem has_h25 : hasU Try.prog 25 = true := by kernel_rfl
theorem has_c25 : Try.prog.cellsOf 25 = 1 := by kernel_rfl
theorem has_a25 : aggT Try.prog 25 = false := by kernel_rfl
theorem has_z25 : zbox Try.prog 25 = some (A.nfn, 8) := by kernel_rfl
theorem has_s26 : isSliceT Try.prog 26 = false := by kernel_rfl
theorem has_t26 : isStrT Try.prog 26 = false := by kernel_rfl
theorem has_h26 : hasU Try.prog 26 = true := by kernel_rfl
theorem has_c26 : Try.prog.cellsOf 26 = 1 := by kernel_rfl
theorem has_a26 : aggT Try.prog 26 = false := by kernel_rfl
theorem has_z26 : zbox Try.prog 26 = some (A.nfn, 8) := by kernel_rfl
theorem has_u27 : Try.prog.underlying 27 = some (.slice 3) := by kernel_rfl
theorem has_s27 : isSliceT Try.prog 27 = true := by kernel_rfl
theorem has_l27 : selem Try.prog 27 = 3 := by kernel_rfl
theorem has_t27 : isStrT Try.prog 27 = false := by kernel_rfl
theorem has_h27 : hasU Try.prog 27 = true := by kernel_rfl
theorem has_c27 : Try.prog.cellsOf 27 = 1 := by kernel_rfl
theorem has_a27 : aggT Try.prog 27 = false := by kernel_rfl
theorem has_z27 : zbox Try.prog 27 = some (A.sl true [], 24) := by kernel_rfl
theorem has_g28_0 : fld Try.prog 28 0 = some (3, 0) := by kernel_rfl
theorem has_g28_1 : fld Try.prog 28 1 = some (27, 1) := by kernel_rfl
theorem has_g28_2 : fld Try.prog 28 2 = some (27, 2) := by kernel_rfl
theorem has_g28_3 : fld Try.prog 28 3 = some (27, 3) := by kernel_rfl
theorem has_g28_4 : fld Try.prog 28 4 = some (27, 4) := by kernel_rfl
theorem has_g28_5 : fld Try.prog 28 5 = some (27, 5) := by kernel_rfl
theorem has_s28 : isSliceT Try.prog 28 = false := by kernel_rfl
theorem has_t28 : isStrT Try.prog 28 = false := by kernel_rfl
theorem has_h28 : hasU Try.prog 28 = true := by kernel_rfl
theorem has_w28 : ftl Try.prog 28 = some [(3, 0), (27, 1), (27, 2), (27, 3), (27, 4), (27, 5)] := by kernel_rfl
theorem has_c28 : Try.prog.cellsOf 28 = 6 := by kernel_rfl
theorem has_a28 : aggT Try.prog 28 = true := by kernel_rfl
theorem has_z28 : zbox Try.prog 28 = some (A.agg [A.int .i64 0, A.sl true [], A.sl true [], A.sl true [], A.sl true [], A.sl true []], 128) := by kernel_rfl
theorem has_b28 : bplan Try.prog 28 = some ([A.int .i64 0, A.sl true [], A.sl true [], A.sl true [], A.sl true [], A.sl true []], [(0, 1), (1, 1), (2, 1), (3, 1), (4, 1), (5, 1)]) := by kernel_rfl
theorem has_g29_0 : fld Try.prog 29 0 = some (3, 0) := by kernel_rfl
theorem has_g29_1 : fld Try.prog 29 1 = some (27, 1) := by kernel_rfl
theorem has_g29_2 : fld Try.prog 29 2 = some (27, 2) := by kernel_rfl
theorem has_g29_3 : fld Try.prog 29 3 = some (27, 3) := by kernel_rfl
theorem has_g29_4 : fld Try.prog 29 4 = some (27, 4) := by kernel_rfl
theorem has_g29_5 : fld Try.prog 29 5 = some (27, 5) := by kernel_rfl
theorem has_s29 : isSliceT Try.prog 29 = false := by kernel_rfl
theorem has_t29 : isStrT Try.prog 29 = false := by kernel_rfl
theorem has_h29 : hasU Try.prog 29 = true := by kernel_rfl
theorem has_w29 : ftl Try.prog 29 = some [(3, 0), (27, 1), (27, 2), (27, 3), (27, 4), (27, 5)] := by kernel_rfl
theorem has_c29 : Try.prog.cellsOf 29 = 6 := by kernel_rfl
theorem has_a29 : aggT Try.prog 29 = true := by kernel_rfl
theorem has_z29 : zbox Try.prog 29 = some (A.agg [A.int .i64 0, A.sl true [], A.sl true [], A.sl true [], A.sl true [], A.sl true []], 128) := by kernel_rfl
theorem has_b29 : bplan Try.prog 29 = some ([A.int .i64 0, A.sl true [], A.sl true [], A.sl true [], A.sl true [], A.sl true []], [(0, 1), (1, 1), (2, 1), (3, 1), (4, 1), (5, 1)]) := by kernel_rfl
theorem has_u30 : Try.prog.underlying 30 = some (.slice 32) := by kernel_rfl
theorem has_s30 : isSliceT Try.prog 30 = true := by kernel_rfl
theorem has_l30 : selem Try.prog 30 = 32 := by kernel_rfl
theorem has_t30 : isStrT Try.prog 30 = false := by kernel_rfl
theorem has_h30 : hasU Try.prog 30 = true := by kernel_rfl
theorem has_c30 : Try.prog.cellsOf 30 = 1 := by kernel_rfl
theorem has_a30 : aggT Try.prog 30 = false := by kernel_rfl
theorem has_z30 : zbox Try.prog 30 = some (A.sl true [], 24) := by kernel_rfl
theorem has_g31_0 : fld Try.prog 31 0 = some (22, 0) := by kernel_rfl
theorem has_g31_1 : fld Try.prog 31 1 = some (9, 1) := by kernel_rfl
theorem has_g31_2 : fld Try.prog 31 2 = some (3, 2) := by kernel_rfl
theorem has_g31_3 : fld Try.prog 31 3 = some (30, 3) := by kernel_rfl
theorem has_s31 : isSliceT Try.prog 31 = false := by kernel_rfl
theorem has_t31 : isStrT Try.prog 31 = false := by kernel_rfl
theorem has_h31 : hasU Try.prog 31 = true := by kernel_rfl
theorem has_w31 : ftl Try.prog 31 = some [(22, 0), (9, 1), (3, 2), (30, 3)] := by kernel_rfl
theorem has_c31 : Try.prog.cellsOf 31 = 4 := by kernel_rfl
theorem has_a31 : aggT Try.prog 31 = true := by kernel_rfl
theorem has_z31 : zbox Try.prog 31 = some (A.agg [A.int .i64 0, A.str [], A.int .i64 0, A.sl true []], 56) := by kernel_rfl
theorem has_b31 : bplan Try.prog 31 = some ([A.int .i64 0, A.str [], A.int .i64 0, A.sl true []], [(0, 1), (1, 1), (2, 1), (3, 1)]) := by kernel_rfl
theorem has_g32_0 : fld Try.prog 32 0 = some (22, 0) := by kernel_rfl
theorem has_g32_1 : fld Try.prog 32 1 = some (9, 1) := by kernel_rfl
theorem has_g32_2 : fld Try.prog 32 2 = some (3, 2) := by kernel_rfl
theorem has_g32_3 : fld Try.prog 32 3 = some (30, 3) := by kernel_rfl
theorem has_s32 : isSliceT Try.prog 32 = false := by kernel_rfl
theorem has_t32 : isStrT Try.prog 32 = false := by kernel_rfl
theorem has_h32 : hasU Try.prog 32 = true := by kernel_rfl
theorem has_w32 : ftl Try.prog 32 = some [(22, 0), (9, 1), (3, 2), (30, 3)] := by kernel_rfl
theorem has_c32 : Try.prog.cellsOf 32 = 4 := by kernel_rfl
theorem has_a32 : aggT Try.prog 32 = true := by kernel_rfl
theorem has_z32 : zbox Try.prog 32 = some (A.agg [A.int .i64 0, A.str [], A.int .i64 0, A.sl true []], 56) := by kernel_rfl
theorem has_b32 : bplan Try.prog 32 = some ([A.int .i64 0, A.str [], A.int .i64 0, A.sl true []], [(0, 1), (1, 1), (2, 1), (3, 1)]) := by kernel_rfl
theorem has_s33 : isSliceT Try.prog 33 = false := by kernel_rfl
theorem has_t33 : isStrT Try.prog 33 = false := by kernel_rfl
theorem has_h33 : hasU Try.prog 33 = true := by kernel_rfl
theorem has_c33 : Try.prog.cellsOf 33 = 1 := by kernel_rfl
theorem has_a33 : aggT Try.prog 33 = false := by kernel_rfl
theorem has_z33 : zbox Try.prog 33 = some (A.nfn, 8) := by kernel_rfl
theorem has_u34 : Try.prog.underlying 34 = some (.int .i64) := by kernel_rfl
theorem has_s34 : isSliceT Try.prog 34 = false := by kernel_rfl
theorem has_t34 : isStrT Try.prog 34 = false := by kernel_rfl
theorem has_h34 : hasU Try.prog 34 = true := by kernel_rfl
theorem has_i34 : intT Try.prog 34 = some .i64 := by kernel_rfl
theorem has_c34 : Try.prog.cellsOf 34 = 1 := by kernel_rfl
theorem has_a34 : aggT Try.prog 34 = false := by kernel_rfl
theorem has_z34 : zbox Try.prog 34 = some (A.int .i64 0, 8) := by kernel_rfl
theorem has_s35 : isSliceT Try.prog 35 = false := by kernel_rfl
theorem has_t35 : isStrT Try.prog 35 = false := by kernel_rfl
theorem has_h35 : hasU Try.prog 35 = true := by kernel_rfl
theorem has_c35 : Try.prog.cellsOf 35 = 1 := by kernel_rfl
theorem has_a35 : aggT Try.prog 35 = false := by kernel_rfl
theorem has_z35 : zbox Try.prog 35 = some (A.nfn, 8) := by kernel_rfl
theorem has_s36 : isSliceT Try.prog 36 = false := by kernel_rfl
theorem has_t36 : isStrT Try.prog 36 = false := by kernel_rfl
theorem has_h36 : hasU Try.prog 36 = true := by kernel_rfl
theorem has_c36 : Try.prog.cellsOf 36 = 1 := by kernel_rfl
theorem has_a36 : aggT Try.prog 36 = false := by kernel_rfl
theorem has_z36 : zbox Try.prog 36 = some (A.nfn, 8) := by kernel_rfl
theorem has_s37 : isSliceT Try.prog 37 = false := by kernel_rfl
theorem has_t37 : isStrT Try.prog 37 = false := by kernel_rfl
theorem has_h37 : hasU Try.prog 37 = true := by kernel_rfl
theorem has_c37 : Try.prog.cellsOf 37 = 1 := by kernel_rfl
theorem has_a37 : aggT Try.prog 37 = false := by kernel_rfl
theorem has_z37 : zbox Try.prog 37 = some (A.nfn, 8) := by kernel_rfl
theorem has_s38 : isSliceT Try.prog 38 = false := by kernel_rfl
theorem has_t38 : isStrT Try.prog 38 = false := by kernel_rfl
theorem has_h38 : hasU Try.prog 38 = true := by kernel_rfl
theorem has_c38 : Try.prog.cellsOf 38 = 1 := by kernel_rfl
theorem has_a38 : aggT Try.prog 38 = false := by kernel_rfl
theorem has_z38 : zbox Try.prog 38 = some (A.nfn, 8) := by kernel_rfl
theorem has_s39 : isSliceT Try.prog 39 = false := by kernel_rfl
theorem has_t39 : isStrT Try.prog 39 = false := by kernel_rfl
theorem has_h39 : hasU Try.prog 39 = true := by kernel_rfl
theorem has_c39 : Try.prog.cellsOf 39 = 1 := by kernel_rfl
theorem has_a39 : aggT Try.prog 39 = false := by kernel_rfl
theorem has_z39 : zbox Try.prog 39 = some (A.nfn, 8) := by kernel_rfl
theorem has_s40 : isSliceT Try.prog 40 = false := by kernel_rfl
theorem has_t40 : isStrT Try.prog 40 = false := by kernel_rfl
theorem has_h40 : hasU Try.prog 40 = true := by kernel_rfl
theorem has_c40 : Try.prog.cellsOf 40 = 1 := by kernel_rfl
theorem has_a40 : aggT Try.prog 40 = false := by kernel_rfl
theorem has_z40 : zbox Try.prog 40 = some (A.nfn, 8) := by kernel_rfl
theorem has_s41 : isSliceT Try.prog 41 = false := by kernel_rfl
theorem has_t41 : isStrT Try.prog 41 = false := by kernel_rfl
theorem has_h41 : hasU Try.prog 41 = true := by kernel_rfl
theorem has_c41 : Try.prog.cellsOf 41 = 1 := by kernel_rfl
theorem has_a41 : aggT Try.prog 41 = false := by kernel_rfl
theorem has_z41 : zbox Try.prog 41 = some (A.nfn, 8) := by kernel_rfl
theorem has_s42 : isSliceT Try.prog 42 = false := by kernel_rfl
theorem has_t42 : isStrT Try.prog 42 = false := by kernel_rfl
theorem has_h42 : hasU Try.prog 42 = true := by kernel_rfl
theorem has_c42 : Try.prog.cellsOf 42 = 1 := by kernel_rfl
theorem has_a42 : aggT Try.prog 42 = false := by kernel_rfl
theorem has_z42 : zbox Try.prog 42 = some (A.nfn, 8) := by kernel_rfl
theorem has_s43 : isSliceT Try.prog 43 = false := by kernel_rfl
theorem has_t43 : isStrT Try.prog 43 = false := by kernel_rfl
theorem has_h43 : hasU Try.prog 43 = true := by kernel_rfl
theorem has_c43 : Try.prog.cellsOf 43 = 1 := by kernel_rfl
theorem has_a43 : aggT Try.prog 43 = false := by kernel_rfl
theorem has_z43 : zbox Try.prog 43 = some (A.nfn, 8) := by kernel_rfl
theorem has_s44 : isSliceT Try.prog 44 = false := by kernel_rfl
theorem has_t44 : isStrT Try.prog 44 = false := by kernel_rfl
theorem has_h44 : hasU Try.prog 44 = true := by kernel_rfl
theorem has_c44 : Try.prog.cellsOf 44 = 1 := by kernel_rfl
theorem has_a44 : aggT Try.prog 44 = false := by kernel_rfl
theorem has_z44 : zbox Try.prog 44 = some (A.nfn, 8) := by kernel_rfl
theorem has_s45 : isSliceT Try.prog 45 = false := by kernel_rfl
theorem has_t45 : isStrT Try.prog 45 = false := by kernel_rfl
theorem has_h45 : hasU Try.prog 45 = true := by kernel_rfl
theorem has_c45 : Try.prog.cellsOf 45 = 1 := by kernel_rfl
theorem has_a45 : aggT Try.prog 45 = false := by kernel_rfl
theorem has_z45 : zbox Try.prog 45 = some (A.nfn, 8) := by kernel_rfl
theorem has_s46 : isSliceT Try.prog 46 = false := by kernel_rfl
theorem has_t46 : isStrT Try.prog 46 = false := by kernel_rfl
theorem has_h46 : hasU Try.prog 46 = true := by kernel_rfl
theorem has_c46 : Try.prog.cellsOf 46 = 1 := by kernel_rfl
theorem has_a46 : aggT Try.prog 46 = false := by kernel_rfl
theorem has_z46 : zbox Try.prog 46 = some (A.nfn, 8) := by kernel_rfl
theorem has_s47 : isSliceT Try.prog 47 = false := by kernel_rfl
theorem has_t47 : isStrT Try.prog 47 = false := by kernel_rfl
theorem has_h47 : hasU Try.prog 47 = true := by kernel_rfl
theorem has_c47 : Try.prog.cellsOf 47 = 1 := by kernel_rfl
theorem has_a47 : aggT Try.prog 47 = false := by kernel_rfl
theorem has_z47 : zbox Try.prog 47 = some (A.nfn, 8) := by kernel_rfl
theorem has_g48_0 : fld Try.prog 48 0 = some (4, 0) := by kernel_rfl
theorem has_s48 : isSliceT Try.prog 48 = false := by kernel_rfl
theorem has_t48 : isStrT Try.prog 48 = false := by kernel_rfl
theorem has_h48 : hasU Try.prog 48 = true := by kernel_rfl
theorem has_w48 : ftl Try.prog 48 = some [(4, 0)] := by kernel_rfl
theorem has_c48 : Try.prog.cellsOf 48 = 1 := by kernel_rfl
theorem has_a48 : aggT Try.prog 48 = true := by kernel_rfl
theorem has_z48 : zbox Try.prog 48 = some (A.agg [A.bool false], 1) := by kernel_rfl
theorem has_b48 : bplan Try.prog 48 = some ([A.bool false], [(0, 1)]) := by kernel_rfl
theorem has_e48 : eqT Try.prog 48 = some [1] := by kernel_rfl
theorem has_g49_0 : fld Try.prog 49 0 = some (4, 0) := by kernel_rfl
theorem has_s49 : isSliceT Try.prog 49 = false := by kernel_rfl
theorem has_t49 : isStrT Try.prog 49 = false := by kernel_rfl
theorem has_h49 : hasU Try.prog 49 = true := by kernel_rfl
theorem has_w49 : ftl Try.prog 49 = some [(4, 0)] := by kernel_rfl
theorem has_c49 : Try.prog.cellsOf 49 = 1 := by kernel_rfl
theorem has_a49 : aggT Try.prog 49 = true := by kernel_rfl
theorem has_z49 : zbox Try.prog 49 = some (A.agg [A.bool false], 1) := by kernel_rfl
theorem has_b49 : bplan Try.prog 49 = some ([A.bool false], [(0, 1)]) := by kernel_rfl
theorem has_e49 : eqT Try.prog 49 = some [1] := by kernel_rfl
theorem has_u50 : Try.prog.underlying 50 = some (.int .u64) := by kernel_rfl
theorem has_s50 : isSliceT Try.prog 50 = false := by kernel_rfl
theorem has_t50 : isStrT Try.prog 50 = false := by kernel_rfl
theorem has_h50 : hasU Try.prog 50 = true := by kernel_rfl
theorem has_i50 : intT Try.prog 50 = some .u64 := by kernel_rfl
theorem has_c50 : Try.prog.cellsOf 50 = 1 := by kernel_rfl
theorem has_a50 : aggT Try.prog 50 = false := by kernel_rfl
theorem has_z50 : zbox Try.prog 50 = some (A.int .u64 0, 8) := by kernel_rfl
theorem has_s52 : isSliceT Try.prog 52 = false := by kernel_rfl
theorem has_t52 : isStrT Try.prog 52 = false := by kernel_rfl
theorem has_h52 : hasU Try.prog 52 = true := by kernel_rfl
theorem has_c52 : Try.prog.cellsOf 52 = 1 := by kernel_rfl
theorem has_a52 : aggT Try.prog 52 = false := by kernel_rfl
theorem has_z52 : zbox Try.prog 52 = some (A.nfn, 8) := by kernel_rfl
theorem has_s53 : isSliceT Try.prog 53 = false := by kernel_rfl
theorem has_t53 : isStrT Try.prog 53 = false := by kernel_rfl
theorem has_h53 : hasU Try.prog 53 = true := by kernel_rfl
theorem has_c53 : Try.prog.cellsOf 53 = 1 := by kernel_rfl
theorem has_a53 : aggT Try.prog 53 = false := by kernel_rfl
theorem has_z53 : zbox Try.prog 53 = some (A.nfn, 8) := by kernel_rfl
theorem has_s54 : isSliceT Try.prog 54 = false := by kernel_rfl
theorem has_t54 : isStrT Try.prog 54 = false := by kernel_rfl
theorem has_h54 : hasU Try.prog 54 = true := by kernel_rfl
theorem has_c54 : Try.prog.cellsOf 54 = 1 := by kernel_rfl
theorem has_a54 : aggT Try.prog 54 = false := by kernel_rfl
theorem has_z54 : zbox Try.prog 54 = some (A.nfn, 8) := by kernel_rfl
theorem has_s55 : isSliceT Try.prog 55 = false := by kernel_rfl
theorem has_t55 : isStrT Try.prog 55 = false := by kernel_rfl
theorem has_h55 : hasU Try.prog 55 = true := by kernel_rfl
theorem has_c55 : Try.prog.cellsOf 55 = 1 := by kernel_rfl
theorem has_a55 : aggT Try.prog 55 = false := by kernel_rfl
theorem has_z55 : zbox Try.prog 55 = some (A.nfn, 8) := by kernel_rfl
theorem has_u56 : Try.prog.underlying 56 = some (.int .u64) := by kernel_rfl
theorem has_s56 : isSliceT Try.prog 56 = false := by kernel_rfl
theorem has_t56 : isStrT Try.prog 56 = false := by kernel_rfl
theorem has_h56 : hasU Try.prog 56 = true := by kernel_rfl
theorem has_i56 : intT Try.prog 56 = some .u64 := by kernel_rfl
theorem has_c56 : Try.prog.cellsOf 56 = 1 := by kernel_rfl
theorem has_a56 : aggT Try.prog 56 = false := by kernel_rfl
theorem has_z56 : zbox Try.prog 56 = some (A.int .u64 0, 8) := by kernel_rfl
theorem has_s57 : isSliceT Try.prog 57 = false := by kernel_rfl
theorem has_t57 : isStrT Try.prog 57 = false := by kernel_rfl
theorem has_h57 : hasU Try.prog 57 = true := by kernel_rfl
theorem has_c57 : Try.prog.cellsOf 57 = 1 := by kernel_rfl
theorem has_a57 : aggT Try.prog 57 = false := by kernel_rfl
theorem has_z57 : zbox Try.prog 57 = some (A.nfn, 8) := by kernel_rfl
theorem has_s58 : isSliceT Try.prog 58 = false := by kernel_rfl
theorem has_t58 : isStrT Try.prog 58 = false := by kernel_rfl
theorem has_h58 : hasU Try.prog 58 = true := by kernel_rfl
theorem has_c58 : Try.prog.cellsOf 58 = 1 := by kernel_rfl
theorem has_a58 : aggT Try.prog 58 = false := by kernel_rfl
theorem has_z58 : zbox Try.prog 58 = some (A.nfn, 8) := by kernel_rfl
theorem has_s59 : isSliceT Try.prog 59 = false := by kernel_rfl
theorem has_t59 : isStrT Try.prog 59 = false := by kernel_rfl
theorem has_h59 : hasU Try.prog 59 = true := by kernel_rfl
theorem has_c59 : Try.prog.cellsOf 59 = 1 := by kernel_rfl
theorem has_a59 : aggT Try.prog 59 = false := by kernel_rfl
theorem has_z59 : zbox Try.prog 59 = some (A.nfn, 8) := by kernel_rfl
theorem has_s61 : isSliceT Try.prog 61 = false := by kernel_rfl
theorem has_t61 : isStrT Try.prog 61 = false := by kernel_rfl
theorem has_h61 : hasU Try.prog 61 = true := by kernel_rfl
theorem has_c61 : Try.prog.cellsOf 61 = 1 := by kernel_rfl
theorem has_a61 : aggT Try.prog 61 = false := by kernel_rfl
theorem has_z61 : zbox Try.prog 61 = some (A.nfn, 8) := by kernel_rfl
theorem has_s62 : isSliceT Try.prog 62 = false := by kernel_rfl
theorem has_t62 : isStrT Try.prog 62 = false := by kernel_rfl
theorem has_h62 : hasU Try.prog 62 = true := by kernel_rfl
theorem has_c62 : Try.prog.cellsOf 62 = 1 := by kernel_rfl
theorem has_a62 : aggT Try.prog 62 = false := by kernel_rfl
theorem has_z62 : zbox Try.prog 62 = some (A.nfn, 8) := by kernel_rfl
theorem has_s63 : isSliceT Try.prog 63 = false := by kernel_rfl
theorem has_t63 : isStrT Try.prog 63 = false := by kernel_rfl
theorem has_h63 : hasU Try.prog 63 = true := by kernel_rfl
theorem has_c63 : Try.prog.cellsOf 63 = 1 := by kernel_rfl
theorem has_a63 : aggT Try.prog 63 = false := by kernel_rfl
theorem has_z63 : zbox Try.prog 63 = some (A.nfn, 8) := by kernel_rfl
theorem has_s64 : isSliceT Try.prog 64 = false := by kernel_rfl
theorem has_t64 : isStrT Try.prog 64 = false := by kernel_rfl
theorem has_h64 : hasU Try.prog 64 = true := by kernel_rfl
theorem has_c64 : Try.prog.cellsOf 64 = 1 := by kernel_rfl
theorem has_a64 : aggT Try.prog 64 = false := by kernel_rfl
theorem has_z64 : zbox Try.prog 64 = some (A.nfn, 8) := by kernel_rfl
theorem has_s65 : isSliceT Try.prog 65 = false := by kernel_rfl
theorem has_t65 : isStrT Try.prog 65 = false := by kernel_rfl
theorem has_h65 : hasU Try.prog 65 = true := by kernel_rfl
theorem has_c65 : Try.prog.cellsOf 65 = 1 := by kernel_rfl
theorem has_a65 : aggT Try.prog 65 = false := by kernel_rfl
theorem has_z65 : zbox Try.prog 65 = some (A.nfn, 8) := by kernel_rfl
theorem has_u66 : Try.prog.underlying 66 = some (.slice 9) := by kernel_rfl
theorem has_s66 : isSliceT Try.prog 66 = true := by kernel_rfl
theorem has_l66 : selem Try.prog 66 = 9 := by kernel_rfl
theorem has_t66 : isStrT Try.prog 66 = false := by kernel_rfl
theorem has_h66 : hasU Try.prog 66 = true := by kernel_rfl
theorem has_c66 : Try.prog.cellsOf 66 = 1 := by kernel_rfl
theorem has_a66 : aggT Try.prog 66 = false := by kernel_rfl
theorem has_z66 : zbox Try.prog 66 = some (A.sl true [], 24) := by kernel_rfl
theorem has_s67 : isSliceT Try.prog 67 = false := by kernel_rfl
theorem has_t67 : isStrT Try.prog 67 = false := by kernel_rfl
theorem has_h67 : hasU Try.prog 67 = true := by kernel_rfl
theorem has_c67 : Try.prog.cellsOf 67 = 1 := by kernel_rfl
theorem has_a67 : aggT Try.prog 67 = false := by kernel_rfl
theorem has_z67 : zbox Try.prog 67 = some (A.nfn, 8) := by kernel_rfl
theorem has_s68 : isSliceT Try.prog 68 = false := by kernel_rfl
theorem has_t68 : isStrT Try.prog 68 = false := by kernel_rfl
theorem has_h68 : hasU Try.prog 68 = true := by kernel_rfl
theorem has_c68 : Try.prog.cellsOf 68 = 1 := by kernel_rfl
theorem has_a68 : aggT Try.prog 68 = false := by kernel_rfl
theorem has_z68 : zbox Try.prog 68 = some (A.nfn, 8) := by kernel_rfl
theorem has_u71 : Try.prog.underlying 71 = some (.array 0 16) := by kernel_rfl
theorem has_s71 : isSliceT Try.prog 71 = false := by kernel_rfl
theorem has_t71 : isStrT Try.prog 71 = false := by kernel_rfl
theorem has_r71 : arrT Try.prog 71 = some (0, 16) := by kernel_rfl
theorem has_h71 : hasU Try.prog 71 = true := by kernel_rfl
theorem has_n71 : bplan Try.prog 71 = none := by kernel_rfl
theorem has_c71 : Try.prog.cellsOf 71 = 0 := by kernel_rfl
theorem has_a71 : aggT Try.prog 71 = true := by kernel_rfl
theorem has_z71 : zbox Try.prog 71 = some (A.agg [], 0) := by kernel_rfl
theorem has_b71 : aplan Try.prog 71 = some ([], 1) := by kernel_rfl
theorem has_s74 : isSliceT Try.prog 74 = false := by kernel_rfl
theorem has_t74 : isStrT Try.prog 74 = false := by kernel_rfl
theorem has_h74 : hasU Try.prog 74 = true := by kernel_rfl
theorem has_c74 : Try.prog.cellsOf 74 = 1 := by kernel_rfl
theorem has_a74 : aggT Try.prog 74 = false := by kernel_rfl
theorem has_z74 : zbox Try.prog 74 = some (A.nfn, 8) := by kernel_rfl
theorem has_u75 : Try.prog.underlying 75 = some (.int .u32) := by kernel_rfl
theorem has_s75 : isSliceT Try.prog 75 = false := by kernel_rfl
theorem has_t75 : isStrT Try.prog 75 = false := by kernel_rfl
theorem has_h75 : hasU Try.prog 75 = true := by kernel_rfl
theorem has_i75 : intT Try.prog 75 = some .u32 := by kernel_rfl
theorem has_c75 : Try.prog.cellsOf 75 = 1 := by kernel_rfl
theorem has_a75 : aggT Try.prog 75 = false := by kernel_rfl
theorem has_z75 : zbox Try.prog 75 = some (A.int .u32 0, 4) := by kernel_rfl
theorem has_s78 : isSliceT Try.prog 78 = false := by kernel_rfl
theorem has_t78 : isStrT Try.prog 78 = false := by kernel_rfl
theorem has_h78 : hasU Try.prog 78 = true := by kernel_rfl
theorem has_c78 : Try.prog.cellsOf 78 = 1 := by kernel_rfl
theorem has_a78 : aggT Try.prog 78 = false := by kernel_rfl
theorem has_z78 : zbox Try.prog 78 = some (A.nfn, 8) := by kernel_rfl
theorem has_g82_0 : fld Try.prog 82 0 = some (12, 0) := by kernel_rfl
theorem has_g82_1 : fld Try.prog 82 1 = some (12, 1) := by kernel_rfl
theorem has_g82_2 : fld Try.prog 82 2 = some (75, 2) := by kernel_rfl
theorem has_g82_3 : fld Try.prog 82 3 = some (76, 3) := by kernel_rfl
theorem has_g82_4 : fld Try.prog 82 4 = some (5, 4) := by kernel_rfl
theorem has_g82_5 : fld Try.prog 82 5 = some (5, 5) := by kernel_rfl
theorem has_g82_6 : fld Try.prog 82 6 = some (77, 6) := by kernel_rfl
theorem has_g82_7 : fld Try.prog 82 7 = some (78, 7) := by kernel_rfl
theorem has_g82_8 : fld Try.prog 82 8 = some (79, 8) := by kernel_rfl
theorem has_g82_9 : fld Try.prog 82 9 = some (80, 9) := by kernel_rfl
theorem has_g82_10 : fld Try.prog 82 10 = some (81, 10) := by kernel_rfl
theorem has_s82 : isSliceT Try.prog 82 = false := by kernel_rfl
theorem has_t82 : isStrT Try.prog 82 = false := by kernel_rfl
theorem has_h82 : hasU Try.prog 82 = true := by kernel_rfl
theorem has_w82 : ftl Try.prog 82 = some [(12, 0), (12, 1), (75, 2), (76, 3), (5, 4), (5, 5), (77, 6), (78, 7), (79, 8), (80, 9), (81, 10)] := by kernel_rfl
theorem has_c82 : Try.prog.cellsOf 82 = 11 := by kernel_rfl
theorem has_a82 : aggT Try.prog 82 = true := by kernel_rfl
theorem has_z82 : zbox Try.prog 82 = some (A.agg [A.int .u64 0, A.int .u64 0, A.int .u32 0, A.int .u8 0, A.int .u8 0, A.int .u8 0, A.int .u8 0, A.nfn, A.nptr, A.int .i32 0, A.int .i32 0], 48) := by kernel_rfl
theorem has_b82 : bplan Try.prog 82 = some ([A.int .u64 0, A.int .u64 0, A.int .u32 0, A.int .u8 0, A.int .u8 0, A.int .u8 0, A.int .u8 0, A.nfn, A.nptr, A.int .i32 0, A.int .i32 0], [(0, 1), (1, 1), (2, 1), (3, 1), (4, 1), (5, 1), (6, 1), (7, 1), (8, 1), (9, 1), (10, 1)]) := by kernel_rfl
theorem has_q0 : Try.prog.cellsOf 4294967295 = 0 := by kernel_rfl
theorem has_mo : Try.prog.follows .mixedOrders = true := by kernel_rfl
instance facts : Facts Try.prog where
  s1 := has_s1
  t1 := has_t1
  h1 := has_h1
  c1 := has_c1
  a1 := has_a1
  z1 := has_z1
  u2 := has_u2
  s2 := has_s2
  t2 := has_t2
  h2 := has_h2
  i2 := has_i2
  c2 := has_c2
  a2 := has_a2
  z2 := has_z2
  u3 := has_u3
  s3 := has_s3
  t3 := has_t3
  h3 := has_h3
  i3 := has_i3
  c3 := has_c3
  a3 := has_a3
  z3 := has_z3
  u4 := has_u4
  s4 := has_s4
  t4 := has_t4
  h4 := has_h4
  d4 := has_d4
  c4 := has_c4
  a4 := has_a4
  z4 := has_z4
  u5 := has_u5
  s5 := has_s5
  t5 := has_t5
  h5 := has_h5
  i5 := has_i5
  c5 := has_c5
  a5 := has_a5
  z5 := has_z5
  u9 := has_u9
  s9 := has_s9
  t9 := has_t9
  h9 := has_h9
  c9 := has_c9
  a9 := has_a9
  z9 := has_z9
  u12 := has_u12
  s12 := has_s12
  t12 := has_t12
  h12 := has_h12
  i12 := has_i12
  c12 := has_c12
  a12 := has_a12
  z12 := has_z12
  u21 := has_u21
  s21 := has_s21
  t21 := has_t21
  h21 := has_h21
  i21 := has_i21
  c21 := has_c21
  a21 := has_a21
  z21 := has_z21
  u22 := has_u22
  s22 := has_s22
  t22 := has_t22
  h22 := has_h22
  i22 := has_i22
  c22 := has_c22
  a22 := has_a22
  z22 := has_z22
  s23 := has_s23
  t23 := has_t23
  h23 := has_h23
  c23 := has_c23
  a23 := has_a23
  z23 := has_z23
  s24 := has_s24
  t24 := has_t24
  h24 := has_h24
  c24 := has_c24
  a24 := has_a24
  z24 := has_z24
  s25 := has_s25
  t25 := has_t25
  h25 := has_h25
  c25 := has_c25
  a25 := has_a25
  z25 := has_z25
  s26 := has_s26
  t26 := has_t26
  h26 := has_h26
  c26 := has_c26
  a26 := has_a26
  z26 := has_z26
  u27 := has_u27
  s27 := has_s27
  l27 := has_l27
  t27 := has_t27
  h27 := has_h27
  c27 := has_c27
  a27 := has_a27
  z27 := has_z27
  g28_0 := has_g28_0
  g28_1 := has_g28_1
  g28_2 := has_g28_2
  g28_3 := has_g28_3
  g28_4 := has_g28_4
  g28_5 := has_g28_5
  s28 := has_s28
  t28 := has_t28
  h28 := has_h28
  w28 := has_w28
  c28 := has_c28
  a28 := has_a28
  z28 := has_z28
  b28 := has_b28
  g29_0 := has_g29_0
  g29_1 := has_g29_1
  g29_2 := has_g29_2
  g29_3 := has_g29_3
  g29_4 := has_g29_4
  g29_5 := has_g29_5
  s29 := has_s29
  t29 := has_t29
  h29 := has_h29
  w29 := has_w29
  c29 := has_c29
  a29 := has_a29
  z29 := has_z29
  b29 := has_b29
  u30 := has_u30
  s30 := has_s30
  l30 := has_l30
  t30 := has_t30
  h30 := has_h30
  c30 := has_c30
  a30 := has_a30
  z30 := has_z30
  g31_0 := has_g31_0
  g31_1 := has_g31_1
  g31_2 := has_g31_2
  g31_3 := has_g31_3
  s31 := has_s31
  t31 := has_t31
  h31 := has_h31
  w31 := has_w31
  c31 := has_c31
  a31 := has_a31
  z31 := has_z31
  b31 := has_b31
  g32_0 := has_g32_0
  g32_1 := has_g32_1
  g32_2 := has_g32_2
  g32_3 := has_g32_3
  s32 := has_s32
  t32 := has_t32
  h32 := has_h32
  w32 := has_w32
  c32 := has_c32
  a32 := has_a32
  z32 := has_z32
  b32 := has_b32
  s33 := has_s33
  t33 := has_t33
  h33 := has_h33
  c33 := has_c33
  a33 := has_a33
  z33 := has_z33
  u34 := has_u34
  s34 := has_s34
  t34 := has_t34
  h34 := has_h34
  i34 := has_i34
  c34 := has_c34
  a34 := has_a34
  z34 := has_z34
  s35 := has_s35
  t35 := has_t35
  h35 := has_h35
  c35 := has_c35
  a35 := has_a35
  z35 := has_z35
  s36 := has_s36
  t36 := has_t36
  h36 := has_h36
  c36 := has_c36
  a36 := has_a36
  z36 := has_z36
  s37 := has_s37
  t37 := has_t37
  h37 := has_h37
  c37 := has_c37
  a37 := has_a37
  z37 := has_z37
  s38 := has_s38
  t38 := has_t38
  h38 := has_h38
  c38 := has_c38
  a38 := has_a38
  z38 := has_z38
  s39 := has_s39
  t39 := has_t39
  h39 := has_h39
  c39 := has_c39
  a39 := has_a39
  z39 := has_z39
  s40 := has_s40
  t40 := has_t40
  h40 := has_h40
  c40 := has_c40
  a40 := has_a40
  z40 := has_z40
  s41 := has_s41
  t41 := has_t41
  h41 := has_h41
  c41 := has_c41
  a41 := has_a41
  z41 := has_z41
  s42 := has_s42
  t42 := has_t42
  h42 := has_h42
  c42 := has_c42
  a42 := has_a42
  z42 := has_z42
  s43 := has_s43
  t43 := has_t43
  h43 := has_h43
  c43 := has_c43
  a43 := has_a43
  z43 := has_z43
  s44 := has_s44
  t44 := has_t44
  h44 := has_h44
  c44 := has_c44
  a44 := has_a44
  z44 := has_z44
  s45 := has_s45
  t45 := has_t45
  h45 := has_h45
  c45 := has_c45
  a45 := has_a45
  z45 := has_z45
  s46 := has_s46
  t46 := has_t46
  h46 := has_h46
  c46 := has_c46
  a46 := has_a46
  z46 := has_z46
  s47 := has_s47
  t47 := has_t47
  h47 := has_h47
  c47 := has_c47
  a47 := has_a47
  z47 := has_z47
  g48_0 := has_g48_0
  s48 := has_s48
  t48 := has_t48
  h48 := has_h48
  w48 := has_w48
  c48 := has_c48
  a48 := has_a48
  z48 := has_z48
  b48 := has_b48
  e48 := has_e48
  g49_0 := has_g49_0
  s49 := has_s49
  t49 := has_t49
  h49 := has_h49
  w49 := has_w49
  c49 := has_c49
  a49 := has_a49
  z49 := has_z49
  b49 := has_b49
  e49 := has_e49
  u50 := has_u50
  s50 := has_s50
  t50 := has_t50
  h50 := has_h50
  i50 := has_i50
  c50 := has_c50
  a50 := has_a50
  z50 := has_z50
  s52 := has_s52
  t52 := has_t52
  h52 := has_h52
  c52 := has_c52
  a52 := has_a52
  z52 := has_z52
  s53 := has_s53
  t53 := has_t53
  h53 := has_h53
  c53 := has_c53
  a53 := has_a53
  z53 := has_z53
  s54 := has_s54
  t54 := has_t54
  h54 := has_h54
  c54 := has_c54
  a54 := has_a54
  z54 := has_z54
  s55 := has_s55
  t55 := has_t55
  h55 := has_h55
  c55 := has_c55
  a55 := has_a55
  z55 := has_z55
  u56 := has_u56
  s56 := has_s56
  t56 := has_t56
  h56 := has_h56
  i56 := has_i56
  c56 := has_c56
  a56 := has_a56
  z56 := has_z56
  s57 := has_s57
  t57 := has_t57
  h57 := has_h57
  c57 := has_c57
  a57 := has_a57
  z57 := has_z57
  s58 := has_s58
  t58 := has_t58
  h58 := has_h58
  c58 := has_c58
  a58 := has_a58
  z58 := has_z58
  s59 := has_s59
  t59 := has_t59
  h59 := has_h59
  c59 := has_c59
  a59 := has_a59
  z59 := has_z59
  s61 := has_s61
  t61 := has_t61
  h61 := has_h61
  c61 := has_c61
  a61 := has_a61
  z61 := has_z61
  s62 := has_s62
  t62 := has_t62
  h62 := has_h62
  c62 := has_c62
  a62 := has_a62
  z62 := has_z62
  s63 := has_s63
  t63 := has_t63
  h63 := has_h63
  c63 := has_c63
  a63 := has_a63
  z63 := has_z63
  s64 := has_s64
  t64 := has_t64
  h64 := has_h64
  c64 := has_c64
  a64 := has_a64
  z64 := has_z64
  s65 := has_s65
  t65 := has_t65
  h65 := has_h65
  c65 := has_c65
  a65 := has_a65
  z65 := has_z65
  u66 := has_u66
  s66 := has_s66
  l66 := has_l66
  t66 := has_t66
  h66 := has_h66
  c66 := has_c66
  a66 := has_a66
  z66 := has_z66
  s67 := has_s67
  t67 := has_t67
  h67 := has_h67
  c67 := has_c67
  a67 := has_a67
  z67 := has_z67
  s68 := has_s68
  t68 := has_t68
  h68 := has_h68
  c68 := has_c68
  a68 := has_a68
  z68 := has_z68
  u71 := has_u71
  s71 := has_s71
  t71 := has_t71
  r71 := has_r71
  h71 := has_h71
  n71 := has_n71
  c71 := has_c71
  a71 := has_a71
  z71 := has_z71
  b71 := has_b71
  s74 := has_s74
  t74 := has_t74
  h74 := has_h74
  c74 := has_c74
  a74 := has_a74
  z74 := has_z74
  u75 := has_u75
  s75 := has_s75
  t75 := has_t75
  h75 := has_h75
  i75 := has_i75
  c75 := has_c75
  a75 := has_a75
  z75 := has_z75
  s78 := has_s78
  t78 := has_t78
  h78 := has_h78
  c78 := has_c78
  a78 := has_a78
  z78 := has_z78
  g82_0 := has_g82_0
  g82_1 := has_g82_1
  g82_2 := has_g82_2
  g82_3 := has_g82_3
  g82_4 := has_g82_4
  g82_5 := has_g82_5
  g82_6 := has_g82_6
  g82_7 := has_g82_7
  g82_8 := has_g82_8
  g82_9 := has_g82_9
  g82_10 := has_g82_10
  s82 := has_s82
  t82 := has_t82
  h82 := has_h82
  w82 := has_w82
  c82 := has_c82
  a82 := has_a82
  z82 := has_z82
  b82 := has_b82
  q0 := has_q0
  mo := has_mo
  f0 := Try.func0
  f1 := Try.func1
  f2 := Try.func2
  f3 := Try.func3
  f4 := Try.func4
  f5 := Try.func5
  f6 := Try.func6
  f7 := Try.func7
  f8 := Try.func8
  f9 := Try.func9
  f10 := Try.func10
  f11 := Try.func11
  f12 := Try.func12
  f13 := Try.func13
  f14 := Try.func14
  f15 := Try.func15
  f16 := Try.func16
  f17 := Try.func17
  f18 := Try.func18
  f19 := Try.func19
  f20 := Try.func20
  f21 := Try.func21
  f22 := Try.func22
  f23 := Try.func23
  f24 := Try.func24
  f25 := Try.func25
  f26 := Try.func26
  f27 := Try.func27
  f28 := Try.func28
  f29 := Try.func29
  f30 := Try.func30
  f31 := Try.func31
  f32 := Try.func32
  f33 := Try.func33
  f34 := Try.func34
  f35 := Try.func35
  f36 := Try.func36
  f37 := Try.func37
  f38 := Try.func38
  f39 := Try.func39
  f40 := Try.func40
  f41 := Try.func41
  f42 := Try.func42
  f43 := Try.func43
  f44 := Try.func44
  f45 := Try.func45
  f46 := Try.func46
  f47 := Try.func47
  f48 := Try.func48
  f49 := Try.func49
  f50 := Try.func50
  f51 := Try.func51
  f52 := Try.func52
  f53 := Try.func53
  f54 := Try.func54
  f55 := Try.func55
  f56 := Try.func56
  f57 := Try.func57
  f58 := Try.func58
  f59 := Try.func59
  f60 := Try.func60
  f61 := Try.func61
  f62 := Try.func62
  f63 := Try.func63
  f64 := Try.func64
  f65 := Try.func65
  f66 := Try.func66
  f67 := Try.func67
  f68 := Try.func68
  f69 := Try.func69
  f70 := Try.func70
  f71 := Try.func71
  f72 := Try.func72
  f73 := Try.func73
  f74 := Try.func74
  f75 := Try.func75
  f76 := Try.func76
  f77 := Try.func77
  f78 := Try.func78
  f79 := Try.func79
  f80 := Try.func80
  f81 := Try.func81
  f82 := Try.func82
  f83 := Try.func83
  f84 := Try.func84
  f85 := Try.func85
  f86 := Try.func86
  f87 := Try.func87
  f88 := Try.func88
end Go.Proofs.Ytnahhdbheeinfaa
