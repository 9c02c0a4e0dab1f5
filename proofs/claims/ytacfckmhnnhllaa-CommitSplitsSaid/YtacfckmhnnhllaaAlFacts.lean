/- The facts about types and functions that the walks of this seat use, and that its program has them. -/
import Derived.Test.YtacfckmhnnhllaaAlM4
import Derived.Test.YtacfckmhnnhllaaProg
import Derived.KernelRfl
namespace Go.Proofs.Ytacfckmhnnhllaa
open Go.AL

class Facts (P : Program) : Prop where
  s1 : isSliceT P 1 = false
  t1 : isStrT P 1 = false
  h1 : hasU P 1 = true
  c1 : P.cellsOf 1 = 1
  a1 : aggT P 1 = false
  z1 : zbox P 1 = some (A.nfn, 8)
  u2 : P.underlying 2 = some (.int .i64)
  s2 : isSliceT P 2 = false
  t2 : isStrT P 2 = false
  h2 : hasU P 2 = true
  i2 : intT P 2 = some .i64
  c2 : P.cellsOf 2 = 1
  a2 : aggT P 2 = false
  z2 : zbox P 2 = some (A.int .i64 0, 8)
  u3 : P.underlying 3 = some (.int .i64)
  s3 : isSliceT P 3 = false
  t3 : isStrT P 3 = false
  h3 : hasU P 3 = true
  i3 : intT P 3 = some .i64
  c3 : P.cellsOf 3 = 1
  a3 : aggT P 3 = false
  z3 : zbox P 3 = some (A.int .i64 0, 8)
  u4 : P.underlying 4 = some (.bool)
  s4 : isSliceT P 4 = false
  t4 : isStrT P 4 = false
  h4 : hasU P 4 = true
  d4 : isBoolT P 4 = true
  c4 : P.cellsOf 4 = 1
  a4 : aggT P 4 = false
  z4 : zbox P 4 = some (A.bool false, 1)
  u5 : P.underlying 5 = some (.int .u8)
  s5 : isSliceT P 5 = false
  t5 : isStrT P 5 = false
  h5 : hasU P 5 = true
  i5 : intT P 5 = some .u8
  c5 : P.cellsOf 5 = 1
  a5 : aggT P 5 = false
  z5 : zbox P 5 = some (A.int .u8 0, 1)
  u9 : P.underlying 9 = some (.string)
  s9 : isSliceT P 9 = false
  t9 : isStrT P 9 = true
  h9 : hasU P 9 = true
  c9 : P.cellsOf 9 = 1
  a9 : aggT P 9 = false
  z9 : zbox P 9 = some (A.str [], 16)
  u12 : P.underlying 12 = some (.int .u64)
  s12 : isSliceT P 12 = false
  t12 : isStrT P 12 = false
  h12 : hasU P 12 = true
  i12 : intT P 12 = some .u64
  c12 : P.cellsOf 12 = 1
  a12 : aggT P 12 = false
  z12 : zbox P 12 = some (A.int .u64 0, 8)
  u21 : P.underlying 21 = some (.int .i32)
  s21 : isSliceT P 21 = false
  t21 : isStrT P 21 = false
  h21 : hasU P 21 = true
  i21 : intT P 21 = some .i32
  c21 : P.cellsOf 21 = 1
  a21 : aggT P 21 = false
  z21 : zbox P 21 = some (A.int .i32 0, 4)
  u22 : P.underlying 22 = some (.slice 44)
  s22 : isSliceT P 22 = true
  l22 : selem P 22 = 44
  t22 : isStrT P 22 = false
  h22 : hasU P 22 = true
  c22 : P.cellsOf 22 = 1
  a22 : aggT P 22 = false
  z22 : zbox P 22 = some (A.sl true [], 24)
  u23 : P.underlying 23 = some (.slice 47)
  s23 : isSliceT P 23 = true
  l23 : selem P 23 = 47
  t23 : isStrT P 23 = false
  h23 : hasU P 23 = true
  c23 : P.cellsOf 23 = 1
  a23 : aggT P 23 = false
  z23 : zbox P 23 = some (A.sl true [], 24)
  g24_0 : fld P 24 0 = some (22, 0)
  g24_1 : fld P 24 1 = some (23, 1)
  s24 : isSliceT P 24 = false
  t24 : isStrT P 24 = false
  h24 : hasU P 24 = true
  w24 : ftl P 24 = some [(22, 0), (23, 1)]
  c24 : P.cellsOf 24 = 2
  a24 : aggT P 24 = true
  z24 : zbox P 24 = some (A.agg [A.sl true [], A.sl true []], 48)
  b24 : bplan P 24 = some ([A.sl true [], A.sl true []], [(0, 1), (1, 1)])
  g25_0 : fld P 25 0 = some (22, 0)
  g25_1 : fld P 25 1 = some (23, 1)
  s25 : isSliceT P 25 = false
  t25 : isStrT P 25 = false
  h25 : hasU P 25 = true
  w25 : ftl P 25 = some [(22, 0), (23, 1)]
  c25 : P.cellsOf 25 = 2
  a25 : aggT P 25 = true
  z25 : zbox P 25 = some (A.agg [A.sl true [], A.sl true []], 48)
  b25 : bplan P 25 = some ([A.sl true [], A.sl true []], [(0, 1), (1, 1)])
  s26 : isSliceT P 26 = false
  t26 : isStrT P 26 = false
  h26 : hasU P 26 = true
  c26 : P.cellsOf 26 = 1
  a26 : aggT P 26 = false
  z26 : zbox P 26 = some (A.nfn, 8)
  s27 : isSliceT P 27 = false
  t27 : isStrT P 27 = false
  h27 : hasU P 27 = true
  c27 : P.cellsOf 27 = 1
  a27 : aggT P 27 = false
  z27 : zbox P 27 = some (A.nfn, 8)
  u28 : P.underlying 28 = some (.int .i64)
  s28 : isSliceT P 28 = false
  t28 : isStrT P 28 = false
  h28 : hasU P 28 = true
  i28 : intT P 28 = some .i64
  c28 : P.cellsOf 28 = 1
  a28 : aggT P 28 = false
  z28 : zbox P 28 = some (A.int .i64 0, 8)
  s29 : isSliceT P 29 = false
  t29 : isStrT P 29 = false
  h29 : hasU P 29 = true
  c29 : P.cellsOf 29 = 1
  a29 : aggT P 29 = false
  z29 : zbox P 29 = some (A.nfn, 8)
  s30 : isSliceT P 30 = false
  t30 : isStrT P 30 = false
  h30 : hasU P 30 = true
  c30 : P.cellsOf 30 = 1
  a30 : aggT P 30 = false
  z30 : zbox P 30 = some (A.nfn, 8)
  s31 : isSliceT P 31 = false
  t31 : isStrT P 31 = false
  h31 : hasU P 31 = true
  c31 : P.cellsOf 31 = 1
  a31 : aggT P 31 = false
  z31 : zbox P 31 = some (A.nfn, 8)
  s32 : isSliceT P 32 = false
  t32 : isStrT P 32 = false
  h32 : hasU P 32 = true
  c32 : P.cellsOf 32 = 1
  a32 : aggT P 32 = false
  z32 : zbox P 32 = some (A.nfn, 8)
  s33 : isSliceT P 33 = false
  t33 : isStrT P 33 = false
  h33 : hasU P 33 = true
  c33 : P.cellsOf 33 = 1
  a33 : aggT P 33 = false
  z33 : zbox P 33 = some (A.nfn, 8)
  s34 : isSliceT P 34 = false
  t34 : isStrT P 34 = false
  h34 : hasU P 34 = true
  c34 : P.cellsOf 34 = 1
  a34 : aggT P 34 = false
  z34 : zbox P 34 = some (A.nfn, 8)
  s36 : isSliceT P 36 = false
  t36 : isStrT P 36 = false
  h36 : hasU P 36 = true
  c36 : P.cellsOf 36 = 1
  a36 : aggT P 36 = false
  z36 : zbox P 36 = some (A.nfn, 8)
  u37 : P.underlying 37 = some (.slice 25)
  s37 : isSliceT P 37 = true
  l37 : selem P 37 = 25
  t37 : isStrT P 37 = false
  h37 : hasU P 37 = true
  c37 : P.cellsOf 37 = 1
  a37 : aggT P 37 = false
  z37 : zbox P 37 = some (A.sl true [], 24)
  s38 : isSliceT P 38 = false
  t38 : isStrT P 38 = false
  h38 : hasU P 38 = true
  c38 : P.cellsOf 38 = 1
  a38 : aggT P 38 = false
  z38 : zbox P 38 = some (A.nfn, 8)
  s39 : isSliceT P 39 = false
  t39 : isStrT P 39 = false
  h39 : hasU P 39 = true
  c39 : P.cellsOf 39 = 1
  a39 : aggT P 39 = false
  z39 : zbox P 39 = some (A.nfn, 8)
  s40 : isSliceT P 40 = false
  t40 : isStrT P 40 = false
  h40 : hasU P 40 = true
  c40 : P.cellsOf 40 = 1
  a40 : aggT P 40 = false
  z40 : zbox P 40 = some (A.nfn, 8)
  u41 : P.underlying 41 = some (.int .i64)
  s41 : isSliceT P 41 = false
  t41 : isStrT P 41 = false
  h41 : hasU P 41 = true
  i41 : intT P 41 = some .i64
  c41 : P.cellsOf 41 = 1
  a41 : aggT P 41 = false
  z41 : zbox P 41 = some (A.int .i64 0, 8)
  u42 : P.underlying 42 = some (.slice 3)
  s42 : isSliceT P 42 = true
  l42 : selem P 42 = 3
  t42 : isStrT P 42 = false
  h42 : hasU P 42 = true
  c42 : P.cellsOf 42 = 1
  a42 : aggT P 42 = false
  z42 : zbox P 42 = some (A.sl true [], 24)
  g43_0 : fld P 43 0 = some (3, 0)
  g43_1 : fld P 43 1 = some (3, 1)
  g43_2 : fld P 43 2 = some (3, 2)
  g43_3 : fld P 43 3 = some (3, 3)
  g43_4 : fld P 43 4 = some (3, 4)
  g43_5 : fld P 43 5 = some (41, 5)
  g43_6 : fld P 43 6 = some (3, 6)
  g43_7 : fld P 43 7 = some (3, 7)
  g43_8 : fld P 43 8 = some (42, 8)
  s43 : isSliceT P 43 = false
  t43 : isStrT P 43 = false
  h43 : hasU P 43 = true
  w43 : ftl P 43 = some [(3, 0), (3, 1), (3, 2), (3, 3), (3, 4), (41, 5), (3, 6), (3, 7), (42, 8)]
  c43 : P.cellsOf 43 = 9
  a43 : aggT P 43 = true
  z43 : zbox P 43 = some (A.agg [A.int .i64 0, A.int .i64 0, A.int .i64 0, A.int .i64 0, A.int .i64 0, A.int .i64 0, A.int .i64 0, A.int .i64 0, A.sl true []], 88)
  b43 : bplan P 43 = some ([A.int .i64 0, A.int .i64 0, A.int .i64 0, A.int .i64 0, A.int .i64 0, A.int .i64 0, A.int .i64 0, A.int .i64 0, A.sl true []], [(0, 1), (1, 1), (2, 1), (3, 1), (4, 1), (5, 1), (6, 1), (7, 1), (8, 1)])
  g44_0 : fld P 44 0 = some (3, 0)
  g44_1 : fld P 44 1 = some (3, 1)
  g44_2 : fld P 44 2 = some (3, 2)
  g44_3 : fld P 44 3 = some (3, 3)
  g44_4 : fld P 44 4 = some (3, 4)
  g44_5 : fld P 44 5 = some (41, 5)
  g44_6 : fld P 44 6 = some (3, 6)
  g44_7 : fld P 44 7 = some (3, 7)
  g44_8 : fld P 44 8 = some (42, 8)
  s44 : isSliceT P 44 = false
  t44 : isStrT P 44 = false
  h44 : hasU P 44 = true
  w44 : ftl P 44 = some [(3, 0), (3, 1), (3, 2), (3, 3), (3, 4), (41, 5), (3, 6), (3, 7), (42, 8)]
  c44 : P.cellsOf 44 = 9
  a44 : aggT P 44 = true
  z44 : zbox P 44 = some (A.agg [A.int .i64 0, A.int .i64 0, A.int .i64 0, A.int .i64 0, A.int .i64 0, A.int .i64 0, A.int .i64 0, A.int .i64 0, A.sl true []], 88)
  b44 : bplan P 44 = some ([A.int .i64 0, A.int .i64 0, A.int .i64 0, A.int .i64 0, A.int .i64 0, A.int .i64 0, A.int .i64 0, A.int .i64 0, A.sl true []], [(0, 1), (1, 1), (2, 1), (3, 1), (4, 1), (5, 1), (6, 1), (7, 1), (8, 1)])
  u45 : P.underlying 45 = some (.int .i64)
  s45 : isSliceT P 45 = false
  t45 : isStrT P 45 = false
  h45 : hasU P 45 = true
  i45 : intT P 45 = some .i64
  c45 : P.cellsOf 45 = 1
  a45 : aggT P 45 = false
  z45 : zbox P 45 = some (A.int .i64 0, 8)
  g46_0 : fld P 46 0 = some (3, 0)
  g46_1 : fld P 46 1 = some (3, 1)
  g46_2 : fld P 46 2 = some (45, 2)
  g46_3 : fld P 46 3 = some (3, 3)
  g46_4 : fld P 46 4 = some (3, 4)
  g46_5 : fld P 46 5 = some (3, 5)
  s46 : isSliceT P 46 = false
  t46 : isStrT P 46 = false
  h46 : hasU P 46 = true
  w46 : ftl P 46 = some [(3, 0), (3, 1), (45, 2), (3, 3), (3, 4), (3, 5)]
  c46 : P.cellsOf 46 = 6
  a46 : aggT P 46 = true
  z46 : zbox P 46 = some (A.agg [A.int .i64 0, A.int .i64 0, A.int .i64 0, A.int .i64 0, A.int .i64 0, A.int .i64 0], 48)
  b46 : bplan P 46 = some ([A.int .i64 0, A.int .i64 0, A.int .i64 0, A.int .i64 0, A.int .i64 0, A.int .i64 0], [(0, 1), (1, 1), (2, 1), (3, 1), (4, 1), (5, 1)])
  e46 : eqT P 46 = some [0, 0, 0, 0, 0, 0]
  g47_0 : fld P 47 0 = some (3, 0)
  g47_1 : fld P 47 1 = some (3, 1)
  g47_2 : fld P 47 2 = some (45, 2)
  g47_3 : fld P 47 3 = some (3, 3)
  g47_4 : fld P 47 4 = some (3, 4)
  g47_5 : fld P 47 5 = some (3, 5)
  s47 : isSliceT P 47 = false
  t47 : isStrT P 47 = false
  h47 : hasU P 47 = true
  w47 : ftl P 47 = some [(3, 0), (3, 1), (45, 2), (3, 3), (3, 4), (3, 5)]
  c47 : P.cellsOf 47 = 6
  a47 : aggT P 47 = true
  z47 : zbox P 47 = some (A.agg [A.int .i64 0, A.int .i64 0, A.int .i64 0, A.int .i64 0, A.int .i64 0, A.int .i64 0], 48)
  b47 : bplan P 47 = some ([A.int .i64 0, A.int .i64 0, A.int .i64 0, A.int .i64 0, A.int .i64 0, A.int .i64 0], [(0, 1), (1, 1), (2, 1), (3, 1), (4, 1), (5, 1)])
  e47 : eqT P 47 = some [0, 0, 0, 0, 0, 0]
  s48 : isSliceT P 48 = false
  t48 : isStrT P 48 = false
  h48 : hasU P 48 = true
  c48 : P.cellsOf 48 = 1
  a48 : aggT P 48 = false
  z48 : zbox P 48 = some (A.nfn, 8)
  u49 : P.underlying 49 = some (.map 53 4)
  s49 : isSliceT P 49 = false
  t49 : isStrT P 49 = false
  m49x : isMapT P 49 = true
  m49k : mkey P 49 = 53
  m49e : melem P 49 = 4
  k53 : keyT P 53 = 2
  h49 : hasU P 49 = true
  c49 : P.cellsOf 49 = 1
  a49 : aggT P 49 = false
  s50 : isSliceT P 50 = false
  t50 : isStrT P 50 = false
  h50 : hasU P 50 = true
  c50 : P.cellsOf 50 = 1
  a50 : aggT P 50 = false
  z50 : zbox P 50 = some (A.nfn, 8)
  s51 : isSliceT P 51 = false
  t51 : isStrT P 51 = false
  h51 : hasU P 51 = true
  c51 : P.cellsOf 51 = 1
  a51 : aggT P 51 = false
  z51 : zbox P 51 = some (A.nfn, 8)
  g52_0 : fld P 52 0 = some (3, 0)
  g52_1 : fld P 52 1 = some (3, 1)
  s52 : isSliceT P 52 = false
  t52 : isStrT P 52 = false
  h52 : hasU P 52 = true
  w52 : ftl P 52 = some [(3, 0), (3, 1)]
  c52 : P.cellsOf 52 = 2
  a52 : aggT P 52 = true
  z52 : zbox P 52 = some (A.agg [A.int .i64 0, A.int .i64 0], 16)
  b52 : bplan P 52 = some ([A.int .i64 0, A.int .i64 0], [(0, 1), (1, 1)])
  e52 : eqT P 52 = some [0, 0]
  g53_0 : fld P 53 0 = some (3, 0)
  g53_1 : fld P 53 1 = some (3, 1)
  s53 : isSliceT P 53 = false
  t53 : isStrT P 53 = false
  h53 : hasU P 53 = true
  w53 : ftl P 53 = some [(3, 0), (3, 1)]
  c53 : P.cellsOf 53 = 2
  a53 : aggT P 53 = true
  z53 : zbox P 53 = some (A.agg [A.int .i64 0, A.int .i64 0], 16)
  b53 : bplan P 53 = some ([A.int .i64 0, A.int .i64 0], [(0, 1), (1, 1)])
  e53 : eqT P 53 = some [0, 0]
  s54 : isSliceT P 54 = false
  t54 : isStrT P 54 = false
  h54 : hasU P 54 = true
  c54 : P.cellsOf 54 = 1
  a54 : aggT P 54 = false
  z54 : zbox P 54 = some (A.nfn, 8)
  s55 : isSliceT P 55 = false
  t55 : isStrT P 55 = false
  h55 : hasU P 55 = true
  c55 : P.cellsOf 55 = 1
  a55 : aggT P 55 = false
  z55 : zbox P 55 = some (A.nfn, 8)
  s56 : isSliceT P 56 = false
  t56 : isStrT P 56 = false
  h56 : hasU P 56 = true
  c56 : P.cellsOf 56 = 1
  a56 : aggT P 56 = false
  z56 : zbox P 56 = some (A.nfn, 8)
  s57 : isSliceT P 57 = false
  t57 : isStrT P 57 = false
  h57 : hasU P 57 = true
  c57 : P.cellsOf 57 = 1
  a57 : aggT P 57 = false
  z57 : zbox P 57 = some (A.nfn, 8)
  s58 : isSliceT P 58 = false
  t58 : isStrT P 58 = false
  h58 : hasU P 58 = true
  c58 : P.cellsOf 58 = 1
  a58 : aggT P 58 = false
  z58 : zbox P 58 = some (A.nfn, 8)
  s59 : isSliceT P 59 = false
  t59 : isStrT P 59 = false
  h59 : hasU P 59 = true
  c59 : P.cellsOf 59 = 1
  a59 : aggT P 59 = false
  z59 : zbox P 59 = some (A.nfn, 8)
  s60 : isSliceT P 60 = false
  t60 : isStrT P 60 = false
  h60 : hasU P 60 = true
  c60 : P.cellsOf 60 = 1
  a60 : aggT P 60 = false
  z60 : zbox P 60 = some (A.nfn, 8)
  s61 : isSliceT P 61 = false
  t61 : isStrT P 61 = false
  h61 : hasU P 61 = true
  c61 : P.cellsOf 61 = 1
  a61 : aggT P 61 = false
  z61 : zbox P 61 = some (A.nfn, 8)
  u62 : P.underlying 62 = some (.map 3 3)
  s62 : isSliceT P 62 = false
  t62 : isStrT P 62 = false
  m62x : isMapT P 62 = true
  m62k : mkey P 62 = 3
  m62e : melem P 62 = 3
  k3 : keyT P 3 = 1
  h62 : hasU P 62 = true
  c62 : P.cellsOf 62 = 1
  a62 : aggT P 62 = false
  s64 : isSliceT P 64 = false
  t64 : isStrT P 64 = false
  h64 : hasU P 64 = true
  c64 : P.cellsOf 64 = 1
  a64 : aggT P 64 = false
  z64 : zbox P 64 = some (A.nfn, 8)
  s65 : isSliceT P 65 = false
  t65 : isStrT P 65 = false
  h65 : hasU P 65 = true
  c65 : P.cellsOf 65 = 1
  a65 : aggT P 65 = false
  z65 : zbox P 65 = some (A.nfn, 8)
  s66 : isSliceT P 66 = false
  t66 : isStrT P 66 = false
  h66 : hasU P 66 = true
  c66 : P.cellsOf 66 = 1
  a66 : aggT P 66 = false
  z66 : zbox P 66 = some (A.nfn, 8)
  s67 : isSliceT P 67 = false
  t67 : isStrT P 67 = false
  h67 : hasU P 67 = true
  c67 : P.cellsOf 67 = 1
  a67 : aggT P 67 = false
  z67 : zbox P 67 = some (A.nfn, 8)
  s68 : isSliceT P 68 = false
  t68 : isStrT P 68 = false
  h68 : hasU P 68 = true
  c68 : P.cellsOf 68 = 1
  a68 : aggT P 68 = false
  z68 : zbox P 68 = some (A.nfn, 8)
  s69 : isSliceT P 69 = false
  t69 : isStrT P 69 = false
  h69 : hasU P 69 = true
  c69 : P.cellsOf 69 = 1
  a69 : aggT P 69 = false
  z69 : zbox P 69 = some (A.nfn, 8)
  s70 : isSliceT P 70 = false
  t70 : isStrT P 70 = false
  h70 : hasU P 70 = true
  c70 : P.cellsOf 70 = 1
  a70 : aggT P 70 = false
  z70 : zbox P 70 = some (A.nfn, 8)
  s71 : isSliceT P 71 = false
  t71 : isStrT P 71 = false
  h71 : hasU P 71 = true
  c71 : P.cellsOf 71 = 1
  a71 : aggT P 71 = false
  z71 : zbox P 71 = some (A.nfn, 8)
  s72 : isSliceT P 72 = false
  t72 : isStrT P 72 = false
  h72 : hasU P 72 = true
  c72 : P.cellsOf 72 = 1
  a72 : aggT P 72 = false
  z72 : zbox P 72 = some (A.nfn, 8)
  s73 : isSliceT P 73 = false
  t73 : isStrT P 73 = false
  h73 : hasU P 73 = true
  c73 : P.cellsOf 73 = 1
  a73 : aggT P 73 = false
  z73 : zbox P 73 = some (A.nfn, 8)
  s74 : isSliceT P 74 = false
  t74 : isStrT P 74 = false
  h74 : hasU P 74 = true
  c74 : P.cellsOf 74 = 1
  a74 : aggT P 74 = false
  z74 : zbox P 74 = some (A.nfn, 8)
  u75 : P.underlying 75 = some (.slice 22)
  s75 : isSliceT P 75 = true
  l75 : selem P 75 = 22
  t75 : isStrT P 75 = false
  h75 : hasU P 75 = true
  c75 : P.cellsOf 75 = 1
  a75 : aggT P 75 = false
  z75 : zbox P 75 = some (A.sl true [], 24)
  s76 : isSliceT P 76 = false
  t76 : isStrT P 76 = false
  h76 : hasU P 76 = true
  c76 : P.cellsOf 76 = 1
  a76 : aggT P 76 = false
  z76 : zbox P 76 = some (A.nfn, 8)
  u77 : P.underlying 77 = some (.slice 23)
  s77 : isSliceT P 77 = true
  l77 : selem P 77 = 23
  t77 : isStrT P 77 = false
  h77 : hasU P 77 = true
  c77 : P.cellsOf 77 = 1
  a77 : aggT P 77 = false
  z77 : zbox P 77 = some (A.sl true [], 24)
  s78 : isSliceT P 78 = false
  t78 : isStrT P 78 = false
  h78 : hasU P 78 = true
  c78 : P.cellsOf 78 = 1
  a78 : aggT P 78 = false
  z78 : zbox P 78 = some (A.nfn, 8)
  s79 : isSliceT P 79 = false
  t79 : isStrT P 79 = false
  h79 : hasU P 79 = true
  c79 : P.cellsOf 79 = 1
  a79 : aggT P 79 = false
  z79 : zbox P 79 = some (A.nfn, 8)
  u80 : P.underlying 80 = some (.slice 82)
  s80 : isSliceT P 80 = true
  l80 : selem P 80 = 82
  t80 : isStrT P 80 = false
  h80 : hasU P 80 = true
  c80 : P.cellsOf 80 = 1
  a80 : aggT P 80 = false
  z80 : zbox P 80 = some (A.sl true [], 24)
  g81_0 : fld P 81 0 = some (44, 0)
  g81_1 : fld P 81 1 = some (23, 9)
  s81 : isSliceT P 81 = false
  t81 : isStrT P 81 = false
  h81 : hasU P 81 = true
  w81 : ftl P 81 = some [(44, 0), (23, 9)]
  c81 : P.cellsOf 81 = 10
  a81 : aggT P 81 = true
  z81 : zbox P 81 = some (A.agg [A.int .i64 0, A.int .i64 0, A.int .i64 0, A.int .i64 0, A.int .i64 0, A.int .i64 0, A.int .i64 0, A.int .i64 0, A.sl true [], A.sl true []], 112)
  b81 : bplan P 81 = some ([A.int .i64 0, A.int .i64 0, A.int .i64 0, A.int .i64 0, A.int .i64 0, A.int .i64 0, A.int .i64 0, A.int .i64 0, A.sl true [], A.sl true []], [(0, 9), (9, 1)])
  g82_0 : fld P 82 0 = some (44, 0)
  g82_1 : fld P 82 1 = some (23, 9)
  s82 : isSliceT P 82 = false
  t82 : isStrT P 82 = false
  h82 : hasU P 82 = true
  w82 : ftl P 82 = some [(44, 0), (23, 9)]
  c82 : P.cellsOf 82 = 10
  a82 : aggT P 82 = true
  z82 : zbox P 82 = some (A.agg [A.int .i64 0, A.int .i64 0, A.int .i64 0, A.int .i64 0, A.int .i64 0, A.int .i64 0, A.int .i64 0, A.int .i64 0, A.sl true [], A.sl true []], 112)
  b82 : bplan P 82 = some ([A.int .i64 0, A.int .i64 0, A.int .i64 0, A.int .i64 0, A.int .i64 0, A.int .i64 0, A.int .i64 0, A.int .i64 0, A.sl true [], A.sl true []], [(0, 9), (9, 1)])
  s83 : isSliceT P 83 = false
  t83 : isStrT P 83 = false
  h83 : hasU P 83 = true
  c83 : P.cellsOf 83 = 1
  a83 : aggT P 83 = false
  z83 : zbox P 83 = some (A.nfn, 8)
  s84 : isSliceT P 84 = false
  t84 : isStrT P 84 = false
  h84 : hasU P 84 = true
  c84 : P.cellsOf 84 = 1
  a84 : aggT P 84 = false
  z84 : zbox P 84 = some (A.nfn, 8)
  s85 : isSliceT P 85 = false
  t85 : isStrT P 85 = false
  h85 : hasU P 85 = true
  c85 : P.cellsOf 85 = 1
  a85 : aggT P 85 = false
  z85 : zbox P 85 = some (A.nfn, 8)
  s86 : isSliceT P 86 = false
  t86 : isStrT P 86 = false
  h86 : hasU P 86 = true
  c86 : P.cellsOf 86 = 1
  a86 : aggT P 86 = false
  z86 : zbox P 86 = some (A.nfn, 8)
  s87 : isSliceT P 87 = false
  t87 : isStrT P 87 = false
  h87 : hasU P 87 = true
  c87 : P.cellsOf 87 = 1
  a87 : aggT P 87 = false
  z87 : zbox P 87 = some (A.nfn, 8)
  u88 : P.underlying 88 = some (.int .u64)
  s88 : isSliceT P 88 = false
  t88 : isStrT P 88 = false
  h88 : hasU P 88 = true
  i88 : intT P 88 = some .u64
  c88 : P.cellsOf 88 = 1
  a88 : aggT P 88 = false
  z88 : zbox P 88 = some (A.int .u64 0, 8)
  s89 : isSliceT P 89 = false
  t89 : isStrT P 89 = false
  h89 : hasU P 89 = true
  c89 : P.cellsOf 89 = 1
  a89 : aggT P 89 = false
  z89 : zbox P 89 = some (A.nfn, 8)
  s90 : isSliceT P 90 = false
  t90 : isStrT P 90 = false
  h90 : hasU P 90 = true
  c90 : P.cellsOf 90 = 1
  a90 : aggT P 90 = false
  z90 : zbox P 90 = some (A.nfn, 8)
  s91 : isSliceT P 91 = false
  t91 : isStrT P 91 = false
  h91 : hasU P 91 = true
  c91 : P.cellsOf 91 = 1
  a91 : aggT P 91 = false
  z91 : zbox P 91 = some (A.nfn, 8)
  u94 : P.underlying 94 = some (.array 0 16)
  s94 : isSliceT P 94 = false
  t94 : isStrT P 94 = false
  r94 : arrT P 94 = some (0, 16)
  h94 : hasU P 94 = true
  n94 : bplan P 94 = none
  c94 : P.cellsOf 94 = 0
  a94 : aggT P 94 = true
  z94 : zbox P 94 = some (A.agg [], 0)
  b94 : aplan P 94 = some ([], 1)
  s97 : isSliceT P 97 = false
  t97 : isStrT P 97 = false
  h97 : hasU P 97 = true
  c97 : P.cellsOf 97 = 1
  a97 : aggT P 97 = false
  z97 : zbox P 97 = some (A.nfn, 8)
  u98 : P.underlying 98 = some (.int .u32)
  s98 : isSliceT P 98 = false
  t98 : isStrT P 98 = false
  h98 : hasU P 98 = true
  i98 : intT P 98 = some .u32
  c98 : P.cellsOf 98 = 1
  a98 : aggT P 98 = false
  z98 : zbox P 98 = some (A.int .u32 0, 4)
  s101 : isSliceT P 101 = false
  t101 : isStrT P 101 = false
  h101 : hasU P 101 = true
  c101 : P.cellsOf 101 = 1
  a101 : aggT P 101 = false
  z101 : zbox P 101 = some (A.nfn, 8)
  g105_0 : fld P 105 0 = some (12, 0)
  g105_1 : fld P 105 1 = some (12, 1)
  g105_2 : fld P 105 2 = some (98, 2)
  g105_3 : fld P 105 3 = some (99, 3)
  g105_4 : fld P 105 4 = some (5, 4)
  g105_5 : fld P 105 5 = some (5, 5)
  g105_6 : fld P 105 6 = some (100, 6)
  g105_7 : fld P 105 7 = some (101, 7)
  g105_8 : fld P 105 8 = some (102, 8)
  g105_9 : fld P 105 9 = some (103, 9)
  g105_10 : fld P 105 10 = some (104, 10)
  s105 : isSliceT P 105 = false
  t105 : isStrT P 105 = false
  h105 : hasU P 105 = true
  w105 : ftl P 105 = some [(12, 0), (12, 1), (98, 2), (99, 3), (5, 4), (5, 5), (100, 6), (101, 7), (102, 8), (103, 9), (104, 10)]
  c105 : P.cellsOf 105 = 11
  a105 : aggT P 105 = true
  z105 : zbox P 105 = some (A.agg [A.int .u64 0, A.int .u64 0, A.int .u32 0, A.int .u8 0, A.int .u8 0, A.int .u8 0, A.int .u8 0, A.nfn, A.nptr, A.int .i32 0, A.int .i32 0], 48)
  b105 : bplan P 105 = some ([A.int .u64 0, A.int .u64 0, A.int .u32 0, A.int .u8 0, A.int .u8 0, A.int .u8 0, A.int .u8 0, A.nfn, A.nptr, A.int .i32 0, A.int .i32 0], [(0, 1), (1, 1), (2, 1), (3, 1), (4, 1), (5, 1), (6, 1), (7, 1), (8, 1), (9, 1), (10, 1)])
  q0 : P.cellsOf 4294967295 = 0
  mo : P.follows .mixedOrders = true
  f0 : P.funcs[0]? = some Try.f0
  f1 : P.funcs[1]? = some Try.f1
  f2 : P.funcs[2]? = some Try.f2
  f3 : P.funcs[3]? = some Try.f3
  f4 : P.funcs[4]? = some Try.f4
  f5 : P.funcs[5]? = some Try.f5
  f6 : P.funcs[6]? = some Try.f6
  f7 : P.funcs[7]? = some Try.f7
  f8 : P.funcs[8]? = some Try.f8
  f9 : P.funcs[9]? = some Try.f9
  f10 : P.funcs[10]? = some Try.f10
  f11 : P.funcs[11]? = some Try.f11
  f12 : P.funcs[12]? = some Try.f12
  f13 : P.funcs[13]? = some Try.f13
  f14 : P.funcs[14]? = some Try.f14
  f15 : P.funcs[15]? = some Try.f15
  f16 : P.funcs[16]? = some Try.f16
  f17 : P.funcs[17]? = some Try.f17
  f18 : P.funcs[18]? = some Try.f18
  f19 : P.funcs[19]? = some Try.f19
  f20 : P.funcs[20]? = some Try.f20
  f21 : P.funcs[21]? = some Try.f21
  f22 : P.funcs[22]? = some Try.f22
  f23 : P.funcs[23]? = some Try.f23
  f24 : P.funcs[24]? = some Try.f24
  f25 : P.funcs[25]? = some Try.f25
  f26 : P.funcs[26]? = some Try.f26
  f27 : P.funcs[27]? = some Try.f27
  f28 : P.funcs[28]? = some Try.f28
  f29 : P.funcs[29]? = some Try.f29
  f30 : P.funcs[30]? = some Try.f30
  f31 : P.funcs[31]? = some Try.f31
  f32 : P.funcs[32]? = some Try.f32
  f33 : P.funcs[33]? = some Try.f33
  f34 : P.funcs[34]? = some Try.f34
  f35 : P.funcs[35]? = some Try.f35
  f36 : P.funcs[36]? = some Try.f36
  f37 : P.funcs[37]? = some Try.f37
  f38 : P.funcs[38]? = some Try.f38
  f39 : P.funcs[39]? = some Try.f39
  f40 : P.funcs[40]? = some Try.f40
  f41 : P.funcs[41]? = some Try.f41
  f42 : P.funcs[42]? = some Try.f42
  f43 : P.funcs[43]? = some Try.f43
  f44 : P.funcs[44]? = some Try.f44
  f45 : P.funcs[45]? = some Try.f45
  f46 : P.funcs[46]? = some Try.f46
  f47 : P.funcs[47]? = some Try.f47
  f48 : P.funcs[48]? = some Try.f48
  f49 : P.funcs[49]? = some Try.f49
  f50 : P.funcs[50]? = some Try.f50
  f51 : P.funcs[51]? = some Try.f51
  f52 : P.funcs[52]? = some Try.f52
  f53 : P.funcs[53]? = some Try.f53
  f54 : P.funcs[54]? = some Try.f54
  f55 : P.funcs[55]? = some Try.f55
  f56 : P.funcs[56]? = some Try.f56
  f57 : P.funcs[57]? = some Try.f57
  f58 : P.funcs[58]? = some Try.f58
  f59 : P.funcs[59]? = some Try.f59
  f60 : P.funcs[60]? = some Try.f60
  f61 : P.funcs[61]? = some Try.f61
  f62 : P.funcs[62]? = some Try.f62
  f63 : P.funcs[63]? = some Try.f63
  f64 : P.funcs[64]? = some Try.f64
  f65 : P.funcs[65]? = some Try.f65
  f66 : P.funcs[66]? = some Try.f66
  f67 : P.funcs[67]? = some Try.f67
  f68 : P.funcs[68]? = some Try.f68
  f69 : P.funcs[69]? = some Try.f69
  f70 : P.funcs[70]? = some Try.f70
  f71 : P.funcs[71]? = some Try.f71
  f72 : P.funcs[72]? = some Try.f72
  f73 : P.funcs[73]? = some Try.f73
  f74 : P.funcs[74]? = some Try.f74
  f75 : P.funcs[75]? = some Try.f75
  f76 : P.funcs[76]? = some Try.f76
  f77 : P.funcs[77]? = some Try.f77
  f78 : P.funcs[78]? = some Try.f78
  f79 : P.funcs[79]? = some Try.f79
  f80 : P.funcs[80]? = some Try.f80
  f81 : P.funcs[81]? = some Try.f81
  f82 : P.funcs[82]? = some Try.f82
  f83 : P.funcs[83]? = some Try.f83
  f84 : P.funcs[84]? = some Try.f84
  f85 : P.funcs[85]? = some Try.f85
  f86 : P.funcs[86]? = some Try.f86

section
variable {P : Program}
@[simp] theorem s1_ [h : Facts P] : isSliceT P 1 = false := h.s1
@[simp] theorem t1_ [h : Facts P] : isStrT P 1 = false := h.t1
@[simp] theorem h1_ [h : Facts P] : hasU P 1 = true := h.h1
@[simp] theorem c1_ [h : Facts P] : P.cellsOf 1 = 1 := h.c1
@[simp] theorem a1_ [h : Facts P] : aggT P 1 = false := h.a1
@[simp] theorem z1_ [h : Facts P] : zbox P 1 = some (A.nfn, 8) := h.z1
@[simp] theorem u2_ [h : Facts P] : P.underlying 2 = some (.int .i64) := h.u2
@[simp] theorem s2_ [h : Facts P] : isSliceT P 2 = false := h.s2
@[simp] theorem t2_ [h : Facts P] : isStrT P 2 = false := h.t2
@[simp] theorem h2_ [h : Facts P] : hasU P 2 = true := h.h2
@[simp] theorem i2_ [h : Facts P] : intT P 2 = some .i64 := h.i2
@[simp] theorem c2_ [h : Facts P] : P.cellsOf 2 = 1 := h.c2
@[simp] theorem a2_ [h : Facts P] : aggT P 2 = false := h.a2
@[simp] theorem z2_ [h : Facts P] : zbox P 2 = some (A.int .i64 0, 8) := h.z2
@[simp] theorem u3_ [h : Facts P] : P.underlying 3 = some (.int .i64) := h.u3
@[simp] theorem s3_ [h : Facts P] : isSliceT P 3 = false := h.s3
@[simp] theorem t3_ [h : Facts P] : isStrT P 3 = false := h.t3
@[simp] theorem h3_ [h : Facts P] : hasU P 3 = true := h.h3
@[simp] theorem i3_ [h : Facts P] : intT P 3 = some .i64 := h.i3
@[simp] theorem c3_ [h : Facts P] : P.cellsOf 3 = 1 := h.c3
@[simp] theorem a3_ [h : Facts P] : aggT P 3 = false := h.a3
@[simp] theorem z3_ [h : Facts P] : zbox P 3 = some (A.int .i64 0, 8) := h.z3
@[simp] theorem u4_ [h : Facts P] : P.underlying 4 = some (.bool) := h.u4
@[simp] theorem s4_ [h : Facts P] : isSliceT P 4 = false := h.s4
@[simp] theorem t4_ [h : Facts P] : isStrT P 4 = false := h.t4
@[simp] theorem h4_ [h : Facts P] : hasU P 4 = true := h.h4
@[simp] theorem d4_ [h : Facts P] : isBoolT P 4 = true := h.d4
@[simp] theorem c4_ [h : Facts P] : P.cellsOf 4 = 1 := h.c4
@[simp] theorem a4_ [h : Facts P] : aggT P 4 = false := h.a4
@[simp] theorem z4_ [h : Facts P] : zbox P 4 = some (A.bool false, 1) := h.z4
@[simp] theorem u5_ [h : Facts P] : P.underlying 5 = some (.int .u8) := h.u5
@[simp] theorem s5_ [h : Facts P] : isSliceT P 5 = false := h.s5
@[simp] theorem t5_ [h : Facts P] : isStrT P 5 = false := h.t5
@[simp] theorem h5_ [h : Facts P] : hasU P 5 = true := h.h5
@[simp] theorem i5_ [h : Facts P] : intT P 5 = some .u8 := h.i5
@[simp] theorem c5_ [h : Facts P] : P.cellsOf 5 = 1 := h.c5
@[simp] theorem a5_ [h : Facts P] : aggT P 5 = false := h.a5
@[simp] theorem z5_ [h : Facts P] : zbox P 5 = some (A.int .u8 0, 1) := h.z5
@[simp] theorem u9_ [h : Facts P] : P.underlying 9 = some (.string) := h.u9
@[simp] theorem s9_ [h : Facts P] : isSliceT P 9 = false := h.s9
@[simp] theorem t9_ [h : Facts P] : isStrT P 9 = true := h.t9
@[simp] theorem h9_ [h : Facts P] : hasU P 9 = true := h.h9
@[simp] theorem c9_ [h : Facts P] : P.cellsOf 9 = 1 := h.c9
@[simp] theorem a9_ [h : Facts P] : aggT P 9 = false := h.a9
@[simp] theorem z9_ [h : Facts P] : zbox P 9 = some (A.str [], 16) := h.z9
@[simp] theorem u12_ [h : Facts P] : P.underlying 12 = some (.int .u64) := h.u12
@[simp] theorem s12_ [h : Facts P] : isSliceT P 12 = false := h.s12
@[simp] theorem t12_ [h : Facts P] : isStrT P 12 = false := h.t12
@[simp] theorem h12_ [h : Facts P] : hasU P 12 = true := h.h12
@[simp] theorem i12_ [h : Facts P] : intT P 12 = some .u64 := h.i12
@[simp] theorem c12_ [h : Facts P] : P.cellsOf 12 = 1 := h.c12
@[simp] theorem a12_ [h : Facts P] : aggT P 12 = false := h.a12
@[simp] theorem z12_ [h : Facts P] : zbox P 12 = some (A.int .u64 0, 8) := h.z12
@[simp] theorem u21_ [h : Facts P] : P.underlying 21 = some (.int .i32) := h.u21
@[simp] theorem s21_ [h : Facts P] : isSliceT P 21 = false := h.s21
@[simp] theorem t21_ [h : Facts P] : isStrT P 21 = false := h.t21
@[simp] theorem h21_ [h : Facts P] : hasU P 21 = true := h.h21
@[simp] theorem i21_ [h : Facts P] : intT P 21 = some .i32 := h.i21
@[simp] theorem c21_ [h : Facts P] : P.cellsOf 21 = 1 := h.c21
@[simp] theorem a21_ [h : Facts P] : aggT P 21 = false := h.a21
@[simp] theorem z21_ [h : Facts P] : zbox P 21 = some (A.int .i32 0, 4) := h.z21
@[simp] theorem u22_ [h : Facts P] : P.underlying 22 = some (.slice 44) := h.u22
@[simp] theorem s22_ [h : Facts P] : isSliceT P 22 = true := h.s22
@[simp] theorem l22_ [h : Facts P] : selem P 22 = 44 := h.l22
@[simp] theorem t22_ [h : Facts P] : isStrT P 22 = false := h.t22
@[simp] theorem h22_ [h : Facts P] : hasU P 22 = true := h.h22
@[simp] theorem c22_ [h : Facts P] : P.cellsOf 22 = 1 := h.c22
@[simp] theorem a22_ [h : Facts P] : aggT P 22 = false := h.a22
@[simp] theorem z22_ [h : Facts P] : zbox P 22 = some (A.sl true [], 24) := h.z22
@[simp] theorem u23_ [h : Facts P] : P.underlying 23 = some (.slice 47) := h.u23
@[simp] theorem s23_ [h : Facts P] : isSliceT P 23 = true := h.s23
@[simp] theorem l23_ [h : Facts P] : selem P 23 = 47 := h.l23
@[simp] theorem t23_ [h : Facts P] : isStrT P 23 = false := h.t23
@[simp] theorem h23_ [h : Facts P] : hasU P 23 = true := h.h23
@[simp] theorem c23_ [h : Facts P] : P.cellsOf 23 = 1 := h.c23
@[simp] theorem a23_ [h : Facts P] : aggT P 23 = false := h.a23
@[simp] theorem z23_ [h : Facts P] : zbox P 23 = some (A.sl true [], 24) := h.z23
@[simp] theorem g24_0_ [h : Facts P] : fld P 24 0 = some (22, 0) := h.g24_0
@[simp] theorem g24_1_ [h : Facts P] : fld P 24 1 = some (23, 1) := h.g24_1
@[simp] theorem s24_ [h : Facts P] : isSliceT P 24 = false := h.s24
@[simp] theorem t24_ [h : Facts P] : isStrT P 24 = false := h.t24
@[simp] theorem h24_ [h : Facts P] : hasU P 24 = true := h.h24
@[simp] theorem w24_ [h : Facts P] : ftl P 24 = some [(22, 0), (23, 1)] := h.w24
@[simp] theorem c24_ [h : Facts P] : P.cellsOf 24 = 2 := h.c24
@[simp] theorem a24_ [h : Facts P] : aggT P 24 = true := h.a24
@[simp] theorem z24_ [h : Facts P] : zbox P 24 = some (A.agg [A.sl true [], A.sl true []], 48) := h.z24
@[simp] theorem b24_ [h : Facts P] : bplan P 24 = some ([A.sl true [], A.sl true []], [(0, 1), (1, 1)]) := h.b24
@[simp] theorem g25_0_ [h : Facts P] : fld P 25 0 = some (22, 0) := h.g25_0
@[simp] theorem g25_1_ [h : Facts P] : fld P 25 1 = some (23, 1) := h.g25_1
@[simp] theorem s25_ [h : Facts P] : isSliceT P 25 = false := h.s25
@[simp] theorem t25_ [h : Facts P] : isStrT P 25 = false := h.t25
@[simp] theorem h25_ [h : Facts P] : hasU P 25 = true := h.h25
@[simp] theorem w25_ [h : Facts P] : ftl P 25 = some [(22, 0), (23, 1)] := h.w25
@[simp] theorem c25_ [h : Facts P] : P.cellsOf 25 = 2 := h.c25
@[simp] theorem a25_ [h : Facts P] : aggT P 25 = true := h.a25
@[simp] theorem z25_ [h : Facts P] : zbox P 25 = some (A.agg [A.sl true [], A.sl true []], 48) := h.z25
@[simp] theorem b25_ [h : Facts P] : bplan P 25 = some ([A.sl true [], A.sl true []], [(0, 1), (1, 1)]) := h.b25
@[simp] theorem s26_ [h : Facts P] : isSliceT P 26 = false := h.s26
@[simp] theorem t26_ [h : Facts P] : isStrT P 26 = false := h.t26
@[simp] theorem h26_ [h : Facts P] : hasU P 26 = true := h.h26
@[simp] theorem c26_ [h : Facts P] : P.cellsOf 26 = 1 := h.c26
@[simp] theorem a26_ [h : Facts P] : aggT P 26 = false := h.a26
@[simp] theorem z26_ [h : Facts P] : zbox P 26 = some (A.nfn, 8) := h.z26
@[simp] theorem s27_ [h : Facts P] : isSliceT P 27 = false := h.s27
@[simp] theorem t27_ [h : Facts P] : isStrT P 27 = false := h.t27
@[simp] theorem h27_ [h : Facts P] : hasU P 27 = true := h.h27
@[simp] theorem c27_ [h : Facts P] : P.cellsOf 27 = 1 := h.c27
@[simp] theorem a27_ [h : Facts P] : aggT P 27 = false := h.a27
@[simp] theorem z27_ [h : Facts P] : zbox P 27 = some (A.nfn, 8) := h.z27
@[simp] theorem u28_ [h : Facts P] : P.underlying 28 = some (.int .i64) := h.u28
@[simp] theorem s28_ [h : Facts P] : isSliceT P 28 = false := h.s28
@[simp] theorem t28_ [h : Facts P] : isStrT P 28 = false := h.t28
@[simp] theorem h28_ [h : Facts P] : hasU P 28 = true := h.h28
@[simp] theorem i28_ [h : Facts P] : intT P 28 = some .i64 := h.i28
@[simp] theorem c28_ [h : Facts P] : P.cellsOf 28 = 1 := h.c28
@[simp] theorem a28_ [h : Facts P] : aggT P 28 = false := h.a28
@[simp] theorem z28_ [h : Facts P] : zbox P 28 = some (A.int .i64 0, 8) := h.z28
@[simp] theorem s29_ [h : Facts P] : isSliceT P 29 = false := h.s29
@[simp] theorem t29_ [h : Facts P] : isStrT P 29 = false := h.t29
@[simp] theorem h29_ [h : Facts P] : hasU P 29 = true := h.h29
@[simp] theorem c29_ [h : Facts P] : P.cellsOf 29 = 1 := h.c29
@[simp] theorem a29_ [h : Facts P] : aggT P 29 = false := h.a29
@[simp] theorem z29_ [h : Facts P] : zbox P 29 = some (A.nfn, 8) := h.z29
@[simp] theorem s30_ [h : Facts P] : isSliceT P 30 = false := h.s30
@[simp] theorem t30_ [h : Facts P] : isStrT P 30 = false := h.t30
@[simp] theorem h30_ [h : Facts P] : hasU P 30 = true := h.h30
@[simp] theorem c30_ [h : Facts P] : P.cellsOf 30 = 1 := h.c30
@[simp] theorem a30_ [h : Facts P] : aggT P 30 = false := h.a30
@[simp] theorem z30_ [h : Facts P] : zbox P 30 = some (A.nfn, 8) := h.z30
@[simp] theorem s31_ [h : Facts P] : isSliceT P 31 = false := h.s31
@[simp] theorem t31_ [h : Facts P] : isStrT P 31 = false := h.t31
@[simp] theorem h31_ [h : Facts P] : hasU P 31 = true := h.h31
@[simp] theorem c31_ [h : Facts P] : P.cellsOf 31 = 1 := h.c31
@[simp] theorem a31_ [h : Facts P] : aggT P 31 = false := h.a31
@[simp] theorem z31_ [h : Facts P] : zbox P 31 = some (A.nfn, 8) := h.z31
@[simp] theorem s32_ [h : Facts P] : isSliceT P 32 = false := h.s32
@[simp] theorem t32_ [h : Facts P] : isStrT P 32 = false := h.t32
@[simp] theorem h32_ [h : Facts P] : hasU P 32 = true := h.h32
@[simp] theorem c32_ [h : Facts P] : P.cellsOf 32 = 1 := h.c32
@[simp] theorem a32_ [h : Facts P] : aggT P 32 = false := h.a32
@[simp] theorem z32_ [h : Facts P] : zbox P 32 = some (A.nfn, 8) := h.z32
@[simp] theorem s33_ [h : Facts P] : isSliceT P 33 = false := h.s33
@[simp] theorem t33_ [h : Facts P] : isStrT P 33 = false := h.t33
@[simp] theorem h33_ [h : Facts P] : hasU P 33 = true := h.h33
@[simp] theorem c33_ [h : Facts P] : P.cellsOf 33 = 1 := h.c33
@[simp] theorem a33_ [h : Facts P] : aggT P 33 = false := h.a33
@[simp] theorem z33_ [h : Facts P] : zbox P 33 = some (A.nfn, 8) := h.z33
@[simp] theorem s34_ [h : Facts P] : isSliceT P 34 = false := h.s34
@[simp] theorem t34_ [h : Facts P] : isStrT P 34 = false := h.t34
@[simp] theorem h34_ [h : Facts P] : hasU P 34 = true := h.h34
@[simp] theorem c34_ [h : Facts P] : P.cellsOf 34 = 1 := h.c34
@[simp] theorem a34_ [h : Facts P] : aggT P 34 = false := h.a34
@[simp] theorem z34_ [h : Facts P] : zbox P 34 = some (A.nfn, 8) := h.z34
@[simp] theorem s36_ [h : Facts P] : isSliceT P 36 = false := h.s36
@[simp] theorem t36_ [h : Facts P] : isStrT P 36 = false := h.t36
@[simp] theorem h36_ [h : Facts P] : hasU P 36 = true := h.h36
@[simp] theorem c36_ [h : Facts P] : P.cellsOf 36 = 1 := h.c36
@[simp] theorem a36_ [h : Facts P] : aggT P 36 = false := h.a36
@[simp] theorem z36_ [h : Facts P] : zbox P 36 = some (A.nfn, 8) := h.z36
@[simp] theorem u37_ [h : Facts P] : P.underlying 37 = some (.slice 25) := h.u37
@[simp] theorem s37_ [h : Facts P] : isSliceT P 37 = true := h.s37
@[simp] theorem l37_ [h : Facts P] : selem P 37 = 25 := h.l37
@[simp] theorem t37_ [h : Facts P] : isStrT P 37 = false := h.t37
@[simp] theorem h37_ [h : Facts P] : hasU P 37 = true := h.h37
@[simp] theorem c37_ [h : Facts P] : P.cellsOf 37 = 1 := h.c37
@[simp] theorem a37_ [h : Facts P] : aggT P 37 = false := h.a37
@[simp] theorem z37_ [h : Facts P] : zbox P 37 = some (A.sl true [], 24) := h.z37
@[simp] theorem s38_ [h : Facts P] : isSliceT P 38 = false := h.s38
@[simp] theorem t38_ [h : Facts P] : isStrT P 38 = false := h.t38
@[simp] theorem h38_ [h : Facts P] : hasU P 38 = true := h.h38
@[simp] theorem c38_ [h : Facts P] : P.cellsOf 38 = 1 := h.c38
@[simp] theorem a38_ [h : Facts P] : aggT P 38 = false := h.a38
@[simp] theorem z38_ [h : Facts P] : zbox P 38 = some (A.nfn, 8) := h.z38
@[simp] theorem s39_ [h : Facts P] : isSliceT P 39 = false := h.s39
@[simp] theorem t39_ [h : Facts P] : isStrT P 39 = false := h.t39
@[simp] theorem h39_ [h : Facts P] : hasU P 39 = true := h.h39
@[simp] theorem c39_ [h : Facts P] : P.cellsOf 39 = 1 := h.c39
@[simp] theorem a39_ [h : Facts P] : aggT P 39 = false := h.a39
@[simp] theorem z39_ [h : Facts P] : zbox P 39 = some (A.nfn, 8) := h.z39
@[simp] theorem s40_ [h : Facts P] : isSliceT P 40 = false := h.s40
@[simp] theorem t40_ [h : Facts P] : isStrT P 40 = false := h.t40
@[simp] theorem h40_ [h : Facts P] : hasU P 40 = true := h.h40
@[simp] theorem c40_ [h : Facts P] : P.cellsOf 40 = 1 := h.c40
@[simp] theorem a40_ [h : Facts P] : aggT P 40 = false := h.a40
@[simp] theorem z40_ [h : Facts P] : zbox P 40 = some (A.nfn, 8) := h.z40
@[simp] theorem u41_ [h : Facts P] : P.underlying 41 = some (.int .i64) := h.u41
@[simp] theorem s41_ [h : Facts P] : isSliceT P 41 = false := h.s41
@[simp] theorem t41_ [h : Facts P] : isStrT P 41 = false := h.t41
@[simp] theorem h41_ [h : Facts P] : hasU P 41 = true := h.h41
@[simp] theorem i41_ [h : Facts P] : intT P 41 = some .i64 := h.i41
@[simp] theorem c41_ [h : Facts P] : P.cellsOf 41 = 1 := h.c41
@[simp] theorem a41_ [h : Facts P] : aggT P 41 = false := h.a41
@[simp] theorem z41_ [h : Facts P] : zbox P 41 = some (A.int .i64 0, 8) := h.z41
@[simp] theorem u42_ [h : Facts P] : P.underlying 42 = some (.slice 3) := h.u42
@[simp] theorem s42_ [h : Facts P] : isSliceT P 42 = true := h.s42
@[simp] theorem l42_ [h : Facts P] : selem P 42 = 3 := h.l42
@[simp] theorem t42_ [h : Facts P] : isStrT P 42 = false := h.t42
@[simp] theorem h42_ [h : Facts P] : hasU P 42 = true := h.h42
@[simp] theorem c42_ [h : Facts P] : P.cellsOf 42 = 1 := h.c42
@[simp] theorem a42_ [h : Facts P] : aggT P 42 = false := h.a42
@[simp] theorem z42_ [h : Facts P] : zbox P 42 = some (A.sl true [], 24) := h.z42
@[simp] theorem g43_0_ [h : Facts P] : fld P 43 0 = some (3, 0) := h.g43_0
@[simp] theorem g43_1_ [h : Facts P] : fld P 43 1 = some (3, 1) := h.g43_1
@[simp] theorem g43_2_ [h : Facts P] : fld P 43 2 = some (3, 2) := h.g43_2
@[simp] theorem g43_3_ [h : Facts P] : fld P 43 3 = some (3, 3) := h.g43_3
@[simp] theorem g43_4_ [h : Facts P] : fld P 43 4 = some (3, 4) := h.g43_4
@[simp] theorem g43_5_ [h : Facts P] : fld P 43 5 = some (41, 5) := h.g43_5
@[simp] theorem g43_6_ [h : Facts P] : fld P 43 6 = some (3, 6) := h.g43_6
@[simp] theorem g43_7_ [h : Facts P] : fld P 43 7 = some (3, 7) := h.g43_7
@[simp] theorem g43_8_ [h : Facts P] : fld P 43 8 = some (42, 8) := h.g43_8
@[simp] theorem s43_ [h : Facts P] : isSliceT P 43 = false := h.s43
@[simp] theorem t43_ [h : Facts P] : isStrT P 43 = false := h.t43
@[simp] theorem h43_ [h : Facts P] : hasU P 43 = true := h.h43
@[simp] theorem w43_ [h : Facts P] : ftl P 43 = some [(3, 0), (3, 1), (3, 2), (3, 3), (3, 4), (41, 5), (3, 6), (3, 7), (42, 8)] := h.w43
@[simp] theorem c43_ [h : Facts P] : P.cellsOf 43 = 9 := h.c43
@[simp] theorem a43_ [h : Facts P] : aggT P 43 = true := h.a43
@[simp] theorem z43_ [h : Facts P] : zbox P 43 = some (A.agg [A.int .i64 0, A.int .i64 0, A.int .i64 0, A.int .i64 0, A.int .i64 0, A.int .i64 0, A.int .i64 0, A.int .i64 0, A.sl true []], 88) := h.z43
@[simp] theorem b43_ [h : Facts P] : bplan P 43 = some ([A.int .i64 0, A.int .i64 0, A.int .i64 0, A.int .i64 0, A.int .i64 0, A.int .i64 0, A.int .i64 0, A.int .i64 0, A.sl true []], [(0, 1), (1, 1), (2, 1), (3, 1), (4, 1), (5, 1), (6, 1), (7, 1), (8, 1)]) := h.b43
@[simp] theorem g44_0_ [h : Facts P] : fld P 44 0 = some (3, 0) := h.g44_0
@[simp] theorem g44_1_ [h : Facts P] : fld P 44 1 = some (3, 1) := h.g44_1
@[simp] theorem g44_2_ [h : Facts P] : fld P 44 2 = some (3, 2) := h.g44_2
@[simp] theorem g44_3_ [h : Facts P] : fld P 44 3 = some (3, 3) := h.g44_3
@[simp] theorem g44_4_ [h : Facts P] : fld P 44 4 = some (3, 4) := h.g44_4
@[simp] theorem g44_5_ [h : Facts P] : fld P 44 5 = some (41, 5) := h.g44_5
@[simp] theorem g44_6_ [h : Facts P] : fld P 44 6 = some (3, 6) := h.g44_6
@[simp] theorem g44_7_ [h : Facts P] : fld P 44 7 = some (3, 7) := h.g44_7
@[simp] theorem g44_8_ [h : Facts P] : fld P 44 8 = some (42, 8) := h.g44_8
@[simp] theorem s44_ [h : Facts P] : isSliceT P 44 = false := h.s44
@[simp] theorem t44_ [h : Facts P] : isStrT P 44 = false := h.t44
@[simp] theorem h44_ [h : Facts P] : hasU P 44 = true := h.h44
@[simp] theorem w44_ [h : Facts P] : ftl P 44 = some [(3, 0), (3, 1), (3, 2), (3, 3), (3, 4), (41, 5), (3, 6), (3, 7), (42, 8)] := h.w44
@[simp] theorem c44_ [h : Facts P] : P.cellsOf 44 = 9 := h.c44
@[simp] theorem a44_ [h : Facts P] : aggT P 44 = true := h.a44
@[simp] theorem z44_ [h : Facts P] : zbox P 44 = some (A.agg [A.int .i64 0, A.int .i64 0, A.int .i64 0, A.int .i64 0, A.int .i64 0, A.int .i64 0, A.int .i64 0, A.int .i64 0, A.sl true []], 88) := h.z44
@[simp] theorem b44_ [h : Facts P] : bplan P 44 = some ([A.int .i64 0, A.int .i64 0, A.int .i64 0, A.int .i64 0, A.int .i64 0, A.int .i64 0, A.int .i64 0, A.int .i64 0, A.sl true []], [(0, 1), (1, 1), (2, 1), (3, 1), (4, 1), (5, 1), (6, 1), (7, 1), (8, 1)]) := h.b44
@[simp] theorem u45_ [h : Facts P] : P.underlying 45 = some (.int .i64) := h.u45
@[simp] theorem s45_ [h : Facts P] : isSliceT P 45 = false := h.s45
@[simp] theorem t45_ [h : Facts P] : isStrT P 45 = false := h.t45
@[simp] theorem h45_ [h : Facts P] : hasU P 45 = true := h.h45
@[simp] theorem i45_ [h : Facts P] : intT P 45 = some .i64 := h.i45
@[simp] theorem c45_ [h : Facts P] : P.cellsOf 45 = 1 := h.c45
@[simp] theorem a45_ [h : Facts P] : aggT P 45 = false := h.a45
@[simp] theorem z45_ [h : Facts P] : zbox P 45 = some (A.int .i64 0, 8) := h.z45
@[simp] theorem g46_0_ [h : Facts P] : fld P 46 0 = some (3, 0) := h.g46_0
@[simp] theorem g46_1_ [h : Facts P] : fld P 46 1 = some (3, 1) := h.g46_1
@[simp] theorem g46_2_ [h : Facts P] : fld P 46 2 = some (45, 2) := h.g46_2
@[simp] theorem g46_3_ [h : Facts P] : fld P 46 3 = some (3, 3) := h.g46_3
@[simp] theorem g46_4_ [h : Facts P] : fld P 46 4 = some (3, 4) := h.g46_4
@[simp] theorem g46_5_ [h : Facts P] : fld P 46 5 = some (3, 5) := h.g46_5
@[simp] theorem s46_ [h : Facts P] : isSliceT P 46 = false := h.s46
@[simp] theorem t46_ [h : Facts P] : isStrT P 46 = false := h.t46
@[simp] theorem h46_ [h : Facts P] : hasU P 46 = true := h.h46
@[simp] theorem w46_ [h : Facts P] : ftl P 46 = some [(3, 0), (3, 1), (45, 2), (3, 3), (3, 4), (3, 5)] := h.w46
@[simp] theorem c46_ [h : Facts P] : P.cellsOf 46 = 6 := h.c46
@[simp] theorem a46_ [h : Facts P] : aggT P 46 = true := h.a46
@[simp] theorem z46_ [h : Facts P] : zbox P 46 = some (A.agg [A.int .i64 0, A.int .i64 0, A.int .i64 0, A.int .i64 0, A.int .i64 0, A.int .i64 0], 48) := h.z46
@[simp] theorem b46_ [h : Facts P] : bplan P 46 = some ([A.int .i64 0, A.int .i64 0, A.int .i64 0, A.int .i64 0, A.int .i64 0, A.int .i64 0], [(0, 1), (1, 1), (2, 1), (3, 1), (4, 1), (5, 1)]) := h.b46
@[simp] theorem e46_ [h : Facts P] : eqT P 46 = some [0, 0, 0, 0, 0, 0] := h.e46
@[simp] theorem g47_0_ [h : Facts P] : fld P 47 0 = some (3, 0) := h.g47_0
@[simp] theorem g47_1_ [h : Facts P] : fld P 47 1 = some (3, 1) := h.g47_1
@[simp] theorem g47_2_ [h : Facts P] : fld P 47 2 = some (45, 2) := h.g47_2
@[simp] theorem g47_3_ [h : Facts P] : fld P 47 3 = some (3, 3) := h.g47_3
@[simp] theorem g47_4_ [h : Facts P] : fld P 47 4 = some (3, 4) := h.g47_4
@[simp] theorem g47_5_ [h : Facts P] : fld P 47 5 = some (3, 5) := h.g47_5
@[simp] theorem s47_ [h : Facts P] : isSliceT P 47 = false := h.s47
@[simp] theorem t47_ [h : Facts P] : isStrT P 47 = false := h.t47
@[simp] theorem h47_ [h : Facts P] : hasU P 47 = true := h.h47
@[simp] theorem w47_ [h : Facts P] : ftl P 47 = some [(3, 0), (3, 1), (45, 2), (3, 3), (3, 4), (3, 5)] := h.w47
@[simp] theorem c47_ [h : Facts P] : P.cellsOf 47 = 6 := h.c47
@[simp] theorem a47_ [h : Facts P] : aggT P 47 = true := h.a47
@[simp] theorem z47_ [h : Facts P] : zbox P 47 = some (A.agg [A.int .i64 0, A.int .i64 0, A.int .i64 0, A.int .i64 0, A.int .i64 0, A.int .i64 0], 48) := h.z47
@[simp] theorem b47_ [h : Facts P] : bplan P 47 = some ([A.int .i64 0, A.int .i64 0, A.int .i64 0, A.int .i64 0, A.int .i64 0, A.int .i64 0], [(0, 1), (1, 1), (2, 1), (3, 1), (4, 1), (5, 1)]) := h.b47
@[simp] theorem e47_ [h : Facts P] : eqT P 47 = some [0, 0, 0, 0, 0, 0] := h.e47
@[simp] theorem s48_ [h : Facts P] : isSliceT P 48 = false := h.s48
@[simp] theorem t48_ [h : Facts P] : isStrT P 48 = false := h.t48
@[simp] theorem h48_ [h : Facts P] : hasU P 48 = true := h.h48
@[simp] theorem c48_ [h : Facts P] : P.cellsOf 48 = 1 := h.c48
@[simp] theorem a48_ [h : Facts P] : aggT P 48 = false := h.a48
@[simp] theorem z48_ [h : Facts P] : zbox P 48 = some (A.nfn, 8) := h.z48
@[simp] theorem u49_ [h : Facts P] : P.underlying 49 = some (.map 53 4) := h.u49
@[simp] theorem s49_ [h : Facts P] : isSliceT P 49 = false := h.s49
@[simp] theorem t49_ [h : Facts P] : isStrT P 49 = false := h.t49
@[simp] theorem m49x_ [h : Facts P] : isMapT P 49 = true := h.m49x
@[simp] theorem m49k_ [h : Facts P] : mkey P 49 = 53 := h.m49k
@[simp] theorem m49e_ [h : Facts P] : melem P 49 = 4 := h.m49e
@[simp] theorem k53_ [h : Facts P] : keyT P 53 = 2 := h.k53
@[simp] theorem h49_ [h : Facts P] : hasU P 49 = true := h.h49
@[simp] theorem c49_ [h : Facts P] : P.cellsOf 49 = 1 := h.c49
@[simp] theorem a49_ [h : Facts P] : aggT P 49 = false := h.a49
@[simp] theorem s50_ [h : Facts P] : isSliceT P 50 = false := h.s50
@[simp] theorem t50_ [h : Facts P] : isStrT P 50 = false := h.t50
@[simp] theorem h50_ [h : Facts P] : hasU P 50 = true := h.h50
@[simp] theorem c50_ [h : Facts P] : P.cellsOf 50 = 1 := h.c50
@[simp] theorem a50_ [h : Facts P] : aggT P 50 = false := h.a50
@[simp] theorem z50_ [h : Facts P] : zbox P 50 = some (A.nfn, 8) := h.z50
@[simp] theorem s51_ [h : Facts P] : isSliceT P 51 = false := h.s51
@[simp] theorem t51_ [h : Facts P] : isStrT P 51 = false := h.t51
@[simp] theorem h51_ [h : Facts P] : hasU P 51 = true := h.h51
@[simp] theorem c51_ [h : Facts P] : P.cellsOf 51 = 1 := h.c51
@[simp] theorem a51_ [h : Facts P] : aggT P 51 = false := h.a51
@[simp] theorem z51_ [h : Facts P] : zbox P 51 = some (A.nfn, 8) := h.z51
@[simp] theorem g52_0_ [h : Facts P] : fld P 52 0 = some (3, 0) := h.g52_0
@[simp] theorem g52_1_ [h : Facts P] : fld P 52 1 = some (3, 1) := h.g52_1
@[simp] theorem s52_ [h : Facts P] : isSliceT P 52 = false := h.s52
@[simp] theorem t52_ [h : Facts P] : isStrT P 52 = false := h.t52
@[simp] theorem h52_ [h : Facts P] : hasU P 52 = true := h.h52
@[simp] theorem w52_ [h : Facts P] : ftl P 52 = some [(3, 0), (3, 1)] := h.w52
@[simp] theorem c52_ [h : Facts P] : P.cellsOf 52 = 2 := h.c52
@[simp] theorem a52_ [h : Facts P] : aggT P 52 = true := h.a52
@[simp] theorem z52_ [h : Facts P] : zbox P 52 = some (A.agg [A.int .i64 0, A.int .i64 0], 16) := h.z52
@[simp] theorem b52_ [h : Facts P] : bplan P 52 = some ([A.int .i64 0, A.int .i64 0], [(0, 1), (1, 1)]) := h.b52
@[simp] theorem e52_ [h : Facts P] : eqT P 52 = some [0, 0] := h.e52
@[simp] theorem g53_0_ [h : Facts P] : fld P 53 0 = some (3, 0) := h.g53_0
@[simp] theorem g53_1_ [h : Facts P] : fld P 53 1 = some (3, 1) := h.g53_1
@[simp] theorem s53_ [h : Facts P] : isSliceT P 53 = false := h.s53
@[simp] theorem t53_ [h : Facts P] : isStrT P 53 = false := h.t53
@[simp] theorem h53_ [h : Facts P] : hasU P 53 = true := h.h53
@[simp] theorem w53_ [h : Facts P] : ftl P 53 = some [(3, 0), (3, 1)] := h.w53
@[simp] theorem c53_ [h : Facts P] : P.cellsOf 53 = 2 := h.c53
@[simp] theorem a53_ [h : Facts P] : aggT P 53 = true := h.a53
@[simp] theorem z53_ [h : Facts P] : zbox P 53 = some (A.agg [A.int .i64 0, A.int .i64 0], 16) := h.z53
@[simp] theorem b53_ [h : Facts P] : bplan P 53 = some ([A.int .i64 0, A.int .i64 0], [(0, 1), (1, 1)]) := h.b53
@[simp] theorem e53_ [h : Facts P] : eqT P 53 = some [0, 0] := h.e53
@[simp] theorem s54_ [h : Facts P] : isSliceT P 54 = false := h.s54
@[simp] theorem t54_ [h : Facts P] : isStrT P 54 = false := h.t54
@[simp] theorem h54_ [h : Facts P] : hasU P 54 = true := h.h54
@[simp] theorem c54_ [h : Facts P] : P.cellsOf 54 = 1 := h.c54
@[simp] theorem a54_ [h : Facts P] : aggT P 54 = false := h.a54
@[simp] theorem z54_ [h : Facts P] : zbox P 54 = some (A.nfn, 8) := h.z54
@[simp] theorem s55_ [h : Facts P] : isSliceT P 55 = false := h.s55
@[simp] theorem t55_ [h : Facts P] : isStrT P 55 = false := h.t55
@[simp] theorem h55_ [h : Facts P] : hasU P 55 = true := h.h55
@[simp] theorem c55_ [h : Facts P] : P.cellsOf 55 = 1 := h.c55
@[simp] theorem a55_ [h : Facts P] : aggT P 55 = false := h.a55
@[simp] theorem z55_ [h : Facts P] : zbox P 55 = some (A.nfn, 8) := h.z55
@[simp] theorem s56_ [h : Facts P] : isSliceT P 56 = false := h.s56
@[simp] theorem t56_ [h : Facts P] : isStrT P 56 = false := h.t56
@[simp] theorem h56_ [h : Facts P] : hasU P 56 = true := h.h56
@[simp] theorem c56_ [h : Facts P] : P.cellsOf 56 = 1 := h.c56
@[simp] theorem a56_ [h : Facts P] : aggT P 56 = false := h.a56
@[simp] theorem z56_ [h : Facts P] : zbox P 56 = some (A.nfn, 8) := h.z56
@[simp] theorem s57_ [h : Facts P] : isSliceT P 57 = false := h.s57
@[simp] theorem t57_ [h : Facts P] : isStrT P 57 = false := h.t57
@[simp] theorem h57_ [h : Facts P] : hasU P 57 = true := h.h57
@[simp] theorem c57_ [h : Facts P] : P.cellsOf 57 = 1 := h.c57
@[simp] theorem a57_ [h : Facts P] : aggT P 57 = false := h.a57
@[simp] theorem z57_ [h : Facts P] : zbox P 57 = some (A.nfn, 8) := h.z57
@[simp] theorem s58_ [h : Facts P] : isSliceT P 58 = false := h.s58
@[simp] theorem t58_ [h : Facts P] : isStrT P 58 = false := h.t58
@[simp] theorem h58_ [h : Facts P] : hasU P 58 = true := h.h58
@[simp] theorem c58_ [h : Facts P] : P.cellsOf 58 = 1 := h.c58
@[simp] theorem a58_ [h : Facts P] : aggT P 58 = false := h.a58
@[simp] theorem z58_ [h : Facts P] : zbox P 58 = some (A.nfn, 8) := h.z58
@[simp] theorem s59_ [h : Facts P] : isSliceT P 59 = false := h.s59
@[simp] theorem t59_ [h : Facts P] : isStrT P 59 = false := h.t59
@[simp] theorem h59_ [h : Facts P] : hasU P 59 = true := h.h59
@[simp] theorem c59_ [h : Facts P] : P.cellsOf 59 = 1 := h.c59
@[simp] theorem a59_ [h : Facts P] : aggT P 59 = false := h.a59
@[simp] theorem z59_ [h : Facts P] : zbox P 59 = some (A.nfn, 8) := h.z59
@[simp] theorem s60_ [h : Facts P] : isSliceT P 60 = false := h.s60
@[simp] theorem t60_ [h : Facts P] : isStrT P 60 = false := h.t60
@[simp] theorem h60_ [h : Facts P] : hasU P 60 = true := h.h60
@[simp] theorem c60_ [h : Facts P] : P.cellsOf 60 = 1 := h.c60
@[simp] theorem a60_ [h : Facts P] : aggT P 60 = false := h.a60
@[simp] theorem z60_ [h : Facts P] : zbox P 60 = some (A.nfn, 8) := h.z60
@[simp] theorem s61_ [h : Facts P] : isSliceT P 61 = false := h.s61
@[simp] theorem t61_ [h : Facts P] : isStrT P 61 = false := h.t61
@[simp] theorem h61_ [h : Facts P] : hasU P 61 = true := h.h61
@[simp] theorem c61_ [h : Facts P] : P.cellsOf 61 = 1 := h.c61
@[simp] theorem a61_ [h : Facts P] : aggT P 61 = false := h.a61
@[simp] theorem z61_ [h : Facts P] : zbox P 61 = some (A.nfn, 8) := h.z61
@[simp] theorem u62_ [h : Facts P] : P.underlying 62 = some (.map 3 3) := h.u62
@[simp] theorem s62_ [h : Facts P] : isSliceT P 62 = false := h.s62
@[simp] theorem t62_ [h : Facts P] : isStrT P 62 = false := h.t62
@[simp] theorem m62x_ [h : Facts P] : isMapT P 62 = true := h.m62x
@[simp] theorem m62k_ [h : Facts P] : mkey P 62 = 3 := h.m62k
@[simp] theorem m62e_ [h : Facts P] : melem P 62 = 3 := h.m62e
@[simp] theorem k3_ [h : Facts P] : keyT P 3 = 1 := h.k3
@[simp] theorem h62_ [h : Facts P] : hasU P 62 = true := h.h62
@[simp] theorem c62_ [h : Facts P] : P.cellsOf 62 = 1 := h.c62
@[simp] theorem a62_ [h : Facts P] : aggT P 62 = false := h.a62
@[simp] theorem s64_ [h : Facts P] : isSliceT P 64 = false := h.s64
@[simp] theorem t64_ [h : Facts P] : isStrT P 64 = false := h.t64
@[simp] theorem h64_ [h : Facts P] : hasU P 64 = true := h.h64
@[simp] theorem c64_ [h : Facts P] : P.cellsOf 64 = 1 := h.c64
@[simp] theorem a64_ [h : Facts P] : aggT P 64 = false := h.a64
@[simp] theorem z64_ [h : Facts P] : zbox P 64 = some (A.nfn, 8) := h.z64
@[simp] theorem s65_ [h : Facts P] : isSliceT P 65 = false := h.s65
@[simp] theorem t65_ [h : Facts P] : isStrT P 65 = false := h.t65
@[simp] theorem h65_ [h : Facts P] : hasU P 65 = true := h.h65
@[simp] theorem c65_ [h : Facts P] : P.cellsOf 65 = 1 := h.c65
@[simp] theorem a65_ [h : Facts P] : aggT P 65 = false := h.a65
@[simp] theorem z65_ [h : Facts P] : zbox P 65 = some (A.nfn, 8) := h.z65
@[simp] theorem s66_ [h : Facts P] : isSliceT P 66 = false := h.s66
@[simp] theorem t66_ [h : Facts P] : isStrT P 66 = false := h.t66
@[simp] theorem h66_ [h : Facts P] : hasU P 66 = true := h.h66
@[simp] theorem c66_ [h : Facts P] : P.cellsOf 66 = 1 := h.c66
@[simp] theorem a66_ [h : Facts P] : aggT P 66 = false := h.a66
@[simp] theorem z66_ [h : Facts P] : zbox P 66 = some (A.nfn, 8) := h.z66
@[simp] theorem s67_ [h : Facts P] : isSliceT P 67 = false := h.s67
@[simp] theorem t67_ [h : Facts P] : isStrT P 67 = false := h.t67
@[simp] theorem h67_ [h : Facts P] : hasU P 67 = true := h.h67
@[simp] theorem c67_ [h : Facts P] : P.cellsOf 67 = 1 := h.c67
@[simp] theorem a67_ [h : Facts P] : aggT P 67 = false := h.a67
@[simp] theorem z67_ [h : Facts P] : zbox P 67 = some (A.nfn, 8) := h.z67
@[simp] theorem s68_ [h : Facts P] : isSliceT P 68 = false := h.s68
@[simp] theorem t68_ [h : Facts P] : isStrT P 68 = false := h.t68
@[simp] theorem h68_ [h : Facts P] : hasU P 68 = true := h.h68
@[simp] theorem c68_ [h : Facts P] : P.cellsOf 68 = 1 := h.c68
@[simp] theorem a68_ [h : Facts P] : aggT P 68 = false := h.a68
@[simp] theorem z68_ [h : Facts P] : zbox P 68 = some (A.nfn, 8) := h.z68
@[simp] theorem s69_ [h : Facts P] : isSliceT P 69 = false := h.s69
@[simp] theorem t69_ [h : Facts P] : isStrT P 69 = false := h.t69
@[simp] theorem h69_ [h : Facts P] : hasU P 69 = true := h.h69
@[simp] theorem c69_ [h : Facts P] : P.cellsOf 69 = 1 := h.c69
@[simp] theorem a69_ [h : Facts P] : aggT P 69 = false := h.a69
@[simp] theorem z69_ [h : Facts P] : zbox P 69 = some (A.nfn, 8) := h.z69
@[simp] theorem s70_ [h : Facts P] : isSliceT P 70 = false := h.s70
@[simp] theorem t70_ [h : Facts P] : isStrT P 70 = false := h.t70
@[simp] theorem h70_ [h : Facts P] : hasU P 70 = true := h.h70
@[simp] theorem c70_ [h : Facts P] : P.cellsOf 70 = 1 := h.c70
@[simp] theorem a70_ [h : Facts P] : aggT P 70 = false := h.a70
@[simp] theorem z70_ [h : Facts P] : zbox P 70 = some (A.nfn, 8) := h.z70
@[simp] theorem s71_ [h : Facts P] : isSliceT P 71 = false := h.s71
@[simp] theorem t71_ [h : Facts P] : isStrT P 71 = false := h.t71
@[simp] theorem h71_ [h : Facts P] : hasU P 71 = true := h.h71
@[simp] theorem c71_ [h : Facts P] : P.cellsOf 71 = 1 := h.c71
@[simp] theorem a71_ [h : Facts P] : aggT P 71 = false := h.a71
@[simp] theorem z71_ [h : Facts P] : zbox P 71 = some (A.nfn, 8) := h.z71
@[simp] theorem s72_ [h : Facts P] : isSliceT P 72 = false := h.s72
@[simp] theorem t72_ [h : Facts P] : isStrT P 72 = false := h.t72
@[simp] theorem h72_ [h : Facts P] : hasU P 72 = true := h.h72
@[simp] theorem c72_ [h : Facts P] : P.cellsOf 72 = 1 := h.c72
@[simp] theorem a72_ [h : Facts P] : aggT P 72 = false := h.a72
@[simp] theorem z72_ [h : Facts P] : zbox P 72 = some (A.nfn, 8) := h.z72
@[simp] theorem s73_ [h : Facts P] : isSliceT P 73 = false := h.s73
@[simp] theorem t73_ [h : Facts P] : isStrT P 73 = false := h.t73
@[simp] theorem h73_ [h : Facts P] : hasU P 73 = true := h.h73
@[simp] theorem c73_ [h : Facts P] : P.cellsOf 73 = 1 := h.c73
@[simp] theorem a73_ [h : Facts P] : aggT P 73 = false := h.a73
@[simp] theorem z73_ [h : Facts P] : zbox P 73 = some (A.nfn, 8) := h.z73
@[simp] theorem s74_ [h : Facts P] : isSliceT P 74 = false := h.s74
@[simp] theorem t74_ [h : Facts P] : isStrT P 74 = false := h.t74
@[simp] theorem h74_ [h : Facts P] : hasU P 74 = true := h.h74
@[simp] theorem c74_ [h : Facts P] : P.cellsOf 74 = 1 := h.c74
@[simp] theorem a74_ [h : Facts P] : aggT P 74 = false := h.a74
@[simp] theorem z74_ [h : Facts P] : zbox P 74 = some (A.nfn, 8) := h.z74
@[simp] theorem u75_ [h : Facts P] : P.underlying 75 = some (.slice 22) := h.u75
@[simp] theorem s75_ [h : Facts P] : isSliceT P 75 = true := h.s75
@[simp] theorem l75_ [h : Facts P] : selem P 75 = 22 := h.l75
@[simp] theorem t75_ [h : Facts P] : isStrT P 75 = false := h.t75
@[simp] theorem h75_ [h : Facts P] : hasU P 75 = true := h.h75
@[simp] theorem c75_ [h : Facts P] : P.cellsOf 75 = 1 := h.c75
@[simp] theorem a75_ [h : Facts P] : aggT P 75 = false := h.a75
@[simp] theorem z75_ [h : Facts P] : zbox P 75 = some (A.sl true [], 24) := h.z75
@[simp] theorem s76_ [h : Facts P] : isSliceT P 76 = false := h.s76
@[simp] theorem t76_ [h : Facts P] : isStrT P 76 = false := h.t76
@[simp] theorem h76_ [h : Facts P] : hasU P 76 = true := h.h76
@[simp] theorem c76_ [h : Facts P] : P.cellsOf 76 = 1 := h.c76
@[simp] theorem a76_ [h : Facts P] : aggT P 76 = false := h.a76
@[simp] theorem z76_ [h : Facts P] : zbox P 76 = some (A.nfn, 8) := h.z76
@[simp] theorem u77_ [h : Facts P] : P.underlying 77 = some (.slice 23) := h.u77
@[simp] theorem s77_ [h : Facts P] : isSliceT P 77 = true := h.s77
@[simp] theorem l77_ [h : Facts P] : selem P 77 = 23 := h.l77
@[simp] theorem t77_ [h : Facts P] : isStrT P 77 = false := h.t77
@[simp] theorem h77_ [h : Facts P] : hasU P 77 = true := h.h77
@[simp] theorem c77_ [h : Facts P] : P.cellsOf 77 = 1 := h.c77
@[simp] theorem a77_ [h : Facts P] : aggT P 77 = false := h.a77
@[simp] theorem z77_ [h : Facts P] : zbox P 77 = some (A.sl true [], 24) := h.z77
@[simp] theorem s78_ [h : Facts P] : isSliceT P 78 = false := h.s78
@[simp] theorem t78_ [h : Facts P] : isStrT P 78 = false := h.t78
@[simp] theorem h78_ [h : Facts P] : hasU P 78 = true := h.h78
@[simp] theorem c78_ [h : Facts P] : P.cellsOf 78 = 1 := h.c78
@[simp] theorem a78_ [h : Facts P] : aggT P 78 = false := h.a78
@[simp] theorem z78_ [h : Facts P] : zbox P 78 = some (A.nfn, 8) := h.z78
@[simp] theorem s79_ [h : Facts P] : isSliceT P 79 = false := h.s79
@[simp] theorem t79_ [h : Facts P] : isStrT P 79 = false := h.t79
@[simp] theorem h79_ [h : Facts P] : hasU P 79 = true := h.h79
@[simp] theorem c79_ [h : Facts P] : P.cellsOf 79 = 1 := h.c79
@[simp] theorem a79_ [h : Facts P] : aggT P 79 = false := h.a79
@[simp] theorem z79_ [h : Facts P] : zbox P 79 = some (A.nfn, 8) := h.z79
@[simp] theorem u80_ [h : Facts P] : P.underlying 80 = some (.slice 82) := h.u80
@[simp] theorem s80_ [h : Facts P] : isSliceT P 80 = true := h.s80
@[simp] theorem l80_ [h : Facts P] : selem P 80 = 82 := h.l80
@[simp] theorem t80_ [h : Facts P] : isStrT P 80 = false := h.t80
@[simp] theorem h80_ [h : Facts P] : hasU P 80 = true := h.h80
@[simp] theorem c80_ [h : Facts P] : P.cellsOf 80 = 1 := h.c80
@[simp] theorem a80_ [h : Facts P] : aggT P 80 = false := h.a80
@[simp] theorem z80_ [h : Facts P] : zbox P 80 = some (A.sl true [], 24) := h.z80
@[simp] theorem g81_0_ [h : Facts P] : fld P 81 0 = some (44, 0) := h.g81_0
@[simp] theorem g81_1_ [h : Facts P] : fld P 81 1 = some (23, 9) := h.g81_1
@[simp] theorem s81_ [h : Facts P] : isSliceT P 81 = false := h.s81
@[simp] theorem t81_ [h : Facts P] : isStrT P 81 = false := h.t81
@[simp] theorem h81_ [h : Facts P] : hasU P 81 = true := h.h81
@[simp] theorem w81_ [h : Facts P] : ftl P 81 = some [(44, 0), (23, 9)] := h.w81
@[simp] theorem c81_ [h : Facts P] : P.cellsOf 81 = 10 := h.c81
@[simp] theorem a81_ [h : Facts P] : aggT P 81 = true := h.a81
@[simp] theorem z81_ [h : Facts P] : zbox P 81 = some (A.agg [A.int .i64 0, A.int .i64 0, A.int .i64 0, A.int .i64 0, A.int .i64 0, A.int .i64 0, A.int .i64 0, A.int .i64 0, A.sl true [], A.sl true []], 112) := h.z81
@[simp] theorem b81_ [h : Facts P] : bplan P 81 = some ([A.int .i64 0, A.int .i64 0, A.int .i64 0, A.int .i64 0, A.int .i64 0, A.int .i64 0, A.int .i64 0, A.int .i64 0, A.sl true [], A.sl true []], [(0, 9), (9, 1)]) := h.b81
@[simp] theorem g82_0_ [h : Facts P] : fld P 82 0 = some (44, 0) := h.g82_0
@[simp] theorem g82_1_ [h : Facts P] : fld P 82 1 = some (23, 9) := h.g82_1
@[simp] theorem s82_ [h : Facts P] : isSliceT P 82 = false := h.s82
@[simp] theorem t82_ [h : Facts P] : isStrT P 82 = false := h.t82
@[simp] theorem h82_ [h : Facts P] : hasU P 82 = true := h.h82
@[simp] theorem w82_ [h : Facts P] : ftl P 82 = some [(44, 0), (23, 9)] := h.w82
@[simp] theorem c82_ [h : Facts P] : P.cellsOf 82 = 10 := h.c82
@[simp] theorem a82_ [h : Facts P] : aggT P 82 = true := h.a82
@[simp] theorem z82_ [h : Facts P] : zbox P 82 = some (A.agg [A.int .i64 0, A.int .i64 0, A.int .i64 0, A.int .i64 0, A.int .i64 0, A.int .i64 0, A.int .i64 0, A.int .i64 0, A.sl true [], A.sl true []], 112) := h.z82
@[simp] theorem b82_ [h : Facts P] : bplan P 82 = some ([A.int .i64 0, A.int .i64 0, A.int .i64 0, A.int .i64 0, A.int .i64 0, A.int .i64 0, A.int .i64 0, A.int .i64 0, A.sl true [], A.sl true []], [(0, 9), (9, 1)]) := h.b82
@[simp] theorem s83_ [h : Facts P] : isSliceT P 83 = false := h.s83
@[simp] theorem t83_ [h : Facts P] : isStrT P 83 = false := h.t83
@[simp] theorem h83_ [h : Facts P] : hasU P 83 = true := h.h83
@[simp] theorem c83_ [h : Facts P] : P.cellsOf 83 = 1 := h.c83
@[simp] theorem a83_ [h : Facts P] : aggT P 83 = false := h.a83
@[simp] theorem z83_ [h : Facts P] : zbox P 83 = some (A.nfn, 8) := h.z83
@[simp] theorem s84_ [h : Facts P] : isSliceT P 84 = false := h.s84
@[simp] theorem t84_ [h : Facts P] : isStrT P 84 = false := h.t84
@[simp] theorem h84_ [h : Facts P] : hasU P 84 = true := h.h84
@[simp] theorem c84_ [h : Facts P] : P.cellsOf 84 = 1 := h.c84
@[simp] theorem a84_ [h : Facts P] : aggT P 84 = false := h.a84
@[simp] theorem z84_ [h : Facts P] : zbox P 84 = some (A.nfn, 8) := h.z84
@[simp] theorem s85_ [h : Facts P] : isSliceT P 85 = false := h.s85
@[simp] theorem t85_ [h : Facts P] : isStrT P 85 = false := h.t85
@[simp] theorem h85_ [h : Facts P] : hasU P 85 = true := h.h85
@[simp] theorem c85_ [h : Facts P] : P.cellsOf 85 = 1 := h.c85
@[simp] theorem a85_ [h : Facts P] : aggT P 85 = false := h.a85
@[simp] theorem z85_ [h : Facts P] : zbox P 85 = some (A.nfn, 8) := h.z85
@[simp] theorem s86_ [h : Facts P] : isSliceT P 86 = false := h.s86
@[simp] theorem t86_ [h : Facts P] : isStrT P 86 = false := h.t86
@[simp] theorem h86_ [h : Facts P] : hasU P 86 = true := h.h86
@[simp] theorem c86_ [h : Facts P] : P.cellsOf 86 = 1 := h.c86
@[simp] theorem a86_ [h : Facts P] : aggT P 86 = false := h.a86
@[simp] theorem z86_ [h : Facts P] : zbox P 86 = some (A.nfn, 8) := h.z86
@[simp] theorem s87_ [h : Facts P] : isSliceT P 87 = false := h.s87
@[simp] theorem t87_ [h : Facts P] : isStrT P 87 = false := h.t87
@[simp] theorem h87_ [h : Facts P] : hasU P 87 = true := h.h87
@[simp] theorem c87_ [h : Facts P] : P.cellsOf 87 = 1 := h.c87
@[simp] theorem a87_ [h : Facts P] : aggT P 87 = false := h.a87
@[simp] theorem z87_ [h : Facts P] : zbox P 87 = some (A.nfn, 8) := h.z87
@[simp] theorem u88_ [h : Facts P] : P.underlying 88 = some (.int .u64) := h.u88
@[simp] theorem s88_ [h : Facts P] : isSliceT P 88 = false := h.s88
@[simp] theorem t88_ [h : Facts P] : isStrT P 88 = false := h.t88
@[simp] theorem h88_ [h : Facts P] : hasU P 88 = true := h.h88
@[simp] theorem i88_ [h : Facts P] : intT P 88 = some .u64 := h.i88
@[simp] theorem c88_ [h : Facts P] : P.cellsOf 88 = 1 := h.c88
@[simp] theorem a88_ [h : Facts P] : aggT P 88 = false := h.a88
@[simp] theorem z88_ [h : Facts P] : zbox P 88 = some (A.int .u64 0, 8) := h.z88
@[simp] theorem s89_ [h : Facts P] : isSliceT P 89 = false := h.s89
@[simp] theorem t89_ [h : Facts P] : isStrT P 89 = false := h.t89
@[simp] theorem h89_ [h : Facts P] : hasU P 89 = true := h.h89
@[simp] theorem c89_ [h : Facts P] : P.cellsOf 89 = 1 := h.c89
@[simp] theorem a89_ [h : Facts P] : aggT P 89 = false := h.a89
@[simp] theorem z89_ [h : Facts P] : zbox P 89 = some (A.nfn, 8) := h.z89
@[simp] theorem s90_ [h : Facts P] : isSliceT P 90 = false := h.s90
@[simp] theorem t90_ [h : Facts P] : isStrT P 90 = false := h.t90
@[simp] theorem h90_ [h : Facts P] : hasU P 90 = true := h.h90
@[simp] theorem c90_ [h : Facts P] : P.cellsOf 90 = 1 := h.c90
@[simp] theorem a90_ [h : Facts P] : aggT P 90 = false := h.a90
@[simp] theorem z90_ [h : Facts P] : zbox P 90 = some (A.nfn, 8) := h.z90
@[simp] theorem s91_ [h : Facts P] : isSliceT P 91 = false := h.s91
@[simp] theorem t91_ [h : Facts P] : isStrT P 91 = false := h.t91
@[simp] theorem h91_ [h : Facts P] : hasU P 91 = true := h.h91
@[simp] theorem c91_ [h : Facts P] : P.cellsOf 91 = 1 := h.c91
@[simp] theorem a91_ [h : Facts P] : aggT P 91 = false := h.a91
@[simp] theorem z91_ [h : Facts P] : zbox P 91 = some (A.nfn, 8) := h.z91
@[simp] theorem u94_ [h : Facts P] : P.underlying 94 = some (.array 0 16) := h.u94
@[simp] theorem s94_ [h : Facts P] : isSliceT P 94 = false := h.s94
@[simp] theorem t94_ [h : Facts P] : isStrT P 94 = false := h.t94
@[simp] theorem r94_ [h : Facts P] : arrT P 94 = some (0, 16) := h.r94
@[simp] theorem h94_ [h : Facts P] : hasU P 94 = true := h.h94
@[simp] theorem n94_ [h : Facts P] : bplan P 94 = none := h.n94
@[simp] theorem c94_ [h : Facts P] : P.cellsOf 94 = 0 := h.c94
@[simp] theorem a94_ [h : Facts P] : aggT P 94 = true := h.a94
@[simp] theorem z94_ [h : Facts P] : zbox P 94 = some (A.agg [], 0) := h.z94
@[simp] theorem b94_ [h : Facts P] : aplan P 94 = some ([], 1) := h.b94
@[simp] theorem s97_ [h : Facts P] : isSliceT P 97 = false := h.s97
@[simp] theorem t97_ [h : Facts P] : isStrT P 97 = false := h.t97
@[simp] theorem h97_ [h : Facts P] : hasU P 97 = true := h.h97
@[simp] theorem c97_ [h : Facts P] : P.cellsOf 97 = 1 := h.c97
@[simp] theorem a97_ [h : Facts P] : aggT P 97 = false := h.a97
@[simp] theorem z97_ [h : Facts P] : zbox P 97 = some (A.nfn, 8) := h.z97
@[simp] theorem u98_ [h : Facts P] : P.underlying 98 = some (.int .u32) := h.u98
@[simp] theorem s98_ [h : Facts P] : isSliceT P 98 = false := h.s98
@[simp] theorem t98_ [h : Facts P] : isStrT P 98 = false := h.t98
@[simp] theorem h98_ [h : Facts P] : hasU P 98 = true := h.h98
@[simp] theorem i98_ [h : Facts P] : intT P 98 = some .u32 := h.i98
@[simp] theorem c98_ [h : Facts P] : P.cellsOf 98 = 1 := h.c98
@[simp] theorem a98_ [h : Facts P] : aggT P 98 = false := h.a98
@[simp] theorem z98_ [h : Facts P] : zbox P 98 = some (A.int .u32 0, 4) := h.z98
@[simp] theorem s101_ [h : Facts P] : isSliceT P 101 = false := h.s101
@[simp] theorem t101_ [h : Facts P] : isStrT P 101 = false := h.t101
@[simp] theorem h101_ [h : Facts P] : hasU P 101 = true := h.h101
@[simp] theorem c101_ [h : Facts P] : P.cellsOf 101 = 1 := h.c101
@[simp] theorem a101_ [h : Facts P] : aggT P 101 = false := h.a101
@[simp] theorem z101_ [h : Facts P] : zbox P 101 = some (A.nfn, 8) := h.z101
@[simp] theorem g105_0_ [h : Facts P] : fld P 105 0 = some (12, 0) := h.g105_0
@[simp] theorem g105_1_ [h : Facts P] : fld P 105 1 = some (12, 1) := h.g105_1
@[simp] theorem g105_2_ [h : Facts P] : fld P 105 2 = some (98, 2) := h.g105_2
@[simp] theorem g105_3_ [h : Facts P] : fld P 105 3 = some (99, 3) := h.g105_3
@[simp] theorem g105_4_ [h : Facts P] : fld P 105 4 = some (5, 4) := h.g105_4
@[simp] theorem g105_5_ [h : Facts P] : fld P 105 5 = some (5, 5) := h.g105_5
@[simp] theorem g105_6_ [h : Facts P] : fld P 105 6 = some (100, 6) := h.g105_6
@[simp] theorem g105_7_ [h : Facts P] : fld P 105 7 = some (101, 7) := h.g105_7
@[simp] theorem g105_8_ [h : Facts P] : fld P 105 8 = some (102, 8) := h.g105_8
@[simp] theorem g105_9_ [h : Facts P] : fld P 105 9 = some (103, 9) := h.g105_9
@[simp] theorem g105_10_ [h : Facts P] : fld P 105 10 = some (104, 10) := h.g105_10
@[simp] theorem s105_ [h : Facts P] : isSliceT P 105 = false := h.s105
@[simp] theorem t105_ [h : Facts P] : isStrT P 105 = false := h.t105
@[simp] theorem h105_ [h : Facts P] : hasU P 105 = true := h.h105
@[simp] theorem w105_ [h : Facts P] : ftl P 105 = some [(12, 0), (12, 1), (98, 2), (99, 3), (5, 4), (5, 5), (100, 6), (101, 7), (102, 8), (103, 9), (104, 10)] := h.w105
@[simp] theorem c105_ [h : Facts P] : P.cellsOf 105 = 11 := h.c105
@[simp] theorem a105_ [h : Facts P] : aggT P 105 = true := h.a105
@[simp] theorem z105_ [h : Facts P] : zbox P 105 = some (A.agg [A.int .u64 0, A.int .u64 0, A.int .u32 0, A.int .u8 0, A.int .u8 0, A.int .u8 0, A.int .u8 0, A.nfn, A.nptr, A.int .i32 0, A.int .i32 0], 48) := h.z105
@[simp] theorem b105_ [h : Facts P] : bplan P 105 = some ([A.int .u64 0, A.int .u64 0, A.int .u32 0, A.int .u8 0, A.int .u8 0, A.int .u8 0, A.int .u8 0, A.nfn, A.nptr, A.int .i32 0, A.int .i32 0], [(0, 1), (1, 1), (2, 1), (3, 1), (4, 1), (5, 1), (6, 1), (7, 1), (8, 1), (9, 1), (10, 1)]) := h.b105
@[simp] theorem q0_ [h : Facts P] : P.cellsOf 4294967295 = 0 := h.q0
end

theorem has_s1 : isSliceT Try.prog 1 = false := by kernel_rfl
theorem has_t1 : isStrT Try.prog 1 = false := by kernel_rfl
theorem has_h1 : hasU Try.prog 1 = true := by kernel_rfl
theorem has_c1 : Try.prog.cellsOf 1 = 1 := by kernel_rfl
theorem has_a1 : aggT Try.prog 1 = false := by kernel_rfl
theorem has_z1 : zbox Try.prog 1 = some (A.nfn, 8) := by kernel_rfl
theorem has_u2 : Try.prog.underlying 2 = some (.int .i64) := by kernel_rfl
theorem has_s2 : isSliceT Try.prog 2 = false := by kernel_rfl
theorem has_t2 : isStrT Try.prog 2 = false := by kernel_rfl
theorem has_h2 : hasU Try.prog 2 = true := by kernel_rfl
theorem has_i2 : intT Try.prog 2 = some .i64 := by kernel_rfl
theorem has_c2 : Try.prog.cellsOf 2 = 1 := by kernel_rfl
theorem has_a2 : aggT Try.prog 2 = false := by kernel_rfl
theorem has_z2 : zbox Try.prog 2 = some (A.int .i64 0, 8) := by kernel_rfl
theorem has_u3 : Try.prog.underlying 3 = some (.int .i64) := by kernel_rfl
theorem has_s3 : isSliceT Try.prog 3 = false := by kernel_rfl
theorem has_t3 : isStrT Try.prog 3 = false := by kernel_rfl
theorem has_h3 : hasU Try.prog 3 = true := by kernel_rfl
theorem has_i3 : intT Try.prog 3 = some .i64 := by kernel_rfl
theorem has_c3 : Try.prog.cellsOf 3 = 1 := by kernel_rfl
theorem has_a3 : aggT Try.prog 3 = false := by kernel_rfl
theorem has_z3 : zbox Try.prog 3 = some (A.int .i64 0, 8) := by kernel_rfl
theorem has_u4 : Try.prog.underlying 4 = some (.bool) := by kernel_rfl
theorem has_s4 : isSliceT Try.prog 4 = false := by kernel_rfl
theorem has_t4 : isStrT Try.prog 4 = false := by kernel_rfl
theorem has_h4 : hasU Try.prog 4 = true := by kernel_rfl
theorem has_d4 : isBoolT Try.prog 4 = true := by kernel_rfl
theorem has_c4 : Try.prog.cellsOf 4 = 1 := by kernel_rfl
theorem has_a4 : aggT Try.prog 4 = false := by kernel_rfl
theorem has_z4 : zbox Try.prog 4 = some (A.bool false, 1) := by kernel_rfl
theorem has_u5 : Try.prog.underlying 5 = some (.int .u8) := by kernel_rfl
theorem has_s5 : isSliceT Try.prog 5 = false := by kernel_rfl
theorem has_t5 : isStrT Try.prog 5 = false := by kernel_rfl
theorem has_h5 : hasU Try.prog 5 = true := by kernel_rfl
theorem has_i5 : intT Try.prog 5 = some .u8 := by kernel_rfl
theorem has_c5 : Try.prog.cellsOf 5 = 1 := by kernel_rfl
theorem has_a5 : aggT Try.prog 5 = false := by kernel_rfl
theorem has_z5 : zbox Try.prog 5 = some (A.int .u8 0, 1) := by kernel_rfl
theorem has_u9 : Try.prog.underlying 9 = some (.string) := by kernel_rfl
theorem has_s9 : isSliceT Try.prog 9 = false := by kernel_rfl
theorem has_t9 : isStrT Try.prog 9 = true := by kernel_rfl
theorem has_h9 : hasU Try.prog 9 = true := by kernel_rfl
theorem has_c9 : Try.prog.cellsOf 9 = 1 := by kernel_rfl
theorem has_a9 : aggT Try.prog 9 = false := by kernel_rfl
theorem has_z9 : zbox Try.prog 9 = some (A.str [], 16) := by kernel_rfl
theorem has_u12 : Try.prog.underlying 12 = some (.int .u64) := by kernel_rfl
theorem has_s12 : isSliceT Try.prog 12 = false := by kernel_rfl
theorem has_t12 : isStrT Try.prog 12 = false := by kernel_rfl
theorem has_h12 : hasU Try.prog 12 = true := by kernel_rfl
theorem has_i12 : intT Try.prog 12 = some .u64 := by kernel_rfl
theorem has_c12 : Try.prog.cellsOf 12 = 1 := by kernel_rfl
theorem has_a12 : aggT Try.prog 12 = false := by kernel_rfl
theorem has_z12 : zbox Try.prog 12 = some (A.int .u64 0, 8) := by kernel_rfl
theorem has_u21 : Try.prog.underlying 21 = some (.int .i32) := by kernel_rfl
theorem has_s21 : isSliceT Try.prog 21 = false := by kernel_rfl
theorem has_t21 : isStrT Try.prog 21 = false := by kernel_rfl
theorem has_h21 : hasU Try.prog 21 = true := by kernel_rfl
theorem has_i21 : intT Try.prog 21 = some .i32 := by kernel_rfl
theorem has_c21 : Try.prog.cellsOf 21 = 1 := by kernel_rfl
theorem has_a21 : aggT Try.prog 21 = false := by kernel_rfl
theorem has_z21 : zbox Try.prog 21 = some (A.int .i32 0, 4) := by kernel_rfl
theorem has_u22 : Try.prog.underlying 22 = some (.slice 44) := by kernel_rfl
theorem has_s22 : isSliceT Try.prog 22 = true := by kernel_rfl
theorem has_l22 : selem Try.prog 22 = 44 := by kernel_rfl
theorem has_t22 : isStrT Try.prog 22 = false := by kernel_rfl
theorem has_h22 : hasU Try.prog 22 = true := by kernel_rfl
theorem has_c22 : Try.prog.cellsOf 22 = 1 := by kernel_rfl
theorem has_a22 : aggT Try.prog 22 = false := by kernel_rfl
theorem has_z22 : zbox Try.prog 22 = some (A.sl true [], 24) := by kernel_rfl
theorem has_u23 : Try.prog.underlying 23 = some (.slice 47) := by kernel_rfl
theorem has_s23 : isSliceT Try.prog 23 = true := by kernel_rfl
theorem has_l23 : selem Try.prog 23 = 47 := by kernel_rfl
theorem has_t23 : isStrT Try.prog 23 = false := by kernel_rfl
theorem has_h23 : hasU Try.prog 23 = true := by kernel_rfl
theorem has_c23 : Try.prog.cellsOf 23 = 1 := by kernel_rfl
theorem has_a23 : aggT Try.prog 23 = false := by kernel_rfl
theorem has_z23 : zbox Try.prog 23 = some (A.sl true [], 24) := by kernel_rfl
theorem has_g24_0 : fld Try.prog 24 0 = some (22, 0) := by kernel_rfl
theorem has_g24_1 : fld Try.prog 24 1 = some (23, 1) := by kernel_rfl
theorem has_s24 : isSliceT Try.prog 24 = false := by kernel_rfl
theorem has_t24 : isStrT Try.prog 24 = false := by kernel_rfl
theorem has_h24 : hasU Try.prog 24 = true := by kernel_rfl
theorem has_w24 : ftl Try.prog 24 = some [(22, 0), (23, 1)] := by kernel_rfl
theorem has_c24 : Try.prog.cellsOf 24 = 2 := by kernel_rfl
theorem has_a24 : aggT Try.prog 24 = true := by kernel_rfl
theorem has_z24 : zbox Try.prog 24 = some (A.agg [A.sl true [], A.sl true []], 48) := by kernel_rfl
theorem has_b24 : bplan Try.prog 24 = some ([A.sl true [], A.sl true []], [(0, 1), (1, 1)]) := by kernel_rfl
theorem has_g25_0 : fld Try.prog 25 0 = some (22, 0) := by kernel_rfl
theorem has_g25_1 : fld Try.prog 25 1 = some (23, 1) := by kernel_rfl
theorem has_s25 : isSliceT Try.prog 25 = false := by kernel_rfl
theorem has_t25 : isStrT Try.prog 25 = false := by kernel_rfl
theorem has_h25 : hasU Try.prog 25 = true := by kernel_rfl
theorem has_w25 : ftl Try.prog 25 = some [(22, 0), (23, 1)] := by kernel_rfl
theorem has_c25 : Try.prog.cellsOf 25 = 2 := by kernel_rfl
theorem has_a25 : aggT Try.prog 25 = true := by kernel_rfl
theorem has_z25 : zbox Try.prog 25 = some (A.agg [A.sl true [], A.sl true []], 48) := by kernel_rfl
theorem has_b25 : bplan Try.prog 25 = some ([A.sl true [], A.sl true []], [(0, 1), (1, 1)]) := by kernel_rfl
theorem has_s26 : isSliceT Try.prog 26 = false := by kernel_rfl
theorem has_t26 : isStrT Try.prog 26 = false := by kernel_rfl
theorem has_h26 : hasU Try.prog 26 = true := by kernel_rfl
theorem has_c26 : Try.prog.cellsOf 26 = 1 := by kernel_rfl
theorem has_a26 : aggT Try.prog 26 = false := by kernel_rfl
theorem has_z26 : zbox Try.prog 26 = some (A.nfn, 8) := by kernel_rfl
theorem has_s27 : isSliceT Try.prog 27 = false := by kernel_rfl
theorem has_t27 : isStrT Try.prog 27 = false := by kernel_rfl
theorem has_h27 : hasU Try.prog 27 = true := by kernel_rfl
theorem has_c27 : Try.prog.cellsOf 27 = 1 := by kernel_rfl
theorem has_a27 : aggT Try.prog 27 = false := by kernel_rfl
theorem has_z27 : zbox Try.prog 27 = some (A.nfn, 8) := by kernel_rfl
theorem has_u28 : Try.prog.underlying 28 = some (.int .i64) := by kernel_rfl
theorem has_s28 : isSliceT Try.prog 28 = false := by kernel_rfl
theorem has_t28 : isStrT Try.prog 28 = false := by kernel_rfl
theorem has_h28 : hasU Try.prog 28 = true := by kernel_rfl
theorem has_i28 : intT Try.prog 28 = some .i64 := by kernel_rfl
theorem has_c28 : Try.prog.cellsOf 28 = 1 := by kernel_rfl
theorem has_a28 : aggT Try.prog 28 = false := by kernel_rfl
theorem has_z28 : zbox Try.prog 28 = some (A.int .i64 0, 8) := by kernel_rfl
theorem has_s29 : isSliceT Try.prog 29 = false := by kernel_rfl
theorem has_t29 : isStrT Try.prog 29 = false := by kernel_rfl
theorem has_h29 : hasU Try.prog 29 = true := by kernel_rfl
theorem has_c29 : Try.prog.cellsOf 29 = 1 := by kernel_rfl
theorem has_a29 : aggT Try.prog 29 = false := by kernel_rfl
theorem has_z29 : zbox Try.prog 29 = some (A.nfn, 8) := by kernel_rfl
theorem has_s30 : isSliceT Try.prog 30 = false := by kernel_rfl
theorem has_t30 : isStrT Try.prog 30 = false := by kernel_rfl
theorem has_h30 : hasU Try.prog 30 = true := by kernel_rfl
theorem has_c30 : Try.prog.cellsOf 30 = 1 := by kernel_rfl
theorem has_a30 : aggT Try.prog 30 = false := by kernel_rfl
theorem has_z30 : zbox Try.prog 30 = some (A.nfn, 8) := by kernel_rfl
theorem has_s31 : isSliceT Try.prog 31 = false := by kernel_rfl
theorem has_t31 : isStrT Try.prog 31 = false := by kernel_rfl
theorem has_h31 : hasU Try.prog 31 = true := by kernel_rfl
theorem has_c31 : Try.prog.cellsOf 31 = 1 := by kernel_rfl
theorem has_a31 : aggT Try.prog 31 = false := by kernel_rfl
theorem has_z31 : zbox Try.prog 31 = some (A.nfn, 8) := by kernel_rfl
theorem has_s32 : isSliceT Try.prog 32 = false := by kernel_rfl
theorem has_t32 : isStrT Try.prog 32 = false := by kernel_rfl
theorem has_h32 : hasU Try.prog 32 = true := by kernel_rfl
theorem has_c32 : Try.prog.cellsOf 32 = 1 := by kernel_rfl
theorem has_a32 : aggT Try.prog 32 = false := by kernel_rfl
theorem has_z32 : zbox Try.prog 32 = some (A.nfn, 8) := by kernel_rfl
theorem has_s33 : isSliceT Try.prog 33 = false := by kernel_rfl
theorem has_t33 : isStrT Try.prog 33 = false := by kernel_rfl
theorem has_h33 : hasU Try.prog 33 = true := by kernel_rfl
theorem has_c33 : Try.prog.cellsOf 33 = 1 := by kernel_rfl
theorem has_a33 : aggT Try.prog 33 = false := by kernel_rfl
theorem has_z33 : zbox Try.prog 33 = some (A.nfn, 8) := by kernel_rfl
theorem has_s34 : isSliceT Try.prog 34 = false := by kernel_rfl
theorem has_t34 : isStrT Try.prog 34 = false := by kernel_rfl
theorem has_h34 : hasU Try.prog 34 = true := by kernel_rfl
theorem has_c34 : Try.prog.cellsOf 34 = 1 := by kernel_rfl
theorem has_a34 : aggT Try.prog 34 = false := by kernel_rfl
theorem has_z34 : zbox Try.prog 34 = some (A.nfn, 8) := by kernel_rfl
theorem has_s36 : isSliceT Try.prog 36 = false := by kernel_rfl
theorem has_t36 : isStrT Try.prog 36 = false := by kernel_rfl
theorem has_h36 : hasU Try.prog 36 = true := by kernel_rfl
theorem has_c36 : Try.prog.cellsOf 36 = 1 := by kernel_rfl
theorem has_a36 : aggT Try.prog 36 = false := by kernel_rfl
theorem has_z36 : zbox Try.prog 36 = some (A.nfn, 8) := by kernel_rfl
theorem has_u37 : Try.prog.underlying 37 = some (.slice 25) := by kernel_rfl
theorem has_s37 : isSliceT Try.prog 37 = true := by kernel_rfl
theorem has_l37 : selem Try.prog 37 = 25 := by kernel_rfl
theorem has_t37 : isStrT Try.prog 37 = false := by kernel_rfl
theorem has_h37 : hasU Try.prog 37 = true := by kernel_rfl
theorem has_c37 : Try.prog.cellsOf 37 = 1 := by kernel_rfl
theorem has_a37 : aggT Try.prog 37 = false := by kernel_rfl
theorem has_z37 : zbox Try.prog 37 = some (A.sl true [], 24) := by kernel_rfl
theorem has_s38 : isSliceT Try.prog 38 = false := by kernel_rfl
theorem has_t38 : isStrT Try.prog 38 = false := by kernel_rfl
theorem has_h38 : hasU Try.prog 38 = true := by kernel_rfl
theorem has_c38 : Try.prog.cellsOf 38 = 1 := by kernel_rfl
theorem has_a38 : aggT Try.prog 38 = false := by kernel_rfl
theorem has_z38 : zbox Try.prog 38 = some (A.nfn, 8) := by kernel_rfl
theorem has_s39 : isSliceT Try.prog 39 = false := by kernel_rfl
theorem has_t39 : isStrT Try.prog 39 = false := by kernel_rfl
theorem has_h39 : hasU Try.prog 39 = true := by kernel_rfl
theorem has_c39 : Try.prog.cellsOf 39 = 1 := by kernel_rfl
theorem has_a39 : aggT Try.prog 39 = false := by kernel_rfl
theorem has_z39 : zbox Try.prog 39 = some (A.nfn, 8) := by kernel_rfl
theorem has_s40 : isSliceT Try.prog 40 = false := by kernel_rfl
theorem has_t40 : isStrT Try.prog 40 = false := by kernel_rfl
theorem has_h40 : hasU Try.prog 40 = true := by kernel_rfl
theorem has_c40 : Try.prog.cellsOf 40 = 1 := by kernel_rfl
theorem has_a40 : aggT Try.prog 40 = false := by kernel_rfl
theorem has_z40 : zbox Try.prog 40 = some (A.nfn, 8) := by kernel_rfl
theorem has_u41 : Try.prog.underlying 41 = some (.int .i64) := by kernel_rfl
theorem has_s41 : isSliceT Try.prog 41 = false := by kernel_rfl
theorem has_t41 : isStrT Try.prog 41 = false := by kernel_rfl
theorem has_h41 : hasU Try.prog 41 = true := by kernel_rfl
theorem has_i41 : intT Try.prog 41 = some .i64 := by kernel_rfl
theorem has_c41 : Try.prog.cellsOf 41 = 1 := by kernel_rfl
theorem has_a41 : aggT Try.prog 41 = false := by kernel_rfl
theorem has_z41 : zbox Try.prog 41 = some (A.int .i64 0, 8) := by kernel_rfl
theorem has_u42 : Try.prog.underlying 42 = some (.slice 3) := by kernel_rfl
theorem has_s42 : isSliceT Try.prog 42 = true := by kernel_rfl
theorem has_l42 : selem Try.prog 42 = 3 := by kernel_rfl
theorem has_t42 : isStrT Try.prog 42 = false := by kernel_rfl
theorem has_h42 : hasU Try.prog 42 = true := by kernel_rfl
theorem has_c42 : Try.prog.cellsOf 42 = 1 := by kernel_rfl
theorem has_a42 : aggT Try.prog 42 = false := by kernel_rfl
theorem has_z42 : zbox Try.prog 42 = some (A.sl true [], 24) := by kernel_rfl
theorem has_g43_0 : fld Try.prog 43 0 = some (3, 0) := by kernel_rfl
theorem has_g43_1 : fld Try.prog 43 1 = some (3, 1) := by kernel_rfl
theorem has_g43_2 : fld Try.prog 43 2 = some (3, 2) := by kernel_rfl
theorem has_g43_3 : fld Try.prog 43 3 = some (3, 3) := by kernel_rfl
theorem has_g43_4 : fld Try.prog 43 4 = some (3, 4) := by kernel_rfl
theorem has_g43_5 : fld Try.prog 43 5 = some (41, 5) := by kernel_rfl
theorem has_g43_6 : fld Try.prog 43 6 = some (3, 6) := by kernel_rfl
theorem has_g43_7 : fld Try.prog 43 7 = some (3, 7) := by kernel_rfl
theorem has_g43_8 : fld Try.prog 43 8 = some (42, 8) := by kernel_rfl
theorem has_s43 : isSliceT Try.prog 43 = false := by kernel_rfl
theorem has_t43 : isStrT Try.prog 43 = false := by kernel_rfl
theorem has_h43 : hasU Try.prog 43 = true := by kernel_rfl
theorem has_w43 : ftl Try.prog 43 = some [(3, 0), (3, 1), (3, 2), (3, 3), (3, 4), (41, 5), (3, 6), (3, 7), (42, 8)] := by kernel_rfl
theorem has_c43 : Try.prog.cellsOf 43 = 9 := by kernel_rfl
theorem has_a43 : aggT Try.prog 43 = true := by kernel_rfl
theorem has_z43 : zbox Try.prog 43 = some (A.agg [A.int .i64 0, A.int .i64 0, A.int .i64 0, A.int .i64 0, A.int .i64 0, A.int .i64 0, A.int .i64 0, A.int .i64 0, A.sl true []], 88) := by kernel_rfl
theorem has_b43 : bplan Try.prog 43 = some ([A.int .i64 0, A.int .i64 0, A.int .i64 0, A.int .i64 0, A.int .i64 0, A.int .i64 0, A.int .i64 0, A.int .i64 0, A.sl true []], [(0, 1), (1, 1), (2, 1), (3, 1), (4, 1), (5, 1), (6, 1), (7, 1), (8, 1)]) := by kernel_rfl
theorem has_g44_0 : fld Try.prog 44 0 = some (3, 0) := by kernel_rfl
theorem has_g44_1 : fld Try.prog 44 1 = some (3, 1) := by kernel_rfl
theorem has_g44_2 : fld Try.prog 44 2 = some (3, 2) := by kernel_rfl
theorem has_g44_3 : fld Try.prog 44 3 = some (3, 3) := by kernel_rfl
theorem has_g44_4 : fld Try.prog 44 4 = some (3, 4) := by kernel_rfl
theorem has_g44_5 : fld Try.prog 44 5 = some (41, 5) := by kernel_rfl
theorem has_g44_6 : fld Try.prog 44 6 = some (3, 6) := by kernel_rfl
theorem has_g44_7 : fld Try.prog 44 7 = some (3, 7) := by kernel_rfl
theorem has_g44_8 : fld Try.prog 44 8 = some (42, 8) := by kernel_rfl
theorem has_s44 : isSliceT Try.prog 44 = false := by kernel_rfl
theorem has_t44 : isStrT Try.prog 44 = false := by kernel_rfl
theorem has_h44 : hasU Try.prog 44 = true := by kernel_rfl
theorem has_w44 : ftl Try.prog 44 = some [(3, 0), (3, 1), (3, 2), (3, 3), (3, 4), (41, 5), (3, 6), (3, 7), (42, 8)] := by kernel_rfl
theorem has_c44 : Try.prog.cellsOf 44 = 9 := by kernel_rfl
theorem has_a44 : aggT Try.prog 44 = true := by kernel_rfl
theorem has_z44 : zbox Try.prog 44 = some (A.agg [A.int .i64 0, A.int .i64 0, A.int .i64 0, A.int .i64 0, A.int .i64 0, A.int .i64 0, A.int .i64 0, A.int .i64 0, A.sl true []], 88) := by kernel_rfl
theorem has_b44 : bplan Try.prog 44 = some ([A.int .i64 0, A.int .i64 0, A.int .i64 0, A.int .i64 0, A.int .i64 0, A.int .i64 0, A.int .i64 0, A.int .i64 0, A.sl true []], [(0, 1), (1, 1), (2, 1), (3, 1), (4, 1), (5, 1), (6, 1), (7, 1), (8, 1)]) := by kernel_rfl
theorem has_u45 : Try.prog.underlying 45 = some (.int .i64) := by kernel_rfl
theorem has_s45 : isSliceT Try.prog 45 = false := by kernel_rfl
theorem has_t45 : isStrT Try.prog 45 = false := by kernel_rfl
theorem has_h45 : hasU Try.prog 45 = true := by kernel_rfl
theorem has_i45 : intT Try.prog 45 = some .i64 := by kernel_rfl
theorem has_c45 : Try.prog.cellsOf 45 = 1 := by kernel_rfl
theorem has_a45 : aggT Try.prog 45 = false := by kernel_rfl
theorem has_z45 : zbox Try.prog 45 = some (A.int .i64 0, 8) := by kernel_rfl
theorem has_g46_0 : fld Try.prog 46 0 = some (3, 0) := by kernel_rfl
theorem has_g46_1 : fld Try.prog 46 1 = some (3, 1) := by kernel_rfl
theorem has_g46_2 : fld Try.prog 46 2 = some (45, 2) := by kernel_rfl
theorem has_g46_3 : fld Try.prog 46 3 = some (3, 3) := by kernel_rfl
theorem has_g46_4 : fld Try.prog 46 4 = some (3, 4) := by kernel_rfl
theorem has_g46_5 : fld Try.prog 46 5 = some (3, 5) := by kernel_rfl
theorem has_s46 : isSliceT Try.prog 46 = false := by kernel_rfl
theorem has_t46 : isStrT Try.prog 46 = false := by kernel_rfl
theorem has_h46 : hasU Try.prog 46 = true := by kernel_rfl
theorem has_w46 : ftl Try.prog 46 = some [(3, 0), (3, 1), (45, 2), (3, 3), (3, 4), (3, 5)] := by kernel_rfl
theorem has_c46 : Try.prog.cellsOf 46 = 6 := by kernel_rfl
theorem has_a46 : aggT Try.prog 46 = true := by kernel_rfl
theorem has_z46 : zbox Try.prog 46 = some (A.agg [A.int .i64 0, A.int .i64 0, A.int .i64 0, A.int .i64 0, A.int .i64 0, A.int .i64 0], 48) := by kernel_rfl
theorem has_b46 : bplan Try.prog 46 = some ([A.int .i64 0, A.int .i64 0, A.int .i64 0, A.int .i64 0, A.int .i64 0, A.int .i64 0], [(0, 1), (1, 1), (2, 1), (3, 1), (4, 1), (5, 1)]) := by kernel_rfl
theorem has_e46 : eqT Try.prog 46 = some [0, 0, 0, 0, 0, 0] := by kernel_rfl
theorem has_g47_0 : fld Try.prog 47 0 = some (3, 0) := by kernel_rfl
theorem has_g47_1 : fld Try.prog 47 1 = some (3, 1) := by kernel_rfl
theorem has_g47_2 : fld Try.prog 47 2 = some (45, 2) := by kernel_rfl
theorem has_g47_3 : fld Try.prog 47 3 = some (3, 3) := by kernel_rfl
theorem has_g47_4 : fld Try.prog 47 4 = some (3, 4) := by kernel_rfl
theorem has_g47_5 : fld Try.prog 47 5 = some (3, 5) := by kernel_rfl
theorem has_s47 : isSliceT Try.prog 47 = false := by kernel_rfl
theorem has_t47 : isStrT Try.prog 47 = false := by kernel_rfl
theorem has_h47 : hasU Try.prog 47 = true := by kernel_rfl
theorem has_w47 : ftl Try.prog 47 = some [(3, 0), (3, 1), (45, 2), (3, 3), (3, 4), (3, 5)] := by kernel_rfl
theorem has_c47 : Try.prog.cellsOf 47 = 6 := by kernel_rfl
theorem has_a47 : aggT Try.prog 47 = true := by kernel_rfl
theorem has_z47 : zbox Try.prog 47 = some (A.agg [A.int .i64 0, A.int .i64 0, A.int .i64 0, A.int .i64 0, A.int .i64 0, A.int .i64 0], 48) := by kernel_rfl
theorem has_b47 : bplan Try.prog 47 = some ([A.int .i64 0, A.int .i64 0, A.int .i64 0, A.int .i64 0, A.int .i64 0, A.int .i64 0], [(0, 1), (1, 1), (2, 1), (3, 1), (4, 1), (5, 1)]) := by kernel_rfl
theorem has_e47 : eqT Try.prog 47 = some [0, 0, 0, 0, 0, 0] := by kernel_rfl
theorem has_s48 : isSliceT Try.prog 48 = false := by kernel_rfl
theorem has_t48 : isStrT Try.prog 48 = false := by kernel_rfl
theorem has_h48 : hasU Try.prog 48 = true := by kernel_rfl
theorem has_c48 : Try.prog.cellsOf 48 = 1 := by kernel_rfl
theorem has_a48 : aggT Try.prog 48 = false := by kernel_rfl
theorem has_z48 : zbox Try.prog 48 = some (A.nfn, 8) := by kernel_rfl
theorem has_u49 : Try.prog.underlying 49 = some (.map 53 4) := by kernel_rfl
theorem has_s49 : isSliceT Try.prog 49 = false := by kernel_rfl
theorem has_t49 : isStrT Try.prog 49 = false := by kernel_rfl
theorem has_m49x : isMapT Try.prog 49 = true := by kernel_rfl
theorem has_m49k : mkey Try.prog 49 = 53 := by kernel_rfl
theorem has_m49e : melem Try.prog 49 = 4 := by kernel_rfl
theorem has_k53 : keyT Try.prog 53 = 2 := by kernel_rfl
theorem has_h49 : hasU Try.prog 49 = true := by kernel_rfl
theorem has_c49 : Try.prog.cellsOf 49 = 1 := by kernel_rfl
theorem has_a49 : aggT Try.prog 49 = false := by kernel_rfl
theorem has_s50 : isSliceT Try.prog 50 = false := by kernel_rfl
theorem has_t50 : isStrT Try.prog 50 = false := by kernel_rfl
theorem has_h50 : hasU Try.prog 50 = true := by kernel_rfl
theorem has_c50 : Try.prog.cellsOf 50 = 1 := by kernel_rfl
theorem has_a50 : aggT Try.prog 50 = false := by kernel_rfl
theorem has_z50 : zbox Try.prog 50 = some (A.nfn, 8) := by kernel_rfl
theorem has_s51 : isSliceT Try.prog 51 = false := by kernel_rfl
theorem has_t51 : isStrT Try.prog 51 = false := by kernel_rfl
theorem has_h51 : hasU Try.prog 51 = true := by kernel_rfl
theorem has_c51 : Try.prog.cellsOf 51 = 1 := by kernel_rfl
theorem has_a51 : aggT Try.prog 51 = false := by kernel_rfl
theorem has_z51 : zbox Try.prog 51 = some (A.nfn, 8) := by kernel_rfl
theorem has_g52_0 : fld Try.prog 52 0 = some (3, 0) := by kernel_rfl
theorem has_g52_1 : fld Try.prog 52 1 = some (3, 1) := by kernel_rfl
theorem has_s52 : isSliceT Try.prog 52 = false := by kernel_rfl
theorem has_t52 : isStrT Try.prog 52 = false := by kernel_rfl
theorem has_h52 : hasU Try.prog 52 = true := by kernel_rfl
theorem has_w52 : ftl Try.prog 52 = some [(3, 0), (3, 1)] := by kernel_rfl
theorem has_c52 : Try.prog.cellsOf 52 = 2 := by kernel_rfl
theorem has_a52 : aggT Try.prog 52 = true := by kernel_rfl
theorem has_z52 : zbox Try.prog 52 = some (A.agg [A.int .i64 0, A.int .i64 0], 16) := by kernel_rfl
theorem has_b52 : bplan Try.prog 52 = some ([A.int .i64 0, A.int .i64 0], [(0, 1), (1, 1)]) := by kernel_rfl
theorem has_e52 : eqT Try.prog 52 = some [0, 0] := by kernel_rfl
theorem has_g53_0 : fld Try.prog 53 0 = some (3, 0) := by kernel_rfl
theorem has_g53_1 : fld Try.prog 53 1 = some (3, 1) := by kernel_rfl
theorem has_s53 : isSliceT Try.prog 53 = false := by kernel_rfl
theorem has_t53 : isStrT Try.prog 53 = false := by kernel_rfl
theorem has_h53 : hasU Try.prog 53 = true := by kernel_rfl
theorem has_w53 : ftl Try.prog 53 = some [(3, 0), (3, 1)] := by kernel_rfl
theorem has_c53 : Try.prog.cellsOf 53 = 2 := by kernel_rfl
theorem has_a53 : aggT Try.prog 53 = true := by kernel_rfl
theorem has_z53 : zbox Try.prog 53 = some (A.agg [A.int .i64 0, A.int .i64 0], 16) := by kernel_rfl
theorem has_b53 : bplan Try.prog 53 = some ([A.int .i64 0, A.int .i64 0], [(0, 1), (1, 1)]) := by kernel_rfl
theorem has_e53 : eqT Try.prog 53 = some [0, 0] := by kernel_rfl
theorem has_s54 : isSliceT Try.prog 54 = false := by kernel_rfl
theorem has_t54 : isStrT Try.prog 54 = false := by kernel_rfl
theorem has_h54 : hasU Try.prog 54 = true := by kernel_rfl
theorem has_c54 : Try.prog.cellsOf 54 = 1 := by kernel_rfl
theorem has_a54 : aggT Try.prog 54 = false := by kernel_rfl
theorem has_z54 : zbox Try.prog 54 = some (A.nfn, 8) := by kernel_rfl
theorem has_s55 : isSliceT Try.prog 55 = false := by kernel_rfl
theorem has_t55 : isStrT Try.prog 55 = false := by kernel_rfl
theorem has_h55 : hasU Try.prog 55 = true := by kernel_rfl
theorem has_c55 : Try.prog.cellsOf 55 = 1 := by kernel_rfl
theorem has_a55 : aggT Try.prog 55 = false := by kernel_rfl
theorem has_z55 : zbox Try.prog 55 = some (A.nfn, 8) := by kernel_rfl
theorem has_s56 : isSliceT Try.prog 56 = false := by kernel_rfl
theorem has_t56 : isStrT Try.prog 56 = false := by kernel_rfl
theorem has_h56 : hasU Try.prog 56 = true := by kernel_rfl
theorem has_c56 : Try.prog.cellsOf 56 = 1 := by kernel_rfl
theorem has_a56 : aggT Try.prog 56 = false := by kernel_rfl
theorem has_z56 : zbox Try.prog 56 = some (A.nfn, 8) := by kernel_rfl
theorem has_s57 : isSliceT Try.prog 57 = false := by kernel_rfl
theorem has_t57 : isStrT Try.prog 57 = false := by kernel_rfl
theorem has_h57 : hasU Try.prog 57 = true := by kernel_rfl
theorem has_c57 : Try.prog.cellsOf 57 = 1 := by kernel_rfl
theorem has_a57 : aggT Try.prog 57 = false := by kernel_rfl
theorem has_z57 : zbox Try.prog 57 = some (A.nfn, 8) := by kernel_rfl
theorem has_s58 : isSliceT Try.prog 58 = false := by kernel_rfl
theorem has_t58 : isStrT Try.prog 58 = false := by kernel_rfl
theorem has_h58 : hasU Try.prog 58 = true := by kernel_rfl
theorem has_c58 : Try.prog.cellsOf 58 = 1 := by kernel_rfl
theorem has_a58 : aggT Try.prog 58 = false := by kernel_rfl
theorem has_z58 : zbox Try.prog 58 = some (A.nfn, 8) := by kernel_rfl
theorem has_s59 : isSliceT Try.prog 59 = false := by kernel_rfl
theorem has_t59 : isStrT Try.prog 59 = false := by kernel_rfl
theorem has_h59 : hasU Try.prog 59 = true := by kernel_rfl
theorem has_c59 : Try.prog.cellsOf 59 = 1 := by kernel_rfl
theorem has_a59 : aggT Try.prog 59 = false := by kernel_rfl
theorem has_z59 : zbox Try.prog 59 = some (A.nfn, 8) := by kernel_rfl
theorem has_s60 : isSliceT Try.prog 60 = false := by kernel_rfl
theorem has_t60 : isStrT Try.prog 60 = false := by kernel_rfl
theorem has_h60 : hasU Try.prog 60 = true := by kernel_rfl
theorem has_c60 : Try.prog.cellsOf 60 = 1 := by kernel_rfl
theorem has_a60 : aggT Try.prog 60 = false := by kernel_rfl
theorem has_z60 : zbox Try.prog 60 = some (A.nfn, 8) := by kernel_rfl
theorem has_s61 : isSliceT Try.prog 61 = false := by kernel_rfl
theorem has_t61 : isStrT Try.prog 61 = false := by kernel_rfl
theorem has_h61 : hasU Try.prog 61 = true := by kernel_rfl
theorem has_c61 : Try.prog.cellsOf 61 = 1 := by kernel_rfl
theorem has_a61 : aggT Try.prog 61 = false := by kernel_rfl
theorem has_z61 : zbox Try.prog 61 = some (A.nfn, 8) := by kernel_rfl
theorem has_u62 : Try.prog.underlying 62 = some (.map 3 3) := by kernel_rfl
theorem has_s62 : isSliceT Try.prog 62 = false := by kernel_rfl
theorem has_t62 : isStrT Try.prog 62 = false := by kernel_rfl
theorem has_m62x : isMapT Try.prog 62 = true := by kernel_rfl
theorem has_m62k : mkey Try.prog 62 = 3 := by kernel_rfl
theorem has_m62e : melem Try.prog 62 = 3 := by kernel_rfl
theorem has_k3 : keyT Try.prog 3 = 1 := by kernel_rfl
theorem has_h62 : hasU Try.prog 62 = true := by kernel_rfl
theorem has_c62 : Try.prog.cellsOf 62 = 1 := by kernel_rfl
theorem has_a62 : aggT Try.prog 62 = false := by kernel_rfl
theorem has_s64 : isSliceT Try.prog 64 = false := by kernel_rfl
theorem has_t64 : isStrT Try.prog 64 = false := by kernel_rfl
theorem has_h64 : hasU Try.prog 64 = true := by kernel_rfl
theorem has_c64 : Try.prog.cellsOf 64 = 1 := by kernel_rfl
theorem has_a64 : aggT Try.prog 64 = false := by kernel_rfl
theorem has_z64 : zbox Try.prog 64 = some (A.nfn, 8) := by kernel_rfl
theorem has_s65 : isSliceT Try.prog 65 = false := by kernel_rfl
theorem has_t65 : isStrT Try.prog 65 = false := by kernel_rfl
theorem has_h65 : hasU Try.prog 65 = true := by kernel_rfl
theorem has_c65 : Try.prog.cellsOf 65 = 1 := by kernel_rfl
theorem has_a65 : aggT Try.prog 65 = false := by kernel_rfl
theorem has_z65 : zbox Try.prog 65 = some (A.nfn, 8) := by kernel_rfl
theorem has_s66 : isSliceT Try.prog 66 = false := by kernel_rfl
theorem has_t66 : isStrT Try.prog 66 = false := by kernel_rfl
theorem has_h66 : hasU Try.prog 66 = true := by kernel_rfl
theorem has_c66 : Try.prog.cellsOf 66 = 1 := by kernel_rfl
theorem has_a66 : aggT Try.prog 66 = false := by kernel_rfl
theorem has_z66 : zbox Try.prog 66 = some (A.nfn, 8) := by kernel_rfl
theorem has_s67 : isSliceT Try.prog 67 = false := by kernel_rfl
theorem has_t67 : isStrT Try.prog 67 = false := by kernel_rfl
theorem has_h67 : hasU Try.prog 67 = true := by kernel_rfl
theorem has_c67 : Try.prog.cellsOf 67 = 1 := by kernel_rfl
theorem has_a67 : aggT Try.prog 67 = false := by kernel_rfl
theorem has_z67 : zbox Try.prog 67 = some (A.nfn, 8) := by kernel_rfl
theorem has_s68 : isSliceT Try.prog 68 = false := by kernel_rfl
theorem has_t68 : isStrT Try.prog 68 = false := by kernel_rfl
theorem has_h68 : hasU Try.prog 68 = true := by kernel_rfl
theorem has_c68 : Try.prog.cellsOf 68 = 1 := by kernel_rfl
theorem has_a68 : aggT Try.prog 68 = false := by kernel_rfl
theorem has_z68 : zbox Try.prog 68 = some (A.nfn, 8) := by kernel_rfl
theorem has_s69 : isSliceT Try.prog 69 = false := by kernel_rfl
theorem has_t69 : isStrT Try.prog 69 = false := by kernel_rfl
theorem has_h69 : hasU Try.prog 69 = true := by kernel_rfl
theorem has_c69 : Try.prog.cellsOf 69 = 1 := by kernel_rfl
theorem has_a69 : aggT Try.prog 69 = false := by kernel_rfl
theorem has_z69 : zbox Try.prog 69 = some (A.nfn, 8) := by kernel_rfl
theorem has_s70 : isSliceT Try.prog 70 = false := by kernel_rfl
theorem has_t70 : isStrT Try.prog 70 = false := by kernel_rfl
theorem has_h70 : hasU Try.prog 70 = true := by kernel_rfl
theorem has_c70 : Try.prog.cellsOf 70 = 1 := by kernel_rfl
theorem has_a70 : aggT Try.prog 70 = false := by kernel_rfl
theorem has_z70 : zbox Try.prog 70 = some (A.nfn, 8) := by kernel_rfl
theorem has_s71 : isSliceT Try.prog 71 = false := by kernel_rfl
theorem has_t71 : isStrT Try.prog 71 = false := by kernel_rfl
theorem has_h71 : hasU Try.prog 71 = true := by kernel_rfl
theorem has_c71 : Try.prog.cellsOf 71 = 1 := by kernel_rfl
theorem has_a71 : aggT Try.prog 71 = false := by kernel_rfl
theorem has_z71 : zbox Try.prog 71 = some (A.nfn, 8) := by kernel_rfl
theorem has_s72 : isSliceT Try.prog 72 = false := by kernel_rfl
theorem has_t72 : isStrT Try.prog 72 = false := by kernel_rfl
theorem has_h72 : hasU Try.prog 72 = true := by kernel_rfl
theorem has_c72 : Try.prog.cellsOf 72 = 1 := by kernel_rfl
theorem has_a72 : aggT Try.prog 72 = false := by kernel_rfl
theorem has_z72 : zbox Try.prog 72 = some (A.nfn, 8) := by kernel_rfl
theorem has_s73 : isSliceT Try.prog 73 = false := by kernel_rfl
theorem has_t73 : isStrT Try.prog 73 = false := by kernel_rfl
theorem has_h73 : hasU Try.prog 73 = true := by kernel_rfl
theorem has_c73 : Try.prog.cellsOf 73 = 1 := by kernel_rfl
theorem has_a73 : aggT Try.prog 73 = false := by kernel_rfl
theorem has_z73 : zbox Try.prog 73 = some (A.nfn, 8) := by kernel_rfl
theorem has_s74 : isSliceT Try.prog 74 = false := by kernel_rfl
theorem has_t74 : isStrT Try.prog 74 = false := by kernel_rfl
theorem has_h74 : hasU Try.prog 74 = true := by kernel_rfl
theorem has_c74 : Try.prog.cellsOf 74 = 1 := by kernel_rfl
theorem has_a74 : aggT Try.prog 74 = false := by kernel_rfl
theorem has_z74 : zbox Try.prog 74 = some (A.nfn, 8) := by kernel_rfl
theorem has_u75 : Try.prog.underlying 75 = some (.slice 22) := by kernel_rfl
theorem has_s75 : isSliceT Try.prog 75 = true := by kernel_rfl
theorem has_l75 : selem Try.prog 75 = 22 := by kernel_rfl
theorem has_t75 : isStrT Try.prog 75 = false := by kernel_rfl
theorem has_h75 : hasU Try.prog 75 = true := by kernel_rfl
theorem has_c75 : Try.prog.cellsOf 75 = 1 := by kernel_rfl
theorem has_a75 : aggT Try.prog 75 = false := by kernel_rfl
theorem has_z75 : zbox Try.prog 75 = some (A.sl true [], 24) := by kernel_rfl
theorem has_s76 : isSliceT Try.prog 76 = false := by kernel_rfl
theorem has_t76 : isStrT Try.prog 76 = false := by kernel_rfl
theorem has_h76 : hasU Try.prog 76 = true := by kernel_rfl
theorem has_c76 : Try.prog.cellsOf 76 = 1 := by kernel_rfl
theorem has_a76 : aggT Try.prog 76 = false := by kernel_rfl
theorem has_z76 : zbox Try.prog 76 = some (A.nfn, 8) := by kernel_rfl
theorem has_u77 : Try.prog.underlying 77 = some (.slice 23) := by kernel_rfl
theorem has_s77 : isSliceT Try.prog 77 = true := by kernel_rfl
theorem has_l77 : selem Try.prog 77 = 23 := by kernel_rfl
theorem has_t77 : isStrT Try.prog 77 = false := by kernel_rfl
theorem has_h77 : hasU Try.prog 77 = true := by kernel_rfl
theorem has_c77 : Try.prog.cellsOf 77 = 1 := by kernel_rfl
theorem has_a77 : aggT Try.prog 77 = false := by kernel_rfl
theorem has_z77 : zbox Try.prog 77 = some (A.sl true [], 24) := by kernel_rfl
theorem has_s78 : isSliceT Try.prog 78 = false := by kernel_rfl
theorem has_t78 : isStrT Try.prog 78 = false := by kernel_rfl
theorem has_h78 : hasU Try.prog 78 = true := by kernel_rfl
theorem has_c78 : Try.prog.cellsOf 78 = 1 := by kernel_rfl
theorem has_a78 : aggT Try.prog 78 = false := by kernel_rfl
theorem has_z78 : zbox Try.prog 78 = some (A.nfn, 8) := by kernel_rfl
theorem has_s79 : isSliceT Try.prog 79 = false := by kernel_rfl
theorem has_t79 : isStrT Try.prog 79 = false := by kernel_rfl
theorem has_h79 : hasU Try.prog 79 = true := by kernel_rfl
theorem has_c79 : Try.prog.cellsOf 79 = 1 := by kernel_rfl
theorem has_a79 : aggT Try.prog 79 = false := by kernel_rfl
theorem has_z79 : zbox Try.prog 79 = some (A.nfn, 8) := by kernel_rfl
theorem has_u80 : Try.prog.underlying 80 = some (.slice 82) := by kernel_rfl
theorem has_s80 : isSliceT Try.prog 80 = true := by kernel_rfl
theorem has_l80 : selem Try.prog 80 = 82 := by kernel_rfl
theorem has_t80 : isStrT Try.prog 80 = false := by kernel_rfl
theorem has_h80 : hasU Try.prog 80 = true := by kernel_rfl
theorem has_c80 : Try.prog.cellsOf 80 = 1 := by kernel_rfl
theorem has_a80 : aggT Try.prog 80 = false := by kernel_rfl
theorem has_z80 : zbox Try.prog 80 = some (A.sl true [], 24) := by kernel_rfl
theorem has_g81_0 : fld Try.prog 81 0 = some (44, 0) := by kernel_rfl
theorem has_g81_1 : fld Try.prog 81 1 = some (23, 9) := by kernel_rfl
theorem has_s81 : isSliceT Try.prog 81 = false := by kernel_rfl
theorem has_t81 : isStrT Try.prog 81 = false := by kernel_rfl
theorem has_h81 : hasU Try.prog 81 = true := by kernel_rfl
theorem has_w81 : ftl Try.prog 81 = some [(44, 0), (23, 9)] := by kernel_rfl
theorem has_c81 : Try.prog.cellsOf 81 = 10 := by kernel_rfl
theorem has_a81 : aggT Try.prog 81 = true := by kernel_rfl
theorem has_z81 : zbox Try.prog 81 = some (A.agg [A.int .i64 0, A.int .i64 0, A.int .i64 0, A.int .i64 0, A.int .i64 0, A.int .i64 0, A.int .i64 0, A.int .i64 0, A.sl true [], A.sl true []], 112) := by kernel_rfl
theorem has_b81 : bplan Try.prog 81 = some ([A.int .i64 0, A.int .i64 0, A.int .i64 0, A.int .i64 0, A.int .i64 0, A.int .i64 0, A.int .i64 0, A.int .i64 0, A.sl true [], A.sl true []], [(0, 9), (9, 1)]) := by kernel_rfl
theorem has_g82_0 : fld Try.prog 82 0 = some (44, 0) := by kernel_rfl
theorem has_g82_1 : fld Try.prog 82 1 = some (23, 9) := by kernel_rfl
theorem has_s82 : isSliceT Try.prog 82 = false := by kernel_rfl
theorem has_t82 : isStrT Try.prog 82 = false := by kernel_rfl
theorem has_h82 : hasU Try.prog 82 = true := by kernel_rfl
theorem has_w82 : ftl Try.prog 82 = some [(44, 0), (23, 9)] := by kernel_rfl
theorem has_c82 : Try.prog.cellsOf 82 = 10 := by kernel_rfl
theorem has_a82 : aggT Try.prog 82 = true := by kernel_rfl
theorem has_z82 : zbox Try.prog 82 = some (A.agg [A.int .i64 0, A.int .i64 0, A.int .i64 0, A.int .i64 0, A.int .i64 0, A.int .i64 0, A.int .i64 0, A.int .i64 0, A.sl true [], A.sl true []], 112) := by kernel_rfl
theorem has_b82 : bplan Try.prog 82 = some ([A.int .i64 0, A.int .i64 0, A.int .i64 0, A.int .i64 0, A.int .i64 0, A.int .i64 0, A.int .i64 0, A.int .i64 0, A.sl true [], A.sl true []], [(0, 9), (9, 1)]) := by kernel_rfl
theorem has_s83 : isSliceT Try.prog 83 = false := by kernel_rfl
theorem has_t83 : isStrT Try.prog 83 = false := by kernel_rfl
theorem has_h83 : hasU Try.prog 83 = true := by kernel_rfl
theorem has_c83 : Try.prog.cellsOf 83 = 1 := by kernel_rfl
theorem has_a83 : aggT Try.prog 83 = false := by kernel_rfl
theorem has_z83 : zbox Try.prog 83 = some (A.nfn, 8) := by kernel_rfl
theorem has_s84 : isSliceT Try.prog 84 = false := by kernel_rfl
theorem has_t84 : isStrT Try.prog 84 = false := by kernel_rfl
theorem has_h84 : hasU Try.prog 84 = true := by kernel_rfl
theorem has_c84 : Try.prog.cellsOf 84 = 1 := by kernel_rfl
theorem has_a84 : aggT Try.prog 84 = false := by kernel_rfl
theorem has_z84 : zbox Try.prog 84 = some (A.nfn, 8) := by kernel_rfl
theorem has_s85 : isSliceT Try.prog 85 = false := by kernel_rfl
theorem has_t85 : isStrT Try.prog 85 = false := by kernel_rfl
theorem has_h85 : hasU Try.prog 85 = true := by kernel_rfl
theorem has_c85 : Try.prog.cellsOf 85 = 1 := by kernel_rfl
theorem has_a85 : aggT Try.prog 85 = false := by kernel_rfl
theorem has_z85 : zbox Try.prog 85 = some (A.nfn, 8) := by kernel_rfl
theorem has_s86 : isSliceT Try.prog 86 = false := by kernel_rfl
theorem has_t86 : isStrT Try.prog 86 = false := by kernel_rfl
theorem has_h86 : hasU Try.prog 86 = true := by kernel_rfl
theorem has_c86 : Try.prog.cellsOf 86 = 1 := by kernel_rfl
theorem has_a86 : aggT Try.prog 86 = false := by kernel_rfl
theorem has_z86 : zbox Try.prog 86 = some (A.nfn, 8) := by kernel_rfl
theorem has_s87 : isSliceT Try.prog 87 = false := by kernel_rfl
theorem has_t87 : isStrT Try.prog 87 = false := by kernel_rfl
theorem has_h87 : hasU Try.prog 87 = true := by kernel_rfl
theorem has_c87 : Try.prog.cellsOf 87 = 1 := by kernel_rfl
theorem has_a87 : aggT Try.prog 87 = false := by kernel_rfl
theorem has_z87 : zbox Try.prog 87 = some (A.nfn, 8) := by kernel_rfl
theorem has_u88 : Try.prog.underlying 88 = some (.int .u64) := by kernel_rfl
theorem has_s88 : isSliceT Try.prog 88 = false := by kernel_rfl
theorem has_t88 : isStrT Try.prog 88 = false := by kernel_rfl
theorem has_h88 : hasU Try.prog 88 = true := by kernel_rfl
theorem has_i88 : intT Try.prog 88 = some .u64 := by kernel_rfl
theorem has_c88 : Try.prog.cellsOf 88 = 1 := by kernel_rfl
theorem has_a88 : aggT Try.prog 88 = false := by kernel_rfl
theorem has_z88 : zbox Try.prog 88 = some (A.int .u64 0, 8) := by kernel_rfl
theorem has_s89 : isSliceT Try.prog 89 = false := by kernel_rfl
theorem has_t89 : isStrT Try.prog 89 = false := by kernel_rfl
theorem has_h89 : hasU Try.prog 89 = true := by kernel_rfl
theorem has_c89 : Try.prog.cellsOf 89 = 1 := by kernel_rfl
theorem has_a89 : aggT Try.prog 89 = false := by kernel_rfl
theorem has_z89 : zbox Try.prog 89 = some (A.nfn, 8) := by kernel_rfl
theorem has_s90 : isSliceT Try.prog 90 = false := by kernel_rfl
theorem has_t90 : isStrT Try.prog 90 = false := by kernel_rfl
theorem has_h90 : hasU Try.prog 90 = true := by kernel_rfl
theorem has_c90 : Try.prog.cellsOf 90 = 1 := by kernel_rfl
theorem has_a90 : aggT Try.prog 90 = false := by kernel_rfl
theorem has_z90 : zbox Try.prog 90 = some (A.nfn, 8) := by kernel_rfl
theorem has_s91 : isSliceT Try.prog 91 = false := by kernel_rfl
theorem has_t91 : isStrT Try.prog 91 = false := by kernel_rfl
theorem has_h91 : hasU Try.prog 91 = true := by kernel_rfl
theorem has_c91 : Try.prog.cellsOf 91 = 1 := by kernel_rfl
theorem has_a91 : aggT Try.prog 91 = false := by kernel_rfl
theorem has_z91 : zbox Try.prog 91 = some (A.nfn, 8) := by kernel_rfl
theorem has_u94 : Try.prog.underlying 94 = some (.array 0 16) := by kernel_rfl
theorem has_s94 : isSliceT Try.prog 94 = false := by kernel_rfl
theorem has_t94 : isStrT Try.prog 94 = false := by kernel_rfl
theorem has_r94 : arrT Try.prog 94 = some (0, 16) := by kernel_rfl
theorem has_h94 : hasU Try.prog 94 = true := by kernel_rfl
theorem has_n94 : bplan Try.prog 94 = none := by kernel_rfl
theorem has_c94 : Try.prog.cellsOf 94 = 0 := by kernel_rfl
theorem has_a94 : aggT Try.prog 94 = true := by kernel_rfl
theorem has_z94 : zbox Try.prog 94 = some (A.agg [], 0) := by kernel_rfl
theorem has_b94 : aplan Try.prog 94 = some ([], 1) := by kernel_rfl
theorem has_s97 : isSliceT Try.prog 97 = false := by kernel_rfl
theorem has_t97 : isStrT Try.prog 97 = false := by kernel_rfl
theorem has_h97 : hasU Try.prog 97 = true := by kernel_rfl
theorem has_c97 : Try.prog.cellsOf 97 = 1 := by kernel_rfl
theorem has_a97 : aggT Try.prog 97 = false := by kernel_rfl
theorem has_z97 : zbox Try.prog 97 = some (A.nfn, 8) := by kernel_rfl
theorem has_u98 : Try.prog.underlying 98 = some (.int .u32) := by kernel_rfl
theorem has_s98 : isSliceT Try.prog 98 = false := by kernel_rfl
theorem has_t98 : isStrT Try.prog 98 = false := by kernel_rfl
theorem has_h98 : hasU Try.prog 98 = true := by kernel_rfl
theorem has_i98 : intT Try.prog 98 = some .u32 := by kernel_rfl
theorem has_c98 : Try.prog.cellsOf 98 = 1 := by kernel_rfl
theorem has_a98 : aggT Try.prog 98 = false := by kernel_rfl
theorem has_z98 : zbox Try.prog 98 = some (A.int .u32 0, 4) := by kernel_rfl
theorem has_s101 : isSliceT Try.prog 101 = false := by kernel_rfl
theorem has_t101 : isStrT Try.prog 101 = false := by kernel_rfl
theorem has_h101 : hasU Try.prog 101 = true := by kernel_rfl
theorem has_c101 : Try.prog.cellsOf 101 = 1 := by kernel_rfl
theorem has_a101 : aggT Try.prog 101 = false := by kernel_rfl
theorem has_z101 : zbox Try.prog 101 = some (A.nfn, 8) := by kernel_rfl
theorem has_g105_0 : fld Try.prog 105 0 = some (12, 0) := by kernel_rfl
theorem has_g105_1 : fld Try.prog 105 1 = some (12, 1) := by kernel_rfl
theorem has_g105_2 : fld Try.prog 105 2 = some (98, 2) := by kernel_rfl
theorem has_g105_3 : fld Try.prog 105 3 = some (99, 3) := by kernel_rfl
theorem has_g105_4 : fld Try.prog 105 4 = some (5, 4) := by kernel_rfl
theorem has_g105_5 : fld Try.prog 105 5 = some (5, 5) := by kernel_rfl
theorem has_g105_6 : fld Try.prog 105 6 = some (100, 6) := by kernel_rfl
theorem has_g105_7 : fld Try.prog 105 7 = some (101, 7) := by kernel_rfl
theorem has_g105_8 : fld Try.prog 105 8 = some (102, 8) := by kernel_rfl
theorem has_g105_9 : fld Try.prog 105 9 = some (103, 9) := by kernel_rfl
theorem has_g105_10 : fld Try.prog 105 10 = some (104, 10) := by kernel_rfl
theorem has_s105 : isSliceT Try.prog 105 = false := by kernel_rfl
theorem has_t105 : isStrT Try.prog 105 = false := by kernel_rfl
theorem has_h105 : hasU Try.prog 105 = true := by kernel_rfl
theorem has_w105 : ftl Try.prog 105 = some [(12, 0), (12, 1), (98, 2), (99, 3), (5, 4), (5, 5), (100, 6), (101, 7), (102, 8), (103, 9), (104, 10)] := by kernel_rfl
theorem has_c105 : Try.prog.cellsOf 105 = 11 := by kernel_rfl
theorem has_a105 : aggT Try.prog 105 = true := by kernel_rfl
theorem has_z105 : zbox Try.prog 105 = some (A.agg [A.int .u64 0, A.int .u64 0, A.int .u32 0, A.int .u8 0, A.int .u8 0, A.int .u8 0, A.int .u8 0, A.nfn, A.nptr, A.int .i32 0, A.int .i32 0], 48) := by kernel_rfl
theorem has_b105 : bplan Try.prog 105 = some ([A.int .u64 0, A.int .u64 0, A.int .u32 0, A.int .u8 0, A.int .u8 0, A.int .u8 0, A.int .u8 0, A.nfn, A.nptr, A.int .i32 0, A.int .i32 0], [(0, 1), (1, 1), (2, 1), (3, 1), (4, 1), (5, 1), (6, 1), (7, 1), (8, 1), (9, 1), (10, 1)]) := by kernel_rfl
theorem has_q0 : Try.prog.cellsOf 4294967295 = 0 := by kernel_rfl
theorem has_mo : Try.prog.follows .mixedOrders = true := by kernel_rfl
instance facts : Facts Try.prog where
  s1 := has_s1
  t1 := has_t1
  h1 := has_h1
  c1 := has_c1
  a1 := has_a1
  z1 := has_z1
  u2 := has_u2
  s2 := has_s2
  t2 := has_t2
  h2 := has_h2
  i2 := has_i2
  c2 := has_c2
  a2 := has_a2
  z2 := has_z2
  u3 := has_u3
  s3 := has_s3
  t3 := has_t3
  h3 := has_h3
  i3 := has_i3
  c3 := has_c3
  a3 := has_a3
  z3 := has_z3
  u4 := has_u4
  s4 := has_s4
  t4 := has_t4
  h4 := has_h4
  d4 := has_d4
  c4 := has_c4
  a4 := has_a4
  z4 := has_z4
  u5 := has_u5
  s5 := has_s5
  t5 := has_t5
  h5 := has_h5
  i5 := has_i5
  c5 := has_c5
  a5 := has_a5
  z5 := has_z5
  u9 := has_u9
  s9 := has_s9
  t9 := has_t9
  h9 := has_h9
  c9 := has_c9
  a9 := has_a9
  z9 := has_z9
  u12 := has_u12
  s12 := has_s12
  t12 := has_t12
  h12 := has_h12
  i12 := has_i12
  c12 := has_c12
  a12 := has_a12
  z12 := has_z12
  u21 := has_u21
  s21 := has_s21
  t21 := has_t21
  h21 := has_h21
  i21 := has_i21
  c21 := has_c21
  a21 := has_a21
  z21 := has_z21
  u22 := has_u22
  s22 := has_s22
  l22 := has_l22
  t22 := has_t22
  h22 := has_h22
  c22 := has_c22
  a22 := has_a22
  z22 := has_z22
  u23 := has_u23
  s23 := has_s23
  l23 := has_l23
  t23 := has_t23
  h23 := has_h23
  c23 := has_c23
  a23 := has_a23
  z23 := has_z23
  g24_0 := has_g24_0
  g24_1 := has_g24_1
  s24 := has_s24
  t24 := has_t24
  h24 := has_h24
  w24 := has_w24
  c24 := has_c24
  a24 := has_a24
  z24 := has_z24
  b24 := has_b24
  g25_0 := has_g25_0
  g25_1 := has_g25_1
  s25 := has_s25
  t25 := has_t25
  h25 := has_h25
  w25 := has_w25
  c25 := has_c25
  a25 := has_a25
  z25 := has_z25
  b25 := has_b25
  s26 := has_s26
  t26 := has_t26
  h26 := has_h26
  c26 := has_c26
  a26 := has_a26
  z26 := has_z26
  s27 := has_s27
  t27 := has_t27
  h27 := has_h27
  c27 := has_c27
  a27 := has_a27
  z27 := has_z27
  u28 := has_u28
  s28 := has_s28
  t28 := has_t28
  h28 := has_h28
  i28 := has_i28
  c28 := has_c28
  a28 := has_a28
  z28 := has_z28
  s29 := has_s29
  t29 := has_t29
  h29 := has_h29
  c29 := has_c29
  a29 := has_a29
  z29 := has_z29
  s30 := has_s30
  t30 := has_t30
  h30 := has_h30
  c30 := has_c30
  a30 := has_a30
  z30 := has_z30
  s31 := has_s31
  t31 := has_t31
  h31 := has_h31
  c31 := has_c31
  a31 := has_a31
  z31 := has_z31
  s32 := has_s32
  t32 := has_t32
  h32 := has_h32
  c32 := has_c32
  a32 := has_a32
  z32 := has_z32
  s33 := has_s33
  t33 := has_t33
  h33 := has_h33
  c33 := has_c33
  a33 := has_a33
  z33 := has_z33
  s34 := has_s34
  t34 := has_t34
  h34 := has_h34
  c34 := has_c34
  a34 := has_a34
  z34 := has_z34
  s36 := has_s36
  t36 := has_t36
  h36 := has_h36
  c36 := has_c36
  a36 := has_a36
  z36 := has_z36
  u37 := has_u37
  s37 := has_s37
  l37 := has_l37
  t37 := has_t37
  h37 := has_h37
  c37 := has_c37
  a37 := has_a37
  z37 := has_z37
  s38 := has_s38
  t38 := has_t38
  h38 := has_h38
  c38 := has_c38
  a38 := has_a38
  z38 := has_z38
  s39 := has_s39
  t39 := has_t39
  h39 := has_h39
  c39 := has_c39
  a39 := has_a39
  z39 := has_z39
  s40 := has_s40
  t40 := has_t40
  h40 := has_h40
  c40 := has_c40
  a40 := has_a40
  z40 := has_z40
  u41 := has_u41
  s41 := has_s41
  t41 := has_t41
  h41 := has_h41
  i41 := has_i41
  c41 := has_c41
  a41 := has_a41
  z41 := has_z41
  u42 := has_u42
  s42 := has_s42
  l42 := has_l42
  t42 := has_t42
  h42 := has_h42
  c42 := has_c42
  a42 := has_a42
  z42 := has_z42
  g43_0 := has_g43_0
  g43_1 := has_g43_1
  g43_2 := has_g43_2
  g43_3 := has_g43_3
  g43_4 := has_g43_4
  g43_5 := has_g43_5
  g43_6 := has_g43_6
  g43_7 := has_g43_7
  g43_8 := has_g43_8
  s43 := has_s43
  t43 := has_t43
  h43 := has_h43
  w43 := has_w43
  c43 := has_c43
  a43 := has_a43
  z43 := has_z43
  b43 := has_b43
  g44_0 := has_g44_0
  g44_1 := has_g44_1
  g44_2 := has_g44_2
  g44_3 := has_g44_3
  g44_4 := has_g44_4
  g44_5 := has_g44_5
  g44_6 := has_g44_6
  g44_7 := has_g44_7
  g44_8 := has_g44_8
  s44 := has_s44
  t44 := has_t44
  h44 := has_h44
  w44 := has_w44
  c44 := has_c44
  a44 := has_a44
  z44 := has_z44
  b44 := has_b44
  u45 := has_u45
  s45 := has_s45
  t45 := has_t45
  h45 := has_h45
  i45 := has_i45
  c45 := has_c45
  a45 := has_a45
  z45 := has_z45
  g46_0 := has_g46_0
  g46_1 := has_g46_1
  g46_2 := has_g46_2
  g46_3 := has_g46_3
  g46_4 := has_g46_4
  g46_5 := has_g46_5
  s46 := has_s46
  t46 := has_t46
  h46 := has_h46
  w46 := has_w46
  c46 := has_c46
  a46 := has_a46
  z46 := has_z46
  b46 := has_b46
  e46 := has_e46
  g47_0 := has_g47_0
  g47_1 := has_g47_1
  g47_2 := has_g47_2
  g47_3 := has_g47_3
  g47_4 := has_g47_4
  g47_5 := has_g47_5
  s47 := has_s47
  t47 := has_t47
  h47 := has_h47
  w47 := has_w47
  c47 := has_c47
  a47 := has_a47
  z47 := has_z47
  b47 := has_b47
  e47 := has_e47
  s48 := has_s48
  t48 := has_t48
  h48 := has_h48
  c48 := has_c48
  a48 := has_a48
  z48 := has_z48
  u49 := has_u49
  s49 := has_s49
  t49 := has_t49
  m49x := has_m49x
  m49k := has_m49k
  m49e := has_m49e
  k53 := has_k53
  h49 := has_h49
  c49 := has_c49
  a49 := has_a49
  s50 := has_s50
  t50 := has_t50
  h50 := has_h50
  c50 := has_c50
  a50 := has_a50
  z50 := has_z50
  s51 := has_s51
  t51 := has_t51
  h51 := has_h51
  c51 := has_c51
  a51 := has_a51
  z51 := has_z51
  g52_0 := has_g52_0
  g52_1 := has_g52_1
  s52 := has_s52
  t52 := has_t52
  h52 := has_h52
  w52 := has_w52
  c52 := has_c52
  a52 := has_a52
  z52 := has_z52
  b52 := has_b52
  e52 := has_e52
  g53_0 := has_g53_0
  g53_1 := has_g53_1
  s53 := has_s53
  t53 := has_t53
  h53 := has_h53
  w53 := has_w53
  c53 := has_c53
  a53 := has_a53
  z53 := has_z53
  b53 := has_b53
  e53 := has_e53
  s54 := has_s54
  t54 := has_t54
  h54 := has_h54
  c54 := has_c54
  a54 := has_a54
  z54 := has_z54
  s55 := has_s55
  t55 := has_t55
  h55 := has_h55
  c55 := has_c55
  a55 := has_a55
  z55 := has_z55
  s56 := has_s56
  t56 := has_t56
  h56 := has_h56
  c56 := has_c56
  a56 := has_a56
  z56 := has_z56
  s57 := has_s57
  t57 := has_t57
  h57 := has_h57
  c57 := has_c57
  a57 := has_a57
  z57 := has_z57
  s58 := has_s58
  t58 := has_t58
  h58 := has_h58
  c58 := has_c58
  a58 := has_a58
  z58 := has_z58
  s59 := has_s59
  t59 := has_t59
  h59 := has_h59
  c59 := has_c59
  a59 := has_a59
  z59 := has_z59
  s60 := has_s60
  t60 := has_t60
  h60 := has_h60
  c60 := has_c60
  a60 := has_a60
  z60 := has_z60
  s61 := has_s61
  t61 := has_t61
  h61 := has_h61
  c61 := has_c61
  a61 := has_a61
  z61 := has_z61
  u62 := has_u62
  s62 := has_s62
  t62 := has_t62
  m62x := has_m62x
  m62k := has_m62k
  m62e := has_m62e
  k3 := has_k3
  h62 := has_h62
  c62 := has_c62
  a62 := has_a62
  s64 := has_s64
  t64 := has_t64
  h64 := has_h64
  c64 := has_c64
  a64 := has_a64
  z64 := has_z64
  s65 := has_s65
  t65 := has_t65
  h65 := has_h65
  c65 := has_c65
  a65 := has_a65
  z65 := has_z65
  s66 := has_s66
  t66 := has_t66
  h66 := has_h66
  c66 := has_c66
  a66 := has_a66
  z66 := has_z66
  s67 := has_s67
  t67 := has_t67
  h67 := has_h67
  c67 := has_c67
  a67 := has_a67
  z67 := has_z67
  s68 := has_s68
  t68 := has_t68
  h68 := has_h68
  c68 := has_c68
  a68 := has_a68
  z68 := has_z68
  s69 := has_s69
  t69 := has_t69
  h69 := has_h69
  c69 := has_c69
  a69 := has_a69
  z69 := has_z69
  s70 := has_s70
  t70 := has_t70
  h70 := has_h70
  c70 := has_c70
  a70 := has_a70
  z70 := has_z70
  s71 := has_s71
  t71 := has_t71
  h71 := has_h71
  c71 := has_c71
  a71 := has_a71
  z71 := has_z71
  s72 := has_s72
  t72 := has_t72
  h72 := has_h72
  c72 := has_c72
  a72 := has_a72
  z72 := has_z72
  s73 := has_s73
  t73 := has_t73
  h73 := has_h73
  c73 := has_c73
  a73 := has_a73
  z73 := has_z73
  s74 := has_s74
  t74 := has_t74
  h74 := has_h74
  c74 := has_c74
  a74 := has_a74
  z74 := has_z74
  u75 := has_u75
  s75 := has_s75
  l75 := has_l75
  t75 := has_t75
  h75 := has_h75
  c75 := has_c75
  a75 := has_a75
  z75 := has_z75
  s76 := has_s76
  t76 := has_t76
  h76 := has_h76
  c76 := has_c76
  a76 := has_a76
  z76 := has_z76
  u77 := has_u77
  s77 := has_s77
  l77 := has_l77
  t77 := has_t77
  h77 := has_h77
  c77 := has_c77
  a77 := has_a77
  z77 := has_z77
  s78 := has_s78
  t78 := has_t78
  h78 := has_h78
  c78 := has_c78
  a78 := has_a78
  z78 := has_z78
  s79 := has_s79
  t79 := has_t79
  h79 := has_h79
  c79 := has_c79
  a79 := has_a79
  z79 := has_z79
  u80 := has_u80
  s80 := has_s80
  l80 := has_l80
  t80 := has_t80
  h80 := has_h80
  c80 := has_c80
  a80 := has_a80
  z80 := has_z80
  g81_0 := has_g81_0
  g81_1 := has_g81_1
  s81 := has_s81
  t81 := has_t81
  h81 := has_h81
  w81 := has_w81
  c81 := has_c81
  a81 := has_a81
  z81 := has_z81
  b81 := has_b81
  g82_0 := has_g82_0
  g82_1 := has_g82_1
  s82 := has_s82
  t82 := has_t82
  h82 := has_h82
  w82 := has_w82
  c82 := has_c82
  a82 := has_a82
  z82 := has_z82
  b82 := has_b82
  s83 := has_s83
  t83 := has_t83
  h83 := has_h83
  c83 := has_c83
  a83 := has_a83
  z83 := has_z83
  s84 := has_s84
  t84 := has_t84
  h84 := has_h84
  c84 := has_c84
  a84 := has_a84
  z84 := has_z84
  s85 := has_s85
  t85 := has_t85
  h85 := has_h85
  c85 := has_c85
  a85 := has_a85
  z85 := has_z85
  s86 := has_s86
  t86 := has_t86
  h86 := has_h86
  c86 := has_c86
  a86 := has_a86
  z86 := has_z86
  s87 := has_s87
  t87 := has_t87
  h87 := has_h87
  c87 := has_c87
  a87 := has_a87
  z87 := has_z87
  u88 := has_u88
  s88 := has_s88
  t88 := has_t88
  h88 := has_h88
  i88 := has_i88
  c88 := has_c88
  a88 := has_a88
  z88 := has_z88
  s89 := has_s89
  t89 := has_t89
  h89 := has_h89
  c89 := has_c89
  a89 := has_a89
  z89 := has_z89
  s90 := has_s90
  t90 := has_t90
  h90 := has_h90
  c90 := has_c90
  a90 := has_a90
  z90 := has_z90
  s91 := has_s91
  t91 := has_t91
  h91 := has_h91
  c91 := has_c91
  a91 := has_a91
  z91 := has_z91
  u94 := has_u94
  s94 := has_s94
  t94 := has_t94
  r94 := has_r94
  h94 := has_h94
  n94 := has_n94
  c94 := has_c94
  a94 := has_a94
  z94 := has_z94
  b94 := has_b94
  s97 := has_s97
  t97 := has_t97
  h97 := has_h97
  c97 := has_c97
  a97 := has_a97
  z97 := has_z97
  u98 := has_u98
  s98 := has_s98
  t98 := has_t98
  h98 := has_h98
  i98 := has_i98
  c98 := has_c98
  a98 := has_a98
  z98 := has_z98
  s101 := has_s101
  t101 := has_t101
  h101 := has_h101
  c101 := has_c101
  a101 := has_a101
  z101 := has_z101
  g105_0 := has_g105_0
  g105_1 := has_g105_1
  g105_2 := has_g105_2
  g105_3 := has_g105_3
  g105_4 := has_g105_4
  g105_5 := has_g105_5
  g105_6 := has_g105_6
  g105_7 := has_g105_7
  g105_8 := has_g105_8
  g105_9 := has_g105_9
  g105_10 := has_g105_10
  s105 := has_s105
  t105 := has_t105
  h105 := has_h105
  w105 := has_w105
  c105 := has_c105
  a105 := has_a105
  z105 := has_z105
  b105 := has_b105
  q0 := has_q0
  mo := has_mo
  f0 := Try.func0
  f1 := Try.func1
  f2 := Try.func2
  f3 := Try.func3
  f4 := Try.func4
  f5 := Try.func5
  f6 := Try.func6
  f7 := Try.func7
  f8 := Try.func8
  f9 := Try.func9
  f10 := Try.func10
  f11 := Try.func11
  f12 := Try.func12
  f13 := Try.func13
  f14 := Try.func14
  f15 := Try.func15
  f16 := Try.func16
  f17 := Try.func17
  f18 := Try.func18
  f19 := Try.func19
  f20 := Try.func20
  f21 := Try.func21
  f22 := Try.func22
  f23 := Try.func23
  f24 := Try.func24
  f25 := Try.func25
  f26 := Try.func26
  f27 := Try.func27
  f28 := Try.func28
  f29 := Try.func29
  f30 := Try.func30
  f31 := Try.func31
  f32 := Try.func32
  f33 := Try.func33
  f34 := Try.func34
  f35 := Try.func35
  f36 := Try.func36
  f37 := Try.func37
  f38 := Try.func38
  f39 := Try.func39
  f40 := Try.func40
  f41 := Try.func41
  f42 := Try.func42
  f43 := Try.func43
  f44 := Try.func44
  f45 := Try.func45
  f46 := Try.func46
  f47 := Try.func47
  f48 := Try.func48
  f49 := Try.func49
  f50 := Try.func50
  f51 := Try.func51
  f52 := Try.func52
  f53 := Try.func53
  f54 := Try.func54
  f55 := Try.func55
  f56 := Try.func56
  f57 := Try.func57
  f58 := Try.func58
  f59 := Try.func59
  f60 := Try.func60
  f61 := Try.func61
  f62 := Try.func62
  f63 := Try.func63
  f64 := Try.func64
  f65 := Try.func65
  f66 := Try.func66
  f67 := Try.func67
  f68 := Try.func68
  f69 := Try.func69
  f70 := Try.func70
  f71 := Try.func71
  f72 := Try.func72
  f73 := Try.func73
  f74 := Try.func74
  f75 := Try.func75
  f76 := Try.func76
  f77 := Try.func77
  f78 := Try.func78
  f79 := Try.func79
  f80 := Try.func80
  f81 := Try.func81
  f82 := Try.func82
  f83 := Try.func83
  f84 := Try.func84
  f85 := Try.func85
  f86 := Try.func86
end Go.Proofs.Ytacfckmhnnhllaa
