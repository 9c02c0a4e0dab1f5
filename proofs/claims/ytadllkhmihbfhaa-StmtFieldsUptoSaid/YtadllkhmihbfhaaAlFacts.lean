/- The facts about types and functions that the walks of this seat use, and that its program has them. -/
import Derived.Test.YtadllkhmihbfhaaAlM4
import Derived.Test.YtadllkhmihbfhaaProg
import Derived.KernelRfl
namespace Go.Proofs.Ytadllkhmihbfhaa
open Go.AL

class Facts (P : Program) : Prop where
  s1 : isSliceT P 1 = false
  t1 : isStrT P 1 = false
  h1 : hasU P 1 = true
  c1 : P.cellsOf 1 = 1
  a1 : aggT P 1 = false
  z1 : zbox P 1 = some (A.nfn, 8)
  u2 : P.underlying 2 = some (.int .i64)
  s2 : isSliceT P 2 = false
  t2 : isStrT P 2 = false
  h2 : hasU P 2 = true
  i2 : intT P 2 = some .i64
  c2 : P.cellsOf 2 = 1
  a2 : aggT P 2 = false
  z2 : zbox P 2 = some (A.int .i64 0, 8)
  u3 : P.underlying 3 = some (.int .i64)
  s3 : isSliceT P 3 = false
  t3 : isStrT P 3 = false
  h3 : hasU P 3 = true
  i3 : intT P 3 = some .i64
  c3 : P.cellsOf 3 = 1
  a3 : aggT P 3 = false
  z3 : zbox P 3 = some (A.int .i64 0, 8)
  u4 : P.underlying 4 = some (.bool)
  s4 : isSliceT P 4 = false
  t4 : isStrT P 4 = false
  h4 : hasU P 4 = true
  d4 : isBoolT P 4 = true
  c4 : P.cellsOf 4 = 1
  a4 : aggT P 4 = false
  z4 : zbox P 4 = some (A.bool false, 1)
  u5 : P.underlying 5 = some (.int .u8)
  s5 : isSliceT P 5 = false
  t5 : isStrT P 5 = false
  h5 : hasU P 5 = true
  i5 : intT P 5 = some .u8
  c5 : P.cellsOf 5 = 1
  a5 : aggT P 5 = false
  z5 : zbox P 5 = some (A.int .u8 0, 1)
  u9 : P.underlying 9 = some (.string)
  s9 : isSliceT P 9 = false
  t9 : isStrT P 9 = true
  h9 : hasU P 9 = true
  c9 : P.cellsOf 9 = 1
  a9 : aggT P 9 = false
  z9 : zbox P 9 = some (A.str [], 16)
  u12 : P.underlying 12 = some (.int .u64)
  s12 : isSliceT P 12 = false
  t12 : isStrT P 12 = false
  h12 : hasU P 12 = true
  i12 : intT P 12 = some .u64
  c12 : P.cellsOf 12 = 1
  a12 : aggT P 12 = false
  z12 : zbox P 12 = some (A.int .u64 0, 8)
  u21 : P.underlying 21 = some (.int .i32)
  s21 : isSliceT P 21 = false
  t21 : isStrT P 21 = false
  h21 : hasU P 21 = true
  i21 : intT P 21 = some .i32
  c21 : P.cellsOf 21 = 1
  a21 : aggT P 21 = false
  z21 : zbox P 21 = some (A.int .i32 0, 4)
  u22 : P.underlying 22 = some (.slice 47)
  s22 : isSliceT P 22 = true
  l22 : selem P 22 = 47
  t22 : isStrT P 22 = false
  h22 : hasU P 22 = true
  c22 : P.cellsOf 22 = 1
  a22 : aggT P 22 = false
  z22 : zbox P 22 = some (A.sl true [], 24)
  s23 : isSliceT P 23 = false
  t23 : isStrT P 23 = false
  h23 : hasU P 23 = true
  c23 : P.cellsOf 23 = 1
  a23 : aggT P 23 = false
  z23 : zbox P 23 = some (A.nfn, 8)
  s24 : isSliceT P 24 = false
  t24 : isStrT P 24 = false
  h24 : hasU P 24 = true
  c24 : P.cellsOf 24 = 1
  a24 : aggT P 24 = false
  z24 : zbox P 24 = some (A.nfn, 8)
  u25 : P.underlying 25 = some (.int .i64)
  s25 : isSliceT P 25 = false
  t25 : isStrT P 25 = false
  h25 : hasU P 25 = true
  i25 : intT P 25 = some .i64
  c25 : P.cellsOf 25 = 1
  a25 : aggT P 25 = false
  z25 : zbox P 25 = some (A.int .i64 0, 8)
  s26 : isSliceT P 26 = false
  t26 : isStrT P 26 = false
  h26 : hasU P 26 = true
  c26 : P.cellsOf 26 = 1
  a26 : aggT P 26 = false
  z26 : zbox P 26 = some (A.nfn, 8)
  s27 : isSliceT P 27 = false
  t27 : isStrT P 27 = false
  h27 : hasU P 27 = true
  c27 : P.cellsOf 27 = 1
  a27 : aggT P 27 = false
  z27 : zbox P 27 = some (A.nfn, 8)
  s28 : isSliceT P 28 = false
  t28 : isStrT P 28 = false
  h28 : hasU P 28 = true
  c28 : P.cellsOf 28 = 1
  a28 : aggT P 28 = false
  z28 : zbox P 28 = some (A.nfn, 8)
  u29 : P.underlying 29 = some (.slice 51)
  s29 : isSliceT P 29 = true
  l29 : selem P 29 = 51
  t29 : isStrT P 29 = false
  h29 : hasU P 29 = true
  c29 : P.cellsOf 29 = 1
  a29 : aggT P 29 = false
  z29 : zbox P 29 = some (A.sl true [], 24)
  s30 : isSliceT P 30 = false
  t30 : isStrT P 30 = false
  h30 : hasU P 30 = true
  c30 : P.cellsOf 30 = 1
  a30 : aggT P 30 = false
  z30 : zbox P 30 = some (A.nfn, 8)
  s31 : isSliceT P 31 = false
  t31 : isStrT P 31 = false
  h31 : hasU P 31 = true
  c31 : P.cellsOf 31 = 1
  a31 : aggT P 31 = false
  z31 : zbox P 31 = some (A.nfn, 8)
  u32 : P.underlying 32 = some (.slice 9)
  s32 : isSliceT P 32 = true
  l32 : selem P 32 = 9
  t32 : isStrT P 32 = false
  h32 : hasU P 32 = true
  c32 : P.cellsOf 32 = 1
  a32 : aggT P 32 = false
  z32 : zbox P 32 = some (A.sl true [], 24)
  s33 : isSliceT P 33 = false
  t33 : isStrT P 33 = false
  h33 : hasU P 33 = true
  c33 : P.cellsOf 33 = 1
  a33 : aggT P 33 = false
  z33 : zbox P 33 = some (A.nfn, 8)
  s34 : isSliceT P 34 = false
  t34 : isStrT P 34 = false
  h34 : hasU P 34 = true
  c34 : P.cellsOf 34 = 1
  a34 : aggT P 34 = false
  z34 : zbox P 34 = some (A.nfn, 8)
  s35 : isSliceT P 35 = false
  t35 : isStrT P 35 = false
  h35 : hasU P 35 = true
  c35 : P.cellsOf 35 = 1
  a35 : aggT P 35 = false
  z35 : zbox P 35 = some (A.nfn, 8)
  s36 : isSliceT P 36 = false
  t36 : isStrT P 36 = false
  h36 : hasU P 36 = true
  c36 : P.cellsOf 36 = 1
  a36 : aggT P 36 = false
  z36 : zbox P 36 = some (A.nfn, 8)
  u37 : P.underlying 37 = some (.int .i64)
  s37 : isSliceT P 37 = false
  t37 : isStrT P 37 = false
  h37 : hasU P 37 = true
  i37 : intT P 37 = some .i64
  c37 : P.cellsOf 37 = 1
  a37 : aggT P 37 = false
  z37 : zbox P 37 = some (A.int .i64 0, 8)
  u38 : P.underlying 38 = some (.int .i64)
  s38 : isSliceT P 38 = false
  t38 : isStrT P 38 = false
  h38 : hasU P 38 = true
  i38 : intT P 38 = some .i64
  c38 : P.cellsOf 38 = 1
  a38 : aggT P 38 = false
  z38 : zbox P 38 = some (A.int .i64 0, 8)
  u39 : P.underlying 39 = some (.slice 41)
  s39 : isSliceT P 39 = true
  l39 : selem P 39 = 41
  t39 : isStrT P 39 = false
  h39 : hasU P 39 = true
  c39 : P.cellsOf 39 = 1
  a39 : aggT P 39 = false
  z39 : zbox P 39 = some (A.sl true [], 24)
  g40_0 : fld P 40 0 = some (38, 0)
  g40_1 : fld P 40 1 = some (9, 1)
  g40_2 : fld P 40 2 = some (3, 2)
  g40_3 : fld P 40 3 = some (39, 3)
  s40 : isSliceT P 40 = false
  t40 : isStrT P 40 = false
  h40 : hasU P 40 = true
  w40 : ftl P 40 = some [(38, 0), (9, 1), (3, 2), (39, 3)]
  c40 : P.cellsOf 40 = 4
  a40 : aggT P 40 = true
  z40 : zbox P 40 = some (A.agg [A.int .i64 0, A.str [], A.int .i64 0, A.sl true []], 56)
  b40 : bplan P 40 = some ([A.int .i64 0, A.str [], A.int .i64 0, A.sl true []], [(0, 1), (1, 1), (2, 1), (3, 1)])
  g41_0 : fld P 41 0 = some (38, 0)
  g41_1 : fld P 41 1 = some (9, 1)
  g41_2 : fld P 41 2 = some (3, 2)
  g41_3 : fld P 41 3 = some (39, 3)
  s41 : isSliceT P 41 = false
  t41 : isStrT P 41 = false
  h41 : hasU P 41 = true
  w41 : ftl P 41 = some [(38, 0), (9, 1), (3, 2), (39, 3)]
  c41 : P.cellsOf 41 = 4
  a41 : aggT P 41 = true
  z41 : zbox P 41 = some (A.agg [A.int .i64 0, A.str [], A.int .i64 0, A.sl true []], 56)
  b41 : bplan P 41 = some ([A.int .i64 0, A.str [], A.int .i64 0, A.sl true []], [(0, 1), (1, 1), (2, 1), (3, 1)])
  u42 : P.underlying 42 = some (.int .i64)
  s42 : isSliceT P 42 = false
  t42 : isStrT P 42 = false
  h42 : hasU P 42 = true
  i42 : intT P 42 = some .i64
  c42 : P.cellsOf 42 = 1
  a42 : aggT P 42 = false
  z42 : zbox P 42 = some (A.int .i64 0, 8)
  u43 : P.underlying 43 = some (.slice 3)
  s43 : isSliceT P 43 = true
  l43 : selem P 43 = 3
  t43 : isStrT P 43 = false
  h43 : hasU P 43 = true
  c43 : P.cellsOf 43 = 1
  a43 : aggT P 43 = false
  z43 : zbox P 43 = some (A.sl true [], 24)
  g44_0 : fld P 44 0 = some (42, 0)
  g44_1 : fld P 44 1 = some (3, 1)
  g44_2 : fld P 44 2 = some (3, 2)
  g44_3 : fld P 44 3 = some (3, 3)
  g44_4 : fld P 44 4 = some (43, 4)
  g44_5 : fld P 44 5 = some (43, 5)
  s44 : isSliceT P 44 = false
  t44 : isStrT P 44 = false
  h44 : hasU P 44 = true
  w44 : ftl P 44 = some [(42, 0), (3, 1), (3, 2), (3, 3), (43, 4), (43, 5)]
  c44 : P.cellsOf 44 = 6
  a44 : aggT P 44 = true
  z44 : zbox P 44 = some (A.agg [A.int .i64 0, A.int .i64 0, A.int .i64 0, A.int .i64 0, A.sl true [], A.sl true []], 80)
  b44 : bplan P 44 = some ([A.int .i64 0, A.int .i64 0, A.int .i64 0, A.int .i64 0, A.sl true [], A.sl true []], [(0, 1), (1, 1), (2, 1), (3, 1), (4, 1), (5, 1)])
  g45_0 : fld P 45 0 = some (42, 0)
  g45_1 : fld P 45 1 = some (3, 1)
  g45_2 : fld P 45 2 = some (3, 2)
  g45_3 : fld P 45 3 = some (3, 3)
  g45_4 : fld P 45 4 = some (43, 4)
  g45_5 : fld P 45 5 = some (43, 5)
  s45 : isSliceT P 45 = false
  t45 : isStrT P 45 = false
  h45 : hasU P 45 = true
  w45 : ftl P 45 = some [(42, 0), (3, 1), (3, 2), (3, 3), (43, 4), (43, 5)]
  c45 : P.cellsOf 45 = 6
  a45 : aggT P 45 = true
  z45 : zbox P 45 = some (A.agg [A.int .i64 0, A.int .i64 0, A.int .i64 0, A.int .i64 0, A.sl true [], A.sl true []], 80)
  b45 : bplan P 45 = some ([A.int .i64 0, A.int .i64 0, A.int .i64 0, A.int .i64 0, A.sl true [], A.sl true []], [(0, 1), (1, 1), (2, 1), (3, 1), (4, 1), (5, 1)])
  g46_0 : fld P 46 0 = some (37, 0)
  g46_1 : fld P 46 1 = some (9, 1)
  g46_2 : fld P 46 2 = some (9, 2)
  g46_3 : fld P 46 3 = some (41, 3)
  g46_4 : fld P 46 4 = some (41, 7)
  g46_5 : fld P 46 5 = some (39, 11)
  g46_6 : fld P 46 6 = some (45, 12)
  g46_7 : fld P 46 7 = some (4, 18)
  g46_8 : fld P 46 8 = some (22, 19)
  g46_9 : fld P 46 9 = some (22, 20)
  s46 : isSliceT P 46 = false
  t46 : isStrT P 46 = false
  h46 : hasU P 46 = true
  w46 : ftl P 46 = some [(37, 0), (9, 1), (9, 2), (41, 3), (41, 7), (39, 11), (45, 12), (4, 18), (22, 19), (22, 20)]
  c46 : P.cellsOf 46 = 21
  a46 : aggT P 46 = true
  z46 : zbox P 46 = some (A.agg [A.int .i64 0, A.str [], A.str [], A.int .i64 0, A.str [], A.int .i64 0, A.sl true [], A.int .i64 0, A.str [], A.int .i64 0, A.sl true [], A.sl true [], A.int .i64 0, A.int .i64 0, A.int .i64 0, A.int .i64 0, A.sl true [], A.sl true [], A.bool false, A.sl true [], A.sl true []], 312)
  b46 : bplan P 46 = some ([A.int .i64 0, A.str [], A.str [], A.int .i64 0, A.str [], A.int .i64 0, A.sl true [], A.int .i64 0, A.str [], A.int .i64 0, A.sl true [], A.sl true [], A.int .i64 0, A.int .i64 0, A.int .i64 0, A.int .i64 0, A.sl true [], A.sl true [], A.bool false, A.sl true [], A.sl true []], [(0, 1), (1, 1), (2, 1), (3, 4), (7, 4), (11, 1), (12, 6), (18, 1), (19, 1), (20, 1)])
  g47_0 : fld P 47 0 = some (37, 0)
  g47_1 : fld P 47 1 = some (9, 1)
  g47_2 : fld P 47 2 = some (9, 2)
  g47_3 : fld P 47 3 = some (41, 3)
  g47_4 : fld P 47 4 = some (41, 7)
  g47_5 : fld P 47 5 = some (39, 11)
  g47_6 : fld P 47 6 = some (45, 12)
  g47_7 : fld P 47 7 = some (4, 18)
  g47_8 : fld P 47 8 = some (22, 19)
  g47_9 : fld P 47 9 = some (22, 20)
  s47 : isSliceT P 47 = false
  t47 : isStrT P 47 = false
  h47 : hasU P 47 = true
  w47 : ftl P 47 = some [(37, 0), (9, 1), (9, 2), (41, 3), (41, 7), (39, 11), (45, 12), (4, 18), (22, 19), (22, 20)]
  c47 : P.cellsOf 47 = 21
  a47 : aggT P 47 = true
  z47 : zbox P 47 = some (A.agg [A.int .i64 0, A.str [], A.str [], A.int .i64 0, A.str [], A.int .i64 0, A.sl true [], A.int .i64 0, A.str [], A.int .i64 0, A.sl true [], A.sl true [], A.int .i64 0, A.int .i64 0, A.int .i64 0, A.int .i64 0, A.sl true [], A.sl true [], A.bool false, A.sl true [], A.sl true []], 312)
  b47 : bplan P 47 = some ([A.int .i64 0, A.str [], A.str [], A.int .i64 0, A.str [], A.int .i64 0, A.sl true [], A.int .i64 0, A.str [], A.int .i64 0, A.sl true [], A.sl true [], A.int .i64 0, A.int .i64 0, A.int .i64 0, A.int .i64 0, A.sl true [], A.sl true [], A.bool false, A.sl true [], A.sl true []], [(0, 1), (1, 1), (2, 1), (3, 4), (7, 4), (11, 1), (12, 6), (18, 1), (19, 1), (20, 1)])
  s48 : isSliceT P 48 = false
  t48 : isStrT P 48 = false
  h48 : hasU P 48 = true
  c48 : P.cellsOf 48 = 1
  a48 : aggT P 48 = false
  z48 : zbox P 48 = some (A.nfn, 8)
  s49 : isSliceT P 49 = false
  t49 : isStrT P 49 = false
  h49 : hasU P 49 = true
  c49 : P.cellsOf 49 = 1
  a49 : aggT P 49 = false
  z49 : zbox P 49 = some (A.nfn, 8)
  s50 : isSliceT P 50 = false
  t50 : isStrT P 50 = false
  h50 : hasU P 50 = true
  c50 : P.cellsOf 50 = 1
  a50 : aggT P 50 = false
  z50 : zbox P 50 = some (A.nfn, 8)
  u51 : P.underlying 51 = some (.array 2 9)
  s51 : isSliceT P 51 = false
  t51 : isStrT P 51 = false
  r51 : arrT P 51 = some (2, 9)
  h51 : hasU P 51 = true
  n51 : bplan P 51 = none
  c51 : P.cellsOf 51 = 2
  a51 : aggT P 51 = true
  z51 : zbox P 51 = some (A.agg [A.str [], A.str []], 32)
  e51 : eqT P 51 = some [2, 2]
  b51 : aplan P 51 = some ([A.str [], A.str []], 1)
  s52 : isSliceT P 52 = false
  t52 : isStrT P 52 = false
  h52 : hasU P 52 = true
  c52 : P.cellsOf 52 = 1
  a52 : aggT P 52 = false
  z52 : zbox P 52 = some (A.nfn, 8)
  s53 : isSliceT P 53 = false
  t53 : isStrT P 53 = false
  h53 : hasU P 53 = true
  c53 : P.cellsOf 53 = 1
  a53 : aggT P 53 = false
  z53 : zbox P 53 = some (A.nfn, 8)
  s54 : isSliceT P 54 = false
  t54 : isStrT P 54 = false
  h54 : hasU P 54 = true
  c54 : P.cellsOf 54 = 1
  a54 : aggT P 54 = false
  z54 : zbox P 54 = some (A.nfn, 8)
  s55 : isSliceT P 55 = false
  t55 : isStrT P 55 = false
  h55 : hasU P 55 = true
  c55 : P.cellsOf 55 = 1
  a55 : aggT P 55 = false
  z55 : zbox P 55 = some (A.nfn, 8)
  s57 : isSliceT P 57 = false
  t57 : isStrT P 57 = false
  h57 : hasU P 57 = true
  c57 : P.cellsOf 57 = 1
  a57 : aggT P 57 = false
  z57 : zbox P 57 = some (A.nfn, 8)
  s58 : isSliceT P 58 = false
  t58 : isStrT P 58 = false
  h58 : hasU P 58 = true
  c58 : P.cellsOf 58 = 1
  a58 : aggT P 58 = false
  z58 : zbox P 58 = some (A.nfn, 8)
  s59 : isSliceT P 59 = false
  t59 : isStrT P 59 = false
  h59 : hasU P 59 = true
  c59 : P.cellsOf 59 = 1
  a59 : aggT P 59 = false
  z59 : zbox P 59 = some (A.nfn, 8)
  s60 : isSliceT P 60 = false
  t60 : isStrT P 60 = false
  h60 : hasU P 60 = true
  c60 : P.cellsOf 60 = 1
  a60 : aggT P 60 = false
  z60 : zbox P 60 = some (A.nfn, 8)
  s61 : isSliceT P 61 = false
  t61 : isStrT P 61 = false
  h61 : hasU P 61 = true
  c61 : P.cellsOf 61 = 1
  a61 : aggT P 61 = false
  z61 : zbox P 61 = some (A.nfn, 8)
  s62 : isSliceT P 62 = false
  t62 : isStrT P 62 = false
  h62 : hasU P 62 = true
  c62 : P.cellsOf 62 = 1
  a62 : aggT P 62 = false
  z62 : zbox P 62 = some (A.nfn, 8)
  s63 : isSliceT P 63 = false
  t63 : isStrT P 63 = false
  h63 : hasU P 63 = true
  c63 : P.cellsOf 63 = 1
  a63 : aggT P 63 = false
  z63 : zbox P 63 = some (A.nfn, 8)
  s64 : isSliceT P 64 = false
  t64 : isStrT P 64 = false
  h64 : hasU P 64 = true
  c64 : P.cellsOf 64 = 1
  a64 : aggT P 64 = false
  z64 : zbox P 64 = some (A.nfn, 8)
  s65 : isSliceT P 65 = false
  t65 : isStrT P 65 = false
  h65 : hasU P 65 = true
  c65 : P.cellsOf 65 = 1
  a65 : aggT P 65 = false
  z65 : zbox P 65 = some (A.nfn, 8)
  g66_0 : fld P 66 0 = some (4, 0)
  g66_1 : fld P 66 1 = some (4, 1)
  g66_2 : fld P 66 2 = some (4, 2)
  g66_3 : fld P 66 3 = some (4, 3)
  g66_4 : fld P 66 4 = some (4, 4)
  g66_5 : fld P 66 5 = some (4, 5)
  g66_6 : fld P 66 6 = some (4, 6)
  g66_7 : fld P 66 7 = some (4, 7)
  g66_8 : fld P 66 8 = some (4, 8)
  s66 : isSliceT P 66 = false
  t66 : isStrT P 66 = false
  h66 : hasU P 66 = true
  w66 : ftl P 66 = some [(4, 0), (4, 1), (4, 2), (4, 3), (4, 4), (4, 5), (4, 6), (4, 7), (4, 8)]
  c66 : P.cellsOf 66 = 9
  a66 : aggT P 66 = true
  z66 : zbox P 66 = some (A.agg [A.bool false, A.bool false, A.bool false, A.bool false, A.bool false, A.bool false, A.bool false, A.bool false, A.bool false], 9)
  b66 : bplan P 66 = some ([A.bool false, A.bool false, A.bool false, A.bool false, A.bool false, A.bool false, A.bool false, A.bool false, A.bool false], [(0, 1), (1, 1), (2, 1), (3, 1), (4, 1), (5, 1), (6, 1), (7, 1), (8, 1)])
  e66 : eqT P 66 = some [1, 1, 1, 1, 1, 1, 1, 1, 1]
  g67_0 : fld P 67 0 = some (4, 0)
  g67_1 : fld P 67 1 = some (4, 1)
  g67_2 : fld P 67 2 = some (4, 2)
  g67_3 : fld P 67 3 = some (4, 3)
  g67_4 : fld P 67 4 = some (4, 4)
  g67_5 : fld P 67 5 = some (4, 5)
  g67_6 : fld P 67 6 = some (4, 6)
  g67_7 : fld P 67 7 = some (4, 7)
  g67_8 : fld P 67 8 = some (4, 8)
  s67 : isSliceT P 67 = false
  t67 : isStrT P 67 = false
  h67 : hasU P 67 = true
  w67 : ftl P 67 = some [(4, 0), (4, 1), (4, 2), (4, 3), (4, 4), (4, 5), (4, 6), (4, 7), (4, 8)]
  c67 : P.cellsOf 67 = 9
  a67 : aggT P 67 = true
  z67 : zbox P 67 = some (A.agg [A.bool false, A.bool false, A.bool false, A.bool false, A.bool false, A.bool false, A.bool false, A.bool false, A.bool false], 9)
  b67 : bplan P 67 = some ([A.bool false, A.bool false, A.bool false, A.bool false, A.bool false, A.bool false, A.bool false, A.bool false, A.bool false], [(0, 1), (1, 1), (2, 1), (3, 1), (4, 1), (5, 1), (6, 1), (7, 1), (8, 1)])
  e67 : eqT P 67 = some [1, 1, 1, 1, 1, 1, 1, 1, 1]
  s69 : isSliceT P 69 = false
  t69 : isStrT P 69 = false
  h69 : hasU P 69 = true
  c69 : P.cellsOf 69 = 1
  a69 : aggT P 69 = false
  z69 : zbox P 69 = some (A.nfn, 8)
  s70 : isSliceT P 70 = false
  t70 : isStrT P 70 = false
  h70 : hasU P 70 = true
  c70 : P.cellsOf 70 = 1
  a70 : aggT P 70 = false
  z70 : zbox P 70 = some (A.nfn, 8)
  s71 : isSliceT P 71 = false
  t71 : isStrT P 71 = false
  h71 : hasU P 71 = true
  c71 : P.cellsOf 71 = 1
  a71 : aggT P 71 = false
  z71 : zbox P 71 = some (A.nfn, 8)
  s72 : isSliceT P 72 = false
  t72 : isStrT P 72 = false
  h72 : hasU P 72 = true
  c72 : P.cellsOf 72 = 1
  a72 : aggT P 72 = false
  z72 : zbox P 72 = some (A.nfn, 8)
  s73 : isSliceT P 73 = false
  t73 : isStrT P 73 = false
  h73 : hasU P 73 = true
  c73 : P.cellsOf 73 = 1
  a73 : aggT P 73 = false
  z73 : zbox P 73 = some (A.nfn, 8)
  s74 : isSliceT P 74 = false
  t74 : isStrT P 74 = false
  h74 : hasU P 74 = true
  c74 : P.cellsOf 74 = 1
  a74 : aggT P 74 = false
  z74 : zbox P 74 = some (A.nfn, 8)
  u75 : P.underlying 75 = some (.int .u64)
  s75 : isSliceT P 75 = false
  t75 : isStrT P 75 = false
  h75 : hasU P 75 = true
  i75 : intT P 75 = some .u64
  c75 : P.cellsOf 75 = 1
  a75 : aggT P 75 = false
  z75 : zbox P 75 = some (A.int .u64 0, 8)
  s76 : isSliceT P 76 = false
  t76 : isStrT P 76 = false
  h76 : hasU P 76 = true
  c76 : P.cellsOf 76 = 1
  a76 : aggT P 76 = false
  z76 : zbox P 76 = some (A.nfn, 8)
  s77 : isSliceT P 77 = false
  t77 : isStrT P 77 = false
  h77 : hasU P 77 = true
  c77 : P.cellsOf 77 = 1
  a77 : aggT P 77 = false
  z77 : zbox P 77 = some (A.nfn, 8)
  s78 : isSliceT P 78 = false
  t78 : isStrT P 78 = false
  h78 : hasU P 78 = true
  c78 : P.cellsOf 78 = 1
  a78 : aggT P 78 = false
  z78 : zbox P 78 = some (A.nfn, 8)
  g79_0 : fld P 79 0 = some (4, 0)
  g79_1 : fld P 79 1 = some (9, 1)
  s79 : isSliceT P 79 = false
  t79 : isStrT P 79 = false
  h79 : hasU P 79 = true
  w79 : ftl P 79 = some [(4, 0), (9, 1)]
  c79 : P.cellsOf 79 = 2
  a79 : aggT P 79 = true
  z79 : zbox P 79 = some (A.agg [A.bool false, A.str []], 24)
  b79 : bplan P 79 = some ([A.bool false, A.str []], [(0, 1), (1, 1)])
  e79 : eqT P 79 = some [1, 2]
  u80 : P.underlying 80 = some (.slice 79)
  s80 : isSliceT P 80 = true
  l80 : selem P 80 = 79
  t80 : isStrT P 80 = false
  h80 : hasU P 80 = true
  c80 : P.cellsOf 80 = 1
  a80 : aggT P 80 = false
  z80 : zbox P 80 = some (A.sl true [], 24)
  s81 : isSliceT P 81 = false
  t81 : isStrT P 81 = false
  h81 : hasU P 81 = true
  c81 : P.cellsOf 81 = 1
  a81 : aggT P 81 = false
  z81 : zbox P 81 = some (A.nfn, 8)
  g82_0 : fld P 82 0 = some (4, 0)
  g82_1 : fld P 82 1 = some (41, 1)
  s82 : isSliceT P 82 = false
  t82 : isStrT P 82 = false
  h82 : hasU P 82 = true
  w82 : ftl P 82 = some [(4, 0), (41, 1)]
  c82 : P.cellsOf 82 = 5
  a82 : aggT P 82 = true
  z82 : zbox P 82 = some (A.agg [A.bool false, A.int .i64 0, A.str [], A.int .i64 0, A.sl true []], 64)
  b82 : bplan P 82 = some ([A.bool false, A.int .i64 0, A.str [], A.int .i64 0, A.sl true []], [(0, 1), (1, 4)])
  u83 : P.underlying 83 = some (.slice 82)
  s83 : isSliceT P 83 = true
  l83 : selem P 83 = 82
  t83 : isStrT P 83 = false
  h83 : hasU P 83 = true
  c83 : P.cellsOf 83 = 1
  a83 : aggT P 83 = false
  z83 : zbox P 83 = some (A.sl true [], 24)
  s84 : isSliceT P 84 = false
  t84 : isStrT P 84 = false
  h84 : hasU P 84 = true
  c84 : P.cellsOf 84 = 1
  a84 : aggT P 84 = false
  z84 : zbox P 84 = some (A.nfn, 8)
  s85 : isSliceT P 85 = false
  t85 : isStrT P 85 = false
  h85 : hasU P 85 = true
  c85 : P.cellsOf 85 = 1
  a85 : aggT P 85 = false
  z85 : zbox P 85 = some (A.nfn, 8)
  g86_0 : fld P 86 0 = some (4, 0)
  g86_1 : fld P 86 1 = some (4, 1)
  g86_2 : fld P 86 2 = some (4, 2)
  g86_3 : fld P 86 3 = some (4, 3)
  g86_4 : fld P 86 4 = some (4, 4)
  g86_5 : fld P 86 5 = some (4, 5)
  g86_6 : fld P 86 6 = some (4, 6)
  g86_7 : fld P 86 7 = some (4, 7)
  g86_8 : fld P 86 8 = some (4, 8)
  s86 : isSliceT P 86 = false
  t86 : isStrT P 86 = false
  h86 : hasU P 86 = true
  w86 : ftl P 86 = some [(4, 0), (4, 1), (4, 2), (4, 3), (4, 4), (4, 5), (4, 6), (4, 7), (4, 8)]
  c86 : P.cellsOf 86 = 9
  a86 : aggT P 86 = true
  z86 : zbox P 86 = some (A.agg [A.bool false, A.bool false, A.bool false, A.bool false, A.bool false, A.bool false, A.bool false, A.bool false, A.bool false], 9)
  b86 : bplan P 86 = some ([A.bool false, A.bool false, A.bool false, A.bool false, A.bool false, A.bool false, A.bool false, A.bool false, A.bool false], [(0, 1), (1, 1), (2, 1), (3, 1), (4, 1), (5, 1), (6, 1), (7, 1), (8, 1)])
  e86 : eqT P 86 = some [1, 1, 1, 1, 1, 1, 1, 1, 1]
  g87_0 : fld P 87 0 = some (4, 0)
  g87_1 : fld P 87 1 = some (4, 1)
  g87_2 : fld P 87 2 = some (4, 2)
  g87_3 : fld P 87 3 = some (4, 3)
  g87_4 : fld P 87 4 = some (4, 4)
  g87_5 : fld P 87 5 = some (4, 5)
  g87_6 : fld P 87 6 = some (4, 6)
  g87_7 : fld P 87 7 = some (4, 7)
  g87_8 : fld P 87 8 = some (4, 8)
  s87 : isSliceT P 87 = false
  t87 : isStrT P 87 = false
  h87 : hasU P 87 = true
  w87 : ftl P 87 = some [(4, 0), (4, 1), (4, 2), (4, 3), (4, 4), (4, 5), (4, 6), (4, 7), (4, 8)]
  c87 : P.cellsOf 87 = 9
  a87 : aggT P 87 = true
  z87 : zbox P 87 = some (A.agg [A.bool false, A.bool false, A.bool false, A.bool false, A.bool false, A.bool false, A.bool false, A.bool false, A.bool false], 9)
  b87 : bplan P 87 = some ([A.bool false, A.bool false, A.bool false, A.bool false, A.bool false, A.bool false, A.bool false, A.bool false, A.bool false], [(0, 1), (1, 1), (2, 1), (3, 1), (4, 1), (5, 1), (6, 1), (7, 1), (8, 1)])
  e87 : eqT P 87 = some [1, 1, 1, 1, 1, 1, 1, 1, 1]
  s89 : isSliceT P 89 = false
  t89 : isStrT P 89 = false
  h89 : hasU P 89 = true
  c89 : P.cellsOf 89 = 1
  a89 : aggT P 89 = false
  z89 : zbox P 89 = some (A.nfn, 8)
  s90 : isSliceT P 90 = false
  t90 : isStrT P 90 = false
  h90 : hasU P 90 = true
  c90 : P.cellsOf 90 = 1
  a90 : aggT P 90 = false
  z90 : zbox P 90 = some (A.nfn, 8)
  s91 : isSliceT P 91 = false
  t91 : isStrT P 91 = false
  h91 : hasU P 91 = true
  c91 : P.cellsOf 91 = 1
  a91 : aggT P 91 = false
  z91 : zbox P 91 = some (A.nfn, 8)
  s92 : isSliceT P 92 = false
  t92 : isStrT P 92 = false
  h92 : hasU P 92 = true
  c92 : P.cellsOf 92 = 1
  a92 : aggT P 92 = false
  z92 : zbox P 92 = some (A.nfn, 8)
  u93 : P.underlying 93 = some (.int .i64)
  s93 : isSliceT P 93 = false
  t93 : isStrT P 93 = false
  h93 : hasU P 93 = true
  i93 : intT P 93 = some .i64
  c93 : P.cellsOf 93 = 1
  a93 : aggT P 93 = false
  z93 : zbox P 93 = some (A.int .i64 0, 8)
  s95 : isSliceT P 95 = false
  t95 : isStrT P 95 = false
  h95 : hasU P 95 = true
  c95 : P.cellsOf 95 = 1
  a95 : aggT P 95 = false
  z95 : zbox P 95 = some (A.nfn, 8)
  s96 : isSliceT P 96 = false
  t96 : isStrT P 96 = false
  h96 : hasU P 96 = true
  c96 : P.cellsOf 96 = 1
  a96 : aggT P 96 = false
  z96 : zbox P 96 = some (A.nfn, 8)
  s97 : isSliceT P 97 = false
  t97 : isStrT P 97 = false
  h97 : hasU P 97 = true
  c97 : P.cellsOf 97 = 1
  a97 : aggT P 97 = false
  z97 : zbox P 97 = some (A.nfn, 8)
  s98 : isSliceT P 98 = false
  t98 : isStrT P 98 = false
  h98 : hasU P 98 = true
  c98 : P.cellsOf 98 = 1
  a98 : aggT P 98 = false
  z98 : zbox P 98 = some (A.nfn, 8)
  s100 : isSliceT P 100 = false
  t100 : isStrT P 100 = false
  h100 : hasU P 100 = true
  c100 : P.cellsOf 100 = 1
  a100 : aggT P 100 = false
  z100 : zbox P 100 = some (A.nfn, 8)
  s101 : isSliceT P 101 = false
  t101 : isStrT P 101 = false
  h101 : hasU P 101 = true
  c101 : P.cellsOf 101 = 1
  a101 : aggT P 101 = false
  z101 : zbox P 101 = some (A.nfn, 8)
  u102 : P.underlying 102 = some (.int .u32)
  s102 : isSliceT P 102 = false
  t102 : isStrT P 102 = false
  h102 : hasU P 102 = true
  i102 : intT P 102 = some .u32
  c102 : P.cellsOf 102 = 1
  a102 : aggT P 102 = false
  z102 : zbox P 102 = some (A.int .u32 0, 4)
  s103 : isSliceT P 103 = false
  t103 : isStrT P 103 = false
  h103 : hasU P 103 = true
  c103 : P.cellsOf 103 = 1
  a103 : aggT P 103 = false
  z103 : zbox P 103 = some (A.nfn, 8)
  u104 : P.underlying 104 = some (.int .u64)
  s104 : isSliceT P 104 = false
  t104 : isStrT P 104 = false
  h104 : hasU P 104 = true
  i104 : intT P 104 = some .u64
  c104 : P.cellsOf 104 = 1
  a104 : aggT P 104 = false
  z104 : zbox P 104 = some (A.int .u64 0, 8)
  s105 : isSliceT P 105 = false
  t105 : isStrT P 105 = false
  h105 : hasU P 105 = true
  c105 : P.cellsOf 105 = 1
  a105 : aggT P 105 = false
  z105 : zbox P 105 = some (A.nfn, 8)
  s106 : isSliceT P 106 = false
  t106 : isStrT P 106 = false
  h106 : hasU P 106 = true
  c106 : P.cellsOf 106 = 1
  a106 : aggT P 106 = false
  z106 : zbox P 106 = some (A.nfn, 8)
  g107_0 : fld P 107 0 = some (4, 0)
  s107 : isSliceT P 107 = false
  t107 : isStrT P 107 = false
  h107 : hasU P 107 = true
  w107 : ftl P 107 = some [(4, 0)]
  c107 : P.cellsOf 107 = 1
  a107 : aggT P 107 = true
  z107 : zbox P 107 = some (A.agg [A.bool false], 1)
  b107 : bplan P 107 = some ([A.bool false], [(0, 1)])
  e107 : eqT P 107 = some [1]
  g108_0 : fld P 108 0 = some (4, 0)
  s108 : isSliceT P 108 = false
  t108 : isStrT P 108 = false
  h108 : hasU P 108 = true
  w108 : ftl P 108 = some [(4, 0)]
  c108 : P.cellsOf 108 = 1
  a108 : aggT P 108 = true
  z108 : zbox P 108 = some (A.agg [A.bool false], 1)
  b108 : bplan P 108 = some ([A.bool false], [(0, 1)])
  e108 : eqT P 108 = some [1]
  s109 : isSliceT P 109 = false
  t109 : isStrT P 109 = false
  h109 : hasU P 109 = true
  c109 : P.cellsOf 109 = 1
  a109 : aggT P 109 = false
  z109 : zbox P 109 = some (A.nfn, 8)
  s110 : isSliceT P 110 = false
  t110 : isStrT P 110 = false
  h110 : hasU P 110 = true
  c110 : P.cellsOf 110 = 1
  a110 : aggT P 110 = false
  z110 : zbox P 110 = some (A.nfn, 8)
  s111 : isSliceT P 111 = false
  t111 : isStrT P 111 = false
  h111 : hasU P 111 = true
  c111 : P.cellsOf 111 = 1
  a111 : aggT P 111 = false
  z111 : zbox P 111 = some (A.nfn, 8)
  u112 : P.underlying 112 = some (.int .u64)
  s112 : isSliceT P 112 = false
  t112 : isStrT P 112 = false
  h112 : hasU P 112 = true
  i112 : intT P 112 = some .u64
  c112 : P.cellsOf 112 = 1
  a112 : aggT P 112 = false
  z112 : zbox P 112 = some (A.int .u64 0, 8)
  s113 : isSliceT P 113 = false
  t113 : isStrT P 113 = false
  h113 : hasU P 113 = true
  c113 : P.cellsOf 113 = 1
  a113 : aggT P 113 = false
  z113 : zbox P 113 = some (A.nfn, 8)
  s114 : isSliceT P 114 = false
  t114 : isStrT P 114 = false
  h114 : hasU P 114 = true
  c114 : P.cellsOf 114 = 1
  a114 : aggT P 114 = false
  z114 : zbox P 114 = some (A.nfn, 8)
  s115 : isSliceT P 115 = false
  t115 : isStrT P 115 = false
  h115 : hasU P 115 = true
  c115 : P.cellsOf 115 = 1
  a115 : aggT P 115 = false
  z115 : zbox P 115 = some (A.nfn, 8)
  s117 : isSliceT P 117 = false
  t117 : isStrT P 117 = false
  h117 : hasU P 117 = true
  c117 : P.cellsOf 117 = 1
  a117 : aggT P 117 = false
  z117 : zbox P 117 = some (A.nfn, 8)
  s118 : isSliceT P 118 = false
  t118 : isStrT P 118 = false
  h118 : hasU P 118 = true
  c118 : P.cellsOf 118 = 1
  a118 : aggT P 118 = false
  z118 : zbox P 118 = some (A.nfn, 8)
  s119 : isSliceT P 119 = false
  t119 : isStrT P 119 = false
  h119 : hasU P 119 = true
  c119 : P.cellsOf 119 = 1
  a119 : aggT P 119 = false
  z119 : zbox P 119 = some (A.nfn, 8)
  s120 : isSliceT P 120 = false
  t120 : isStrT P 120 = false
  h120 : hasU P 120 = true
  c120 : P.cellsOf 120 = 1
  a120 : aggT P 120 = false
  z120 : zbox P 120 = some (A.nfn, 8)
  s121 : isSliceT P 121 = false
  t121 : isStrT P 121 = false
  h121 : hasU P 121 = true
  c121 : P.cellsOf 121 = 1
  a121 : aggT P 121 = false
  z121 : zbox P 121 = some (A.nfn, 8)
  s124 : isSliceT P 124 = false
  t124 : isStrT P 124 = false
  h124 : hasU P 124 = true
  c124 : P.cellsOf 124 = 1
  a124 : aggT P 124 = false
  z124 : zbox P 124 = some (A.nfn, 8)
  s125 : isSliceT P 125 = false
  t125 : isStrT P 125 = false
  h125 : hasU P 125 = true
  c125 : P.cellsOf 125 = 1
  a125 : aggT P 125 = false
  z125 : zbox P 125 = some (A.nfn, 8)
  s126 : isSliceT P 126 = false
  t126 : isStrT P 126 = false
  h126 : hasU P 126 = true
  c126 : P.cellsOf 126 = 1
  a126 : aggT P 126 = false
  z126 : zbox P 126 = some (A.nfn, 8)
  s127 : isSliceT P 127 = false
  t127 : isStrT P 127 = false
  h127 : hasU P 127 = true
  c127 : P.cellsOf 127 = 1
  a127 : aggT P 127 = false
  z127 : zbox P 127 = some (A.nfn, 8)
  s129 : isSliceT P 129 = false
  t129 : isStrT P 129 = false
  h129 : hasU P 129 = true
  c129 : P.cellsOf 129 = 1
  a129 : aggT P 129 = false
  z129 : zbox P 129 = some (A.nfn, 8)
  s130 : isSliceT P 130 = false
  t130 : isStrT P 130 = false
  h130 : hasU P 130 = true
  c130 : P.cellsOf 130 = 1
  a130 : aggT P 130 = false
  z130 : zbox P 130 = some (A.nfn, 8)
  u133 : P.underlying 133 = some (.array 0 16)
  s133 : isSliceT P 133 = false
  t133 : isStrT P 133 = false
  r133 : arrT P 133 = some (0, 16)
  h133 : hasU P 133 = true
  n133 : bplan P 133 = none
  c133 : P.cellsOf 133 = 0
  a133 : aggT P 133 = true
  z133 : zbox P 133 = some (A.agg [], 0)
  b133 : aplan P 133 = some ([], 1)
  s136 : isSliceT P 136 = false
  t136 : isStrT P 136 = false
  h136 : hasU P 136 = true
  c136 : P.cellsOf 136 = 1
  a136 : aggT P 136 = false
  z136 : zbox P 136 = some (A.nfn, 8)
  s139 : isSliceT P 139 = false
  t139 : isStrT P 139 = false
  h139 : hasU P 139 = true
  c139 : P.cellsOf 139 = 1
  a139 : aggT P 139 = false
  z139 : zbox P 139 = some (A.nfn, 8)
  g143_0 : fld P 143 0 = some (12, 0)
  g143_1 : fld P 143 1 = some (12, 1)
  g143_2 : fld P 143 2 = some (102, 2)
  g143_3 : fld P 143 3 = some (137, 3)
  g143_4 : fld P 143 4 = some (5, 4)
  g143_5 : fld P 143 5 = some (5, 5)
  g143_6 : fld P 143 6 = some (138, 6)
  g143_7 : fld P 143 7 = some (139, 7)
  g143_8 : fld P 143 8 = some (140, 8)
  g143_9 : fld P 143 9 = some (141, 9)
  g143_10 : fld P 143 10 = some (142, 10)
  s143 : isSliceT P 143 = false
  t143 : isStrT P 143 = false
  h143 : hasU P 143 = true
  w143 : ftl P 143 = some [(12, 0), (12, 1), (102, 2), (137, 3), (5, 4), (5, 5), (138, 6), (139, 7), (140, 8), (141, 9), (142, 10)]
  c143 : P.cellsOf 143 = 11
  a143 : aggT P 143 = true
  z143 : zbox P 143 = some (A.agg [A.int .u64 0, A.int .u64 0, A.int .u32 0, A.int .u8 0, A.int .u8 0, A.int .u8 0, A.int .u8 0, A.nfn, A.nptr, A.int .i32 0, A.int .i32 0], 48)
  b143 : bplan P 143 = some ([A.int .u64 0, A.int .u64 0, A.int .u32 0, A.int .u8 0, A.int .u8 0, A.int .u8 0, A.int .u8 0, A.nfn, A.nptr, A.int .i32 0, A.int .i32 0], [(0, 1), (1, 1), (2, 1), (3, 1), (4, 1), (5, 1), (6, 1), (7, 1), (8, 1), (9, 1), (10, 1)])
  q0 : P.cellsOf 4294967295 = 0
  mo : P.follows .mixedOrders = true
  f0 : P.funcs[0]? = some Try.f0
  f1 : P.funcs[1]? = some Try.f1
  f2 : P.funcs[2]? = some Try.f2
  f3 : P.funcs[3]? = some Try.f3
  f4 : P.funcs[4]? = some Try.f4
  f5 : P.funcs[5]? = some Try.f5
  f6 : P.funcs[6]? = some Try.f6
  f7 : P.funcs[7]? = some Try.f7
  f8 : P.funcs[8]? = some Try.f8
  f9 : P.funcs[9]? = some Try.f9
  f10 : P.funcs[10]? = some Try.f10
  f11 : P.funcs[11]? = some Try.f11
  f12 : P.funcs[12]? = some Try.f12
  f13 : P.funcs[13]? = some Try.f13
  f14 : P.funcs[14]? = some Try.f14
  f15 : P.funcs[15]? = some Try.f15
  f16 : P.funcs[16]? = some Try.f16
  f17 : P.funcs[17]? = some Try.f17
  f18 : P.funcs[18]? = some Try.f18
  f19 : P.funcs[19]? = some Try.f19
  f20 : P.funcs[20]? = some Try.f20
  f21 : P.funcs[21]? = some Try.f21
  f22 : P.funcs[22]? = some Try.f22
  f23 : P.funcs[23]? = some Try.f23
  f24 : P.funcs[24]? = some Try.f24
  f25 : P.funcs[25]? = some Try.f25
  f26 : P.funcs[26]? = some Try.f26
  f27 : P.funcs[27]? = some Try.f27
  f28 : P.funcs[28]? = some Try.f28
  f29 : P.funcs[29]? = some Try.f29
  f30 : P.funcs[30]? = some Try.f30
  f31 : P.funcs[31]? = some Try.f31
  f32 : P.funcs[32]? = some Try.f32
  f33 : P.funcs[33]? = some Try.f33
  f34 : P.funcs[34]? = some Try.f34
  f35 : P.funcs[35]? = some Try.f35
  f36 : P.funcs[36]? = some Try.f36
  f37 : P.funcs[37]? = some Try.f37
  f38 : P.funcs[38]? = some Try.f38
  f39 : P.funcs[39]? = some Try.f39
  f40 : P.funcs[40]? = some Try.f40
  f41 : P.funcs[41]? = some Try.f41
  f42 : P.funcs[42]? = some Try.f42
  f43 : P.funcs[43]? = some Try.f43
  f44 : P.funcs[44]? = some Try.f44
  f45 : P.funcs[45]? = some Try.f45
  f46 : P.funcs[46]? = some Try.f46
  f47 : P.funcs[47]? = some Try.f47
  f48 : P.funcs[48]? = some Try.f48
  f49 : P.funcs[49]? = some Try.f49
  f50 : P.funcs[50]? = some Try.f50
  f51 : P.funcs[51]? = some Try.f51
  f52 : P.funcs[52]? = some Try.f52
  f53 : P.funcs[53]? = some Try.f53
  f54 : P.funcs[54]? = some Try.f54
  f55 : P.funcs[55]? = some Try.f55
  f56 : P.funcs[56]? = some Try.f56
  f57 : P.funcs[57]? = some Try.f57
  f58 : P.funcs[58]? = some Try.f58
  f59 : P.funcs[59]? = some Try.f59
  f60 : P.funcs[60]? = some Try.f60
  f61 : P.funcs[61]? = some Try.f61
  f62 : P.funcs[62]? = some Try.f62
  f63 : P.funcs[63]? = some Try.f63
  f64 : P.funcs[64]? = some Try.f64
  f65 : P.funcs[65]? = some Try.f65
  f66 : P.funcs[66]? = some Try.f66
  f67 : P.funcs[67]? = some Try.f67
  f68 : P.funcs[68]? = some Try.f68
  f69 : P.funcs[69]? = some Try.f69
  f70 : P.funcs[70]? = some Try.f70
  f71 : P.funcs[71]? = some Try.f71
  f72 : P.funcs[72]? = some Try.f72
  f73 : P.funcs[73]? = some Try.f73
  f74 : P.funcs[74]? = some Try.f74
  f75 : P.funcs[75]? = some Try.f75
  f76 : P.funcs[76]? = some Try.f76
  f77 : P.funcs[77]? = some Try.f77
  f78 : P.funcs[78]? = some Try.f78
  f79 : P.funcs[79]? = some Try.f79
  f80 : P.funcs[80]? = some Try.f80
  f81 : P.funcs[81]? = some Try.f81
  f82 : P.funcs[82]? = some Try.f82
  f83 : P.funcs[83]? = some Try.f83
  f84 : P.funcs[84]? = some Try.f84
  f85 : P.funcs[85]? = some Try.f85
  f86 : P.funcs[86]? = some Try.f86
  f87 : P.funcs[87]? = some Try.f87
  f88 : P.funcs[88]? = some Try.f88
  f89 : P.funcs[89]? = some Try.f89
  f90 : P.funcs[90]? = some Try.f90
  f91 : P.funcs[91]? = some Try.f91
  f92 : P.funcs[92]? = some Try.f92
  f93 : P.funcs[93]? = some Try.f93
  f94 : P.funcs[94]? = some Try.f94
  f95 : P.funcs[95]? = some Try.f95
  f96 : P.funcs[96]? = some Try.f96
  f97 : P.funcs[97]? = some Try.f97
  f98 : P.funcs[98]? = some Try.f98
  f99 : P.funcs[99]? = some Try.f99
  f100 : P.funcs[100]? = some Try.f100
  f101 : P.funcs[101]? = some Try.f101
  f102 : P.funcs[102]? = some Try.f102
  f103 : P.funcs[103]? = some Try.f103
  f104 : P.funcs[104]? = some Try.f104
  f105 : P.funcs[105]? = some Try.f105
  f106 : P.funcs[106]? = some Try.f106
  f107 : P.funcs[107]? = some Try.f107
  f108 : P.funcs[108]? = some Try.f108
  f109 : P.funcs[109]? = some Try.f109
  f110 : P.funcs[110]? = some Try.f110
  f111 : P.funcs[111]? = some Try.f111
  f112 : P.funcs[112]? = some Try.f112
  f113 : P.funcs[113]? = some Try.f113
  f114 : P.funcs[114]? = some Try.f114
  f115 : P.funcs[115]? = some Try.f115
  f116 : P.funcs[116]? = some Try.f116
  f117 : P.funcs[117]? = some Try.f117
  f118 : P.funcs[118]? = some Try.f118
  f119 : P.funcs[119]? = some Try.f119
  f120 : P.funcs[120]? = some Try.f120
  f121 : P.funcs[121]? = some Try.f121
  f122 : P.funcs[122]? = some Try.f122
  f123 : P.funcs[123]? = some Try.f123
  f124 : P.funcs[124]? = some Try.f124
  f125 : P.funcs[125]? = some Try.f125
  f126 : P.funcs[126]? = some Try.f126
  f127 : P.funcs[127]? = some Try.f127
  f128 : P.funcs[128]? = some Try.f128
  f129 : P.funcs[129]? = some Try.f129
  f130 : P.funcs[130]? = some Try.f130
  f131 : P.funcs[131]? = some Try.f131

section
variable {P : Program}
@[simp] theorem s1_ [h : Facts P] : isSliceT P 1 = false := h.s1
@[simp] theorem t1_ [h : Facts P] : isStrT P 1 = false := h.t1
@[simp] theorem h1_ [h : Facts P] : hasU P 1 = true := h.h1
@[simp] theorem c1_ [h : Facts P] : P.cellsOf 1 = 1 := h.c1
@[simp] theorem a1_ [h : Facts P] : aggT P 1 = false := h.a1
@[simp] theorem z1_ [h : Facts P] : zbox P 1 = some (A.nfn, 8) := h.z1
@[simp] theorem u2_ [h : Facts P] : P.underlying 2 = some (.int .i64) := h.u2
@[simp] theorem s2_ [h : Facts P] : isSliceT P 2 = false := h.s2
@[simp] theorem t2_ [h : Facts P] : isStrT P 2 = false := h.t2
@[simp] theorem h2_ [h : Facts P] : hasU P 2 = true := h.h2
@[simp] theorem i2_ [h : Facts P] : intT P 2 = some .i64 := h.i2
@[simp] theorem c2_ [h : Facts P] : P.cellsOf 2 = 1 := h.c2
@[simp] theorem a2_ [h : Facts P] : aggT P 2 = false := h.a2
@[simp] theorem z2_ [h : Facts P] : zbox P 2 = some (A.int .i64 0, 8) := h.z2
@[simp] theorem u3_ [h : Facts P] : P.underlying 3 = some (.int .i64) := h.u3
@[simp] theorem s3_ [h : Facts P] : isSliceT P 3 = false := h.s3
@[simp] theorem t3_ [h : Facts P] : isStrT P 3 = false := h.t3
@[simp] theorem h3_ [h : Facts P] : hasU P 3 = true := h.h3
@[simp] theorem i3_ [h : Facts P] : intT P 3 = some .i64 := h.i3
@[simp] theorem c3_ [h : Facts P] : P.cellsOf 3 = 1 := h.c3
@[simp] theorem a3_ [h : Facts P] : aggT P 3 = false := h.a3
@[simp] theorem z3_ [h : Facts P] : zbox P 3 = some (A.int .i64 0, 8) := h.z3
@[simp] theorem u4_ [h : Facts P] : P.underlying 4 = some (.bool) := h.u4
@[simp] theorem s4_ [h : Facts P] : isSliceT P 4 = false := h.s4
@[simp] theorem t4_ [h : Facts P] : isStrT P 4 = false := h.t4
@[simp] theorem h4_ [h : Facts P] : hasU P 4 = true := h.h4
@[simp] theorem d4_ [h : Facts P] : isBoolT P 4 = true := h.d4
@[simp] theorem c4_ [h : Facts P] : P.cellsOf 4 = 1 := h.c4
@[simp] theorem a4_ [h : Facts P] : aggT P 4 = false := h.a4
@[simp] theorem z4_ [h : Facts P] : zbox P 4 = some (A.bool false, 1) := h.z4
@[simp] theorem u5_ [h : Facts P] : P.underlying 5 = some (.int .u8) := h.u5
@[simp] theorem s5_ [h : Facts P] : isSliceT P 5 = false := h.s5
@[simp] theorem t5_ [h : Facts P] : isStrT P 5 = false := h.t5
@[simp] theorem h5_ [h : Facts P] : hasU P 5 = true := h.h5
@[simp] theorem i5_ [h : Facts P] : intT P 5 = some .u8 := h.i5
@[simp] theorem c5_ [h : Facts P] : P.cellsOf 5 = 1 := h.c5
@[simp] theorem a5_ [h : Facts P] : aggT P 5 = false := h.a5
@[simp] theorem z5_ [h : Facts P] : zbox P 5 = some (A.int .u8 0, 1) := h.z5
@[simp] theorem u9_ [h : Facts P] : P.underlying 9 = some (.string) := h.u9
@[simp] theorem s9_ [h : Facts P] : isSliceT P 9 = false := h.s9
@[simp] theorem t9_ [h : Facts P] : isStrT P 9 = true := h.t9
@[simp] theorem h9_ [h : Facts P] : hasU P 9 = true := h.h9
@[simp] theorem c9_ [h : Facts P] : P.cellsOf 9 = 1 := h.c9
@[simp] theorem a9_ [h : Facts P] : aggT P 9 = false := h.a9
@[simp] theorem z9_ [h : Facts P] : zbox P 9 = some (A.str [], 16) := h.z9
@[simp] theorem u12_ [h : Facts P] : P.underlying 12 = some (.int .u64) := h.u12
@[simp] theorem s12_ [h : Facts P] : isSliceT P 12 = false := h.s12
@[simp] theorem t12_ [h : Facts P] : isStrT P 12 = false := h.t12
@[simp] theorem h12_ [h : Facts P] : hasU P 12 = true := h.h12
@[simp] theorem i12_ [h : Facts P] : intT P 12 = some .u64 := h.i12
@[simp] theorem c12_ [h : Facts P] : P.cellsOf 12 = 1 := h.c12
@[simp] theorem a12_ [h : Facts P] : aggT P 12 = false := h.a12
@[simp] theorem z12_ [h : Facts P] : zbox P 12 = some (A.int .u64 0, 8) := h.z12
@[simp] theorem u21_ [h : Facts P] : P.underlying 21 = some (.int .i32) := h.u21
@[simp] theorem s21_ [h : Facts P] : isSliceT P 21 = false := h.s21
@[simp] theorem t21_ [h : Facts P] : isStrT P 21 = false := h.t21
@[simp] theorem h21_ [h : Facts P] : hasU P 21 = true := h.h21
@[simp] theorem i21_ [h : Facts P] : intT P 21 = some .i32 := h.i21
@[simp] theorem c21_ [h : Facts P] : P.cellsOf 21 = 1 := h.c21
@[simp] theorem a21_ [h : Facts P] : aggT P 21 = false := h.a21
@[simp] theorem z21_ [h : Facts P] : zbox P 21 = some (A.int .i32 0, 4) := h.z21
@[simp] theorem u22_ [h : Facts P] : P.underlying 22 = some (.slice 47) := h.u22
@[simp] theorem s22_ [h : Facts P] : isSliceT P 22 = true := h.s22
@[simp] theorem l22_ [h : Facts P] : selem P 22 = 47 := h.l22
@[simp] theorem t22_ [h : Facts P] : isStrT P 22 = false := h.t22
@[simp] theorem h22_ [h : Facts P] : hasU P 22 = true := h.h22
@[simp] theorem c22_ [h : Facts P] : P.cellsOf 22 = 1 := h.c22
@[simp] theorem a22_ [h : Facts P] : aggT P 22 = false := h.a22
@[simp] theorem z22_ [h : Facts P] : zbox P 22 = some (A.sl true [], 24) := h.z22
@[simp] theorem s23_ [h : Facts P] : isSliceT P 23 = false := h.s23
@[simp] theorem t23_ [h : Facts P] : isStrT P 23 = false := h.t23
@[simp] theorem h23_ [h : Facts P] : hasU P 23 = true := h.h23
@[simp] theorem c23_ [h : Facts P] : P.cellsOf 23 = 1 := h.c23
@[simp] theorem a23_ [h : Facts P] : aggT P 23 = false := h.a23
@[simp] theorem z23_ [h : Facts P] : zbox P 23 = some (A.nfn, 8) := h.z23
@[simp] theorem s24_ [h : Facts P] : isSliceT P 24 = false := h.s24
@[simp] theorem t24_ [h : Facts P] : isStrT P 24 = false := h.t24
@[simp] theorem h24_ [h : Facts P] : hasU P 24 = true := h.h24
@[simp] theorem c24_ [h : Facts P] : P.cellsOf 24 = 1 := h.c24
@[simp] theorem a24_ [h : Facts P] : aggT P 24 = false := h.a24
@[simp] theorem z24_ [h : Facts P] : zbox P 24 = some (A.nfn, 8) := h.z24
@[simp] theorem u25_ [h : Facts P] : P.underlying 25 = some (.int .i64) := h.u25
@[simp] theorem s25_ [h : Facts P] : isSliceT P 25 = false := h.s25
@[simp] theorem t25_ [h : Facts P] : isStrT P 25 = false := h.t25
@[simp] theorem h25_ [h : Facts P] : hasU P 25 = true := h.h25
@[simp] theorem i25_ [h : Facts P] : intT P 25 = some .i64 := h.i25
@[simp] theorem c25_ [h : Facts P] : P.cellsOf 25 = 1 := h.c25
@[simp] theorem a25_ [h : Facts P] : aggT P 25 = false := h.a25
@[simp] theorem z25_ [h : Facts P] : zbox P 25 = some (A.int .i64 0, 8) := h.z25
@[simp] theorem s26_ [h : Facts P] : isSliceT P 26 = false := h.s26
@[simp] theorem t26_ [h : Facts P] : isStrT P 26 = false := h.t26
@[simp] theorem h26_ [h : Facts P] : hasU P 26 = true := h.h26
@[simp] theorem c26_ [h : Facts P] : P.cellsOf 26 = 1 := h.c26
@[simp] theorem a26_ [h : Facts P] : aggT P 26 = false := h.a26
@[simp] theorem z26_ [h : Facts P] : zbox P 26 = some (A.nfn, 8) := h.z26
@[simp] theorem s27_ [h : Facts P] : isSliceT P 27 = false := h.s27
@[simp] theorem t27_ [h : Facts P] : isStrT P 27 = false := h.t27
@[simp] theorem h27_ [h : Facts P] : hasU P 27 = true := h.h27
@[simp] theorem c27_ [h : Facts P] : P.cellsOf 27 = 1 := h.c27
@[simp] theorem a27_ [h : Facts P] : aggT P 27 = false := h.a27
@[simp] theorem z27_ [h : Facts P] : zbox P 27 = some (A.nfn, 8) := h.z27
@[simp] theorem s28_ [h : Facts P] : isSliceT P 28 = false := h.s28
@[simp] theorem t28_ [h : Facts P] : isStrT P 28 = false := h.t28
@[simp] theorem h28_ [h : Facts P] : hasU P 28 = true := h.h28
@[simp] theorem c28_ [h : Facts P] : P.cellsOf 28 = 1 := h.c28
@[simp] theorem a28_ [h : Facts P] : aggT P 28 = false := h.a28
@[simp] theorem z28_ [h : Facts P] : zbox P 28 = some (A.nfn, 8) := h.z28
@[simp] theorem u29_ [h : Facts P] : P.underlying 29 = some (.slice 51) := h.u29
@[simp] theorem s29_ [h : Facts P] : isSliceT P 29 = true := h.s29
@[simp] theorem l29_ [h : Facts P] : selem P 29 = 51 := h.l29
@[simp] theorem t29_ [h : Facts P] : isStrT P 29 = false := h.t29
@[simp] theorem h29_ [h : Facts P] : hasU P 29 = true := h.h29
@[simp] theorem c29_ [h : Facts P] : P.cellsOf 29 = 1 := h.c29
@[simp] theorem a29_ [h : Facts P] : aggT P 29 = false := h.a29
@[simp] theorem z29_ [h : Facts P] : zbox P 29 = some (A.sl true [], 24) := h.z29
@[simp] theorem s30_ [h : Facts P] : isSliceT P 30 = false := h.s30
@[simp] theorem t30_ [h : Facts P] : isStrT P 30 = false := h.t30
@[simp] theorem h30_ [h : Facts P] : hasU P 30 = true := h.h30
@[simp] theorem c30_ [h : Facts P] : P.cellsOf 30 = 1 := h.c30
@[simp] theorem a30_ [h : Facts P] : aggT P 30 = false := h.a30
@[simp] theorem z30_ [h : Facts P] : zbox P 30 = some (A.nfn, 8) := h.z30
@[simp] theorem s31_ [h : Facts P] : isSliceT P 31 = false := h.s31
@[simp] theorem t31_ [h : Facts P] : isStrT P 31 = false := h.t31
@[simp] theorem h31_ [h : Facts P] : hasU P 31 = true := h.h31
@[simp] theorem c31_ [h : Facts P] : P.cellsOf 31 = 1 := h.c31
@[simp] theorem a31_ [h : Facts P] : aggT P 31 = false := h.a31
@[simp] theorem z31_ [h : Facts P] : zbox P 31 = some (A.nfn, 8) := h.z31
@[simp] theorem u32_ [h : Facts P] : P.underlying 32 = some (.slice 9) := h.u32
@[simp] theorem s32_ [h : Facts P] : isSliceT P 32 = true := h.s32
@[simp] theorem l32_ [h : Facts P] : selem P 32 = 9 := h.l32
@[simp] theorem t32_ [h : Facts P] : isStrT P 32 = false := h.t32
@[simp] theorem h32_ [h : Facts P] : hasU P 32 = true := h.h32
@[simp] theorem c32_ [h : Facts P] : P.cellsOf 32 = 1 := h.c32
@[simp] theorem a32_ [h : Facts P] : aggT P 32 = false := h.a32
@[simp] theorem z32_ [h : Facts P] : zbox P 32 = some (A.sl true [], 24) := h.z32
@[simp] theorem s33_ [h : Facts P] : isSliceT P 33 = false := h.s33
@[simp] theorem t33_ [h : Facts P] : isStrT P 33 = false := h.t33
@[simp] theorem h33_ [h : Facts P] : hasU P 33 = true := h.h33
@[simp] theorem c33_ [h : Facts P] : P.cellsOf 33 = 1 := h.c33
@[simp] theorem a33_ [h : Facts P] : aggT P 33 = false := h.a33
@[simp] theorem z33_ [h : Facts P] : zbox P 33 = some (A.nfn, 8) := h.z33
@[simp] theorem s34_ [h : Facts P] : isSliceT P 34 = false := h.s34
@[simp] theorem t34_ [h : Facts P] : isStrT P 34 = false := h.t34
@[simp] theorem h34_ [h : Facts P] : hasU P 34 = true := h.h34
@[simp] theorem c34_ [h : Facts P] : P.cellsOf 34 = 1 := h.c34
@[simp] theorem a34_ [h : Facts P] : aggT P 34 = false := h.a34
@[simp] theorem z34_ [h : Facts P] : zbox P 34 = some (A.nfn, 8) := h.z34
@[simp] theorem s35_ [h : Facts P] : isSliceT P 35 = false := h.s35
@[simp] theorem t35_ [h : Facts P] : isStrT P 35 = false := h.t35
@[simp] theorem h35_ [h : Facts P] : hasU P 35 = true := h.h35
@[simp] theorem c35_ [h : Facts P] : P.cellsOf 35 = 1 := h.c35
@[simp] theorem a35_ [h : Facts P] : aggT P 35 = false := h.a35
@[simp] theorem z35_ [h : Facts P] : zbox P 35 = some (A.nfn, 8) := h.z35
@[simp] theorem s36_ [h : Facts P] : isSliceT P 36 = false := h.s36
@[simp] theorem t36_ [h : Facts P] : isStrT P 36 = false := h.t36
@[simp] theorem h36_ [h : Facts P] : hasU P 36 = true := h.h36
@[simp] theorem c36_ [h : Facts P] : P.cellsOf 36 = 1 := h.c36
@[simp] theorem a36_ [h : Facts P] : aggT P 36 = false := h.a36
@[simp] theorem z36_ [h : Facts P] : zbox P 36 = some (A.nfn, 8) := h.z36
@[simp] theorem u37_ [h : Facts P] : P.underlying 37 = some (.int .i64) := h.u37
@[simp] theorem s37_ [h : Facts P] : isSliceT P 37 = false := h.s37
@[simp] theorem t37_ [h : Facts P] : isStrT P 37 = false := h.t37
@[simp] theorem h37_ [h : Facts P] : hasU P 37 = true := h.h37
@[simp] theorem i37_ [h : Facts P] : intT P 37 = some .i64 := h.i37
@[simp] theorem c37_ [h : Facts P] : P.cellsOf 37 = 1 := h.c37
@[simp] theorem a37_ [h : Facts P] : aggT P 37 = false := h.a37
@[simp] theorem z37_ [h : Facts P] : zbox P 37 = some (A.int .i64 0, 8) := h.z37
@[simp] theorem u38_ [h : Facts P] : P.underlying 38 = some (.int .i64) := h.u38
@[simp] theorem s38_ [h : Facts P] : isSliceT P 38 = false := h.s38
@[simp] theorem t38_ [h : Facts P] : isStrT P 38 = false := h.t38
@[simp] theorem h38_ [h : Facts P] : hasU P 38 = true := h.h38
@[simp] theorem i38_ [h : Facts P] : intT P 38 = some .i64 := h.i38
@[simp] theorem c38_ [h : Facts P] : P.cellsOf 38 = 1 := h.c38
@[simp] theorem a38_ [h : Facts P] : aggT P 38 = false := h.a38
@[simp] theorem z38_ [h : Facts P] : zbox P 38 = some (A.int .i64 0, 8) := h.z38
@[simp] theorem u39_ [h : Facts P] : P.underlying 39 = some (.slice 41) := h.u39
@[simp] theorem s39_ [h : Facts P] : isSliceT P 39 = true := h.s39
@[simp] theorem l39_ [h : Facts P] : selem P 39 = 41 := h.l39
@[simp] theorem t39_ [h : Facts P] : isStrT P 39 = false := h.t39
@[simp] theorem h39_ [h : Facts P] : hasU P 39 = true := h.h39
@[simp] theorem c39_ [h : Facts P] : P.cellsOf 39 = 1 := h.c39
@[simp] theorem a39_ [h : Facts P] : aggT P 39 = false := h.a39
@[simp] theorem z39_ [h : Facts P] : zbox P 39 = some (A.sl true [], 24) := h.z39
@[simp] theorem g40_0_ [h : Facts P] : fld P 40 0 = some (38, 0) := h.g40_0
@[simp] theorem g40_1_ [h : Facts P] : fld P 40 1 = some (9, 1) := h.g40_1
@[simp] theorem g40_2_ [h : Facts P] : fld P 40 2 = some (3, 2) := h.g40_2
@[simp] theorem g40_3_ [h : Facts P] : fld P 40 3 = some (39, 3) := h.g40_3
@[simp] theorem s40_ [h : Facts P] : isSliceT P 40 = false := h.s40
@[simp] theorem t40_ [h : Facts P] : isStrT P 40 = false := h.t40
@[simp] theorem h40_ [h : Facts P] : hasU P 40 = true := h.h40
@[simp] theorem w40_ [h : Facts P] : ftl P 40 = some [(38, 0), (9, 1), (3, 2), (39, 3)] := h.w40
@[simp] theorem c40_ [h : Facts P] : P.cellsOf 40 = 4 := h.c40
@[simp] theorem a40_ [h : Facts P] : aggT P 40 = true := h.a40
@[simp] theorem z40_ [h : Facts P] : zbox P 40 = some (A.agg [A.int .i64 0, A.str [], A.int .i64 0, A.sl true []], 56) := h.z40
@[simp] theorem b40_ [h : Facts P] : bplan P 40 = some ([A.int .i64 0, A.str [], A.int .i64 0, A.sl true []], [(0, 1), (1, 1), (2, 1), (3, 1)]) := h.b40
@[simp] theorem g41_0_ [h : Facts P] : fld P 41 0 = some (38, 0) := h.g41_0
@[simp] theorem g41_1_ [h : Facts P] : fld P 41 1 = some (9, 1) := h.g41_1
@[simp] theorem g41_2_ [h : Facts P] : fld P 41 2 = some (3, 2) := h.g41_2
@[simp] theorem g41_3_ [h : Facts P] : fld P 41 3 = some (39, 3) := h.g41_3
@[simp] theorem s41_ [h : Facts P] : isSliceT P 41 = false := h.s41
@[simp] theorem t41_ [h : Facts P] : isStrT P 41 = false := h.t41
@[simp] theorem h41_ [h : Facts P] : hasU P 41 = true := h.h41
@[simp] theorem w41_ [h : Facts P] : ftl P 41 = some [(38, 0), (9, 1), (3, 2), (39, 3)] := h.w41
@[simp] theorem c41_ [h : Facts P] : P.cellsOf 41 = 4 := h.c41
@[simp] theorem a41_ [h : Facts P] : aggT P 41 = true := h.a41
@[simp] theorem z41_ [h : Facts P] : zbox P 41 = some (A.agg [A.int .i64 0, A.str [], A.int .i64 0, A.sl true []], 56) := h.z41
@[simp] theorem b41_ [h : Facts P] : bplan P 41 = some ([A.int .i64 0, A.str [], A.int .i64 0, A.sl true []], [(0, 1), (1, 1), (2, 1), (3, 1)]) := h.b41
@[simp] theorem u42_ [h : Facts P] : P.underlying 42 = some (.int .i64) := h.u42
@[simp] theorem s42_ [h : Facts P] : isSliceT P 42 = false := h.s42
@[simp] theorem t42_ [h : Facts P] : isStrT P 42 = false := h.t42
@[simp] theorem h42_ [h : Facts P] : hasU P 42 = true := h.h42
@[simp] theorem i42_ [h : Facts P] : intT P 42 = some .i64 := h.i42
@[simp] theorem c42_ [h : Facts P] : P.cellsOf 42 = 1 := h.c42
@[simp] theorem a42_ [h : Facts P] : aggT P 42 = false := h.a42
@[simp] theorem z42_ [h : Facts P] : zbox P 42 = some (A.int .i64 0, 8) := h.z42
@[simp] theorem u43_ [h : Facts P] : P.underlying 43 = some (.slice 3) := h.u43
@[simp] theorem s43_ [h : Facts P] : isSliceT P 43 = true := h.s43
@[simp] theorem l43_ [h : Facts P] : selem P 43 = 3 := h.l43
@[simp] theorem t43_ [h : Facts P] : isStrT P 43 = false := h.t43
@[simp] theorem h43_ [h : Facts P] : hasU P 43 = true := h.h43
@[simp] theorem c43_ [h : Facts P] : P.cellsOf 43 = 1 := h.c43
@[simp] theorem a43_ [h : Facts P] : aggT P 43 = false := h.a43
@[simp] theorem z43_ [h : Facts P] : zbox P 43 = some (A.sl true [], 24) := h.z43
@[simp] theorem g44_0_ [h : Facts P] : fld P 44 0 = some (42, 0) := h.g44_0
@[simp] theorem g44_1_ [h : Facts P] : fld P 44 1 = some (3, 1) := h.g44_1
@[simp] theorem g44_2_ [h : Facts P] : fld P 44 2 = some (3, 2) := h.g44_2
@[simp] theorem g44_3_ [h : Facts P] : fld P 44 3 = some (3, 3) := h.g44_3
@[simp] theorem g44_4_ [h : Facts P] : fld P 44 4 = some (43, 4) := h.g44_4
@[simp] theorem g44_5_ [h : Facts P] : fld P 44 5 = some (43, 5) := h.g44_5
@[simp] theorem s44_ [h : Facts P] : isSliceT P 44 = false := h.s44
@[simp] theorem t44_ [h : Facts P] : isStrT P 44 = false := h.t44
@[simp] theorem h44_ [h : Facts P] : hasU P 44 = true := h.h44
@[simp] theorem w44_ [h : Facts P] : ftl P 44 = some [(42, 0), (3, 1), (3, 2), (3, 3), (43, 4), (43, 5)] := h.w44
@[simp] theorem c44_ [h : Facts P] : P.cellsOf 44 = 6 := h.c44
@[simp] theorem a44_ [h : Facts P] : aggT P 44 = true := h.a44
@[simp] theorem z44_ [h : Facts P] : zbox P 44 = some (A.agg [A.int .i64 0, A.int .i64 0, A.int .i64 0, A.int .i64 0, A.sl true [], A.sl true []], 80) := h.z44
@[simp] theorem b44_ [h : Facts P] : bplan P 44 = some ([A.int .i64 0, A.int .i64 0, A.int .i64 0, A.int .i64 0, A.sl true [], A.sl true []], [(0, 1), (1, 1), (2, 1), (3, 1), (4, 1), (5, 1)]) := h.b44
@[simp] theorem g45_0_ [h : Facts P] : fld P 45 0 = some (42, 0) := h.g45_0
@[simp] theorem g45_1_ [h : Facts P] : fld P 45 1 = some (3, 1) := h.g45_1
@[simp] theorem g45_2_ [h : Facts P] : fld P 45 2 = some (3, 2) := h.g45_2
@[simp] theorem g45_3_ [h : Facts P] : fld P 45 3 = some (3, 3) := h.g45_3
@[simp] theorem g45_4_ [h : Facts P] : fld P 45 4 = some (43, 4) := h.g45_4
@[simp] theorem g45_5_ [h : Facts P] : fld P 45 5 = some (43, 5) := h.g45_5
@[simp] theorem s45_ [h : Facts P] : isSliceT P 45 = false := h.s45
@[simp] theorem t45_ [h : Facts P] : isStrT P 45 = false := h.t45
@[simp] theorem h45_ [h : Facts P] : hasU P 45 = true := h.h45
@[simp] theorem w45_ [h : Facts P] : ftl P 45 = some [(42, 0), (3, 1), (3, 2), (3, 3), (43, 4), (43, 5)] := h.w45
@[simp] theorem c45_ [h : Facts P] : P.cellsOf 45 = 6 := h.c45
@[simp] theorem a45_ [h : Facts P] : aggT P 45 = true := h.a45
@[simp] theorem z45_ [h : Facts P] : zbox P 45 = some (A.agg [A.int .i64 0, A.int .i64 0, A.int .i64 0, A.int .i64 0, A.sl true [], A.sl true []], 80) := h.z45
@[simp] theorem b45_ [h : Facts P] : bplan P 45 = some ([A.int .i64 0, A.int .i64 0, A.int .i64 0, A.int .i64 0, A.sl true [], A.sl true []], [(0, 1), (1, 1), (2, 1), (3, 1), (4, 1), (5, 1)]) := h.b45
@[simp] theorem g46_0_ [h : Facts P] : fld P 46 0 = some (37, 0) := h.g46_0
@[simp] theorem g46_1_ [h : Facts P] : fld P 46 1 = some (9, 1) := h.g46_1
@[simp] theorem g46_2_ [h : Facts P] : fld P 46 2 = some (9, 2) := h.g46_2
@[simp] theorem g46_3_ [h : Facts P] : fld P 46 3 = some (41, 3) := h.g46_3
@[simp] theorem g46_4_ [h : Facts P] : fld P 46 4 = some (41, 7) := h.g46_4
@[simp] theorem g46_5_ [h : Facts P] : fld P 46 5 = some (39, 11) := h.g46_5
@[simp] theorem g46_6_ [h : Facts P] : fld P 46 6 = some (45, 12) := h.g46_6
@[simp] theorem g46_7_ [h : Facts P] : fld P 46 7 = some (4, 18) := h.g46_7
@[simp] theorem g46_8_ [h : Facts P] : fld P 46 8 = some (22, 19) := h.g46_8
@[simp] theorem g46_9_ [h : Facts P] : fld P 46 9 = some (22, 20) := h.g46_9
@[simp] theorem s46_ [h : Facts P] : isSliceT P 46 = false := h.s46
@[simp] theorem t46_ [h : Facts P] : isStrT P 46 = false := h.t46
@[simp] theorem h46_ [h : Facts P] : hasU P 46 = true := h.h46
@[simp] theorem w46_ [h : Facts P] : ftl P 46 = some [(37, 0), (9, 1), (9, 2), (41, 3), (41, 7), (39, 11), (45, 12), (4, 18), (22, 19), (22, 20)] := h.w46
@[simp] theorem c46_ [h : Facts P] : P.cellsOf 46 = 21 := h.c46
@[simp] theorem a46_ [h : Facts P] : aggT P 46 = true := h.a46
@[simp] theorem z46_ [h : Facts P] : zbox P 46 = some (A.agg [A.int .i64 0, A.str [], A.str [], A.int .i64 0, A.str [], A.int .i64 0, A.sl true [], A.int .i64 0, A.str [], A.int .i64 0, A.sl true [], A.sl true [], A.int .i64 0, A.int .i64 0, A.int .i64 0, A.int .i64 0, A.sl true [], A.sl true [], A.bool false, A.sl true [], A.sl true []], 312) := h.z46
@[simp] theorem b46_ [h : Facts P] : bplan P 46 = some ([A.int .i64 0, A.str [], A.str [], A.int .i64 0, A.str [], A.int .i64 0, A.sl true [], A.int .i64 0, A.str [], A.int .i64 0, A.sl true [], A.sl true [], A.int .i64 0, A.int .i64 0, A.int .i64 0, A.int .i64 0, A.sl true [], A.sl true [], A.bool false, A.sl true [], A.sl true []], [(0, 1), (1, 1), (2, 1), (3, 4), (7, 4), (11, 1), (12, 6), (18, 1), (19, 1), (20, 1)]) := h.b46
@[simp] theorem g47_0_ [h : Facts P] : fld P 47 0 = some (37, 0) := h.g47_0
@[simp] theorem g47_1_ [h : Facts P] : fld P 47 1 = some (9, 1) := h.g47_1
@[simp] theorem g47_2_ [h : Facts P] : fld P 47 2 = some (9, 2) := h.g47_2
@[simp] theorem g47_3_ [h : Facts P] : fld P 47 3 = some (41, 3) := h.g47_3
@[simp] theorem g47_4_ [h : Facts P] : fld P 47 4 = some (41, 7) := h.g47_4
@[simp] theorem g47_5_ [h : Facts P] : fld P 47 5 = some (39, 11) := h.g47_5
@[simp] theorem g47_6_ [h : Facts P] : fld P 47 6 = some (45, 12) := h.g47_6
@[simp] theorem g47_7_ [h : Facts P] : fld P 47 7 = some (4, 18) := h.g47_7
@[simp] theorem g47_8_ [h : Facts P] : fld P 47 8 = some (22, 19) := h.g47_8
@[simp] theorem g47_9_ [h : Facts P] : fld P 47 9 = some (22, 20) := h.g47_9
@[simp] theorem s47_ [h : Facts P] : isSliceT P 47 = false := h.s47
@[simp] theorem t47_ [h : Facts P] : isStrT P 47 = false := h.t47
@[simp] theorem h47_ [h : Facts P] : hasU P 47 = true := h.h47
@[simp] theorem w47_ [h : Facts P] : ftl P 47 = some [(37, 0), (9, 1), (9, 2), (41, 3), (41, 7), (39, 11), (45, 12), (4, 18), (22, 19), (22, 20)] := h.w47
@[simp] theorem c47_ [h : Facts P] : P.cellsOf 47 = 21 := h.c47
@[simp] theorem a47_ [h : Facts P] : aggT P 47 = true := h.a47
@[simp] theorem z47_ [h : Facts P] : zbox P 47 = some (A.agg [A.int .i64 0, A.str [], A.str [], A.int .i64 0, A.str [], A.int .i64 0, A.sl true [], A.int .i64 0, A.str [], A.int .i64 0, A.sl true [], A.sl true [], A.int .i64 0, A.int .i64 0, A.int .i64 0, A.int .i64 0, A.sl true [], A.sl true [], A.bool false, A.sl true [], A.sl true []], 312) := h.z47
@[simp] theorem b47_ [h : Facts P] : bplan P 47 = some ([A.int .i64 0, A.str [], A.str [], A.int .i64 0, A.str [], A.int .i64 0, A.sl true [], A.int .i64 0, A.str [], A.int .i64 0, A.sl true [], A.sl true [], A.int .i64 0, A.int .i64 0, A.int .i64 0, A.int .i64 0, A.sl true [], A.sl true [], A.bool false, A.sl true [], A.sl true []], [(0, 1), (1, 1), (2, 1), (3, 4), (7, 4), (11, 1), (12, 6), (18, 1), (19, 1), (20, 1)]) := h.b47
@[simp] theorem s48_ [h : Facts P] : isSliceT P 48 = false := h.s48
@[simp] theorem t48_ [h : Facts P] : isStrT P 48 = false := h.t48
@[simp] theorem h48_ [h : Facts P] : hasU P 48 = true := h.h48
@[simp] theorem c48_ [h : Facts P] : P.cellsOf 48 = 1 := h.c48
@[simp] theorem a48_ [h : Facts P] : aggT P 48 = false := h.a48
@[simp] theorem z48_ [h : Facts P] : zbox P 48 = some (A.nfn, 8) := h.z48
@[simp] theorem s49_ [h : Facts P] : isSliceT P 49 = false := h.s49
@[simp] theorem t49_ [h : Facts P] : isStrT P 49 = false := h.t49
@[simp] theorem h49_ [h : Facts P] : hasU P 49 = true := h.h49
@[simp] theorem c49_ [h : Facts P] : P.cellsOf 49 = 1 := h.c49
@[simp] theorem a49_ [h : Facts P] : aggT P 49 = false := h.a49
@[simp] theorem z49_ [h : Facts P] : zbox P 49 = some (A.nfn, 8) := h.z49
@[simp] theorem s50_ [h : Facts P] : isSliceT P 50 = false := h.s50
@[simp] theorem t50_ [h : Facts P] : isStrT P 50 = false := h.t50
@[simp] theorem h50_ [h : Facts P] : hasU P 50 = true := h.h50
@[simp] theorem c50_ [h : Facts P] : P.cellsOf 50 = 1 := h.c50
@[simp] theorem a50_ [h : Facts P] : aggT P 50 = false := h.a50
@[simp] theorem z50_ [h : Facts P] : zbox P 50 = some (A.nfn, 8) := h.z50
@[simp] theorem u51_ [h : Facts P] : P.underlying 51 = some (.array 2 9) := h.u51
@[simp] theorem s51_ [h : Facts P] : isSliceT P 51 = false := h.s51
@[simp] theorem t51_ [h : Facts P] : isStrT P 51 = false := h.t51
@[simp] theorem r51_ [h : Facts P] : arrT P 51 = some (2, 9) := h.r51
@[simp] theorem h51_ [h : Facts P] : hasU P 51 = true := h.h51
@[simp] theorem n51_ [h : Facts P] : bplan P 51 = none := h.n51
@[simp] theorem c51_ [h : Facts P] : P.cellsOf 51 = 2 := h.c51
@[simp] theorem a51_ [h : Facts P] : aggT P 51 = true := h.a51
@[simp] theorem z51_ [h : Facts P] : zbox P 51 = some (A.agg [A.str [], A.str []], 32) := h.z51
@[simp] theorem e51_ [h : Facts P] : eqT P 51 = some [2, 2] := h.e51
@[simp] theorem b51_ [h : Facts P] : aplan P 51 = some ([A.str [], A.str []], 1) := h.b51
@[simp] theorem s52_ [h : Facts P] : isSliceT P 52 = false := h.s52
@[simp] theorem t52_ [h : Facts P] : isStrT P 52 = false := h.t52
@[simp] theorem h52_ [h : Facts P] : hasU P 52 = true := h.h52
@[simp] theorem c52_ [h : Facts P] : P.cellsOf 52 = 1 := h.c52
@[simp] theorem a52_ [h : Facts P] : aggT P 52 = false := h.a52
@[simp] theorem z52_ [h : Facts P] : zbox P 52 = some (A.nfn, 8) := h.z52
@[simp] theorem s53_ [h : Facts P] : isSliceT P 53 = false := h.s53
@[simp] theorem t53_ [h : Facts P] : isStrT P 53 = false := h.t53
@[simp] theorem h53_ [h : Facts P] : hasU P 53 = true := h.h53
@[simp] theorem c53_ [h : Facts P] : P.cellsOf 53 = 1 := h.c53
@[simp] theorem a53_ [h : Facts P] : aggT P 53 = false := h.a53
@[simp] theorem z53_ [h : Facts P] : zbox P 53 = some (A.nfn, 8) := h.z53
@[simp] theorem s54_ [h : Facts P] : isSliceT P 54 = false := h.s54
@[simp] theorem t54_ [h : Facts P] : isStrT P 54 = false := h.t54
@[simp] theorem h54_ [h : Facts P] : hasU P 54 = true := h.h54
@[simp] theorem c54_ [h : Facts P] : P.cellsOf 54 = 1 := h.c54
@[simp] theorem a54_ [h : Facts P] : aggT P 54 = false := h.a54
@[simp] theorem z54_ [h : Facts P] : zbox P 54 = some (A.nfn, 8) := h.z54
@[simp] theorem s55_ [h : Facts P] : isSliceT P 55 = false := h.s55
@[simp] theorem t55_ [h : Facts P] : isStrT P 55 = false := h.t55
@[simp] theorem h55_ [h : Facts P] : hasU P 55 = true := h.h55
@[simp] theorem c55_ [h : Facts P] : P.cellsOf 55 = 1 := h.c55
@[simp] theorem a55_ [h : Facts P] : aggT P 55 = false := h.a55
@[simp] theorem z55_ [h : Facts P] : zbox P 55 = some (A.nfn, 8) := h.z55
@[simp] theorem s57_ [h : Facts P] : isSliceT P 57 = false := h.s57
@[simp] theorem t57_ [h : Facts P] : isStrT P 57 = false := h.t57
@[simp] theorem h57_ [h : Facts P] : hasU P 57 = true := h.h57
@[simp] theorem c57_ [h : Facts P] : P.cellsOf 57 = 1 := h.c57
@[simp] theorem a57_ [h : Facts P] : aggT P 57 = false := h.a57
@[simp] theorem z57_ [h : Facts P] : zbox P 57 = some (A.nfn, 8) := h.z57
@[simp] theorem s58_ [h : Facts P] : isSliceT P 58 = false := h.s58
@[simp] theorem t58_ [h : Facts P] : isStrT P 58 = false := h.t58
@[simp] theorem h58_ [h : Facts P] : hasU P 58 = true := h.h58
@[simp] theorem c58_ [h : Facts P] : P.cellsOf 58 = 1 := h.c58
@[simp] theorem a58_ [h : Facts P] : aggT P 58 = false := h.a58
@[simp] theorem z58_ [h : Facts P] : zbox P 58 = some (A.nfn, 8) := h.z58
@[simp] theorem s59_ [h : Facts P] : isSliceT P 59 = false := h.s59
@[simp] theorem t59_ [h : Facts P] : isStrT P 59 = false := h.t59
@[simp] theorem h59_ [h : Facts P] : hasU P 59 = true := h.h59
@[simp] theorem c59_ [h : Facts P] : P.cellsOf 59 = 1 := h.c59
@[simp] theorem a59_ [h : Facts P] : aggT P 59 = false := h.a59
@[simp] theorem z59_ [h : Facts P] : zbox P 59 = some (A.nfn, 8) := h.z59
@[simp] theorem s60_ [h : Facts P] : isSliceT P 60 = false := h.s60
@[simp] theorem t60_ [h : Facts P] : isStrT P 60 = false := h.t60
@[simp] theorem h60_ [h : Facts P] : hasU P 60 = true := h.h60
@[simp] theorem c60_ [h : Facts P] : P.cellsOf 60 = 1 := h.c60
@[simp] theorem a60_ [h : Facts P] : aggT P 60 = false := h.a60
@[simp] theorem z60_ [h : Facts P] : zbox P 60 = some (A.nfn, 8) := h.z60
@[simp] theorem s61_ [h : Facts P] : isSliceT P 61 = false := h.s61
@[simp] theorem t61_ [h : Facts P] : isStrT P 61 = false := h.t61
@[simp] theorem h61_ [h : Facts P] : hasU P 61 = true := h.h61
@[simp] theorem c61_ [h : Facts P] : P.cellsOf 61 = 1 := h.c61
@[simp] theorem a61_ [h : Facts P] : aggT P 61 = false := h.a61
@[simp] theorem z61_ [h : Facts P] : zbox P 61 = some (A.nfn, 8) := h.z61
@[simp] theorem s62_ [h : Facts P] : isSliceT P 62 = false := h.s62
@[simp] theorem t62_ [h : Facts P] : isStrT P 62 = false := h.t62
@[simp] theorem h62_ [h : Facts P] : hasU P 62 = true := h.h62
@[simp] theorem c62_ [h : Facts P] : P.cellsOf 62 = 1 := h.c62
@[simp] theorem a62_ [h : Facts P] : aggT P 62 = false := h.a62
@[simp] theorem z62_ [h : Facts P] : zbox P 62 = some (A.nfn, 8) := h.z62
@[simp] theorem s63_ [h : Facts P] : isSliceT P 63 = false := h.s63
@[simp] theorem t63_ [h : Facts P] : isStrT P 63 = false := h.t63
@[simp] theorem h63_ [h : Facts P] : hasU P 63 = true := h.h63
@[simp] theorem c63_ [h : Facts P] : P.cellsOf 63 = 1 := h.c63
@[simp] theorem a63_ [h : Facts P] : aggT P 63 = false := h.a63
@[simp] theorem z63_ [h : Facts P] : zbox P 63 = some (A.nfn, 8) := h.z63
@[simp] theorem s64_ [h : Facts P] : isSliceT P 64 = false := h.s64
@[simp] theorem t64_ [h : Facts P] : isStrT P 64 = false := h.t64
@[simp] theorem h64_ [h : Facts P] : hasU P 64 = true := h.h64
@[simp] theorem c64_ [h : Facts P] : P.cellsOf 64 = 1 := h.c64
@[simp] theorem a64_ [h : Facts P] : aggT P 64 = false := h.a64
@[simp] theorem z64_ [h : Facts P] : zbox P 64 = some (A.nfn, 8) := h.z64
@[simp] theorem s65_ [h : Facts P] : isSliceT P 65 = false := h.s65
@[simp] theorem t65_ [h : Facts P] : isStrT P 65 = false := h.t65
@[simp] theorem h65_ [h : Facts P] : hasU P 65 = true := h.h65
@[simp] theorem c65_ [h : Facts P] : P.cellsOf 65 = 1 := h.c65
@[simp] theorem a65_ [h : Facts P] : aggT P 65 = false := h.a65
@[simp] theorem z65_ [h : Facts P] : zbox P 65 = some (A.nfn, 8) := h.z65
@[simp] theorem g66_0_ [h : Facts P] : fld P 66 0 = some (4, 0) := h.g66_0
@[simp] theorem g66_1_ [h : Facts P] : fld P 66 1 = some (4, 1) := h.g66_1
@[simp] theorem g66_2_ [h : Facts P] : fld P 66 2 = some (4, 2) := h.g66_2
@[simp] theorem g66_3_ [h : Facts P] : fld P 66 3 = some (4, 3) := h.g66_3
@[simp] theorem g66_4_ [h : Facts P] : fld P 66 4 = some (4, 4) := h.g66_4
@[simp] theorem g66_5_ [h : Facts P] : fld P 66 5 = some (4, 5) := h.g66_5
@[simp] theorem g66_6_ [h : Facts P] : fld P 66 6 = some (4, 6) := h.g66_6
@[simp] theorem g66_7_ [h : Facts P] : fld P 66 7 = some (4, 7) := h.g66_7
@[simp] theorem g66_8_ [h : Facts P] : fld P 66 8 = some (4, 8) := h.g66_8
@[simp] theorem s66_ [h : Facts P] : isSliceT P 66 = false := h.s66
@[simp] theorem t66_ [h : Facts P] : isStrT P 66 = false := h.t66
@[simp] theorem h66_ [h : Facts P] : hasU P 66 = true := h.h66
@[simp] theorem w66_ [h : Facts P] : ftl P 66 = some [(4, 0), (4, 1), (4, 2), (4, 3), (4, 4), (4, 5), (4, 6), (4, 7), (4, 8)] := h.w66
@[simp] theorem c66_ [h : Facts P] : P.cellsOf 66 = 9 := h.c66
@[simp] theorem a66_ [h : Facts P] : aggT P 66 = true := h.a66
@[simp] theorem z66_ [h : Facts P] : zbox P 66 = some (A.agg [A.bool false, A.bool false, A.bool false, A.bool false, A.bool false, A.bool false, A.bool false, A.bool false, A.bool false], 9) := h.z66
@[simp] theorem b66_ [h : Facts P] : bplan P 66 = some ([A.bool false, A.bool false, A.bool false, A.bool false, A.bool false, A.bool false, A.bool false, A.bool false, A.bool false], [(0, 1), (1, 1), (2, 1), (3, 1), (4, 1), (5, 1), (6, 1), (7, 1), (8, 1)]) := h.b66
@[simp] theorem e66_ [h : Facts P] : eqT P 66 = some [1, 1, 1, 1, 1, 1, 1, 1, 1] := h.e66
@[simp] theorem g67_0_ [h : Facts P] : fld P 67 0 = some (4, 0) := h.g67_0
@[simp] theorem g67_1_ [h : Facts P] : fld P 67 1 = some (4, 1) := h.g67_1
@[simp] theorem g67_2_ [h : Facts P] : fld P 67 2 = some (4, 2) := h.g67_2
@[simp] theorem g67_3_ [h : Facts P] : fld P 67 3 = some (4, 3) := h.g67_3
@[simp] theorem g67_4_ [h : Facts P] : fld P 67 4 = some (4, 4) := h.g67_4
@[simp] theorem g67_5_ [h : Facts P] : fld P 67 5 = some (4, 5) := h.g67_5
@[simp] theorem g67_6_ [h : Facts P] : fld P 67 6 = some (4, 6) := h.g67_6
@[simp] theorem g67_7_ [h : Facts P] : fld P 67 7 = some (4, 7) := h.g67_7
@[simp] theorem g67_8_ [h : Facts P] : fld P 67 8 = some (4, 8) := h.g67_8
@[simp] theorem s67_ [h : Facts P] : isSliceT P 67 = false := h.s67
@[simp] theorem t67_ [h : Facts P] : isStrT P 67 = false := h.t67
@[simp] theorem h67_ [h : Facts P] : hasU P 67 = true := h.h67
@[simp] theorem w67_ [h : Facts P] : ftl P 67 = some [(4, 0), (4, 1), (4, 2), (4, 3), (4, 4), (4, 5), (4, 6), (4, 7), (4, 8)] := h.w67
@[simp] theorem c67_ [h : Facts P] : P.cellsOf 67 = 9 := h.c67
@[simp] theorem a67_ [h : Facts P] : aggT P 67 = true := h.a67
@[simp] theorem z67_ [h : Facts P] : zbox P 67 = some (A.agg [A.bool false, A.bool false, A.bool false, A.bool false, A.bool false, A.bool false, A.bool false, A.bool false, A.bool false], 9) := h.z67
@[simp] theorem b67_ [h : Facts P] : bplan P 67 = some ([A.bool false, A.bool false, A.bool false, A.bool false, A.bool false, A.bool false, A.bool false, A.bool false, A.bool false], [(0, 1), (1, 1), (2, 1), (3, 1), (4, 1), (5, 1), (6, 1), (7, 1), (8, 1)]) := h.b67
@[simp] theorem e67_ [h : Facts P] : eqT P 67 = some [1, 1, 1, 1, 1, 1, 1, 1, 1] := h.e67
@[simp] theorem s69_ [h : Facts P] : isSliceT P 69 = false := h.s69
@[simp] theorem t69_ [h : Facts P] : isStrT P 69 = false := h.t69
@[simp] theorem h69_ [h : Facts P] : hasU P 69 = true := h.h69
@[simp] theorem c69_ [h : Facts P] : P.cellsOf 69 = 1 := h.c69
@[simp] theorem a69_ [h : Facts P] : aggT P 69 = false := h.a69
@[simp] theorem z69_ [h : Facts P] : zbox P 69 = some (A.nfn, 8) := h.z69
@[simp] theorem s70_ [h : Facts P] : isSliceT P 70 = false := h.s70
@[simp] theorem t70_ [h : Facts P] : isStrT P 70 = false := h.t70
@[simp] theorem h70_ [h : Facts P] : hasU P 70 = true := h.h70
@[simp] theorem c70_ [h : Facts P] : P.cellsOf 70 = 1 := h.c70
@[simp] theorem a70_ [h : Facts P] : aggT P 70 = false := h.a70
@[simp] theorem z70_ [h : Facts P] : zbox P 70 = some (A.nfn, 8) := h.z70
@[simp] theorem s71_ [h : Facts P] : isSliceT P 71 = false := h.s71
@[simp] theorem t71_ [h : Facts P] : isStrT P 71 = false := h.t71
@[simp] theorem h71_ [h : Facts P] : hasU P 71 = true := h.h71
@[simp] theorem c71_ [h : Facts P] : P.cellsOf 71 = 1 := h.c71
@[simp] theorem a71_ [h : Facts P] : aggT P 71 = false := h.a71
@[simp] theorem z71_ [h : Facts P] : zbox P 71 = some (A.nfn, 8) := h.z71
@[simp] theorem s72_ [h : Facts P] : isSliceT P 72 = false := h.s72
@[simp] theorem t72_ [h : Facts P] : isStrT P 72 = false := h.t72
@[simp] theorem h72_ [h : Facts P] : hasU P 72 = true := h.h72
@[simp] theorem c72_ [h : Facts P] : P.cellsOf 72 = 1 := h.c72
@[simp] theorem a72_ [h : Facts P] : aggT P 72 = false := h.a72
@[simp] theorem z72_ [h : Facts P] : zbox P 72 = some (A.nfn, 8) := h.z72
@[simp] theorem s73_ [h : Facts P] : isSliceT P 73 = false := h.s73
@[simp] theorem t73_ [h : Facts P] : isStrT P 73 = false := h.t73
@[simp] theorem h73_ [h : Facts P] : hasU P 73 = true := h.h73
@[simp] theorem c73_ [h : Facts P] : P.cellsOf 73 = 1 := h.c73
@[simp] theorem a73_ [h : Facts P] : aggT P 73 = false := h.a73
@[simp] theorem z73_ [h : Facts P] : zbox P 73 = some (A.nfn, 8) := h.z73
@[simp] theorem s74_ [h : Facts P] : isSliceT P 74 = false := h.s74
@[simp] theorem t74_ [h : Facts P] : isStrT P 74 = false := h.t74
@[simp] theorem h74_ [h : Facts P] : hasU P 74 = true := h.h74
@[simp] theorem c74_ [h : Facts P] : P.cellsOf 74 = 1 := h.c74
@[simp] theorem a74_ [h : Facts P] : aggT P 74 = false := h.a74
@[simp] theorem z74_ [h : Facts P] : zbox P 74 = some (A.nfn, 8) := h.z74
@[simp] theorem u75_ [h : Facts P] : P.underlying 75 = some (.int .u64) := h.u75
@[simp] theorem s75_ [h : Facts P] : isSliceT P 75 = false := h.s75
@[simp] theorem t75_ [h : Facts P] : isStrT P 75 = false := h.t75
@[simp] theorem h75_ [h : Facts P] : hasU P 75 = true := h.h75
@[simp] theorem i75_ [h : Facts P] : intT P 75 = some .u64 := h.i75
@[simp] theorem c75_ [h : Facts P] : P.cellsOf 75 = 1 := h.c75
@[simp] theorem a75_ [h : Facts P] : aggT P 75 = false := h.a75
@[simp] theorem z75_ [h : Facts P] : zbox P 75 = some (A.int .u64 0, 8) := h.z75
@[simp] theorem s76_ [h : Facts P] : isSliceT P 76 = false := h.s76
@[simp] theorem t76_ [h : Facts P] : isStrT P 76 = false := h.t76
@[simp] theorem h76_ [h : Facts P] : hasU P 76 = true := h.h76
@[simp] theorem c76_ [h : Facts P] : P.cellsOf 76 = 1 := h.c76
@[simp] theorem a76_ [h : Facts P] : aggT P 76 = false := h.a76
@[simp] theorem z76_ [h : Facts P] : zbox P 76 = some (A.nfn, 8) := h.z76
@[simp] theorem s77_ [h : Facts P] : isSliceT P 77 = false := h.s77
@[simp] theorem t77_ [h : Facts P] : isStrT P 77 = false := h.t77
@[simp] theorem h77_ [h : Facts P] : hasU P 77 = true := h.h77
@[simp] theorem c77_ [h : Facts P] : P.cellsOf 77 = 1 := h.c77
@[simp] theorem a77_ [h : Facts P] : aggT P 77 = false := h.a77
@[simp] theorem z77_ [h : Facts P] : zbox P 77 = some (A.nfn, 8) := h.z77
@[simp] theorem s78_ [h : Facts P] : isSliceT P 78 = false := h.s78
@[simp] theorem t78_ [h : Facts P] : isStrT P 78 = false := h.t78
@[simp] theorem h78_ [h : Facts P] : hasU P 78 = true := h.h78
@[simp] theorem c78_ [h : Facts P] : P.cellsOf 78 = 1 := h.c78
@[simp] theorem a78_ [h : Facts P] : aggT P 78 = false := h.a78
@[simp] theorem z78_ [h : Facts P] : zbox P 78 = some (A.nfn, 8) := h.z78
@[simp] theorem g79_0_ [h : Facts P] : fld P 79 0 = some (4, 0) := h.g79_0
@[simp] theorem g79_1_ [h : Facts P] : fld P 79 1 = some (9, 1) := h.g79_1
@[simp] theorem s79_ [h : Facts P] : isSliceT P 79 = false := h.s79
@[simp] theorem t79_ [h : Facts P] : isStrT P 79 = false := h.t79
@[simp] theorem h79_ [h : Facts P] : hasU P 79 = true := h.h79
@[simp] theorem w79_ [h : Facts P] : ftl P 79 = some [(4, 0), (9, 1)] := h.w79
@[simp] theorem c79_ [h : Facts P] : P.cellsOf 79 = 2 := h.c79
@[simp] theorem a79_ [h : Facts P] : aggT P 79 = true := h.a79
@[simp] theorem z79_ [h : Facts P] : zbox P 79 = some (A.agg [A.bool false, A.str []], 24) := h.z79
@[simp] theorem b79_ [h : Facts P] : bplan P 79 = some ([A.bool false, A.str []], [(0, 1), (1, 1)]) := h.b79
@[simp] theorem e79_ [h : Facts P] : eqT P 79 = some [1, 2] := h.e79
@[simp] theorem u80_ [h : Facts P] : P.underlying 80 = some (.slice 79) := h.u80
@[simp] theorem s80_ [h : Facts P] : isSliceT P 80 = true := h.s80
@[simp] theorem l80_ [h : Facts P] : selem P 80 = 79 := h.l80
@[simp] theorem t80_ [h : Facts P] : isStrT P 80 = false := h.t80
@[simp] theorem h80_ [h : Facts P] : hasU P 80 = true := h.h80
@[simp] theorem c80_ [h : Facts P] : P.cellsOf 80 = 1 := h.c80
@[simp] theorem a80_ [h : Facts P] : aggT P 80 = false := h.a80
@[simp] theorem z80_ [h : Facts P] : zbox P 80 = some (A.sl true [], 24) := h.z80
@[simp] theorem s81_ [h : Facts P] : isSliceT P 81 = false := h.s81
@[simp] theorem t81_ [h : Facts P] : isStrT P 81 = false := h.t81
@[simp] theorem h81_ [h : Facts P] : hasU P 81 = true := h.h81
@[simp] theorem c81_ [h : Facts P] : P.cellsOf 81 = 1 := h.c81
@[simp] theorem a81_ [h : Facts P] : aggT P 81 = false := h.a81
@[simp] theorem z81_ [h : Facts P] : zbox P 81 = some (A.nfn, 8) := h.z81
@[simp] theorem g82_0_ [h : Facts P] : fld P 82 0 = some (4, 0) := h.g82_0
@[simp] theorem g82_1_ [h : Facts P] : fld P 82 1 = some (41, 1) := h.g82_1
@[simp] theorem s82_ [h : Facts P] : isSliceT P 82 = false := h.s82
@[simp] theorem t82_ [h : Facts P] : isStrT P 82 = false := h.t82
@[simp] theorem h82_ [h : Facts P] : hasU P 82 = true := h.h82
@[simp] theorem w82_ [h : Facts P] : ftl P 82 = some [(4, 0), (41, 1)] := h.w82
@[simp] theorem c82_ [h : Facts P] : P.cellsOf 82 = 5 := h.c82
@[simp] theorem a82_ [h : Facts P] : aggT P 82 = true := h.a82
@[simp] theorem z82_ [h : Facts P] : zbox P 82 = some (A.agg [A.bool false, A.int .i64 0, A.str [], A.int .i64 0, A.sl true []], 64) := h.z82
@[simp] theorem b82_ [h : Facts P] : bplan P 82 = some ([A.bool false, A.int .i64 0, A.str [], A.int .i64 0, A.sl true []], [(0, 1), (1, 4)]) := h.b82
@[simp] theorem u83_ [h : Facts P] : P.underlying 83 = some (.slice 82) := h.u83
@[simp] theorem s83_ [h : Facts P] : isSliceT P 83 = true := h.s83
@[simp] theorem l83_ [h : Facts P] : selem P 83 = 82 := h.l83
@[simp] theorem t83_ [h : Facts P] : isStrT P 83 = false := h.t83
@[simp] theorem h83_ [h : Facts P] : hasU P 83 = true := h.h83
@[simp] theorem c83_ [h : Facts P] : P.cellsOf 83 = 1 := h.c83
@[simp] theorem a83_ [h : Facts P] : aggT P 83 = false := h.a83
@[simp] theorem z83_ [h : Facts P] : zbox P 83 = some (A.sl true [], 24) := h.z83
@[simp] theorem s84_ [h : Facts P] : isSliceT P 84 = false := h.s84
@[simp] theorem t84_ [h : Facts P] : isStrT P 84 = false := h.t84
@[simp] theorem h84_ [h : Facts P] : hasU P 84 = true := h.h84
@[simp] theorem c84_ [h : Facts P] : P.cellsOf 84 = 1 := h.c84
@[simp] theorem a84_ [h : Facts P] : aggT P 84 = false := h.a84
@[simp] theorem z84_ [h : Facts P] : zbox P 84 = some (A.nfn, 8) := h.z84
@[simp] theorem s85_ [h : Facts P] : isSliceT P 85 = false := h.s85
@[simp] theorem t85_ [h : Facts P] : isStrT P 85 = false := h.t85
@[simp] theorem h85_ [h : Facts P] : hasU P 85 = true := h.h85
@[simp] theorem c85_ [h : Facts P] : P.cellsOf 85 = 1 := h.c85
@[simp] theorem a85_ [h : Facts P] : aggT P 85 = false := h.a85
@[simp] theorem z85_ [h : Facts P] : zbox P 85 = some (A.nfn, 8) := h.z85
@[simp] theorem g86_0_ [h : Facts P] : fld P 86 0 = some (4, 0) := h.g86_0
@[simp] theorem g86_1_ [h : Facts P] : fld P 86 1 = some (4, 1) := h.g86_1
@[simp] theorem g86_2_ [h : Facts P] : fld P 86 2 = some (4, 2) := h.g86_2
@[simp] theorem g86_3_ [h : Facts P] : fld P 86 3 = some (4, 3) := h.g86_3
@[simp] theorem g86_4_ [h : Facts P] : fld P 86 4 = some (4, 4) := h.g86_4
@[simp] theorem g86_5_ [h : Facts P] : fld P 86 5 = some (4, 5) := h.g86_5
@[simp] theorem g86_6_ [h : Facts P] : fld P 86 6 = some (4, 6) := h.g86_6
@[simp] theorem g86_7_ [h : Facts P] : fld P 86 7 = some (4, 7) := h.g86_7
@[simp] theorem g86_8_ [h : Facts P] : fld P 86 8 = some (4, 8) := h.g86_8
@[simp] theorem s86_ [h : Facts P] : isSliceT P 86 = false := h.s86
@[simp] theorem t86_ [h : Facts P] : isStrT P 86 = false := h.t86
@[simp] theorem h86_ [h : Facts P] : hasU P 86 = true := h.h86
@[simp] theorem w86_ [h : Facts P] : ftl P 86 = some [(4, 0), (4, 1), (4, 2), (4, 3), (4, 4), (4, 5), (4, 6), (4, 7), (4, 8)] := h.w86
@[simp] theorem c86_ [h : Facts P] : P.cellsOf 86 = 9 := h.c86
@[simp] theorem a86_ [h : Facts P] : aggT P 86 = true := h.a86
@[simp] theorem z86_ [h : Facts P] : zbox P 86 = some (A.agg [A.bool false, A.bool false, A.bool false, A.bool false, A.bool false, A.bool false, A.bool false, A.bool false, A.bool false], 9) := h.z86
@[simp] theorem b86_ [h : Facts P] : bplan P 86 = some ([A.bool false, A.bool false, A.bool false, A.bool false, A.bool false, A.bool false, A.bool false, A.bool false, A.bool false], [(0, 1), (1, 1), (2, 1), (3, 1), (4, 1), (5, 1), (6, 1), (7, 1), (8, 1)]) := h.b86
@[simp] theorem e86_ [h : Facts P] : eqT P 86 = some [1, 1, 1, 1, 1, 1, 1, 1, 1] := h.e86
@[simp] theorem g87_0_ [h : Facts P] : fld P 87 0 = some (4, 0) := h.g87_0
@[simp] theorem g87_1_ [h : Facts P] : fld P 87 1 = some (4, 1) := h.g87_1
@[simp] theorem g87_2_ [h : Facts P] : fld P 87 2 = some (4, 2) := h.g87_2
@[simp] theorem g87_3_ [h : Facts P] : fld P 87 3 = some (4, 3) := h.g87_3
@[simp] theorem g87_4_ [h : Facts P] : fld P 87 4 = some (4, 4) := h.g87_4
@[simp] theorem g87_5_ [h : Facts P] : fld P 87 5 = some (4, 5) := h.g87_5
@[simp] theorem g87_6_ [h : Facts P] : fld P 87 6 = some (4, 6) := h.g87_6
@[simp] theorem g87_7_ [h : Facts P] : fld P 87 7 = some (4, 7) := h.g87_7
@[simp] theorem g87_8_ [h : Facts P] : fld P 87 8 = some (4, 8) := h.g87_8
@[simp] theorem s87_ [h : Facts P] : isSliceT P 87 = false := h.s87
@[simp] theorem t87_ [h : Facts P] : isStrT P 87 = false := h.t87
@[simp] theorem h87_ [h : Facts P] : hasU P 87 = true := h.h87
@[simp] theorem w87_ [h : Facts P] : ftl P 87 = some [(4, 0), (4, 1), (4, 2), (4, 3), (4, 4), (4, 5), (4, 6), (4, 7), (4, 8)] := h.w87
@[simp] theorem c87_ [h : Facts P] : P.cellsOf 87 = 9 := h.c87
@[simp] theorem a87_ [h : Facts P] : aggT P 87 = true := h.a87
@[simp] theorem z87_ [h : Facts P] : zbox P 87 = some (A.agg [A.bool false, A.bool false, A.bool false, A.bool false, A.bool false, A.bool false, A.bool false, A.bool false, A.bool false], 9) := h.z87
@[simp] theorem b87_ [h : Facts P] : bplan P 87 = some ([A.bool false, A.bool false, A.bool false, A.bool false, A.bool false, A.bool false, A.bool false, A.bool false, A.bool false], [(0, 1), (1, 1), (2, 1), (3, 1), (4, 1), (5, 1), (6, 1), (7, 1), (8, 1)]) := h.b87
@[simp] theorem e87_ [h : Facts P] : eqT P 87 = some [1, 1, 1, 1, 1, 1, 1, 1, 1] := h.e87
@[simp] theorem s89_ [h : Facts P] : isSliceT P 89 = false := h.s89
@[simp] theorem t89_ [h : Facts P] : isStrT P 89 = false := h.t89
@[simp] theorem h89_ [h : Facts P] : hasU P 89 = true := h.h89
@[simp] theorem c89_ [h : Facts P] : P.cellsOf 89 = 1 := h.c89
@[simp] theorem a89_ [h : Facts P] : aggT P 89 = false := h.a89
@[simp] theorem z89_ [h : Facts P] : zbox P 89 = some (A.nfn, 8) := h.z89
@[simp] theorem s90_ [h : Facts P] : isSliceT P 90 = false := h.s90
@[simp] theorem t90_ [h : Facts P] : isStrT P 90 = false := h.t90
@[simp] theorem h90_ [h : Facts P] : hasU P 90 = true := h.h90
@[simp] theorem c90_ [h : Facts P] : P.cellsOf 90 = 1 := h.c90
@[simp] theorem a90_ [h : Facts P] : aggT P 90 = false := h.a90
@[simp] theorem z90_ [h : Facts P] : zbox P 90 = some (A.nfn, 8) := h.z90
@[simp] theorem s91_ [h : Facts P] : isSliceT P 91 = false := h.s91
@[simp] theorem t91_ [h : Facts P] : isStrT P 91 = false := h.t91
@[simp] theorem h91_ [h : Facts P] : hasU P 91 = true := h.h91
@[simp] theorem c91_ [h : Facts P] : P.cellsOf 91 = 1 := h.c91
@[simp] theorem a91_ [h : Facts P] : aggT P 91 = false := h.a91
@[simp] theorem z91_ [h : Facts P] : zbox P 91 = some (A.nfn, 8) := h.z91
@[simp] theorem s92_ [h : Facts P] : isSliceT P 92 = false := h.s92
@[simp] theorem t92_ [h : Facts P] : isStrT P 92 = false := h.t92
@[simp] theorem h92_ [h : Facts P] : hasU P 92 = true := h.h92
@[simp] theorem c92_ [h : Facts P] : P.cellsOf 92 = 1 := h.c92
@[simp] theorem a92_ [h : Facts P] : aggT P 92 = false := h.a92
@[simp] theorem z92_ [h : Facts P] : zbox P 92 = some (A.nfn, 8) := h.z92
@[simp] theorem u93_ [h : Facts P] : P.underlying 93 = some (.int .i64) := h.u93
@[simp] theorem s93_ [h : Facts P] : isSliceT P 93 = false := h.s93
@[simp] theorem t93_ [h : Facts P] : isStrT P 93 = false := h.t93
@[simp] theorem h93_ [h : Facts P] : hasU P 93 = true := h.h93
@[simp] theorem i93_ [h : Facts P] : intT P 93 = some .i64 := h.i93
@[simp] theorem c93_ [h : Facts P] : P.cellsOf 93 = 1 := h.c93
@[simp] theorem a93_ [h : Facts P] : aggT P 93 = false := h.a93
@[simp] theorem z93_ [h : Facts P] : zbox P 93 = some (A.int .i64 0, 8) := h.z93
@[simp] theorem s95_ [h : Facts P] : isSliceT P 95 = false := h.s95
@[simp] theorem t95_ [h : Facts P] : isStrT P 95 = false := h.t95
@[simp] theorem h95_ [h : Facts P] : hasU P 95 = true := h.h95
@[simp] theorem c95_ [h : Facts P] : P.cellsOf 95 = 1 := h.c95
@[simp] theorem a95_ [h : Facts P] : aggT P 95 = false := h.a95
@[simp] theorem z95_ [h : Facts P] : zbox P 95 = some (A.nfn, 8) := h.z95
@[simp] theorem s96_ [h : Facts P] : isSliceT P 96 = false := h.s96
@[simp] theorem t96_ [h : Facts P] : isStrT P 96 = false := h.t96
@[simp] theorem h96_ [h : Facts P] : hasU P 96 = true := h.h96
@[simp] theorem c96_ [h : Facts P] : P.cellsOf 96 = 1 := h.c96
@[simp] theorem a96_ [h : Facts P] : aggT P 96 = false := h.a96
@[simp] theorem z96_ [h : Facts P] : zbox P 96 = some (A.nfn, 8) := h.z96
@[simp] theorem s97_ [h : Facts P] : isSliceT P 97 = false := h.s97
@[simp] theorem t97_ [h : Facts P] : isStrT P 97 = false := h.t97
@[simp] theorem h97_ [h : Facts P] : hasU P 97 = true := h.h97
@[simp] theorem c97_ [h : Facts P] : P.cellsOf 97 = 1 := h.c97
@[simp] theorem a97_ [h : Facts P] : aggT P 97 = false := h.a97
@[simp] theorem z97_ [h : Facts P] : zbox P 97 = some (A.nfn, 8) := h.z97
@[simp] theorem s98_ [h : Facts P] : isSliceT P 98 = false := h.s98
@[simp] theorem t98_ [h : Facts P] : isStrT P 98 = false := h.t98
@[simp] theorem h98_ [h : Facts P] : hasU P 98 = true := h.h98
@[simp] theorem c98_ [h : Facts P] : P.cellsOf 98 = 1 := h.c98
@[simp] theorem a98_ [h : Facts P] : aggT P 98 = false := h.a98
@[simp] theorem z98_ [h : Facts P] : zbox P 98 = some (A.nfn, 8) := h.z98
@[simp] theorem s100_ [h : Facts P] : isSliceT P 100 = false := h.s100
@[simp] theorem t100_ [h : Facts P] : isStrT P 100 = false := h.t100
@[simp] theorem h100_ [h : Facts P] : hasU P 100 = true := h.h100
@[simp] theorem c100_ [h : Facts P] : P.cellsOf 100 = 1 := h.c100
@[simp] theorem a100_ [h : Facts P] : aggT P 100 = false := h.a100
@[simp] theorem z100_ [h : Facts P] : zbox P 100 = some (A.nfn, 8) := h.z100
@[simp] theorem s101_ [h : Facts P] : isSliceT P 101 = false := h.s101
@[simp] theorem t101_ [h : Facts P] : isStrT P 101 = false := h.t101
@[simp] theorem h101_ [h : Facts P] : hasU P 101 = true := h.h101
@[simp] theorem c101_ [h : Facts P] : P.cellsOf 101 = 1 := h.c101
@[simp] theorem a101_ [h : Facts P] : aggT P 101 = false := h.a101
@[simp] theorem z101_ [h : Facts P] : zbox P 101 = some (A.nfn, 8) := h.z101
@[simp] theorem u102_ [h : Facts P] : P.underlying 102 = some (.int .u32) := h.u102
@[simp] theorem s102_ [h : Facts P] : isSliceT P 102 = false := h.s102
@[simp] theorem t102_ [h : Facts P] : isStrT P 102 = false := h.t102
@[simp] theorem h102_ [h : Facts P] : hasU P 102 = true := h.h102
@[simp] theorem i102_ [h : Facts P] : intT P 102 = some .u32 := h.i102
@[simp] theorem c102_ [h : Facts P] : P.cellsOf 102 = 1 := h.c102
@[simp] theorem a102_ [h : Facts P] : aggT P 102 = false := h.a102
@[simp] theorem z102_ [h : Facts P] : zbox P 102 = some (A.int .u32 0, 4) := h.z102
@[simp] theorem s103_ [h : Facts P] : isSliceT P 103 = false := h.s103
@[simp] theorem t103_ [h : Facts P] : isStrT P 103 = false := h.t103
@[simp] theorem h103_ [h : Facts P] : hasU P 103 = true := h.h103
@[simp] theorem c103_ [h : Facts P] : P.cellsOf 103 = 1 := h.c103
@[simp] theorem a103_ [h : Facts P] : aggT P 103 = false := h.a103
@[simp] theorem z103_ [h : Facts P] : zbox P 103 = some (A.nfn, 8) := h.z103
@[simp] theorem u104_ [h : Facts P] : P.underlying 104 = some (.int .u64) := h.u104
@[simp] theorem s104_ [h : Facts P] : isSliceT P 104 = false := h.s104
@[simp] theorem t104_ [h : Facts P] : isStrT P 104 = false := h.t104
@[simp] theorem h104_ [h : Facts P] : hasU P 104 = true := h.h104
@[simp] theorem i104_ [h : Facts P] : intT P 104 = some .u64 := h.i104
@[simp] theorem c104_ [h : Facts P] : P.cellsOf 104 = 1 := h.c104
@[simp] theorem a104_ [h : Facts P] : aggT P 104 = false := h.a104
@[simp] theorem z104_ [h : Facts P] : zbox P 104 = some (A.int .u64 0, 8) := h.z104
@[simp] theorem s105_ [h : Facts P] : isSliceT P 105 = false := h.s105
@[simp] theorem t105_ [h : Facts P] : isStrT P 105 = false := h.t105
@[simp] theorem h105_ [h : Facts P] : hasU P 105 = true := h.h105
@[simp] theorem c105_ [h : Facts P] : P.cellsOf 105 = 1 := h.c105
@[simp] theorem a105_ [h : Facts P] : aggT P 105 = false := h.a105
@[simp] theorem z105_ [h : Facts P] : zbox P 105 = some (A.nfn, 8) := h.z105
@[simp] theorem s106_ [h : Facts P] : isSliceT P 106 = false := h.s106
@[simp] theorem t106_ [h : Facts P] : isStrT P 106 = false := h.t106
@[simp] theorem h106_ [h : Facts P] : hasU P 106 = true := h.h106
@[simp] theorem c106_ [h : Facts P] : P.cellsOf 106 = 1 := h.c106
@[simp] theorem a106_ [h : Facts P] : aggT P 106 = false := h.a106
@[simp] theorem z106_ [h : Facts P] : zbox P 106 = some (A.nfn, 8) := h.z106
@[simp] theorem g107_0_ [h : Facts P] : fld P 107 0 = some (4, 0) := h.g107_0
@[simp] theorem s107_ [h : Facts P] : isSliceT P 107 = false := h.s107
@[simp] theorem t107_ [h : Facts P] : isStrT P 107 = false := h.t107
@[simp] theorem h107_ [h : Facts P] : hasU P 107 = true := h.h107
@[simp] theorem w107_ [h : Facts P] : ftl P 107 = some [(4, 0)] := h.w107
@[simp] theorem c107_ [h : Facts P] : P.cellsOf 107 = 1 := h.c107
@[simp] theorem a107_ [h : Facts P] : aggT P 107 = true := h.a107
@[simp] theorem z107_ [h : Facts P] : zbox P 107 = some (A.agg [A.bool false], 1) := h.z107
@[simp] theorem b107_ [h : Facts P] : bplan P 107 = some ([A.bool false], [(0, 1)]) := h.b107
@[simp] theorem e107_ [h : Facts P] : eqT P 107 = some [1] := h.e107
@[simp] theorem g108_0_ [h : Facts P] : fld P 108 0 = some (4, 0) := h.g108_0
@[simp] theorem s108_ [h : Facts P] : isSliceT P 108 = false := h.s108
@[simp] theorem t108_ [h : Facts P] : isStrT P 108 = false := h.t108
@[simp] theorem h108_ [h : Facts P] : hasU P 108 = true := h.h108
@[simp] theorem w108_ [h : Facts P] : ftl P 108 = some [(4, 0)] := h.w108
@[simp] theorem c108_ [h : Facts P] : P.cellsOf 108 = 1 := h.c108
@[simp] theorem a108_ [h : Facts P] : aggT P 108 = true := h.a108
@[simp] theorem z108_ [h : Facts P] : zbox P 108 = some (A.agg [A.bool false], 1) := h.z108
@[simp] theorem b108_ [h : Facts P] : bplan P 108 = some ([A.bool false], [(0, 1)]) := h.b108
@[simp] theorem e108_ [h : Facts P] : eqT P 108 = some [1] := h.e108
@[simp] theorem s109_ [h : Facts P] : isSliceT P 109 = false := h.s109
@[simp] theorem t109_ [h : Facts P] : isStrT P 109 = false := h.t109
@[simp] theorem h109_ [h : Facts P] : hasU P 109 = true := h.h109
@[simp] theorem c109_ [h : Facts P] : P.cellsOf 109 = 1 := h.c109
@[simp] theorem a109_ [h : Facts P] : aggT P 109 = false := h.a109
@[simp] theorem z109_ [h : Facts P] : zbox P 109 = some (A.nfn, 8) := h.z109
@[simp] theorem s110_ [h : Facts P] : isSliceT P 110 = false := h.s110
@[simp] theorem t110_ [h : Facts P] : isStrT P 110 = false := h.t110
@[simp] theorem h110_ [h : Facts P] : hasU P 110 = true := h.h110
@[simp] theorem c110_ [h : Facts P] : P.cellsOf 110 = 1 := h.c110
@[simp] theorem a110_ [h : Facts P] : aggT P 110 = false := h.a110
@[simp] theorem z110_ [h : Facts P] : zbox P 110 = some (A.nfn, 8) := h.z110
@[simp] theorem s111_ [h : Facts P] : isSliceT P 111 = false := h.s111
@[simp] theorem t111_ [h : Facts P] : isStrT P 111 = false := h.t111
@[simp] theorem h111_ [h : Facts P] : hasU P 111 = true := h.h111
@[simp] theorem c111_ [h : Facts P] : P.cellsOf 111 = 1 := h.c111
@[simp] theorem a111_ [h : Facts P] : aggT P 111 = false := h.a111
@[simp] theorem z111_ [h : Facts P] : zbox P 111 = some (A.nfn, 8) := h.z111
@[simp] theorem u112_ [h : Facts P] : P.underlying 112 = some (.int .u64) := h.u112
@[simp] theorem s112_ [h : Facts P] : isSliceT P 112 = false := h.s112
@[simp] theorem t112_ [h : Facts P] : isStrT P 112 = false := h.t112
@[simp] theorem h112_ [h : Facts P] : hasU P 112 = true := h.h112
@[simp] theorem i112_ [h : Facts P] : intT P 112 = some .u64 := h.i112
@[simp] theorem c112_ [h : Facts P] : P.cellsOf 112 = 1 := h.c112
@[simp] theorem a112_ [h : Facts P] : aggT P 112 = false := h.a112
@[simp] theorem z112_ [h : Facts P] : zbox P 112 = some (A.int .u64 0, 8) := h.z112
@[simp] theorem s113_ [h : Facts P] : isSliceT P 113 = false := h.s113
@[simp] theorem t113_ [h : Facts P] : isStrT P 113 = false := h.t113
@[simp] theorem h113_ [h : Facts P] : hasU P 113 = true := h.h113
@[simp] theorem c113_ [h : Facts P] : P.cellsOf 113 = 1 := h.c113
@[simp] theorem a113_ [h : Facts P] : aggT P 113 = false := h.a113
@[simp] theorem z113_ [h : Facts P] : zbox P 113 = some (A.nfn, 8) := h.z113
@[simp] theorem s114_ [h : Facts P] : isSliceT P 114 = false := h.s114
@[simp] theorem t114_ [h : Facts P] : isStrT P 114 = false := h.t114
@[simp] theorem h114_ [h : Facts P] : hasU P 114 = true := h.h114
@[simp] theorem c114_ [h : Facts P] : P.cellsOf 114 = 1 := h.c114
@[simp] theorem a114_ [h : Facts P] : aggT P 114 = false := h.a114
@[simp] theorem z114_ [h : Facts P] : zbox P 114 = some (A.nfn, 8) := h.z114
@[simp] theorem s115_ [h : Facts P] : isSliceT P 115 = false := h.s115
@[simp] theorem t115_ [h : Facts P] : isStrT P 115 = false := h.t115
@[simp] theorem h115_ [h : Facts P] : hasU P 115 = true := h.h115
@[simp] theorem c115_ [h : Facts P] : P.cellsOf 115 = 1 := h.c115
@[simp] theorem a115_ [h : Facts P] : aggT P 115 = false := h.a115
@[simp] theorem z115_ [h : Facts P] : zbox P 115 = some (A.nfn, 8) := h.z115
@[simp] theorem s117_ [h : Facts P] : isSliceT P 117 = false := h.s117
@[simp] theorem t117_ [h : Facts P] : isStrT P 117 = false := h.t117
@[simp] theorem h117_ [h : Facts P] : hasU P 117 = true := h.h117
@[simp] theorem c117_ [h : Facts P] : P.cellsOf 117 = 1 := h.c117
@[simp] theorem a117_ [h : Facts P] : aggT P 117 = false := h.a117
@[simp] theorem z117_ [h : Facts P] : zbox P 117 = some (A.nfn, 8) := h.z117
@[simp] theorem s118_ [h : Facts P] : isSliceT P 118 = false := h.s118
@[simp] theorem t118_ [h : Facts P] : isStrT P 118 = false := h.t118
@[simp] theorem h118_ [h : Facts P] : hasU P 118 = true := h.h118
@[simp] theorem c118_ [h : Facts P] : P.cellsOf 118 = 1 := h.c118
@[simp] theorem a118_ [h : Facts P] : aggT P 118 = false := h.a118
@[simp] theorem z118_ [h : Facts P] : zbox P 118 = some (A.nfn, 8) := h.z118
@[simp] theorem s119_ [h : Facts P] : isSliceT P 119 = false := h.s119
@[simp] theorem t119_ [h : Facts P] : isStrT P 119 = false := h.t119
@[simp] theorem h119_ [h : Facts P] : hasU P 119 = true := h.h119
@[simp] theorem c119_ [h : Facts P] : P.cellsOf 119 = 1 := h.c119
@[simp] theorem a119_ [h : Facts P] : aggT P 119 = false := h.a119
@[simp] theorem z119_ [h : Facts P] : zbox P 119 = some (A.nfn, 8) := h.z119
@[simp] theorem s120_ [h : Facts P] : isSliceT P 120 = false := h.s120
@[simp] theorem t120_ [h : Facts P] : isStrT P 120 = false := h.t120
@[simp] theorem h120_ [h : Facts P] : hasU P 120 = true := h.h120
@[simp] theorem c120_ [h : Facts P] : P.cellsOf 120 = 1 := h.c120
@[simp] theorem a120_ [h : Facts P] : aggT P 120 = false := h.a120
@[simp] theorem z120_ [h : Facts P] : zbox P 120 = some (A.nfn, 8) := h.z120
@[simp] theorem s121_ [h : Facts P] : isSliceT P 121 = false := h.s121
@[simp] theorem t121_ [h : Facts P] : isStrT P 121 = false := h.t121
@[simp] theorem h121_ [h : Facts P] : hasU P 121 = true := h.h121
@[simp] theorem c121_ [h : Facts P] : P.cellsOf 121 = 1 := h.c121
@[simp] theorem a121_ [h : Facts P] : aggT P 121 = false := h.a121
@[simp] theorem z121_ [h : Facts P] : zbox P 121 = some (A.nfn, 8) := h.z121
@[simp] theorem s124_ [h : Facts P] : isSliceT P 124 = false := h.s124
@[simp] theorem t124_ [h : Facts P] : isStrT P 124 = false := h.t124
@[simp] theorem h124_ [h : Facts P] : hasU P 124 = true := h.h124
@[simp] theorem c124_ [h : Facts P] : P.cellsOf 124 = 1 := h.c124
@[simp] theorem a124_ [h : Facts P] : aggT P 124 = false := h.a124
@[simp] theorem z124_ [h : Facts P] : zbox P 124 = some (A.nfn, 8) := h.z124
@[simp] theorem s125_ [h : Facts P] : isSliceT P 125 = false := h.s125
@[simp] theorem t125_ [h : Facts P] : isStrT P 125 = false := h.t125
@[simp] theorem h125_ [h : Facts P] : hasU P 125 = true := h.h125
@[simp] theorem c125_ [h : Facts P] : P.cellsOf 125 = 1 := h.c125
@[simp] theorem a125_ [h : Facts P] : aggT P 125 = false := h.a125
@[simp] theorem z125_ [h : Facts P] : zbox P 125 = some (A.nfn, 8) := h.z125
@[simp] theorem s126_ [h : Facts P] : isSliceT P 126 = false := h.s126
@[simp] theorem t126_ [h : Facts P] : isStrT P 126 = false := h.t126
@[simp] theorem h126_ [h : Facts P] : hasU P 126 = true := h.h126
@[simp] theorem c126_ [h : Facts P] : P.cellsOf 126 = 1 := h.c126
@[simp] theorem a126_ [h : Facts P] : aggT P 126 = false := h.a126
@[simp] theorem z126_ [h : Facts P] : zbox P 126 = some (A.nfn, 8) := h.z126
@[simp] theorem s127_ [h : Facts P] : isSliceT P 127 = false := h.s127
@[simp] theorem t127_ [h : Facts P] : isStrT P 127 = false := h.t127
@[simp] theorem h127_ [h : Facts P] : hasU P 127 = true := h.h127
@[simp] theorem c127_ [h : Facts P] : P.cellsOf 127 = 1 := h.c127
@[simp] theorem a127_ [h : Facts P] : aggT P 127 = false := h.a127
@[simp] theorem z127_ [h : Facts P] : zbox P 127 = some (A.nfn, 8) := h.z127
@[simp] theorem s129_ [h : Facts P] : isSliceT P 129 = false := h.s129
@[simp] theorem t129_ [h : Facts P] : isStrT P 129 = false := h.t129
@[simp] theorem h129_ [h : Facts P] : hasU P 129 = true := h.h129
@[simp] theorem c129_ [h : Facts P] : P.cellsOf 129 = 1 := h.c129
@[simp] theorem a129_ [h : Facts P] : aggT P 129 = false := h.a129
@[simp] theorem z129_ [h : Facts P] : zbox P 129 = some (A.nfn, 8) := h.z129
@[simp] theorem s130_ [h : Facts P] : isSliceT P 130 = false := h.s130
@[simp] theorem t130_ [h : Facts P] : isStrT P 130 = false := h.t130
@[simp] theorem h130_ [h : Facts P] : hasU P 130 = true := h.h130
@[simp] theorem c130_ [h : Facts P] : P.cellsOf 130 = 1 := h.c130
@[simp] theorem a130_ [h : Facts P] : aggT P 130 = false := h.a130
@[simp] theorem z130_ [h : Facts P] : zbox P 130 = some (A.nfn, 8) := h.z130
@[simp] theorem u133_ [h : Facts P] : P.underlying 133 = some (.array 0 16) := h.u133
@[simp] theorem s133_ [h : Facts P] : isSliceT P 133 = false := h.s133
@[simp] theorem t133_ [h : Facts P] : isStrT P 133 = false := h.t133
@[simp] theorem r133_ [h : Facts P] : arrT P 133 = some (0, 16) := h.r133
@[simp] theorem h133_ [h : Facts P] : hasU P 133 = true := h.h133
@[simp] theorem n133_ [h : Facts P] : bplan P 133 = none := h.n133
@[simp] theorem c133_ [h : Facts P] : P.cellsOf 133 = 0 := h.c133
@[simp] theorem a133_ [h : Facts P] : aggT P 133 = true := h.a133
@[simp] theorem z133_ [h : Facts P] : zbox P 133 = some (A.agg [], 0) := h.z133
@[simp] theorem b133_ [h : Facts P] : aplan P 133 = some ([], 1) := h.b133
@[simp] theorem s136_ [h : Facts P] : isSliceT P 136 = false := h.s136
@[simp] theorem t136_ [h : Facts P] : isStrT P 136 = false := h.t136
@[simp] theorem h136_ [h : Facts P] : hasU P 136 = true := h.h136
@[simp] theorem c136_ [h : Facts P] : P.cellsOf 136 = 1 := h.c136
@[simp] theorem a136_ [h : Facts P] : aggT P 136 = false := h.a136
@[simp] theorem z136_ [h : Facts P] : zbox P 136 = some (A.nfn, 8) := h.z136
@[simp] theorem s139_ [h : Facts P] : isSliceT P 139 = false := h.s139
@[simp] theorem t139_ [h : Facts P] : isStrT P 139 = false := h.t139
@[simp] theorem h139_ [h : Facts P] : hasU P 139 = true := h.h139
@[simp] theorem c139_ [h : Facts P] : P.cellsOf 139 = 1 := h.c139
@[simp] theorem a139_ [h : Facts P] : aggT P 139 = false := h.a139
@[simp] theorem z139_ [h : Facts P] : zbox P 139 = some (A.nfn, 8) := h.z139
@[simp] theorem g143_0_ [h : Facts P] : fld P 143 0 = some (12, 0) := h.g143_0
@[simp] theorem g143_1_ [h : Facts P] : fld P 143 1 = some (12, 1) := h.g143_1
@[simp] theorem g143_2_ [h : Facts P] : fld P 143 2 = some (102, 2) := h.g143_2
@[simp] theorem g143_3_ [h : Facts P] : fld P 143 3 = some (137, 3) := h.g143_3
@[simp] theorem g143_4_ [h : Facts P] : fld P 143 4 = some (5, 4) := h.g143_4
@[simp] theorem g143_5_ [h : Facts P] : fld P 143 5 = some (5, 5) := h.g143_5
@[simp] theorem g143_6_ [h : Facts P] : fld P 143 6 = some (138, 6) := h.g143_6
@[simp] theorem g143_7_ [h : Facts P] : fld P 143 7 = some (139, 7) := h.g143_7
@[simp] theorem g143_8_ [h : Facts P] : fld P 143 8 = some (140, 8) := h.g143_8
@[simp] theorem g143_9_ [h : Facts P] : fld P 143 9 = some (141, 9) := h.g143_9
@[simp] theorem g143_10_ [h : Facts P] : fld P 143 10 = some (142, 10) := h.g143_10
@[simp] theorem s143_ [h : Facts P] : isSliceT P 143 = false := h.s143
@[simp] theorem t143_ [h : Facts P] : isStrT P 143 = false := h.t143
@[simp] theorem h143_ [h : Facts P] : hasU P 143 = true := h.h143
@[simp] theorem w143_ [h : Facts P] : ftl P 143 = some [(12, 0), (12, 1), (102, 2), (137, 3), (5, 4), (5, 5), (138, 6), (139, 7), (140, 8), (141, 9), (142, 10)] := h.w143
@[simp] theorem c143_ [h : Facts P] : P.cellsOf 143 = 11 := h.c143
@[simp] theorem a143_ [h : Facts P] : aggT P 143 = true := h.a143
@[simp] theorem z143_ [h : Facts P] : zbox P 143 = some (A.agg [A.int .u64 0, A.int .u64 0, A.int .u32 0, A.int .u8 0, A.int .u8 0, A.int .u8 0, A.int .u8 0, A.nfn, A.nptr, A.int .i32 0, A.int .i32 0], 48) := h.z143
@[simp] theorem b143_ [h : Facts P] : bplan P 143 = some ([A.int .u64 0, A.int .u64 0, A.int .u32 0, A.int .u8 0, A.int .u8 0, A.int .u8 0, A.int .u8 0, A.nfn, A.nptr, A.int .i32 0, A.int .i32 0], [(0, 1), (1, 1), (2, 1), (3, 1), (4, 1), (5, 1), (6, 1), (7, 1), (8, 1), (9, 1), (10, 1)]) := h.b143
@[simp] theorem q0_ [h : Facts P] : P.cellsOf 4294967295 = 0 := h.q0
end

theorem has_s1 : isSliceT Try.prog 1 = false := by kernel_rfl
theorem has_t1 : isStrT Try.prog 1 = false := by kernel_rfl
theorem has_h1 : hasU Try.prog 1 = true := by kernel_rfl
theorem has_c1 : Try.prog.cellsOf 1 = 1 := by kernel_rfl
theorem has_a1 : aggT Try.prog 1 = false := by kernel_rfl
theorem has_z1 : zbox Try.prog 1 = some (A.nfn, 8) := by kernel_rfl
theorem has_u2 : Try.prog.underlying 2 = some (.int .i64) := by kernel_rfl
theorem has_s2 : isSliceT Try.prog 2 = false := by kernel_rfl
theorem has_t2 : isStrT Try.prog 2 = false := by kernel_rfl
theorem has_h2 : hasU Try.prog 2 = true := by kernel_rfl
theorem has_i2 : intT Try.prog 2 = some .i64 := by kernel_rfl
theorem has_c2 : Try.prog.cellsOf 2 = 1 := by kernel_rfl
theorem has_a2 : aggT Try.prog 2 = false := by kernel_rfl
theorem has_z2 : zbox Try.prog 2 = some (A.int .i64 0, 8) := by kernel_rfl
theorem has_u3 : Try.prog.underlying 3 = some (.int .i64) := by kernel_rfl
theorem has_s3 : isSliceT Try.prog 3 = false := by kernel_rfl
theorem has_t3 : isStrT Try.prog 3 = false := by kernel_rfl
theorem has_h3 : hasU Try.prog 3 = true := by kernel_rfl
theorem has_i3 : intT Try.prog 3 = some .i64 := by kernel_rfl
theorem has_c3 : Try.prog.cellsOf 3 = 1 := by kernel_rfl
theorem has_a3 : aggT Try.prog 3 = false := by kernel_rfl
theorem has_z3 : zbox Try.prog 3 = some (A.int .i64 0, 8) := by kernel_rfl
theorem has_u4 : Try.prog.underlying 4 = some (.bool) := by kernel_rfl
theorem has_s4 : isSliceT Try.prog 4 = false := by kernel_rfl
theorem has_t4 : isStrT Try.prog 4 = false := by kernel_rfl
theorem has_h4 : hasU Try.prog 4 = true := by kernel_rfl
theorem has_d4 : isBoolT Try.prog 4 = true := by kernel_rfl
theorem has_c4 : Try.prog.cellsOf 4 = 1 := by kernel_rfl
theorem has_a4 : aggT Try.prog 4 = false := by kernel_rfl
theorem has_z4 : zbox Try.prog 4 = some (A.bool false, 1) := by kernel_rfl
theorem has_u5 : Try.prog.underlying 5 = some (.int .u8) := by kernel_rfl
theorem has_s5 : isSliceT Try.prog 5 = false := by kernel_rfl
theorem has_t5 : isStrT Try.prog 5 = false := by kernel_rfl
theorem has_h5 : hasU Try.prog 5 = true := by kernel_rfl
theorem has_i5 : intT Try.prog 5 = some .u8 := by kernel_rfl
theorem has_c5 : Try.prog.cellsOf 5 = 1 := by kernel_rfl
theorem has_a5 : aggT Try.prog 5 = false := by kernel_rfl
theorem has_z5 : zbox Try.prog 5 = some (A.int .u8 0, 1) := by kernel_rfl
theorem has_u9 : Try.prog.underlying 9 = some (.string) := by kernel_rfl
theorem has_s9 : isSliceT Try.prog 9 = false := by kernel_rfl
theorem has_t9 : isStrT Try.prog 9 = true := by kernel_rfl
theorem has_h9 : hasU Try.prog 9 = true := by kernel_rfl
theorem has_c9 : Try.prog.cellsOf 9 = 1 := by kernel_rfl
theorem has_a9 : aggT Try.prog 9 = false := by kernel_rfl
theorem has_z9 : zbox Try.prog 9 = some (A.str [], 16) := by kernel_rfl
theorem has_u12 : Try.prog.underlying 12 = some (.int .u64) := by kernel_rfl
theorem has_s12 : isSliceT Try.prog 12 = false := by kernel_rfl
theorem has_t12 : isStrT Try.prog 12 = false := by kernel_rfl
theorem has_h12 : hasU Try.prog 12 = true := by kernel_rfl
theorem has_i12 : intT Try.prog 12 = some .u64 := by kernel_rfl
theorem has_c12 : Try.prog.cellsOf 12 = 1 := by kernel_rfl
theorem has_a12 : aggT Try.prog 12 = false := by kernel_rfl
theorem has_z12 : zbox Try.prog 12 = some (A.int .u64 0, 8) := by kernel_rfl
theorem has_u21 : Try.prog.underlying 21 = some (.int .i32) := by kernel_rfl
theorem has_s21 : isSliceT Try.prog 21 = false := by kernel_rfl
theorem has_t21 : isStrT Try.prog 21 = false := by kernel_rfl
theorem has_h21 : hasU Try.prog 21 = true := by kernel_rfl
theorem has_i21 : intT Try.prog 21 = some .i32 := by kernel_rfl
theorem has_c21 : Try.prog.cellsOf 21 = 1 := by kernel_rfl
theorem has_a21 : aggT Try.prog 21 = false := by kernel_rfl
theorem has_z21 : zbox Try.prog 21 = some (A.int .i32 0, 4) := by kernel_rfl
theorem has_u22 : Try.prog.underlying 22 = some (.slice 47) := by kernel_rfl
theorem has_s22 : isSliceT Try.prog 22 = true := by kernel_rfl
theorem has_l22 : selem Try.prog 22 = 47 := by kernel_rfl
theorem has_t22 : isStrT Try.prog 22 = false := by kernel_rfl
theorem has_h22 : hasU Try.prog 22 = true := by kernel_rfl
theorem has_c22 : Try.prog.cellsOf 22 = 1 := by kernel_rfl
theorem has_a22 : aggT Try.prog 22 = false := by kernel_rfl
theorem has_z22 : zbox Try.prog 22 = some (A.sl true [], 24) := by kernel_rfl
theorem has_s23 : isSliceT Try.prog 23 = false := by kernel_rfl
theorem has_t23 : isStrT Try.prog 23 = false := by kernel_rfl
theorem has_h23 : hasU Try.prog 23 = true := by kernel_rfl
theorem has_c23 : Try.prog.cellsOf 23 = 1 := by kernel_rfl
theorem has_a23 : aggT Try.prog 23 = false := by kernel_rfl
theorem has_z23 : zbox Try.prog 23 = some (A.nfn, 8) := by kernel_rfl
theorem has_s24 : isSliceT Try.prog 24 = false := by kernel_rfl
theorem has_t24 : isStrT Try.prog 24 = false := by kernel_rfl
theorem has_h24 : hasU Try.prog 24 = true := by kernel_rfl
theorem has_c24 : Try.prog.cellsOf 24 = 1 := by kernel_rfl
theorem has_a24 : aggT Try.prog 24 = false := by kernel_rfl
theorem has_z24 : zbox Try.prog 24 = some (A.nfn, 8) := by kernel_rfl
theorem has_u25 : Try.prog.underlying 25 = some (.int .i64) := by kernel_rfl
theorem has_s25 : isSliceT Try.prog 25 = false := by kernel_rfl
theorem has_t25 : isStrT Try.prog 25 = false := by kernel_rfl
theorem has_h25 : hasU Try.prog 25 = true := by kernel_rfl
theorem has_i25 : intT Try.prog 25 = some .i64 := by kernel_rfl
theorem has_c25 : Try.prog.cellsOf 25 = 1 := by kernel_rfl
theorem has_a25 : aggT Try.prog 25 = false := by kernel_rfl
theorem has_z25 : zbox Try.prog 25 = some (A.int .i64 0, 8) := by kernel_rfl
theorem has_s26 : isSliceT Try.prog 26 = false := by kernel_rfl
theorem has_t26 : isStrT Try.prog 26 = false := by kernel_rfl
theorem has_h26 : hasU Try.prog 26 = true := by kernel_rfl
theorem has_c26 : Try.prog.cellsOf 26 = 1 := by kernel_rfl
theorem has_a26 : aggT Try.prog 26 = false := by kernel_rfl
theorem has_z26 : zbox Try.prog 26 = some (A.nfn, 8) := by kernel_rfl
theorem has_s27 : isSliceT Try.prog 27 = false := by kernel_rfl
theorem has_t27 : isStrT Try.prog 27 = false := by kernel_rfl
theorem has_h27 : hasU Try.prog 27 = true := by kernel_rfl
theorem has_c27 : Try.prog.cellsOf 27 = 1 := by kernel_rfl
theorem has_a27 : aggT Try.prog 27 = false := by kernel_rfl
theorem has_z27 : zbox Try.prog 27 = some (A.nfn, 8) := by kernel_rfl
theorem has_s28 : isSliceT Try.prog 28 = false := by kernel_rfl
theorem has_t28 : isStrT Try.prog 28 = false := by kernel_rfl
theorem has_h28 : hasU Try.prog 28 = true := by kernel_rfl
theorem has_c28 : Try.prog.cellsOf 28 = 1 := by kernel_rfl
theorem has_a28 : aggT Try.prog 28 = false := by kernel_rfl
theorem has_z28 : zbox Try.prog 28 = some (A.nfn, 8) := by kernel_rfl
theorem has_u29 : Try.prog.underlying 29 = some (.slice 51) := by kernel_rfl
theorem has_s29 : isSliceT Try.prog 29 = true := by kernel_rfl
theorem has_l29 : selem Try.prog 29 = 51 := by kernel_rfl
theorem has_t29 : isStrT Try.prog 29 = false := by kernel_rfl
theorem has_h29 : hasU Try.prog 29 = true := by kernel_rfl
theorem has_c29 : Try.prog.cellsOf 29 = 1 := by kernel_rfl
theorem has_a29 : aggT Try.prog 29 = false := by kernel_rfl
theorem has_z29 : zbox Try.prog 29 = some (A.sl true [], 24) := by kernel_rfl
theorem has_s30 : isSliceT Try.prog 30 = false := by kernel_rfl
theorem has_t30 : isStrT Try.prog 30 = false := by kernel_rfl
theorem has_h30 : hasU Try.prog 30 = true := by kernel_rfl
theorem has_c30 : Try.prog.cellsOf 30 = 1 := by kernel_rfl
theorem has_a30 : aggT Try.prog 30 = false := by kernel_rfl
theorem has_z30 : zbox Try.prog 30 = some (A.nfn, 8) := by kernel_rfl
theorem has_s31 : isSliceT Try.prog 31 = false := by kernel_rfl
theorem has_t31 : isStrT Try.prog 31 = false := by kernel_rfl
theorem has_h31 : hasU Try.prog 31 = true := by kernel_rfl
theorem has_c31 : Try.prog.cellsOf 31 = 1 := by kernel_rfl
theorem has_a31 : aggT Try.prog 31 = false := by kernel_rfl
theorem has_z31 : zbox Try.prog 31 = some (A.nfn, 8) := by kernel_rfl
theorem has_u32 : Try.prog.underlying 32 = some (.slice 9) := by kernel_rfl
theorem has_s32 : isSliceT Try.prog 32 = true := by kernel_rfl
theorem has_l32 : selem Try.prog 32 = 9 := by kernel_rfl
theorem has_t32 : isStrT Try.prog 32 = false := by kernel_rfl
theorem has_h32 : hasU Try.prog 32 = true := by kernel_rfl
theorem has_c32 : Try.prog.cellsOf 32 = 1 := by kernel_rfl
theorem has_a32 : aggT Try.prog 32 = false := by kernel_rfl
theorem has_z32 : zbox Try.prog 32 = some (A.sl true [], 24) := by kernel_rfl
theorem has_s33 : isSliceT Try.prog 33 = false := by kernel_rfl
theorem has_t33 : isStrT Try.prog 33 = false := by kernel_rfl
theorem has_h33 : hasU Try.prog 33 = true := by kernel_rfl
theorem has_c33 : Try.prog.cellsOf 33 = 1 := by kernel_rfl
theorem has_a33 : aggT Try.prog 33 = false := by kernel_rfl
theorem has_z33 : zbox Try.prog 33 = some (A.nfn, 8) := by kernel_rfl
theorem has_s34 : isSliceT Try.prog 34 = false := by kernel_rfl
theorem has_t34 : isStrT Try.prog 34 = false := by kernel_rfl
theorem has_h34 : hasU Try.prog 34 = true := by kernel_rfl
theorem has_c34 : Try.prog.cellsOf 34 = 1 := by kernel_rfl
theorem has_a34 : aggT Try.prog 34 = false := by kernel_rfl
theorem has_z34 : zbox Try.prog 34 = some (A.nfn, 8) := by kernel_rfl
theorem has_s35 : isSliceT Try.prog 35 = false := by kernel_rfl
theorem has_t35 : isStrT Try.prog 35 = false := by kernel_rfl
theorem has_h35 : hasU Try.prog 35 = true := by kernel_rfl
theorem has_c35 : Try.prog.cellsOf 35 = 1 := by kernel_rfl
theorem has_a35 : aggT Try.prog 35 = false := by kernel_rfl
theorem has_z35 : zbox Try.prog 35 = some (A.nfn, 8) := by kernel_rfl
theorem has_s36 : isSliceT Try.prog 36 = false := by kernel_rfl
theorem has_t36 : isStrT Try.prog 36 = false := by kernel_rfl
theorem has_h36 : hasU Try.prog 36 = true := by kernel_rfl
theorem has_c36 : Try.prog.cellsOf 36 = 1 := by kernel_rfl
theorem has_a36 : aggT Try.prog 36 = false := by kernel_rfl
theorem has_z36 : zbox Try.prog 36 = some (A.nfn, 8) := by kernel_rfl
theorem has_u37 : Try.prog.underlying 37 = some (.int .i64) := by kernel_rfl
theorem has_s37 : isSliceT Try.prog 37 = false := by kernel_rfl
theorem has_t37 : isStrT Try.prog 37 = false := by kernel_rfl
theorem has_h37 : hasU Try.prog 37 = true := by kernel_rfl
theorem has_i37 : intT Try.prog 37 = some .i64 := by kernel_rfl
theorem has_c37 : Try.prog.cellsOf 37 = 1 := by kernel_rfl
theorem has_a37 : aggT Try.prog 37 = false := by kernel_rfl
theorem has_z37 : zbox Try.prog 37 = some (A.int .i64 0, 8) := by kernel_rfl
theorem has_u38 : Try.prog.underlying 38 = some (.int .i64) := by kernel_rfl
theorem has_s38 : isSliceT Try.prog 38 = false := by kernel_rfl
theorem has_t38 : isStrT Try.prog 38 = false := by kernel_rfl
theorem has_h38 : hasU Try.prog 38 = true := by kernel_rfl
theorem has_i38 : intT Try.prog 38 = some .i64 := by kernel_rfl
theorem has_c38 : Try.prog.cellsOf 38 = 1 := by kernel_rfl
theorem has_a38 : aggT Try.prog 38 = false := by kernel_rfl
theorem has_z38 : zbox Try.prog 38 = some (A.int .i64 0, 8) := by kernel_rfl
theorem has_u39 : Try.prog.underlying 39 = some (.slice 41) := by kernel_rfl
theorem has_s39 : isSliceT Try.prog 39 = true := by kernel_rfl
theorem has_l39 : selem Try.prog 39 = 41 := by kernel_rfl
theorem has_t39 : isStrT Try.prog 39 = false := by kernel_rfl
theorem has_h39 : hasU Try.prog 39 = true := by kernel_rfl
theorem has_c39 : Try.prog.cellsOf 39 = 1 := by kernel_rfl
theorem has_a39 : aggT Try.prog 39 = false := by kernel_rfl
theorem has_z39 : zbox Try.prog 39 = some (A.sl true [], 24) := by kernel_rfl
theorem has_g40_0 : fld Try.prog 40 0 = some (38, 0) := by kernel_rfl
theorem has_g40_1 : fld Try.prog 40 1 = some (9, 1) := by kernel_rfl
theorem has_g40_2 : fld Try.prog 40 2 = some (3, 2) := by kernel_rfl
theorem has_g40_3 : fld Try.prog 40 3 = some (39, 3) := by kernel_rfl
theorem has_s40 : isSliceT Try.prog 40 = false := by kernel_rfl
theorem has_t40 : isStrT Try.prog 40 = false := by kernel_rfl
theorem has_h40 : hasU Try.prog 40 = true := by kernel_rfl
theorem has_w40 : ftl Try.prog 40 = some [(38, 0), (9, 1), (3, 2), (39, 3)] := by kernel_rfl
theorem has_c40 : Try.prog.cellsOf 40 = 4 := by kernel_rfl
theorem has_a40 : aggT Try.prog 40 = true := by kernel_rfl
theorem has_z40 : zbox Try.prog 40 = some (A.agg [A.int .i64 0, A.str [], A.int .i64 0, A.sl true []], 56) := by kernel_rfl
theorem has_b40 : bplan Try.prog 40 = some ([A.int .i64 0, A.str [], A.int .i64 0, A.sl true []], [(0, 1), (1, 1), (2, 1), (3, 1)]) := by kernel_rfl
theorem has_g41_0 : fld Try.prog 41 0 = some (38, 0) := by kernel_rfl
theorem has_g41_1 : fld Try.prog 41 1 = some (9, 1) := by kernel_rfl
theorem has_g41_2 : fld Try.prog 41 2 = some (3, 2) := by kernel_rfl
theorem has_g41_3 : fld Try.prog 41 3 = some (39, 3) := by kernel_rfl
theorem has_s41 : isSliceT Try.prog 41 = false := by kernel_rfl
theorem has_t41 : isStrT Try.prog 41 = false := by kernel_rfl
theorem has_h41 : hasU Try.prog 41 = true := by kernel_rfl
theorem has_w41 : ftl Try.prog 41 = some [(38, 0), (9, 1), (3, 2), (39, 3)] := by kernel_rfl
theorem has_c41 : Try.prog.cellsOf 41 = 4 := by kernel_rfl
theorem has_a41 : aggT Try.prog 41 = true := by kernel_rfl
theorem has_z41 : zbox Try.prog 41 = some (A.agg [A.int .i64 0, A.str [], A.int .i64 0, A.sl true []], 56) := by kernel_rfl
theorem has_b41 : bplan Try.prog 41 = some ([A.int .i64 0, A.str [], A.int .i64 0, A.sl true []], [(0, 1), (1, 1), (2, 1), (3, 1)]) := by kernel_rfl
theorem has_u42 : Try.prog.underlying 42 = some (.int .i64) := by kernel_rfl
theorem has_s42 : isSliceT Try.prog 42 = false := by kernel_rfl
theorem has_t42 : isStrT Try.prog 42 = false := by kernel_rfl
theorem has_h42 : hasU Try.prog 42 = true := by kernel_rfl
theorem has_i42 : intT Try.prog 42 = some .i64 := by kernel_rfl
theorem has_c42 : Try.prog.cellsOf 42 = 1 := by kernel_rfl
theorem has_a42 : aggT Try.prog 42 = false := by kernel_rfl
theorem has_z42 : zbox Try.prog 42 = some (A.int .i64 0, 8) := by kernel_rfl
theorem has_u43 : Try.prog.underlying 43 = some (.slice 3) := by kernel_rfl
theorem has_s43 : isSliceT Try.prog 43 = true := by kernel_rfl
theorem has_l43 : selem Try.prog 43 = 3 := by kernel_rfl
theorem has_t43 : isStrT Try.prog 43 = false := by kernel_rfl
theorem has_h43 : hasU Try.prog 43 = true := by kernel_rfl
theorem has_c43 : Try.prog.cellsOf 43 = 1 := by kernel_rfl
theorem has_a43 : aggT Try.prog 43 = false := by kernel_rfl
theorem has_z43 : zbox Try.prog 43 = some (A.sl true [], 24) := by kernel_rfl
theorem has_g44_0 : fld Try.prog 44 0 = some (42, 0) := by kernel_rfl
theorem has_g44_1 : fld Try.prog 44 1 = some (3, 1) := by kernel_rfl
theorem has_g44_2 : fld Try.prog 44 2 = some (3, 2) := by kernel_rfl
theorem has_g44_3 : fld Try.prog 44 3 = some (3, 3) := by kernel_rfl
theorem has_g44_4 : fld Try.prog 44 4 = some (43, 4) := by kernel_rfl
theorem has_g44_5 : fld Try.prog 44 5 = some (43, 5) := by kernel_rfl
theorem has_s44 : isSliceT Try.prog 44 = false := by kernel_rfl
theorem has_t44 : isStrT Try.prog 44 = false := by kernel_rfl
theorem has_h44 : hasU Try.prog 44 = true := by kernel_rfl
theorem has_w44 : ftl Try.prog 44 = some [(42, 0), (3, 1), (3, 2), (3, 3), (43, 4), (43, 5)] := by kernel_rfl
theorem has_c44 : Try.prog.cellsOf 44 = 6 := by kernel_rfl
theorem has_a44 : aggT Try.prog 44 = true := by kernel_rfl
theorem has_z44 : zbox Try.prog 44 = some (A.agg [A.int .i64 0, A.int .i64 0, A.int .i64 0, A.int .i64 0, A.sl true [], A.sl true []], 80) := by kernel_rfl
theorem has_b44 : bplan Try.prog 44 = some ([A.int .i64 0, A.int .i64 0, A.int .i64 0, A.int .i64 0, A.sl true [], A.sl true []], [(0, 1), (1, 1), (2, 1), (3, 1), (4, 1), (5, 1)]) := by kernel_rfl
theorem has_g45_0 : fld Try.prog 45 0 = some (42, 0) := by kernel_rfl
theorem has_g45_1 : fld Try.prog 45 1 = some (3, 1) := by kernel_rfl
theorem has_g45_2 : fld Try.prog 45 2 = some (3, 2) := by kernel_rfl
theorem has_g45_3 : fld Try.prog 45 3 = some (3, 3) := by kernel_rfl
theorem has_g45_4 : fld Try.prog 45 4 = some (43, 4) := by kernel_rfl
theorem has_g45_5 : fld Try.prog 45 5 = some (43, 5) := by kernel_rfl
theorem has_s45 : isSliceT Try.prog 45 = false := by kernel_rfl
theorem has_t45 : isStrT Try.prog 45 = false := by kernel_rfl
theorem has_h45 : hasU Try.prog 45 = true := by kernel_rfl
theorem has_w45 : ftl Try.prog 45 = some [(42, 0), (3, 1), (3, 2), (3, 3), (43, 4), (43, 5)] := by kernel_rfl
theorem has_c45 : Try.prog.cellsOf 45 = 6 := by kernel_rfl
theorem has_a45 : aggT Try.prog 45 = true := by kernel_rfl
theorem has_z45 : zbox Try.prog 45 = some (A.agg [A.int .i64 0, A.int .i64 0, A.int .i64 0, A.int .i64 0, A.sl true [], A.sl true []], 80) := by kernel_rfl
theorem has_b45 : bplan Try.prog 45 = some ([A.int .i64 0, A.int .i64 0, A.int .i64 0, A.int .i64 0, A.sl true [], A.sl true []], [(0, 1), (1, 1), (2, 1), (3, 1), (4, 1), (5, 1)]) := by kernel_rfl
theorem has_g46_0 : fld Try.prog 46 0 = some (37, 0) := by kernel_rfl
theorem has_g46_1 : fld Try.prog 46 1 = some (9, 1) := by kernel_rfl
theorem has_g46_2 : fld Try.prog 46 2 = some (9, 2) := by kernel_rfl
theorem has_g46_3 : fld Try.prog 46 3 = some (41, 3) := by kernel_rfl
theorem has_g46_4 : fld Try.prog 46 4 = some (41, 7) := by kernel_rfl
theorem has_g46_5 : fld Try.prog 46 5 = some (39, 11) := by kernel_rfl
theorem has_g46_6 : fld Try.prog 46 6 = some (45, 12) := by kernel_rfl
theorem has_g46_7 : fld Try.prog 46 7 = some (4, 18) := by kernel_rfl
theorem has_g46_8 : fld Try.prog 46 8 = some (22, 19) := by kernel_rfl
theorem has_g46_9 : fld Try.prog 46 9 = some (22, 20) := by kernel_rfl
theorem has_s46 : isSliceT Try.prog 46 = false := by kernel_rfl
theorem has_t46 : isStrT Try.prog 46 = false := by kernel_rfl
theorem has_h46 : hasU Try.prog 46 = true := by kernel_rfl
theorem has_w46 : ftl Try.prog 46 = some [(37, 0), (9, 1), (9, 2), (41, 3), (41, 7), (39, 11), (45, 12), (4, 18), (22, 19), (22, 20)] := by kernel_rfl
theorem has_c46 : Try.prog.cellsOf 46 = 21 := by kernel_rfl
theorem has_a46 : aggT Try.prog 46 = true := by kernel_rfl
theorem has_z46 : zbox Try.prog 46 = some (A.agg [A.int .i64 0, A.str [], A.str [], A.int .i64 0, A.str [], A.int .i64 0, A.sl true [], A.int .i64 0, A.str [], A.int .i64 0, A.sl true [], A.sl true [], A.int .i64 0, A.int .i64 0, A.int .i64 0, A.int .i64 0, A.sl true [], A.sl true [], A.bool false, A.sl true [], A.sl true []], 312) := by kernel_rfl
theorem has_b46 : bplan Try.prog 46 = some ([A.int .i64 0, A.str [], A.str [], A.int .i64 0, A.str [], A.int .i64 0, A.sl true [], A.int .i64 0, A.str [], A.int .i64 0, A.sl true [], A.sl true [], A.int .i64 0, A.int .i64 0, A.int .i64 0, A.int .i64 0, A.sl true [], A.sl true [], A.bool false, A.sl true [], A.sl true []], [(0, 1), (1, 1), (2, 1), (3, 4), (7, 4), (11, 1), (12, 6), (18, 1), (19, 1), (20, 1)]) := by kernel_rfl
theorem has_g47_0 : fld Try.prog 47 0 = some (37, 0) := by kernel_rfl
theorem has_g47_1 : fld Try.prog 47 1 = some (9, 1) := by kernel_rfl
theorem has_g47_2 : fld Try.prog 47 2 = some (9, 2) := by kernel_rfl
theorem has_g47_3 : fld Try.prog 47 3 = some (41, 3) := by kernel_rfl
theorem has_g47_4 : fld Try.prog 47 4 = some (41, 7) := by kernel_rfl
theorem has_g47_5 : fld Try.prog 47 5 = some (39, 11) := by kernel_rfl
theorem has_g47_6 : fld Try.prog 47 6 = some (45, 12) := by kernel_rfl
theorem has_g47_7 : fld Try.prog 47 7 = some (4, 18) := by kernel_rfl
theorem has_g47_8 : fld Try.prog 47 8 = some (22, 19) := by kernel_rfl
theorem has_g47_9 : fld Try.prog 47 9 = some (22, 20) := by kernel_rfl
theorem has_s47 : isSliceT Try.prog 47 = false := by kernel_rfl
theorem has_t47 : isStrT Try.prog 47 = false := by kernel_rfl
theorem has_h47 : hasU Try.prog 47 = true := by kernel_rfl
theorem has_w47 : ftl Try.prog 47 = some [(37, 0), (9, 1), (9, 2), (41, 3), (41, 7), (39, 11), (45, 12), (4, 18), (22, 19), (22, 20)] := by kernel_rfl
theorem has_c47 : Try.prog.cellsOf 47 = 21 := by kernel_rfl
theorem has_a47 : aggT Try.prog 47 = true := by kernel_rfl
theorem has_z47 : zbox Try.prog 47 = some (A.agg [A.int .i64 0, A.str [], A.str [], A.int .i64 0, A.str [], A.int .i64 0, A.sl true [], A.int .i64 0, A.str [], A.int .i64 0, A.sl true [], A.sl true [], A.int .i64 0, A.int .i64 0, A.int .i64 0, A.int .i64 0, A.sl true [], A.sl true [], A.bool false, A.sl true [], A.sl true []], 312) := by kernel_rfl
theorem has_b47 : bplan Try.prog 47 = some ([A.int .i64 0, A.str [], A.str [], A.int .i64 0, A.str [], A.int .i64 0, A.sl true [], A.int .i64 0, A.str [], A.int .i64 0, A.sl true [], A.sl true [], A.int .i64 0, A.int .i64 0, A.int .i64 0, A.int .i64 0, A.sl true [], A.sl true [], A.bool false, A.sl true [], A.sl true []], [(0, 1), (1, 1), (2, 1), (3, 4), (7, 4), (11, 1), (12, 6), (18, 1), (19, 1), (20, 1)]) := by kernel_rfl
theorem has_s48 : isSliceT Try.prog 48 = false := by kernel_rfl
theorem has_t48 : isStrT Try.prog 48 = false := by kernel_rfl
theorem has_h48 : hasU Try.prog 48 = true := by kernel_rfl
theorem has_c48 : Try.prog.cellsOf 48 = 1 := by kernel_rfl
theorem has_a48 : aggT Try.prog 48 = false := by kernel_rfl
theorem has_z48 : zbox Try.prog 48 = some (A.nfn, 8) := by kernel_rfl
theorem has_s49 : isSliceT Try.prog 49 = false := by kernel_rfl
theorem has_t49 : isStrT Try.prog 49 = false := by kernel_rfl
theorem has_h49 : hasU Try.prog 49 = true := by kernel_rfl
theorem has_c49 : Try.prog.cellsOf 49 = 1 := by kernel_rfl
theorem has_a49 : aggT Try.prog 49 = false := by kernel_rfl
theorem has_z49 : zbox Try.prog 49 = some (A.nfn, 8) := by kernel_rfl
theorem has_s50 : isSliceT Try.prog 50 = false := by kernel_rfl
theorem has_t50 : isStrT Try.prog 50 = false := by kernel_rfl
theorem has_h50 : hasU Try.prog 50 = true := by kernel_rfl
theorem has_c50 : Try.prog.cellsOf 50 = 1 := by kernel_rfl
theorem has_a50 : aggT Try.prog 50 = false := by kernel_rfl
theorem has_z50 : zbox Try.prog 50 = some (A.nfn, 8) := by kernel_rfl
theorem has_u51 : Try.prog.underlying 51 = some (.array 2 9) := by kernel_rfl
theorem has_s51 : isSliceT Try.prog 51 = false := by kernel_rfl
theorem has_t51 : isStrT Try.prog 51 = false := by kernel_rfl
theorem has_r51 : arrT Try.prog 51 = some (2, 9) := by kernel_rfl
theorem has_h51 : hasU Try.prog 51 = true := by kernel_rfl
theorem has_n51 : bplan Try.prog 51 = none := by kernel_rfl
theorem has_c51 : Try.prog.cellsOf 51 = 2 := by kernel_rfl
theorem has_a51 : aggT Try.prog 51 = true := by kernel_rfl
theorem has_z51 : zbox Try.prog 51 = some (A.agg [A.str [], A.str []], 32) := by kernel_rfl
theorem has_e51 : eqT Try.prog 51 = some [2, 2] := by kernel_rfl
theorem has_b51 : aplan Try.prog 51 = some ([A.str [], A.str []], 1) := by kernel_rfl
theorem has_s52 : isSliceT Try.prog 52 = false := by kernel_rfl
theorem has_t52 : isStrT Try.prog 52 = false := by kernel_rfl
theorem has_h52 : hasU Try.prog 52 = true := by kernel_rfl
theorem has_c52 : Try.prog.cellsOf 52 = 1 := by kernel_rfl
theorem has_a52 : aggT Try.prog 52 = false := by kernel_rfl
theorem has_z52 : zbox Try.prog 52 = some (A.nfn, 8) := by kernel_rfl
theorem has_s53 : isSliceT Try.prog 53 = false := by kernel_rfl
theorem has_t53 : isStrT Try.prog 53 = false := by kernel_rfl
theorem has_h53 : hasU Try.prog 53 = true := by kernel_rfl
theorem has_c53 : Try.prog.cellsOf 53 = 1 := by kernel_rfl
theorem has_a53 : aggT Try.prog 53 = false := by kernel_rfl
theorem has_z53 : zbox Try.prog 53 = some (A.nfn, 8) := by kernel_rfl
theorem has_s54 : isSliceT Try.prog 54 = false := by kernel_rfl
theorem has_t54 : isStrT Try.prog 54 = false := by kernel_rfl
theorem has_h54 : hasU Try.prog 54 = true := by kernel_rfl
theorem has_c54 : Try.prog.cellsOf 54 = 1 := by kernel_rfl
theorem has_a54 : aggT Try.prog 54 = false := by kernel_rfl
theorem has_z54 : zbox Try.prog 54 = some (A.nfn, 8) := by kernel_rfl
theorem has_s55 : isSliceT Try.prog 55 = false := by kernel_rfl
theorem has_t55 : isStrT Try.prog 55 = false := by kernel_rfl
theorem has_h55 : hasU Try.prog 55 = true := by kernel_rfl
theorem has_c55 : Try.prog.cellsOf 55 = 1 := by kernel_rfl
theorem has_a55 : aggT Try.prog 55 = false := by kernel_rfl
theorem has_z55 : zbox Try.prog 55 = some (A.nfn, 8) := by kernel_rfl
theorem has_s57 : isSliceT Try.prog 57 = false := by kernel_rfl
theorem has_t57 : isStrT Try.prog 57 = false := by kernel_rfl
theorem has_h57 : hasU Try.prog 57 = true := by kernel_rfl
theorem has_c57 : Try.prog.cellsOf 57 = 1 := by kernel_rfl
theorem has_a57 : aggT Try.prog 57 = false := by kernel_rfl
theorem has_z57 : zbox Try.prog 57 = some (A.nfn, 8) := by kernel_rfl
theorem has_s58 : isSliceT Try.prog 58 = false := by kernel_rfl
theorem has_t58 : isStrT Try.prog 58 = false := by kernel_rfl
theorem has_h58 : hasU Try.prog 58 = true := by kernel_rfl
theorem has_c58 : Try.prog.cellsOf 58 = 1 := by kernel_rfl
theorem has_a58 : aggT Try.prog 58 = false := by kernel_rfl
theorem has_z58 : zbox Try.prog 58 = some (A.nfn, 8) := by kernel_rfl
theorem has_s59 : isSliceT Try.prog 59 = false := by kernel_rfl
theorem has_t59 : isStrT Try.prog 59 = false := by kernel_rfl
theorem has_h59 : hasU Try.prog 59 = true := by kernel_rfl
theorem has_c59 : Try.prog.cellsOf 59 = 1 := by kernel_rfl
theorem has_a59 : aggT Try.prog 59 = false := by kernel_rfl
theorem has_z59 : zbox Try.prog 59 = some (A.nfn, 8) := by kernel_rfl
theorem has_s60 : isSliceT Try.prog 60 = false := by kernel_rfl
theorem has_t60 : isStrT Try.prog 60 = false := by kernel_rfl
theorem has_h60 : hasU Try.prog 60 = true := by kernel_rfl
theorem has_c60 : Try.prog.cellsOf 60 = 1 := by kernel_rfl
theorem has_a60 : aggT Try.prog 60 = false := by kernel_rfl
theorem has_z60 : zbox Try.prog 60 = some (A.nfn, 8) := by kernel_rfl
theorem has_s61 : isSliceT Try.prog 61 = false := by kernel_rfl
theorem has_t61 : isStrT Try.prog 61 = false := by kernel_rfl
theorem has_h61 : hasU Try.prog 61 = true := by kernel_rfl
theorem has_c61 : Try.prog.cellsOf 61 = 1 := by kernel_rfl
theorem has_a61 : aggT Try.prog 61 = false := by kernel_rfl
theorem has_z61 : zbox Try.prog 61 = some (A.nfn, 8) := by kernel_rfl
theorem has_s62 : isSliceT Try.prog 62 = false := by kernel_rfl
theorem has_t62 : isStrT Try.prog 62 = false := by kernel_rfl
theorem has_h62 : hasU Try.prog 62 = true := by kernel_rfl
theorem has_c62 : Try.prog.cellsOf 62 = 1 := by kernel_rfl
theorem has_a62 : aggT Try.prog 62 = false := by kernel_rfl
theorem has_z62 : zbox Try.prog 62 = some (A.nfn, 8) := by kernel_rfl
theorem has_s63 : isSliceT Try.prog 63 = false := by kernel_rfl
theorem has_t63 : isStrT Try.prog 63 = false := by kernel_rfl
theorem has_h63 : hasU Try.prog 63 = true := by kernel_rfl
theorem has_c63 : Try.prog.cellsOf 63 = 1 := by kernel_rfl
theorem has_a63 : aggT Try.prog 63 = false := by kernel_rfl
theorem has_z63 : zbox Try.prog 63 = some (A.nfn, 8) := by kernel_rfl
theorem has_s64 : isSliceT Try.prog 64 = false := by kernel_rfl
theorem has_t64 : isStrT Try.prog 64 = false := by kernel_rfl
theorem has_h64 : hasU Try.prog 64 = true := by kernel_rfl
theorem has_c64 : Try.prog.cellsOf 64 = 1 := by kernel_rfl
theorem has_a64 : aggT Try.prog 64 = false := by kernel_rfl
theorem has_z64 : zbox Try.prog 64 = some (A.nfn, 8) := by kernel_rfl
theorem has_s65 : isSliceT Try.prog 65 = false := by kernel_rfl
theorem has_t65 : isStrT Try.prog 65 = false := by kernel_rfl
theorem has_h65 : hasU Try.prog 65 = true := by kernel_rfl
theorem has_c65 : Try.prog.cellsOf 65 = 1 := by kernel_rfl
theorem has_a65 : aggT Try.prog 65 = false := by kernel_rfl
theorem has_z65 : zbox Try.prog 65 = some (A.nfn, 8) := by kernel_rfl
theorem has_g66_0 : fld Try.prog 66 0 = some (4, 0) := by kernel_rfl
theorem has_g66_1 : fld Try.prog 66 1 = some (4, 1) := by kernel_rfl
theorem has_g66_2 : fld Try.prog 66 2 = some (4, 2) := by kernel_rfl
theorem has_g66_3 : fld Try.prog 66 3 = some (4, 3) := by kernel_rfl
theorem has_g66_4 : fld Try.prog 66 4 = some (4, 4) := by kernel_rfl
theorem has_g66_5 : fld Try.prog 66 5 = some (4, 5) := by kernel_rfl
theorem has_g66_6 : fld Try.prog 66 6 = some (4, 6) := by kernel_rfl
theorem has_g66_7 : fld Try.prog 66 7 = some (4, 7) := by kernel_rfl
theorem has_g66_8 : fld Try.prog 66 8 = some (4, 8) := by kernel_rfl
theorem has_s66 : isSliceT Try.prog 66 = false := by kernel_rfl
theorem has_t66 : isStrT Try.prog 66 = false := by kernel_rfl
theorem has_h66 : hasU Try.prog 66 = true := by kernel_rfl
theorem has_w66 : ftl Try.prog 66 = some [(4, 0), (4, 1), (4, 2), (4, 3), (4, 4), (4, 5), (4, 6), (4, 7), (4, 8)] := by kernel_rfl
theorem has_c66 : Try.prog.cellsOf 66 = 9 := by kernel_rfl
theorem has_a66 : aggT Try.prog 66 = true := by kernel_rfl
theorem has_z66 : zbox Try.prog 66 = some (A.agg [A.bool false, A.bool false, A.bool false, A.bool false, A.bool false, A.bool false, A.bool false, A.bool false, A.bool false], 9) := by kernel_rfl
theorem has_b66 : bplan Try.prog 66 = some ([A.bool false, A.bool false, A.bool false, A.bool false, A.bool false, A.bool false, A.bool false, A.bool false, A.bool false], [(0, 1), (1, 1), (2, 1), (3, 1), (4, 1), (5, 1), (6, 1), (7, 1), (8, 1)]) := by kernel_rfl
theorem has_e66 : eqT Try.prog 66 = some [1, 1, 1, 1, 1, 1, 1, 1, 1] := by kernel_rfl
theorem has_g67_0 : fld Try.prog 67 0 = some (4, 0) := by kernel_rfl
theorem has_g67_1 : fld Try.prog 67 1 = some (4, 1) := by kernel_rfl
theorem has_g67_2 : fld Try.prog 67 2 = some (4, 2) := by kernel_rfl
theorem has_g67_3 : fld Try.prog 67 3 = some (4, 3) := by kernel_rfl
theorem has_g67_4 : fld Try.prog 67 4 = some (4, 4) := by kernel_rfl
theorem has_g67_5 : fld Try.prog 67 5 = some (4, 5) := by kernel_rfl
theorem has_g67_6 : fld Try.prog 67 6 = some (4, 6) := by kernel_rfl
theorem has_g67_7 : fld Try.prog 67 7 = some (4, 7) := by kernel_rfl
theorem has_g67_8 : fld Try.prog 67 8 = some (4, 8) := by kernel_rfl
theorem has_s67 : isSliceT Try.prog 67 = false := by kernel_rfl
theorem has_t67 : isStrT Try.prog 67 = false := by kernel_rfl
theorem has_h67 : hasU Try.prog 67 = true := by kernel_rfl
theorem has_w67 : ftl Try.prog 67 = some [(4, 0), (4, 1), (4, 2), (4, 3), (4, 4), (4, 5), (4, 6), (4, 7), (4, 8)] := by kernel_rfl
theorem has_c67 : Try.prog.cellsOf 67 = 9 := by kernel_rfl
theorem has_a67 : aggT Try.prog 67 = true := by kernel_rfl
theorem has_z67 : zbox Try.prog 67 = some (A.agg [A.bool false, A.bool false, A.bool false, A.bool false, A.bool false, A.bool false, A.bool false, A.bool false, A.bool false], 9) := by kernel_rfl
theorem has_b67 : bplan Try.prog 67 = some ([A.bool false, A.bool false, A.bool false, A.bool false, A.bool false, A.bool false, A.bool false, A.bool false, A.bool false], [(0, 1), (1, 1), (2, 1), (3, 1), (4, 1), (5, 1), (6, 1), (7, 1), (8, 1)]) := by kernel_rfl
theorem has_e67 : eqT Try.prog 67 = some [1, 1, 1, 1, 1, 1, 1, 1, 1] := by kernel_rfl
theorem has_s69 : isSliceT Try.prog 69 = false := by kernel_rfl
theorem has_t69 : isStrT Try.prog 69 = false := by kernel_rfl
theorem has_h69 : hasU Try.prog 69 = true := by kernel_rfl
theorem has_c69 : Try.prog.cellsOf 69 = 1 := by kernel_rfl
theorem has_a69 : aggT Try.prog 69 = false := by kernel_rfl
theorem has_z69 : zbox Try.prog 69 = some (A.nfn, 8) := by kernel_rfl
theorem has_s70 : isSliceT Try.prog 70 = false := by kernel_rfl
theorem has_t70 : isStrT Try.prog 70 = false := by kernel_rfl
theorem has_h70 : hasU Try.prog 70 = true := by kernel_rfl
theorem has_c70 : Try.prog.cellsOf 70 = 1 := by kernel_rfl
theorem has_a70 : aggT Try.prog 70 = false := by kernel_rfl
theorem has_z70 : zbox Try.prog 70 = some (A.nfn, 8) := by kernel_rfl
theorem has_s71 : isSliceT Try.prog 71 = false := by kernel_rfl
theorem has_t71 : isStrT Try.prog 71 = false := by kernel_rfl
theorem has_h71 : hasU Try.prog 71 = true := by kernel_rfl
theorem has_c71 : Try.prog.cellsOf 71 = 1 := by kernel_rfl
theorem has_a71 : aggT Try.prog 71 = false := by kernel_rfl
theorem has_z71 : zbox Try.prog 71 = some (A.nfn, 8) := by kernel_rfl
theorem has_s72 : isSliceT Try.prog 72 = false := by kernel_rfl
theorem has_t72 : isStrT Try.prog 72 = false := by kernel_rfl
theorem has_h72 : hasU Try.prog 72 = true := by kernel_rfl
theorem has_c72 : Try.prog.cellsOf 72 = 1 := by kernel_rfl
theorem has_a72 : aggT Try.prog 72 = false := by kernel_rfl
theorem has_z72 : zbox Try.prog 72 = some (A.nfn, 8) := by kernel_rfl
theorem has_s73 : isSliceT Try.prog 73 = false := by kernel_rfl
theorem has_t73 : isStrT Try.prog 73 = false := by kernel_rfl
theorem has_h73 : hasU Try.prog 73 = true := by kernel_rfl
theorem has_c73 : Try.prog.cellsOf 73 = 1 := by kernel_rfl
theorem has_a73 : aggT Try.prog 73 = false := by kernel_rfl
theorem has_z73 : zbox Try.prog 73 = some (A.nfn, 8) := by kernel_rfl
theorem has_s74 : isSliceT Try.prog 74 = false := by kernel_rfl
theorem has_t74 : isStrT Try.prog 74 = false := by kernel_rfl
theorem has_h74 : hasU Try.prog 74 = true := by kernel_rfl
theorem has_c74 : Try.prog.cellsOf 74 = 1 := by kernel_rfl
theorem has_a74 : aggT Try.prog 74 = false := by kernel_rfl
theorem has_z74 : zbox Try.prog 74 = some (A.nfn, 8) := by kernel_rfl
theorem has_u75 : Try.prog.underlying 75 = some (.int .u64) := by kernel_rfl
theorem has_s75 : isSliceT Try.prog 75 = false := by kernel_rfl
theorem has_t75 : isStrT Try.prog 75 = false := by kernel_rfl
theorem has_h75 : hasU Try.prog 75 = true := by kernel_rfl
theorem has_i75 : intT Try.prog 75 = some .u64 := by kernel_rfl
theorem has_c75 : Try.prog.cellsOf 75 = 1 := by kernel_rfl
theorem has_a75 : aggT Try.prog 75 = false := by kernel_rfl
theorem has_z75 : zbox Try.prog 75 = some (A.int .u64 0, 8) := by kernel_rfl
theorem has_s76 : isSliceT Try.prog 76 = false := by kernel_rfl
theorem has_t76 : isStrT Try.prog 76 = false := by kernel_rfl
theorem has_h76 : hasU Try.prog 76 = true := by kernel_rfl
theorem has_c76 : Try.prog.cellsOf 76 = 1 := by kernel_rfl
theorem has_a76 : aggT Try.prog 76 = false := by kernel_rfl
theorem has_z76 : zbox Try.prog 76 = some (A.nfn, 8) := by kernel_rfl
theorem has_s77 : isSliceT Try.prog 77 = false := by kernel_rfl
theorem has_t77 : isStrT Try.prog 77 = false := by kernel_rfl
theorem has_h77 : hasU Try.prog 77 = true := by kernel_rfl
theorem has_c77 : Try.prog.cellsOf 77 = 1 := by kernel_rfl
theorem has_a77 : aggT Try.prog 77 = false := by kernel_rfl
theorem has_z77 : zbox Try.prog 77 = some (A.nfn, 8) := by kernel_rfl
theorem has_s78 : isSliceT Try.prog 78 = false := by kernel_rfl
theorem has_t78 : isStrT Try.prog 78 = false := by kernel_rfl
theorem has_h78 : hasU Try.prog 78 = true := by kernel_rfl
theorem has_c78 : Try.prog.cellsOf 78 = 1 := by kernel_rfl
theorem has_a78 : aggT Try.prog 78 = false := by kernel_rfl
theorem has_z78 : zbox Try.prog 78 = some (A.nfn, 8) := by kernel_rfl
theorem has_g79_0 : fld Try.prog 79 0 = some (4, 0) := by kernel_rfl
theorem has_g79_1 : fld Try.prog 79 1 = some (9, 1) := by kernel_rfl
theorem has_s79 : isSliceT Try.prog 79 = false := by kernel_rfl
theorem has_t79 : isStrT Try.prog 79 = false := by kernel_rfl
theorem has_h79 : hasU Try.prog 79 = true := by kernel_rfl
theorem has_w79 : ftl Try.prog 79 = some [(4, 0), (9, 1)] := by kernel_rfl
theorem has_c79 : Try.prog.cellsOf 79 = 2 := by kernel_rfl
theorem has_a79 : aggT Try.prog 79 = true := by kernel_rfl
theorem has_z79 : zbox Try.prog 79 = some (A.agg [A.bool false, A.str []], 24) := by kernel_rfl
theorem has_b79 : bplan Try.prog 79 = some ([A.bool false, A.str []], [(0, 1), (1, 1)]) := by kernel_rfl
theorem has_e79 : eqT Try.prog 79 = some [1, 2] := by kernel_rfl
theorem has_u80 : Try.prog.underlying 80 = some (.slice 79) := by kernel_rfl
theorem has_s80 : isSliceT Try.prog 80 = true := by kernel_rfl
theorem has_l80 : selem Try.prog 80 = 79 := by kernel_rfl
theorem has_t80 : isStrT Try.prog 80 = false := by kernel_rfl
theorem has_h80 : hasU Try.prog 80 = true := by kernel_rfl
theorem has_c80 : Try.prog.cellsOf 80 = 1 := by kernel_rfl
theorem has_a80 : aggT Try.prog 80 = false := by kernel_rfl
theorem has_z80 : zbox Try.prog 80 = some (A.sl true [], 24) := by kernel_rfl
theorem has_s81 : isSliceT Try.prog 81 = false := by kernel_rfl
theorem has_t81 : isStrT Try.prog 81 = false := by kernel_rfl
theorem has_h81 : hasU Try.prog 81 = true := by kernel_rfl
theorem has_c81 : Try.prog.cellsOf 81 = 1 := by kernel_rfl
theorem has_a81 : aggT Try.prog 81 = false := by kernel_rfl
theorem has_z81 : zbox Try.prog 81 = some (A.nfn, 8) := by kernel_rfl
theorem has_g82_0 : fld Try.prog 82 0 = some (4, 0) := by kernel_rfl
theorem has_g82_1 : fld Try.prog 82 1 = some (41, 1) := by kernel_rfl
theorem has_s82 : isSliceT Try.prog 82 = false := by kernel_rfl
theorem has_t82 : isStrT Try.prog 82 = false := by kernel_rfl
theorem has_h82 : hasU Try.prog 82 = true := by kernel_rfl
theorem has_w82 : ftl Try.prog 82 = some [(4, 0), (41, 1)] := by kernel_rfl
theorem has_c82 : Try.prog.cellsOf 82 = 5 := by kernel_rfl
theorem has_a82 : aggT Try.prog 82 = true := by kernel_rfl
theorem has_z82 : zbox Try.prog 82 = some (A.agg [A.bool false, A.int .i64 0, A.str [], A.int .i64 0, A.sl true []], 64) := by kernel_rfl
theorem has_b82 : bplan Try.prog 82 = some ([A.bool false, A.int .i64 0, A.str [], A.int .i64 0, A.sl true []], [(0, 1), (1, 4)]) := by kernel_rfl
theorem has_u83 : Try.prog.underlying 83 = some (.slice 82) := by kernel_rfl
theorem has_s83 : isSliceT Try.prog 83 = true := by kernel_rfl
theorem has_l83 : selem Try.prog 83 = 82 := by kernel_rfl
theorem has_t83 : isStrT Try.prog 83 = false := by kernel_rfl
theorem has_h83 : hasU Try.prog 83 = true := by kernel_rfl
theorem has_c83 : Try.prog.cellsOf 83 = 1 := by kernel_rfl
theorem has_a83 : aggT Try.prog 83 = false := by kernel_rfl
theorem has_z83 : zbox Try.prog 83 = some (A.sl true [], 24) := by kernel_rfl
theorem has_s84 : isSliceT Try.prog 84 = false := by kernel_rfl
theorem has_t84 : isStrT Try.prog 84 = false := by kernel_rfl
theorem has_h84 : hasU Try.prog 84 = true := by kernel_rfl
theorem has_c84 : Try.prog.cellsOf 84 = 1 := by kernel_rfl
theorem has_a84 : aggT Try.prog 84 = false := by kernel_rfl
theorem has_z84 : zbox Try.prog 84 = some (A.nfn, 8) := by kernel_rfl
theorem has_s85 : isSliceT Try.prog 85 = false := by kernel_rfl
theorem has_t85 : isStrT Try.prog 85 = false := by kernel_rfl
theorem has_h85 : hasU Try.prog 85 = true := by kernel_rfl
theorem has_c85 : Try.prog.cellsOf 85 = 1 := by kernel_rfl
theorem has_a85 : aggT Try.prog 85 = false := by kernel_rfl
theorem has_z85 : zbox Try.prog 85 = some (A.nfn, 8) := by kernel_rfl
theorem has_g86_0 : fld Try.prog 86 0 = some (4, 0) := by kernel_rfl
theorem has_g86_1 : fld Try.prog 86 1 = some (4, 1) := by kernel_rfl
theorem has_g86_2 : fld Try.prog 86 2 = some (4, 2) := by kernel_rfl
theorem has_g86_3 : fld Try.prog 86 3 = some (4, 3) := by kernel_rfl
theorem has_g86_4 : fld Try.prog 86 4 = some (4, 4) := by kernel_rfl
theorem has_g86_5 : fld Try.prog 86 5 = some (4, 5) := by kernel_rfl
theorem has_g86_6 : fld Try.prog 86 6 = some (4, 6) := by kernel_rfl
theorem has_g86_7 : fld Try.prog 86 7 = some (4, 7) := by kernel_rfl
theorem has_g86_8 : fld Try.prog 86 8 = some (4, 8) := by kernel_rfl
theorem has_s86 : isSliceT Try.prog 86 = false := by kernel_rfl
theorem has_t86 : isStrT Try.prog 86 = false := by kernel_rfl
theorem has_h86 : hasU Try.prog 86 = true := by kernel_rfl
theorem has_w86 : ftl Try.prog 86 = some [(4, 0), (4, 1), (4, 2), (4, 3), (4, 4), (4, 5), (4, 6), (4, 7), (4, 8)] := by kernel_rfl
theorem has_c86 : Try.prog.cellsOf 86 = 9 := by kernel_rfl
theorem has_a86 : aggT Try.prog 86 = true := by kernel_rfl
theorem has_z86 : zbox Try.prog 86 = some (A.agg [A.bool false, A.bool false, A.bool false, A.bool false, A.bool false, A.bool false, A.bool false, A.bool false, A.bool false], 9) := by kernel_rfl
theorem has_b86 : bplan Try.prog 86 = some ([A.bool false, A.bool false, A.bool false, A.bool false, A.bool false, A.bool false, A.bool false, A.bool false, A.bool false], [(0, 1), (1, 1), (2, 1), (3, 1), (4, 1), (5, 1), (6, 1), (7, 1), (8, 1)]) := by kernel_rfl
theorem has_e86 : eqT Try.prog 86 = some [1, 1, 1, 1, 1, 1, 1, 1, 1] := by kernel_rfl
theorem has_g87_0 : fld Try.prog 87 0 = some (4, 0) := by kernel_rfl
theorem has_g87_1 : fld Try.prog 87 1 = some (4, 1) := by kernel_rfl
theorem has_g87_2 : fld Try.prog 87 2 = some (4, 2) := by kernel_rfl
theorem has_g87_3 : fld Try.prog 87 3 = some (4, 3) := by kernel_rfl
theorem has_g87_4 : fld Try.prog 87 4 = some (4, 4) := by kernel_rfl
theorem has_g87_5 : fld Try.prog 87 5 = some (4, 5) := by kernel_rfl
theorem has_g87_6 : fld Try.prog 87 6 = some (4, 6) := by kernel_rfl
theorem has_g87_7 : fld Try.prog 87 7 = some (4, 7) := by kernel_rfl
theorem has_g87_8 : fld Try.prog 87 8 = some (4, 8) := by kernel_rfl
theorem has_s87 : isSliceT Try.prog 87 = false := by kernel_rfl
theorem has_t87 : isStrT Try.prog 87 = false := by kernel_rfl
theorem has_h87 : hasU Try.prog 87 = true := by kernel_rfl
theorem has_w87 : ftl Try.prog 87 = some [(4, 0), (4, 1), (4, 2), (4, 3), (4, 4), (4, 5), (4, 6), (4, 7), (4, 8)] := by kernel_rfl
theorem has_c87 : Try.prog.cellsOf 87 = 9 := by kernel_rfl
theorem has_a87 : aggT Try.prog 87 = true := by kernel_rfl
theorem has_z87 : zbox Try.prog 87 = some (A.agg [A.bool false, A.bool false, A.bool false, A.bool false, A.bool false, A.bool false, A.bool false, A.bool false, A.bool false], 9) := by kernel_rfl
theorem has_b87 : bplan Try.prog 87 = some ([A.bool false, A.bool false, A.bool false, A.bool false, A.bool false, A.bool false, A.bool false, A.bool false, A.bool false], [(0, 1), (1, 1), (2, 1), (3, 1), (4, 1), (5, 1), (6, 1), (7, 1), (8, 1)]) := by kernel_rfl
theorem has_e87 : eqT Try.prog 87 = some [1, 1, 1, 1, 1, 1, 1, 1, 1] := by kernel_rfl
theorem has_s89 : isSliceT Try.prog 89 = false := by kernel_rfl
theorem has_t89 : isStrT Try.prog 89 = false := by kernel_rfl
theorem has_h89 : hasU Try.prog 89 = true := by kernel_rfl
theorem has_c89 : Try.prog.cellsOf 89 = 1 := by kernel_rfl
theorem has_a89 : aggT Try.prog 89 = false := by kernel_rfl
theorem has_z89 : zbox Try.prog 89 = some (A.nfn, 8) := by kernel_rfl
theorem has_s90 : isSliceT Try.prog 90 = false := by kernel_rfl
theorem has_t90 : isStrT Try.prog 90 = false := by kernel_rfl
theorem has_h90 : hasU Try.prog 90 = true := by kernel_rfl
theorem has_c90 : Try.prog.cellsOf 90 = 1 := by kernel_rfl
theorem has_a90 : aggT Try.prog 90 = false := by kernel_rfl
theorem has_z90 : zbox Try.prog 90 = some (A.nfn, 8) := by kernel_rfl
theorem has_s91 : isSliceT Try.prog 91 = false := by kernel_rfl
theorem has_t91 : isStrT Try.prog 91 = false := by kernel_rfl
theorem has_h91 : hasU Try.prog 91 = true := by kernel_rfl
theorem has_c91 : Try.prog.cellsOf 91 = 1 := by kernel_rfl
theorem has_a91 : aggT Try.prog 91 = false := by kernel_rfl
theorem has_z91 : zbox Try.prog 91 = some (A.nfn, 8) := by kernel_rfl
theorem has_s92 : isSliceT Try.prog 92 = false := by kernel_rfl
theorem has_t92 : isStrT Try.prog 92 = false := by kernel_rfl
theorem has_h92 : hasU Try.prog 92 = true := by kernel_rfl
theorem has_c92 : Try.prog.cellsOf 92 = 1 := by kernel_rfl
theorem has_a92 : aggT Try.prog 92 = false := by kernel_rfl
theorem has_z92 : zbox Try.prog 92 = some (A.nfn, 8) := by kernel_rfl
theorem has_u93 : Try.prog.underlying 93 = some (.int .i64) := by kernel_rfl
theorem has_s93 : isSliceT Try.prog 93 = false := by kernel_rfl
theorem has_t93 : isStrT Try.prog 93 = false := by kernel_rfl
theorem has_h93 : hasU Try.prog 93 = true := by kernel_rfl
theorem has_i93 : intT Try.prog 93 = some .i64 := by kernel_rfl
theorem has_c93 : Try.prog.cellsOf 93 = 1 := by kernel_rfl
theorem has_a93 : aggT Try.prog 93 = false := by kernel_rfl
theorem has_z93 : zbox Try.prog 93 = some (A.int .i64 0, 8) := by kernel_rfl
theorem has_s95 : isSliceT Try.prog 95 = false := by kernel_rfl
theorem has_t95 : isStrT Try.prog 95 = false := by kernel_rfl
theorem has_h95 : hasU Try.prog 95 = true := by kernel_rfl
theorem has_c95 : Try.prog.cellsOf 95 = 1 := by kernel_rfl
theorem has_a95 : aggT Try.prog 95 = false := by kernel_rfl
theorem has_z95 : zbox Try.prog 95 = some (A.nfn, 8) := by kernel_rfl
theorem has_s96 : isSliceT Try.prog 96 = false := by kernel_rfl
theorem has_t96 : isStrT Try.prog 96 = false := by kernel_rfl
theorem has_h96 : hasU Try.prog 96 = true := by kernel_rfl
theorem has_c96 : Try.prog.cellsOf 96 = 1 := by kernel_rfl
theorem has_a96 : aggT Try.prog 96 = false := by kernel_rfl
theorem has_z96 : zbox Try.prog 96 = some (A.nfn, 8) := by kernel_rfl
theorem has_s97 : isSliceT Try.prog 97 = false := by kernel_rfl
theorem has_t97 : isStrT Try.prog 97 = false := by kernel_rfl
theorem has_h97 : hasU Try.prog 97 = true := by kernel_rfl
theorem has_c97 : Try.prog.cellsOf 97 = 1 := by kernel_rfl
theorem has_a97 : aggT Try.prog 97 = false := by kernel_rfl
theorem has_z97 : zbox Try.prog 97 = some (A.nfn, 8) := by kernel_rfl
theorem has_s98 : isSliceT Try.prog 98 = false := by kernel_rfl
theorem has_t98 : isStrT Try.prog 98 = false := by kernel_rfl
theorem has_h98 : hasU Try.prog 98 = true := by kernel_rfl
theorem has_c98 : Try.prog.cellsOf 98 = 1 := by kernel_rfl
theorem has_a98 : aggT Try.prog 98 = false := by kernel_rfl
theorem has_z98 : zbox Try.prog 98 = some (A.nfn, 8) := by kernel_rfl
theorem has_s100 : isSliceT Try.prog 100 = false := by kernel_rfl
theorem has_t100 : isStrT Try.prog 100 = false := by kernel_rfl
theorem has_h100 : hasU Try.prog 100 = true := by kernel_rfl
theorem has_c100 : Try.prog.cellsOf 100 = 1 := by kernel_rfl
theorem has_a100 : aggT Try.prog 100 = false := by kernel_rfl
theorem has_z100 : zbox Try.prog 100 = some (A.nfn, 8) := by kernel_rfl
theorem has_s101 : isSliceT Try.prog 101 = false := by kernel_rfl
theorem has_t101 : isStrT Try.prog 101 = false := by kernel_rfl
theorem has_h101 : hasU Try.prog 101 = true := by kernel_rfl
theorem has_c101 : Try.prog.cellsOf 101 = 1 := by kernel_rfl
theorem has_a101 : aggT Try.prog 101 = false := by kernel_rfl
theorem has_z101 : zbox Try.prog 101 = some (A.nfn, 8) := by kernel_rfl
theorem has_u102 : Try.prog.underlying 102 = some (.int .u32) := by kernel_rfl
theorem has_s102 : isSliceT Try.prog 102 = false := by kernel_rfl
theorem has_t102 : isStrT Try.prog 102 = false := by kernel_rfl
theorem has_h102 : hasU Try.prog 102 = true := by kernel_rfl
theorem has_i102 : intT Try.prog 102 = some .u32 := by kernel_rfl
theorem has_c102 : Try.prog.cellsOf 102 = 1 := by kernel_rfl
theorem has_a102 : aggT Try.prog 102 = false := by kernel_rfl
theorem has_z102 : zbox Try.prog 102 = some (A.int .u32 0, 4) := by kernel_rfl
theorem has_s103 : isSliceT Try.prog 103 = false := by kernel_rfl
theorem has_t103 : isStrT Try.prog 103 = false := by kernel_rfl
theorem has_h103 : hasU Try.prog 103 = true := by kernel_rfl
theorem has_c103 : Try.prog.cellsOf 103 = 1 := by kernel_rfl
theorem has_a103 : aggT Try.prog 103 = false := by kernel_rfl
theorem has_z103 : zbox Try.prog 103 = some (A.nfn, 8) := by kernel_rfl
theorem has_u104 : Try.prog.underlying 104 = some (.int .u64) := by kernel_rfl
theorem has_s104 : isSliceT Try.prog 104 = false := by kernel_rfl
theorem has_t104 : isStrT Try.prog 104 = false := by kernel_rfl
theorem has_h104 : hasU Try.prog 104 = true := by kernel_rfl
theorem has_i104 : intT Try.prog 104 = some .u64 := by kernel_rfl
theorem has_c104 : Try.prog.cellsOf 104 = 1 := by kernel_rfl
theorem has_a104 : aggT Try.prog 104 = false := by kernel_rfl
theorem has_z104 : zbox Try.prog 104 = some (A.int .u64 0, 8) := by kernel_rfl
theorem has_s105 : isSliceT Try.prog 105 = false := by kernel_rfl
theorem has_t105 : isStrT Try.prog 105 = false := by kernel_rfl
theorem has_h105 : hasU Try.prog 105 = true := by kernel_rfl
theorem has_c105 : Try.prog.cellsOf 105 = 1 := by kernel_rfl
theorem has_a105 : aggT Try.prog 105 = false := by kernel_rfl
theorem has_z105 : zbox Try.prog 105 = some (A.nfn, 8) := by kernel_rfl
theorem has_s106 : isSliceT Try.prog 106 = false := by kernel_rfl
theorem has_t106 : isStrT Try.prog 106 = false := by kernel_rfl
theorem has_h106 : hasU Try.prog 106 = true := by kernel_rfl
theorem has_c106 : Try.prog.cellsOf 106 = 1 := by kernel_rfl
theorem has_a106 : aggT Try.prog 106 = false := by kernel_rfl
theorem has_z106 : zbox Try.prog 106 = some (A.nfn, 8) := by kernel_rfl
theorem has_g107_0 : fld Try.prog 107 0 = some (4, 0) := by kernel_rfl
theorem has_s107 : isSliceT Try.prog 107 = false := by kernel_rfl
theorem has_t107 : isStrT Try.prog 107 = false := by kernel_rfl
theorem has_h107 : hasU Try.prog 107 = true := by kernel_rfl
theorem has_w107 : ftl Try.prog 107 = some [(4, 0)] := by kernel_rfl
theorem has_c107 : Try.prog.cellsOf 107 = 1 := by kernel_rfl
theorem has_a107 : aggT Try.prog 107 = true := by kernel_rfl
theorem has_z107 : zbox Try.prog 107 = some (A.agg [A.bool false], 1) := by kernel_rfl
theorem has_b107 : bplan Try.prog 107 = some ([A.bool false], [(0, 1)]) := by kernel_rfl
theorem has_e107 : eqT Try.prog 107 = some [1] := by kernel_rfl
theorem has_g108_0 : fld Try.prog 108 0 = some (4, 0) := by kernel_rfl
theorem has_s108 : isSliceT Try.prog 108 = false := by kernel_rfl
theorem has_t108 : isStrT Try.prog 108 = false := by kernel_rfl
theorem has_h108 : hasU Try.prog 108 = true := by kernel_rfl
theorem has_w108 : ftl Try.prog 108 = some [(4, 0)] := by kernel_rfl
theorem has_c108 : Try.prog.cellsOf 108 = 1 := by kernel_rfl
theorem has_a108 : aggT Try.prog 108 = true := by kernel_rfl
theorem has_z108 : zbox Try.prog 108 = some (A.agg [A.bool false], 1) := by kernel_rfl
theorem has_b108 : bplan Try.prog 108 = some ([A.bool false], [(0, 1)]) := by kernel_rfl
theorem has_e108 : eqT Try.prog 108 = some [1] := by kernel_rfl
theorem has_s109 : isSliceT Try.prog 109 = false := by kernel_rfl
theorem has_t109 : isStrT Try.prog 109 = false := by kernel_rfl
theorem has_h109 : hasU Try.prog 109 = true := by kernel_rfl
theorem has_c109 : Try.prog.cellsOf 109 = 1 := by kernel_rfl
theorem has_a109 : aggT Try.prog 109 = false := by kernel_rfl
theorem has_z109 : zbox Try.prog 109 = some (A.nfn, 8) := by kernel_rfl
theorem has_s110 : isSliceT Try.prog 110 = false := by kernel_rfl
theorem has_t110 : isStrT Try.prog 110 = false := by kernel_rfl
theorem has_h110 : hasU Try.prog 110 = true := by kernel_rfl
theorem has_c110 : Try.prog.cellsOf 110 = 1 := by kernel_rfl
theorem has_a110 : aggT Try.prog 110 = false := by kernel_rfl
theorem has_z110 : zbox Try.prog 110 = some (A.nfn, 8) := by kernel_rfl
theorem has_s111 : isSliceT Try.prog 111 = false := by kernel_rfl
theorem has_t111 : isStrT Try.prog 111 = false := by kernel_rfl
theorem has_h111 : hasU Try.prog 111 = true := by kernel_rfl
theorem has_c111 : Try.prog.cellsOf 111 = 1 := by kernel_rfl
theorem has_a111 : aggT Try.prog 111 = false := by kernel_rfl
theorem has_z111 : zbox Try.prog 111 = some (A.nfn, 8) := by kernel_rfl
theorem has_u112 : Try.prog.underlying 112 = some (.int .u64) := by kernel_rfl
theorem has_s112 : isSliceT Try.prog 112 = false := by kernel_rfl
theorem has_t112 : isStrT Try.prog 112 = false := by kernel_rfl
theorem has_h112 : hasU Try.prog 112 = true := by kernel_rfl
theorem has_i112 : intT Try.prog 112 = some .u64 := by kernel_rfl
theorem has_c112 : Try.prog.cellsOf 112 = 1 := by kernel_rfl
theorem has_a112 : aggT Try.prog 112 = false := by kernel_rfl
theorem has_z112 : zbox Try.prog 112 = some (A.int .u64 0, 8) := by kernel_rfl
theorem has_s113 : isSliceT Try.prog 113 = false := by kernel_rfl
theorem has_t113 : isStrT Try.prog 113 = false := by kernel_rfl
theorem has_h113 : hasU Try.prog 113 = true := by kernel_rfl
theorem has_c113 : Try.prog.cellsOf 113 = 1 := by kernel_rfl
theorem has_a113 : aggT Try.prog 113 = false := by kernel_rfl
theorem has_z113 : zbox Try.prog 113 = some (A.nfn, 8) := by kernel_rfl
theorem has_s114 : isSliceT Try.prog 114 = false := by kernel_rfl
theorem has_t114 : isStrT Try.prog 114 = false := by kernel_rfl
theorem has_h114 : hasU Try.prog 114 = true := by kernel_rfl
theorem has_c114 : Try.prog.cellsOf 114 = 1 := by kernel_rfl
theorem has_a114 : aggT Try.prog 114 = false := by kernel_rfl
theorem has_z114 : zbox Try.prog 114 = some (A.nfn, 8) := by kernel_rfl
theorem has_s115 : isSliceT Try.prog 115 = false := by kernel_rfl
theorem has_t115 : isStrT Try.prog 115 = false := by kernel_rfl
theorem has_h115 : hasU Try.prog 115 = true := by kernel_rfl
theorem has_c115 : Try.prog.cellsOf 115 = 1 := by kernel_rfl
theorem has_a115 : aggT Try.prog 115 = false := by kernel_rfl
theorem has_z115 : zbox Try.prog 115 = some (A.nfn, 8) := by kernel_rfl
theorem has_s117 : isSliceT Try.prog 117 = false := by kernel_rfl
theorem has_t117 : isStrT Try.prog 117 = false := by kernel_rfl
theorem has_h117 : hasU Try.prog 117 = true := by kernel_rfl
theorem has_c117 : Try.prog.cellsOf 117 = 1 := by kernel_rfl
theorem has_a117 : aggT Try.prog 117 = false := by kernel_rfl
theorem has_z117 : zbox Try.prog 117 = some (A.nfn, 8) := by kernel_rfl
theorem has_s118 : isSliceT Try.prog 118 = false := by kernel_rfl
theorem has_t118 : isStrT Try.prog 118 = false := by kernel_rfl
theorem has_h118 : hasU Try.prog 118 = true := by kernel_rfl
theorem has_c118 : Try.prog.cellsOf 118 = 1 := by kernel_rfl
theorem has_a118 : aggT Try.prog 118 = false := by kernel_rfl
theorem has_z118 : zbox Try.prog 118 = some (A.nfn, 8) := by kernel_rfl
theorem has_s119 : isSliceT Try.prog 119 = false := by kernel_rfl
theorem has_t119 : isStrT Try.prog 119 = false := by kernel_rfl
theorem has_h119 : hasU Try.prog 119 = true := by kernel_rfl
theorem has_c119 : Try.prog.cellsOf 119 = 1 := by kernel_rfl
theorem has_a119 : aggT Try.prog 119 = false := by kernel_rfl
theorem has_z119 : zbox Try.prog 119 = some (A.nfn, 8) := by kernel_rfl
theorem has_s120 : isSliceT Try.prog 120 = false := by kernel_rfl
theorem has_t120 : isStrT Try.prog 120 = false := by kernel_rfl
theorem has_h120 : hasU Try.prog 120 = true := by kernel_rfl
theorem has_c120 : Try.prog.cellsOf 120 = 1 := by kernel_rfl
theorem has_a120 : aggT Try.prog 120 = false := by kernel_rfl
theorem has_z120 : zbox Try.prog 120 = some (A.nfn, 8) := by kernel_rfl
theorem has_s121 : isSliceT Try.prog 121 = false := by kernel_rfl
theorem has_t121 : isStrT Try.prog 121 = false := by kernel_rfl
theorem has_h121 : hasU Try.prog 121 = true := by kernel_rfl
theorem has_c121 : Try.prog.cellsOf 121 = 1 := by kernel_rfl
theorem has_a121 : aggT Try.prog 121 = false := by kernel_rfl
theorem has_z121 : zbox Try.prog 121 = some (A.nfn, 8) := by kernel_rfl
theorem has_s124 : isSliceT Try.prog 124 = false := by kernel_rfl
theorem has_t124 : isStrT Try.prog 124 = false := by kernel_rfl
theorem has_h124 : hasU Try.prog 124 = true := by kernel_rfl
theorem has_c124 : Try.prog.cellsOf 124 = 1 := by kernel_rfl
theorem has_a124 : aggT Try.prog 124 = false := by kernel_rfl
theorem has_z124 : zbox Try.prog 124 = some (A.nfn, 8) := by kernel_rfl
theorem has_s125 : isSliceT Try.prog 125 = false := by kernel_rfl
theorem has_t125 : isStrT Try.prog 125 = false := by kernel_rfl
theorem has_h125 : hasU Try.prog 125 = true := by kernel_rfl
theorem has_c125 : Try.prog.cellsOf 125 = 1 := by kernel_rfl
theorem has_a125 : aggT Try.prog 125 = false := by kernel_rfl
theorem has_z125 : zbox Try.prog 125 = some (A.nfn, 8) := by kernel_rfl
theorem has_s126 : isSliceT Try.prog 126 = false := by kernel_rfl
theorem has_t126 : isStrT Try.prog 126 = false := by kernel_rfl
theorem has_h126 : hasU Try.prog 126 = true := by kernel_rfl
theorem has_c126 : Try.prog.cellsOf 126 = 1 := by kernel_rfl
theorem has_a126 : aggT Try.prog 126 = false := by kernel_rfl
theorem has_z126 : zbox Try.prog 126 = some (A.nfn, 8) := by kernel_rfl
theorem has_s127 : isSliceT Try.prog 127 = false := by kernel_rfl
theorem has_t127 : isStrT Try.prog 127 = false := by kernel_rfl
theorem has_h127 : hasU Try.prog 127 = true := by kernel_rfl
theorem has_c127 : Try.prog.cellsOf 127 = 1 := by kernel_rfl
theorem has_a127 : aggT Try.prog 127 = false := by kernel_rfl
theorem has_z127 : zbox Try.prog 127 = some (A.nfn, 8) := by kernel_rfl
theorem has_s129 : isSliceT Try.prog 129 = false := by kernel_rfl
theorem has_t129 : isStrT Try.prog 129 = false := by kernel_rfl
theorem has_h129 : hasU Try.prog 129 = true := by kernel_rfl
theorem has_c129 : Try.prog.cellsOf 129 = 1 := by kernel_rfl
theorem has_a129 : aggT Try.prog 129 = false := by kernel_rfl
theorem has_z129 : zbox Try.prog 129 = some (A.nfn, 8) := by kernel_rfl
theorem has_s130 : isSliceT Try.prog 130 = false := by kernel_rfl
theorem has_t130 : isStrT Try.prog 130 = false := by kernel_rfl
theorem has_h130 : hasU Try.prog 130 = true := by kernel_rfl
theorem has_c130 : Try.prog.cellsOf 130 = 1 := by kernel_rfl
theorem has_a130 : aggT Try.prog 130 = false := by kernel_rfl
theorem has_z130 : zbox Try.prog 130 = some (A.nfn, 8) := by kernel_rfl
theorem has_u133 : Try.prog.underlying 133 = some (.array 0 16) := by kernel_rfl
theorem has_s133 : isSliceT Try.prog 133 = false := by kernel_rfl
theorem has_t133 : isStrT Try.prog 133 = false := by kernel_rfl
theorem has_r133 : arrT Try.prog 133 = some (0, 16) := by kernel_rfl
theorem has_h133 : hasU Try.prog 133 = true := by kernel_rfl
theorem has_n133 : bplan Try.prog 133 = none := by kernel_rfl
theorem has_c133 : Try.prog.cellsOf 133 = 0 := by kernel_rfl
theorem has_a133 : aggT Try.prog 133 = true := by kernel_rfl
theorem has_z133 : zbox Try.prog 133 = some (A.agg [], 0) := by kernel_rfl
theorem has_b133 : aplan Try.prog 133 = some ([], 1) := by kernel_rfl
theorem has_s136 : isSliceT Try.prog 136 = false := by kernel_rfl
theorem has_t136 : isStrT Try.prog 136 = false := by kernel_rfl
theorem has_h136 : hasU Try.prog 136 = true := by kernel_rfl
theorem has_c136 : Try.prog.cellsOf 136 = 1 := by kernel_rfl
theorem has_a136 : aggT Try.prog 136 = false := by kernel_rfl
theorem has_z136 : zbox Try.prog 136 = some (A.nfn, 8) := by kernel_rfl
theorem has_s139 : isSliceT Try.prog 139 = false := by kernel_rfl
theorem has_t139 : isStrT Try.prog 139 = false := by kernel_rfl
theorem has_h139 : hasU Try.prog 139 = true := by kernel_rfl
theorem has_c139 : Try.prog.cellsOf 139 = 1 := by kernel_rfl
theorem has_a139 : aggT Try.prog 139 = false := by kernel_rfl
theorem has_z139 : zbox Try.prog 139 = some (A.nfn, 8) := by kernel_rfl
theorem has_g143_0 : fld Try.prog 143 0 = some (12, 0) := by kernel_rfl
theorem has_g143_1 : fld Try.prog 143 1 = some (12, 1) := by kernel_rfl
theorem has_g143_2 : fld Try.prog 143 2 = some (102, 2) := by kernel_rfl
theorem has_g143_3 : fld Try.prog 143 3 = some (137, 3) := by kernel_rfl
theorem has_g143_4 : fld Try.prog 143 4 = some (5, 4) := by kernel_rfl
theorem has_g143_5 : fld Try.prog 143 5 = some (5, 5) := by kernel_rfl
theorem has_g143_6 : fld Try.prog 143 6 = some (138, 6) := by kernel_rfl
theorem has_g143_7 : fld Try.prog 143 7 = some (139, 7) := by kernel_rfl
theorem has_g143_8 : fld Try.prog 143 8 = some (140, 8) := by kernel_rfl
theorem has_g143_9 : fld Try.prog 143 9 = some (141, 9) := by kernel_rfl
theorem has_g143_10 : fld Try.prog 143 10 = some (142, 10) := by kernel_rfl
theorem has_s143 : isSliceT Try.prog 143 = false := by kernel_rfl
theorem has_t143 : isStrT Try.prog 143 = false := by kernel_rfl
theorem has_h143 : hasU Try.prog 143 = true := by kernel_rfl
theorem has_w143 : ftl Try.prog 143 = some [(12, 0), (12, 1), (102, 2), (137, 3), (5, 4), (5, 5), (138, 6), (139, 7), (140, 8), (141, 9), (142, 10)] := by kernel_rfl
theorem has_c143 : Try.prog.cellsOf 143 = 11 := by kernel_rfl
theorem has_a143 : aggT Try.prog 143 = true := by kernel_rfl
theorem has_z143 : zbox Try.prog 143 = some (A.agg [A.int .u64 0, A.int .u64 0, A.int .u32 0, A.int .u8 0, A.int .u8 0, A.int .u8 0, A.int .u8 0, A.nfn, A.nptr, A.int .i32 0, A.int .i32 0], 48) := by kernel_rfl
theorem has_b143 : bplan Try.prog 143 = some ([A.int .u64 0, A.int .u64 0, A.int .u32 0, A.int .u8 0, A.int .u8 0, A.int .u8 0, A.int .u8 0, A.nfn, A.nptr, A.int .i32 0, A.int .i32 0], [(0, 1), (1, 1), (2, 1), (3, 1), (4, 1), (5, 1), (6, 1), (7, 1), (8, 1), (9, 1), (10, 1)]) := by kernel_rfl
theorem has_q0 : Try.prog.cellsOf 4294967295 = 0 := by kernel_rfl
theorem has_mo : Try.prog.follows .mixedOrders = true := by kernel_rfl
instance facts : Facts Try.prog where
  s1 := has_s1
  t1 := has_t1
  h1 := has_h1
  c1 := has_c1
  a1 := has_a1
  z1 := has_z1
  u2 := has_u2
  s2 := has_s2
  t2 := has_t2
  h2 := has_h2
  i2 := has_i2
  c2 := has_c2
  a2 := has_a2
  z2 := has_z2
  u3 := has_u3
  s3 := has_s3
  t3 := has_t3
  h3 := has_h3
  i3 := has_i3
  c3 := has_c3
  a3 := has_a3
  z3 := has_z3
  u4 := has_u4
  s4 := has_s4
  t4 := has_t4
  h4 := has_h4
  d4 := has_d4
  c4 := has_c4
  a4 := has_a4
  z4 := has_z4
  u5 := has_u5
  s5 := has_s5
  t5 := has_t5
  h5 := has_h5
  i5 := has_i5
  c5 := has_c5
  a5 := has_a5
  z5 := has_z5
  u9 := has_u9
  s9 := has_s9
  t9 := has_t9
  h9 := has_h9
  c9 := has_c9
  a9 := has_a9
  z9 := has_z9
  u12 := has_u12
  s12 := has_s12
  t12 := has_t12
  h12 := has_h12
  i12 := has_i12
  c12 := has_c12
  a12 := has_a12
  z12 := has_z12
  u21 := has_u21
  s21 := has_s21
  t21 := has_t21
  h21 := has_h21
  i21 := has_i21
  c21 := has_c21
  a21 := has_a21
  z21 := has_z21
  u22 := has_u22
  s22 := has_s22
  l22 := has_l22
  t22 := has_t22
  h22 := has_h22
  c22 := has_c22
  a22 := has_a22
  z22 := has_z22
  s23 := has_s23
  t23 := has_t23
  h23 := has_h23
  c23 := has_c23
  a23 := has_a23
  z23 := has_z23
  s24 := has_s24
  t24 := has_t24
  h24 := has_h24
  c24 := has_c24
  a24 := has_a24
  z24 := has_z24
  u25 := has_u25
  s25 := has_s25
  t25 := has_t25
  h25 := has_h25
  i25 := has_i25
  c25 := has_c25
  a25 := has_a25
  z25 := has_z25
  s26 := has_s26
  t26 := has_t26
  h26 := has_h26
  c26 := has_c26
  a26 := has_a26
  z26 := has_z26
  s27 := has_s27
  t27 := has_t27
  h27 := has_h27
  c27 := has_c27
  a27 := has_a27
  z27 := has_z27
  s28 := has_s28
  t28 := has_t28
  h28 := has_h28
  c28 := has_c28
  a28 := has_a28
  z28 := has_z28
  u29 := has_u29
  s29 := has_s29
  l29 := has_l29
  t29 := has_t29
  h29 := has_h29
  c29 := has_c29
  a29 := has_a29
  z29 := has_z29
  s30 := has_s30
  t30 := has_t30
  h30 := has_h30
  c30 := has_c30
  a30 := has_a30
  z30 := has_z30
  s31 := has_s31
  t31 := has_t31
  h31 := has_h31
  c31 := has_c31
  a31 := has_a31
  z31 := has_z31
  u32 := has_u32
  s32 := has_s32
  l32 := has_l32
  t32 := has_t32
  h32 := has_h32
  c32 := has_c32
  a32 := has_a32
  z32 := has_z32
  s33 := has_s33
  t33 := has_t33
  h33 := has_h33
  c33 := has_c33
  a33 := has_a33
  z33 := has_z33
  s34 := has_s34
  t34 := has_t34
  h34 := has_h34
  c34 := has_c34
  a34 := has_a34
  z34 := has_z34
  s35 := has_s35
  t35 := has_t35
  h35 := has_h35
  c35 := has_c35
  a35 := has_a35
  z35 := has_z35
  s36 := has_s36
  t36 := has_t36
  h36 := has_h36
  c36 := has_c36
  a36 := has_a36
  z36 := has_z36
  u37 := has_u37
  s37 := has_s37
  t37 := has_t37
  h37 := has_h37
  i37 := has_i37
  c37 := has_c37
  a37 := has_a37
  z37 := has_z37
  u38 := has_u38
  s38 := has_s38
  t38 := has_t38
  h38 := has_h38
  i38 := has_i38
  c38 := has_c38
  a38 := has_a38
  z38 := has_z38
  u39 := has_u39
  s39 := has_s39
  l39 := has_l39
  t39 := has_t39
  h39 := has_h39
  c39 := has_c39
  a39 := has_a39
  z39 := has_z39
  g40_0 := has_g40_0
  g40_1 := has_g40_1
  g40_2 := has_g40_2
  g40_3 := has_g40_3
  s40 := has_s40
  t40 := has_t40
  h40 := has_h40
  w40 := has_w40
  c40 := has_c40
  a40 := has_a40
  z40 := has_z40
  b40 := has_b40
  g41_0 := has_g41_0
  g41_1 := has_g41_1
  g41_2 := has_g41_2
  g41_3 := has_g41_3
  s41 := has_s41
  t41 := has_t41
  h41 := has_h41
  w41 := has_w41
  c41 := has_c41
  a41 := has_a41
  z41 := has_z41
  b41 := has_b41
  u42 := has_u42
  s42 := has_s42
  t42 := has_t42
  h42 := has_h42
  i42 := has_i42
  c42 := has_c42
  a42 := has_a42
  z42 := has_z42
  u43 := has_u43
  s43 := has_s43
  l43 := has_l43
  t43 := has_t43
  h43 := has_h43
  c43 := has_c43
  a43 := has_a43
  z43 := has_z43
  g44_0 := has_g44_0
  g44_1 := has_g44_1
  g44_2 := has_g44_2
  g44_3 := has_g44_3
  g44_4 := has_g44_4
  g44_5 := has_g44_5
  s44 := has_s44
  t44 := has_t44
  h44 := has_h44
  w44 := has_w44
  c44 := has_c44
  a44 := has_a44
  z44 := has_z44
  b44 := has_b44
  g45_0 := has_g45_0
  g45_1 := has_g45_1
  g45_2 := has_g45_2
  g45_3 := has_g45_3
  g45_4 := has_g45_4
  g45_5 := has_g45_5
  s45 := has_s45
  t45 := has_t45
  h45 := has_h45
  w45 := has_w45
  c45 := has_c45
  a45 := has_a45
  z45 := has_z45
  b45 := has_b45
  g46_0 := has_g46_0
  g46_1 := has_g46_1
  g46_2 := has_g46_2
  g46_3 := has_g46_3
  g46_4 := has_g46_4
  g46_5 := has_g46_5
  g46_6 := has_g46_6
  g46_7 := has_g46_7
  g46_8 := has_g46_8
  g46_9 := has_g46_9
  s46 := has_s46
  t46 := has_t46
  h46 := has_h46
  w46 := has_w46
  c46 := has_c46
  a46 := has_a46
  z46 := has_z46
  b46 := has_b46
  g47_0 := has_g47_0
  g47_1 := has_g47_1
  g47_2 := has_g47_2
  g47_3 := has_g47_3
  g47_4 := has_g47_4
  g47_5 := has_g47_5
  g47_6 := has_g47_6
  g47_7 := has_g47_7
  g47_8 := has_g47_8
  g47_9 := has_g47_9
  s47 := has_s47
  t47 := has_t47
  h47 := has_h47
  w47 := has_w47
  c47 := has_c47
  a47 := has_a47
  z47 := has_z47
  b47 := has_b47
  s48 := has_s48
  t48 := has_t48
  h48 := has_h48
  c48 := has_c48
  a48 := has_a48
  z48 := has_z48
  s49 := has_s49
  t49 := has_t49
  h49 := has_h49
  c49 := has_c49
  a49 := has_a49
  z49 := has_z49
  s50 := has_s50
  t50 := has_t50
  h50 := has_h50
  c50 := has_c50
  a50 := has_a50
  z50 := has_z50
  u51 := has_u51
  s51 := has_s51
  t51 := has_t51
  r51 := has_r51
  h51 := has_h51
  n51 := has_n51
  c51 := has_c51
  a51 := has_a51
  z51 := has_z51
  e51 := has_e51
  b51 := has_b51
  s52 := has_s52
  t52 := has_t52
  h52 := has_h52
  c52 := has_c52
  a52 := has_a52
  z52 := has_z52
  s53 := has_s53
  t53 := has_t53
  h53 := has_h53
  c53 := has_c53
  a53 := has_a53
  z53 := has_z53
  s54 := has_s54
  t54 := has_t54
  h54 := has_h54
  c54 := has_c54
  a54 := has_a54
  z54 := has_z54
  s55 := has_s55
  t55 := has_t55
  h55 := has_h55
  c55 := has_c55
  a55 := has_a55
  z55 := has_z55
  s57 := has_s57
  t57 := has_t57
  h57 := has_h57
  c57 := has_c57
  a57 := has_a57
  z57 := has_z57
  s58 := has_s58
  t58 := has_t58
  h58 := has_h58
  c58 := has_c58
  a58 := has_a58
  z58 := has_z58
  s59 := has_s59
  t59 := has_t59
  h59 := has_h59
  c59 := has_c59
  a59 := has_a59
  z59 := has_z59
  s60 := has_s60
  t60 := has_t60
  h60 := has_h60
  c60 := has_c60
  a60 := has_a60
  z60 := has_z60
  s61 := has_s61
  t61 := has_t61
  h61 := has_h61
  c61 := has_c61
  a61 := has_a61
  z61 := has_z61
  s62 := has_s62
  t62 := has_t62
  h62 := has_h62
  c62 := has_c62
  a62 := has_a62
  z62 := has_z62
  s63 := has_s63
  t63 := has_t63
  h63 := has_h63
  c63 := has_c63
  a63 := has_a63
  z63 := has_z63
  s64 := has_s64
  t64 := has_t64
  h64 := has_h64
  c64 := has_c64
  a64 := has_a64
  z64 := has_z64
  s65 := has_s65
  t65 := has_t65
  h65 := has_h65
  c65 := has_c65
  a65 := has_a65
  z65 := has_z65
  g66_0 := has_g66_0
  g66_1 := has_g66_1
  g66_2 := has_g66_2
  g66_3 := has_g66_3
  g66_4 := has_g66_4
  g66_5 := has_g66_5
  g66_6 := has_g66_6
  g66_7 := has_g66_7
  g66_8 := has_g66_8
  s66 := has_s66
  t66 := has_t66
  h66 := has_h66
  w66 := has_w66
  c66 := has_c66
  a66 := has_a66
  z66 := has_z66
  b66 := has_b66
  e66 := has_e66
  g67_0 := has_g67_0
  g67_1 := has_g67_1
  g67_2 := has_g67_2
  g67_3 := has_g67_3
  g67_4 := has_g67_4
  g67_5 := has_g67_5
  g67_6 := has_g67_6
  g67_7 := has_g67_7
  g67_8 := has_g67_8
  s67 := has_s67
  t67 := has_t67
  h67 := has_h67
  w67 := has_w67
  c67 := has_c67
  a67 := has_a67
  z67 := has_z67
  b67 := has_b67
  e67 := has_e67
  s69 := has_s69
  t69 := has_t69
  h69 := has_h69
  c69 := has_c69
  a69 := has_a69
  z69 := has_z69
  s70 := has_s70
  t70 := has_t70
  h70 := has_h70
  c70 := has_c70
  a70 := has_a70
  z70 := has_z70
  s71 := has_s71
  t71 := has_t71
  h71 := has_h71
  c71 := has_c71
  a71 := has_a71
  z71 := has_z71
  s72 := has_s72
  t72 := has_t72
  h72 := has_h72
  c72 := has_c72
  a72 := has_a72
  z72 := has_z72
  s73 := has_s73
  t73 := has_t73
  h73 := has_h73
  c73 := has_c73
  a73 := has_a73
  z73 := has_z73
  s74 := has_s74
  t74 := has_t74
  h74 := has_h74
  c74 := has_c74
  a74 := has_a74
  z74 := has_z74
  u75 := has_u75
  s75 := has_s75
  t75 := has_t75
  h75 := has_h75
  i75 := has_i75
  c75 := has_c75
  a75 := has_a75
  z75 := has_z75
  s76 := has_s76
  t76 := has_t76
  h76 := has_h76
  c76 := has_c76
  a76 := has_a76
  z76 := has_z76
  s77 := has_s77
  t77 := has_t77
  h77 := has_h77
  c77 := has_c77
  a77 := has_a77
  z77 := has_z77
  s78 := has_s78
  t78 := has_t78
  h78 := has_h78
  c78 := has_c78
  a78 := has_a78
  z78 := has_z78
  g79_0 := has_g79_0
  g79_1 := has_g79_1
  s79 := has_s79
  t79 := has_t79
  h79 := has_h79
  w79 := has_w79
  c79 := has_c79
  a79 := has_a79
  z79 := has_z79
  b79 := has_b79
  e79 := has_e79
  u80 := has_u80
  s80 := has_s80
  l80 := has_l80
  t80 := has_t80
  h80 := has_h80
  c80 := has_c80
  a80 := has_a80
  z80 := has_z80
  s81 := has_s81
  t81 := has_t81
  h81 := has_h81
  c81 := has_c81
  a81 := has_a81
  z81 := has_z81
  g82_0 := has_g82_0
  g82_1 := has_g82_1
  s82 := has_s82
  t82 := has_t82
  h82 := has_h82
  w82 := has_w82
  c82 := has_c82
  a82 := has_a82
  z82 := has_z82
  b82 := has_b82
  u83 := has_u83
  s83 := has_s83
  l83 := has_l83
  t83 := has_t83
  h83 := has_h83
  c83 := has_c83
  a83 := has_a83
  z83 := has_z83
  s84 := has_s84
  t84 := has_t84
  h84 := has_h84
  c84 := has_c84
  a84 := has_a84
  z84 := has_z84
  s85 := has_s85
  t85 := has_t85
  h85 := has_h85
  c85 := has_c85
  a85 := has_a85
  z85 := has_z85
  g86_0 := has_g86_0
  g86_1 := has_g86_1
  g86_2 := has_g86_2
  g86_3 := has_g86_3
  g86_4 := has_g86_4
  g86_5 := has_g86_5
  g86_6 := has_g86_6
  g86_7 := has_g86_7
  g86_8 := has_g86_8
  s86 := has_s86
  t86 := has_t86
  h86 := has_h86
  w86 := has_w86
  c86 := has_c86
  a86 := has_a86
  z86 := has_z86
  b86 := has_b86
  e86 := has_e86
  g87_0 := has_g87_0
  g87_1 := has_g87_1
  g87_2 := has_g87_2
  g87_3 := has_g87_3
  g87_4 := has_g87_4
  g87_5 := has_g87_5
  g87_6 := has_g87_6
  g87_7 := has_g87_7
  g87_8 := has_g87_8
  s87 := has_s87
  t87 := has_t87
  h87 := has_h87
  w87 := has_w87
  c87 := has_c87
  a87 := has_a87
  z87 := has_z87
  b87 := has_b87
  e87 := has_e87
  s89 := has_s89
  t89 := has_t89
  h89 := has_h89
  c89 := has_c89
  a89 := has_a89
  z89 := has_z89
  s90 := has_s90
  t90 := has_t90
  h90 := has_h90
  c90 := has_c90
  a90 := has_a90
  z90 := has_z90
  s91 := has_s91
  t91 := has_t91
  h91 := has_h91
  c91 := has_c91
  a91 := has_a91
  z91 := has_z91
  s92 := has_s92
  t92 := has_t92
  h92 := has_h92
  c92 := has_c92
  a92 := has_a92
  z92 := has_z92
  u93 := has_u93
  s93 := has_s93
  t93 := has_t93
  h93 := has_h93
  i93 := has_i93
  c93 := has_c93
  a93 := has_a93
  z93 := has_z93
  s95 := has_s95
  t95 := has_t95
  h95 := has_h95
  c95 := has_c95
  a95 := has_a95
  z95 := has_z95
  s96 := has_s96
  t96 := has_t96
  h96 := has_h96
  c96 := has_c96
  a96 := has_a96
  z96 := has_z96
  s97 := has_s97
  t97 := has_t97
  h97 := has_h97
  c97 := has_c97
  a97 := has_a97
  z97 := has_z97
  s98 := has_s98
  t98 := has_t98
  h98 := has_h98
  c98 := has_c98
  a98 := has_a98
  z98 := has_z98
  s100 := has_s100
  t100 := has_t100
  h100 := has_h100
  c100 := has_c100
  a100 := has_a100
  z100 := has_z100
  s101 := has_s101
  t101 := has_t101
  h101 := has_h101
  c101 := has_c101
  a101 := has_a101
  z101 := has_z101
  u102 := has_u102
  s102 := has_s102
  t102 := has_t102
  h102 := has_h102
  i102 := has_i102
  c102 := has_c102
  a102 := has_a102
  z102 := has_z102
  s103 := has_s103
  t103 := has_t103
  h103 := has_h103
  c103 := has_c103
  a103 := has_a103
  z103 := has_z103
  u104 := has_u104
  s104 := has_s104
  t104 := has_t104
  h104 := has_h104
  i104 := has_i104
  c104 := has_c104
  a104 := has_a104
  z104 := has_z104
  s105 := has_s105
  t105 := has_t105
  h105 := has_h105
  c105 := has_c105
  a105 := has_a105
  z105 := has_z105
  s106 := has_s106
  t106 := has_t106
  h106 := has_h106
  c106 := has_c106
  a106 := has_a106
  z106 := has_z106
  g107_0 := has_g107_0
  s107 := has_s107
  t107 := has_t107
  h107 := has_h107
  w107 := has_w107
  c107 := has_c107
  a107 := has_a107
  z107 := has_z107
  b107 := has_b107
  e107 := has_e107
  g108_0 := has_g108_0
  s108 := has_s108
  t108 := has_t108
  h108 := has_h108
  w108 := has_w108
  c108 := has_c108
  a108 := has_a108
  z108 := has_z108
  b108 := has_b108
  e108 := has_e108
  s109 := has_s109
  t109 := has_t109
  h109 := has_h109
  c109 := has_c109
  a109 := has_a109
  z109 := has_z109
  s110 := has_s110
  t110 := has_t110
  h110 := has_h110
  c110 := has_c110
  a110 := has_a110
  z110 := has_z110
  s111 := has_s111
  t111 := has_t111
  h111 := has_h111
  c111 := has_c111
  a111 := has_a111
  z111 := has_z111
  u112 := has_u112
  s112 := has_s112
  t112 := has_t112
  h112 := has_h112
  i112 := has_i112
  c112 := has_c112
  a112 := has_a112
  z112 := has_z112
  s113 := has_s113
  t113 := has_t113
  h113 := has_h113
  c113 := has_c113
  a113 := has_a113
  z113 := has_z113
  s114 := has_s114
  t114 := has_t114
  h114 := has_h114
  c114 := has_c114
  a114 := has_a114
  z114 := has_z114
  s115 := has_s115
  t115 := has_t115
  h115 := has_h115
  c115 := has_c115
  a115 := has_a115
  z115 := has_z115
  s117 := has_s117
  t117 := has_t117
  h117 := has_h117
  c117 := has_c117
  a117 := has_a117
  z117 := has_z117
  s118 := has_s118
  t118 := has_t118
  h118 := has_h118
  c118 := has_c118
  a118 := has_a118
  z118 := has_z118
  s119 := has_s119
  t119 := has_t119
  h119 := has_h119
  c119 := has_c119
  a119 := has_a119
  z119 := has_z119
  s120 := has_s120
  t120 := has_t120
  h120 := has_h120
  c120 := has_c120
  a120 := has_a120
  z120 := has_z120
  s121 := has_s121
  t121 := has_t121
  h121 := has_h121
  c121 := has_c121
  a121 := has_a121
  z121 := has_z121
  s124 := has_s124
  t124 := has_t124
  h124 := has_h124
  c124 := has_c124
  a124 := has_a124
  z124 := has_z124
  s125 := has_s125
  t125 := has_t125
  h125 := has_h125
  c125 := has_c125
  a125 := has_a125
  z125 := has_z125
  s126 := has_s126
  t126 := has_t126
  h126 := has_h126
  c126 := has_c126
  a126 := has_a126
  z126 := has_z126
  s127 := has_s127
  t127 := has_t127
  h127 := has_h127
  c127 := has_c127
  a127 := has_a127
  z127 := has_z127
  s129 := has_s129
  t129 := has_t129
  h129 := has_h129
  c129 := has_c129
  a129 := has_a129
  z129 := has_z129
  s130 := has_s130
  t130 := has_t130
  h130 := has_h130
  c130 := has_c130
  a130 := has_a130
  z130 := has_z130
  u133 := has_u133
  s133 := has_s133
  t133 := has_t133
  r133 := has_r133
  h133 := has_h133
  n133 := has_n133
  c133 := has_c133
  a133 := has_a133
  z133 := has_z133
  b133 := has_b133
  s136 := has_s136
  t136 := has_t136
  h136 := has_h136
  c136 := has_c136
  a136 := has_a136
  z136 := has_z136
  s139 := has_s139
  t139 := has_t139
  h139 := has_h139
  c139 := has_c139
  a139 := has_a139
  z139 := has_z139
  g143_0 := has_g143_0
  g143_1 := has_g143_1
  g143_2 := has_g143_2
  g143_3 := has_g143_3
  g143_4 := has_g143_4
  g143_5 := has_g143_5
  g143_6 := has_g143_6
  g143_7 := has_g143_7
  g143_8 := has_g143_8
  g143_9 := has_g143_9
  g143_10 := has_g143_10
  s143 := has_s143
  t143 := has_t143
  h143 := has_h143
  w143 := has_w143
  c143 := has_c143
  a143 := has_a143
  z143 := has_z143
  b143 := has_b143
  q0 := has_q0
  mo := has_mo
  f0 := Try.func0
  f1 := Try.func1
  f2 := Try.func2
  f3 := Try.func3
  f4 := Try.func4
  f5 := Try.func5
  f6 := Try.func6
  f7 := Try.func7
  f8 := Try.func8
  f9 := Try.func9
  f10 := Try.func10
  f11 := Try.func11
  f12 := Try.func12
  f13 := Try.func13
  f14 := Try.func14
  f15 := Try.func15
  f16 := Try.func16
  f17 := Try.func17
  f18 := Try.func18
  f19 := Try.func19
  f20 := Try.func20
  f21 := Try.func21
  f22 := Try.func22
  f23 := Try.func23
  f24 := Try.func24
  f25 := Try.func25
  f26 := Try.func26
  f27 := Try.func27
  f28 := Try.func28
  f29 := Try.func29
  f30 := Try.func30
  f31 := Try.func31
  f32 := Try.func32
  f33 := Try.func33
  f34 := Try.func34
  f35 := Try.func35
  f36 := Try.func36
  f37 := Try.func37
  f38 := Try.func38
  f39 := Try.func39
  f40 := Try.func40
  f41 := Try.func41
  f42 := Try.func42
  f43 := Try.func43
  f44 := Try.func44
  f45 := Try.func45
  f46 := Try.func46
  f47 := Try.func47
  f48 := Try.func48
  f49 := Try.func49
  f50 := Try.func50
  f51 := Try.func51
  f52 := Try.func52
  f53 := Try.func53
  f54 := Try.func54
  f55 := Try.func55
  f56 := Try.func56
  f57 := Try.func57
  f58 := Try.func58
  f59 := Try.func59
  f60 := Try.func60
  f61 := Try.func61
  f62 := Try.func62
  f63 := Try.func63
  f64 := Try.func64
  f65 := Try.func65
  f66 := Try.func66
  f67 := Try.func67
  f68 := Try.func68
  f69 := Try.func69
  f70 := Try.func70
  f71 := Try.func71
  f72 := Try.func72
  f73 := Try.func73
  f74 := Try.func74
  f75 := Try.func75
  f76 := Try.func76
  f77 := Try.func77
  f78 := Try.func78
  f79 := Try.func79
  f80 := Try.func80
  f81 := Try.func81
  f82 := Try.func82
  f83 := Try.func83
  f84 := Try.func84
  f85 := Try.func85
  f86 := Try.func86
  f87 := Try.func87
  f88 := Try.func88
  f89 := Try.func89
  f90 := Try.func90
  f91 := Try.func91
  f92 := Try.func92
  f93 := Try.func93
  f94 := Try.func94
  f95 := Try.func95
  f96 := Try.func96
  f97 := Try.func97
  f98 := Try.func98
  f99 := Try.func99
  f100 := Try.func100
  f101 := Try.func101
  f102 := Try.func102
  f103 := Try.func103
  f104 := Try.func104
  f105 := Try.func105
  f106 := Try.func106
  f107 := Try.func107
  f108 := Try.func108
  f109 := Try.func109
  f110 := Try.func110
  f111 := Try.func111
  f112 := Try.func112
  f113 := Try.func113
  f114 := Try.func114
  f115 := Try.func115
  f116 := Try.func116
  f117 := Try.func117
  f118 := Try.func118
  f119 := Try.func119
  f120 := Try.func120
  f121 := Try.func121
  f122 := Try.func122
  f123 := Try.func123
  f124 := Try.func124
  f125 := Try.func125
  f126 := Try.func126
  f127 := Try.func127
  f128 := Try.func128
  f129 := Try.func129
  f130 := Try.func130
  f131 := Try.func131
end Go.Proofs.Ytadllkhmihbfhaa
