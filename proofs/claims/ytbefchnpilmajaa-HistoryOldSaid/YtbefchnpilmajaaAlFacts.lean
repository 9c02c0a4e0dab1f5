/- The facts about types and functions that the walks of this seat use, and that its program has them. -/
import Derived.Test.YtbefchnpilmajaaAlQuiet
import Derived.Test.YtbefchnpilmajaaProg
import Derived.KernelRfl
namespace Go.Proofs.Ytbefchnpilmajaa
open Go.AL

class Facts (P : Program) : Prop where
  u2 : P.underlying 2 = some (.int .i64)
  s2 : isSliceT P 2 = false
  t2 : isStrT P 2 = false
  h2 : hasU P 2 = true
  i2 : intT P 2 = some .i64
  c2 : P.cellsOf 2 = 1
  a2 : aggT P 2 = false
  z2 : zbox P 2 = some (A.int .i64 0, 8)
  u3 : P.underlying 3 = some (.int .i64)
  s3 : isSliceT P 3 = false
  t3 : isStrT P 3 = false
  h3 : hasU P 3 = true
  i3 : intT P 3 = some .i64
  c3 : P.cellsOf 3 = 1
  a3 : aggT P 3 = false
  z3 : zbox P 3 = some (A.int .i64 0, 8)
  u4 : P.underlying 4 = some (.bool)
  s4 : isSliceT P 4 = false
  t4 : isStrT P 4 = false
  h4 : hasU P 4 = true
  d4 : isBoolT P 4 = true
  c4 : P.cellsOf 4 = 1
  a4 : aggT P 4 = false
  z4 : zbox P 4 = some (A.bool false, 1)
  u5 : P.underlying 5 = some (.int .u8)
  s5 : isSliceT P 5 = false
  t5 : isStrT P 5 = false
  h5 : hasU P 5 = true
  i5 : intT P 5 = some .u8
  c5 : P.cellsOf 5 = 1
  a5 : aggT P 5 = false
  z5 : zbox P 5 = some (A.int .u8 0, 1)
  u9 : P.underlying 9 = some (.string)
  s9 : isSliceT P 9 = false
  t9 : isStrT P 9 = true
  h9 : hasU P 9 = true
  c9 : P.cellsOf 9 = 1
  a9 : aggT P 9 = false
  z9 : zbox P 9 = some (A.str [], 16)
  u12 : P.underlying 12 = some (.int .u64)
  s12 : isSliceT P 12 = false
  t12 : isStrT P 12 = false
  h12 : hasU P 12 = true
  i12 : intT P 12 = some .u64
  c12 : P.cellsOf 12 = 1
  a12 : aggT P 12 = false
  z12 : zbox P 12 = some (A.int .u64 0, 8)
  u21 : P.underlying 21 = some (.int .i32)
  s21 : isSliceT P 21 = false
  t21 : isStrT P 21 = false
  h21 : hasU P 21 = true
  i21 : intT P 21 = some .i32
  c21 : P.cellsOf 21 = 1
  a21 : aggT P 21 = false
  z21 : zbox P 21 = some (A.int .i32 0, 4)
  u22 : P.underlying 22 = some (.slice 40)
  s22 : isSliceT P 22 = true
  l22 : selem P 22 = 40
  t22 : isStrT P 22 = false
  h22 : hasU P 22 = true
  c22 : P.cellsOf 22 = 1
  a22 : aggT P 22 = false
  z22 : zbox P 22 = some (A.sl true [], 24)
  u23 : P.underlying 23 = some (.int .i64)
  s23 : isSliceT P 23 = false
  t23 : isStrT P 23 = false
  h23 : hasU P 23 = true
  i23 : intT P 23 = some .i64
  c23 : P.cellsOf 23 = 1
  a23 : aggT P 23 = false
  z23 : zbox P 23 = some (A.int .i64 0, 8)
  u24 : P.underlying 24 = some (.slice 3)
  s24 : isSliceT P 24 = true
  l24 : selem P 24 = 3
  t24 : isStrT P 24 = false
  h24 : hasU P 24 = true
  c24 : P.cellsOf 24 = 1
  a24 : aggT P 24 = false
  z24 : zbox P 24 = some (A.sl true [], 24)
  g25_0 : fld P 25 0 = some (3, 0)
  g25_1 : fld P 25 1 = some (3, 1)
  g25_2 : fld P 25 2 = some (3, 2)
  g25_3 : fld P 25 3 = some (3, 3)
  g25_4 : fld P 25 4 = some (3, 4)
  g25_5 : fld P 25 5 = some (23, 5)
  g25_6 : fld P 25 6 = some (3, 6)
  g25_7 : fld P 25 7 = some (3, 7)
  g25_8 : fld P 25 8 = some (24, 8)
  s25 : isSliceT P 25 = false
  t25 : isStrT P 25 = false
  h25 : hasU P 25 = true
  w25 : ftl P 25 = some [(3, 0), (3, 1), (3, 2), (3, 3), (3, 4), (23, 5), (3, 6), (3, 7), (24, 8)]
  c25 : P.cellsOf 25 = 9
  a25 : aggT P 25 = true
  z25 : zbox P 25 = some (A.agg [A.int .i64 0, A.int .i64 0, A.int .i64 0, A.int .i64 0, A.int .i64 0, A.int .i64 0, A.int .i64 0, A.int .i64 0, A.sl true []], 88)
  b25 : bplan P 25 = some ([A.int .i64 0, A.int .i64 0, A.int .i64 0, A.int .i64 0, A.int .i64 0, A.int .i64 0, A.int .i64 0, A.int .i64 0, A.sl true []], [(0, 1), (1, 1), (2, 1), (3, 1), (4, 1), (5, 1), (6, 1), (7, 1), (8, 1)])
  g26_0 : fld P 26 0 = some (3, 0)
  g26_1 : fld P 26 1 = some (3, 1)
  g26_2 : fld P 26 2 = some (3, 2)
  g26_3 : fld P 26 3 = some (3, 3)
  g26_4 : fld P 26 4 = some (3, 4)
  g26_5 : fld P 26 5 = some (23, 5)
  g26_6 : fld P 26 6 = some (3, 6)
  g26_7 : fld P 26 7 = some (3, 7)
  g26_8 : fld P 26 8 = some (24, 8)
  s26 : isSliceT P 26 = false
  t26 : isStrT P 26 = false
  h26 : hasU P 26 = true
  w26 : ftl P 26 = some [(3, 0), (3, 1), (3, 2), (3, 3), (3, 4), (23, 5), (3, 6), (3, 7), (24, 8)]
  c26 : P.cellsOf 26 = 9
  a26 : aggT P 26 = true
  z26 : zbox P 26 = some (A.agg [A.int .i64 0, A.int .i64 0, A.int .i64 0, A.int .i64 0, A.int .i64 0, A.int .i64 0, A.int .i64 0, A.int .i64 0, A.sl true []], 88)
  b26 : bplan P 26 = some ([A.int .i64 0, A.int .i64 0, A.int .i64 0, A.int .i64 0, A.int .i64 0, A.int .i64 0, A.int .i64 0, A.int .i64 0, A.sl true []], [(0, 1), (1, 1), (2, 1), (3, 1), (4, 1), (5, 1), (6, 1), (7, 1), (8, 1)])
  u27 : P.underlying 27 = some (.slice 26)
  s27 : isSliceT P 27 = true
  l27 : selem P 27 = 26
  t27 : isStrT P 27 = false
  h27 : hasU P 27 = true
  c27 : P.cellsOf 27 = 1
  a27 : aggT P 27 = false
  z27 : zbox P 27 = some (A.sl true [], 24)
  u28 : P.underlying 28 = some (.slice 76)
  s28 : isSliceT P 28 = true
  l28 : selem P 28 = 76
  t28 : isStrT P 28 = false
  h28 : hasU P 28 = true
  c28 : P.cellsOf 28 = 1
  a28 : aggT P 28 = false
  z28 : zbox P 28 = some (A.sl true [], 24)
  u29 : P.underlying 29 = some (.slice 80)
  s29 : isSliceT P 29 = true
  l29 : selem P 29 = 80
  t29 : isStrT P 29 = false
  h29 : hasU P 29 = true
  c29 : P.cellsOf 29 = 1
  a29 : aggT P 29 = false
  z29 : zbox P 29 = some (A.sl true [], 24)
  u30 : P.underlying 30 = some (.slice 85)
  s30 : isSliceT P 30 = true
  l30 : selem P 30 = 85
  t30 : isStrT P 30 = false
  h30 : hasU P 30 = true
  c30 : P.cellsOf 30 = 1
  a30 : aggT P 30 = false
  z30 : zbox P 30 = some (A.sl true [], 24)
  u31 : P.underlying 31 = some (.slice 89)
  s31 : isSliceT P 31 = true
  l31 : selem P 31 = 89
  t31 : isStrT P 31 = false
  h31 : hasU P 31 = true
  c31 : P.cellsOf 31 = 1
  a31 : aggT P 31 = false
  z31 : zbox P 31 = some (A.sl true [], 24)
  u32 : P.underlying 32 = some (.slice 24)
  s32 : isSliceT P 32 = true
  l32 : selem P 32 = 24
  t32 : isStrT P 32 = false
  h32 : hasU P 32 = true
  c32 : P.cellsOf 32 = 1
  a32 : aggT P 32 = false
  z32 : zbox P 32 = some (A.sl true [], 24)
  u33 : P.underlying 33 = some (.slice 92)
  s33 : isSliceT P 33 = true
  l33 : selem P 33 = 92
  t33 : isStrT P 33 = false
  h33 : hasU P 33 = true
  c33 : P.cellsOf 33 = 1
  a33 : aggT P 33 = false
  z33 : zbox P 33 = some (A.sl true [], 24)
  u34 : P.underlying 34 = some (.slice 94)
  s34 : isSliceT P 34 = true
  l34 : selem P 34 = 94
  t34 : isStrT P 34 = false
  h34 : hasU P 34 = true
  c34 : P.cellsOf 34 = 1
  a34 : aggT P 34 = false
  z34 : zbox P 34 = some (A.sl true [], 24)
  u35 : P.underlying 35 = some (.slice 96)
  s35 : isSliceT P 35 = true
  l35 : selem P 35 = 96
  t35 : isStrT P 35 = false
  h35 : hasU P 35 = true
  c35 : P.cellsOf 35 = 1
  a35 : aggT P 35 = false
  z35 : zbox P 35 = some (A.sl true [], 24)
  g36_0 : fld P 36 0 = some (3, 0)
  g36_1 : fld P 36 1 = some (3, 1)
  g36_2 : fld P 36 2 = some (3, 2)
  g36_3 : fld P 36 3 = some (27, 3)
  g36_4 : fld P 36 4 = some (28, 4)
  g36_5 : fld P 36 5 = some (3, 5)
  g36_6 : fld P 36 6 = some (24, 6)
  g36_7 : fld P 36 7 = some (29, 7)
  g36_8 : fld P 36 8 = some (30, 8)
  g36_9 : fld P 36 9 = some (31, 9)
  g36_10 : fld P 36 10 = some (32, 10)
  g36_11 : fld P 36 11 = some (33, 11)
  g36_12 : fld P 36 12 = some (34, 12)
  g36_13 : fld P 36 13 = some (35, 13)
  g36_14 : fld P 36 14 = some (24, 14)
  g36_15 : fld P 36 15 = some (24, 15)
  g36_16 : fld P 36 16 = some (24, 16)
  g36_17 : fld P 36 17 = some (3, 17)
  s36 : isSliceT P 36 = false
  t36 : isStrT P 36 = false
  h36 : hasU P 36 = true
  w36 : ftl P 36 = some [(3, 0), (3, 1), (3, 2), (27, 3), (28, 4), (3, 5), (24, 6), (29, 7), (30, 8), (31, 9), (32, 10), (33, 11), (34, 12), (35, 13), (24, 14), (24, 15), (24, 16), (3, 17)]
  c36 : P.cellsOf 36 = 18
  a36 : aggT P 36 = true
  z36 : zbox P 36 = some (A.agg [A.int .i64 0, A.int .i64 0, A.int .i64 0, A.sl true [], A.sl true [], A.int .i64 0, A.sl true [], A.sl true [], A.sl true [], A.sl true [], A.sl true [], A.sl true [], A.sl true [], A.sl true [], A.sl true [], A.sl true [], A.sl true [], A.int .i64 0], 352)
  b36 : bplan P 36 = some ([A.int .i64 0, A.int .i64 0, A.int .i64 0, A.sl true [], A.sl true [], A.int .i64 0, A.sl true [], A.sl true [], A.sl true [], A.sl true [], A.sl true [], A.sl true [], A.sl true [], A.sl true [], A.sl true [], A.sl true [], A.sl true [], A.int .i64 0], [(0, 1), (1, 1), (2, 1), (3, 1), (4, 1), (5, 1), (6, 1), (7, 1), (8, 1), (9, 1), (10, 1), (11, 1), (12, 1), (13, 1), (14, 1), (15, 1), (16, 1), (17, 1)])
  g37_0 : fld P 37 0 = some (3, 0)
  g37_1 : fld P 37 1 = some (3, 1)
  g37_2 : fld P 37 2 = some (3, 2)
  g37_3 : fld P 37 3 = some (27, 3)
  g37_4 : fld P 37 4 = some (28, 4)
  g37_5 : fld P 37 5 = some (3, 5)
  g37_6 : fld P 37 6 = some (24, 6)
  g37_7 : fld P 37 7 = some (29, 7)
  g37_8 : fld P 37 8 = some (30, 8)
  g37_9 : fld P 37 9 = some (31, 9)
  g37_10 : fld P 37 10 = some (32, 10)
  g37_11 : fld P 37 11 = some (33, 11)
  g37_12 : fld P 37 12 = some (34, 12)
  g37_13 : fld P 37 13 = some (35, 13)
  g37_14 : fld P 37 14 = some (24, 14)
  g37_15 : fld P 37 15 = some (24, 15)
  g37_16 : fld P 37 16 = some (24, 16)
  g37_17 : fld P 37 17 = some (3, 17)
  s37 : isSliceT P 37 = false
  t37 : isStrT P 37 = false
  h37 : hasU P 37 = true
  w37 : ftl P 37 = some [(3, 0), (3, 1), (3, 2), (27, 3), (28, 4), (3, 5), (24, 6), (29, 7), (30, 8), (31, 9), (32, 10), (33, 11), (34, 12), (35, 13), (24, 14), (24, 15), (24, 16), (3, 17)]
  c37 : P.cellsOf 37 = 18
  a37 : aggT P 37 = true
  z37 : zbox P 37 = some (A.agg [A.int .i64 0, A.int .i64 0, A.int .i64 0, A.sl true [], A.sl true [], A.int .i64 0, A.sl true [], A.sl true [], A.sl true [], A.sl true [], A.sl true [], A.sl true [], A.sl true [], A.sl true [], A.sl true [], A.sl true [], A.sl true [], A.int .i64 0], 352)
  b37 : bplan P 37 = some ([A.int .i64 0, A.int .i64 0, A.int .i64 0, A.sl true [], A.sl true [], A.int .i64 0, A.sl true [], A.sl true [], A.sl true [], A.sl true [], A.sl true [], A.sl true [], A.sl true [], A.sl true [], A.sl true [], A.sl true [], A.sl true [], A.int .i64 0], [(0, 1), (1, 1), (2, 1), (3, 1), (4, 1), (5, 1), (6, 1), (7, 1), (8, 1), (9, 1), (10, 1), (11, 1), (12, 1), (13, 1), (14, 1), (15, 1), (16, 1), (17, 1)])
  u38 : P.underlying 38 = some (.slice 70)
  s38 : isSliceT P 38 = true
  l38 : selem P 38 = 70
  t38 : isStrT P 38 = false
  h38 : hasU P 38 = true
  c38 : P.cellsOf 38 = 1
  a38 : aggT P 38 = false
  z38 : zbox P 38 = some (A.sl true [], 24)
  g39_0 : fld P 39 0 = some (26, 0)
  g39_1 : fld P 39 1 = some (4, 9)
  g39_2 : fld P 39 2 = some (37, 10)
  g39_3 : fld P 39 3 = some (27, 28)
  g39_4 : fld P 39 4 = some (38, 29)
  s39 : isSliceT P 39 = false
  t39 : isStrT P 39 = false
  h39 : hasU P 39 = true
  w39 : ftl P 39 = some [(26, 0), (4, 9), (37, 10), (27, 28), (38, 29)]
  c39 : P.cellsOf 39 = 30
  a39 : aggT P 39 = true
  z39 : zbox P 39 = some (A.agg [A.int .i64 0, A.int .i64 0, A.int .i64 0, A.int .i64 0, A.int .i64 0, A.int .i64 0, A.int .i64 0, A.int .i64 0, A.sl true [], A.bool false, A.int .i64 0, A.int .i64 0, A.int .i64 0, A.sl true [], A.sl true [], A.int .i64 0, A.sl true [], A.sl true [], A.sl true [], A.sl true [], A.sl true [], A.sl true [], A.sl true [], A.sl true [], A.sl true [], A.sl true [], A.sl true [], A.int .i64 0, A.sl true [], A.sl true []], 496)
  b39 : bplan P 39 = some ([A.int .i64 0, A.int .i64 0, A.int .i64 0, A.int .i64 0, A.int .i64 0, A.int .i64 0, A.int .i64 0, A.int .i64 0, A.sl true [], A.bool false, A.int .i64 0, A.int .i64 0, A.int .i64 0, A.sl true [], A.sl true [], A.int .i64 0, A.sl true [], A.sl true [], A.sl true [], A.sl true [], A.sl true [], A.sl true [], A.sl true [], A.sl true [], A.sl true [], A.sl true [], A.sl true [], A.int .i64 0, A.sl true [], A.sl true []], [(0, 9), (9, 1), (10, 18), (28, 1), (29, 1)])
  g40_0 : fld P 40 0 = some (26, 0)
  g40_1 : fld P 40 1 = some (4, 9)
  g40_2 : fld P 40 2 = some (37, 10)
  g40_3 : fld P 40 3 = some (27, 28)
  g40_4 : fld P 40 4 = some (38, 29)
  s40 : isSliceT P 40 = false
  t40 : isStrT P 40 = false
  h40 : hasU P 40 = true
  w40 : ftl P 40 = some [(26, 0), (4, 9), (37, 10), (27, 28), (38, 29)]
  c40 : P.cellsOf 40 = 30
  a40 : aggT P 40 = true
  z40 : zbox P 40 = some (A.agg [A.int .i64 0, A.int .i64 0, A.int .i64 0, A.int .i64 0, A.int .i64 0, A.int .i64 0, A.int .i64 0, A.int .i64 0, A.sl true [], A.bool false, A.int .i64 0, A.int .i64 0, A.int .i64 0, A.sl true [], A.sl true [], A.int .i64 0, A.sl true [], A.sl true [], A.sl true [], A.sl true [], A.sl true [], A.sl true [], A.sl true [], A.sl true [], A.sl true [], A.sl true [], A.sl true [], A.int .i64 0, A.sl true [], A.sl true []], 496)
  b40 : bplan P 40 = some ([A.int .i64 0, A.int .i64 0, A.int .i64 0, A.int .i64 0, A.int .i64 0, A.int .i64 0, A.int .i64 0, A.int .i64 0, A.sl true [], A.bool false, A.int .i64 0, A.int .i64 0, A.int .i64 0, A.sl true [], A.sl true [], A.int .i64 0, A.sl true [], A.sl true [], A.sl true [], A.sl true [], A.sl true [], A.sl true [], A.sl true [], A.sl true [], A.sl true [], A.sl true [], A.sl true [], A.int .i64 0, A.sl true [], A.sl true []], [(0, 9), (9, 1), (10, 18), (28, 1), (29, 1)])
  u43 : P.underlying 43 = some (.int .i64)
  s43 : isSliceT P 43 = false
  t43 : isStrT P 43 = false
  h43 : hasU P 43 = true
  i43 : intT P 43 = some .i64
  c43 : P.cellsOf 43 = 1
  a43 : aggT P 43 = false
  z43 : zbox P 43 = some (A.int .i64 0, 8)
  u68 : P.underlying 68 = some (.int .i64)
  s68 : isSliceT P 68 = false
  t68 : isStrT P 68 = false
  h68 : hasU P 68 = true
  i68 : intT P 68 = some .i64
  c68 : P.cellsOf 68 = 1
  a68 : aggT P 68 = false
  z68 : zbox P 68 = some (A.int .i64 0, 8)
  g69_0 : fld P 69 0 = some (3, 0)
  g69_1 : fld P 69 1 = some (3, 1)
  g69_2 : fld P 69 2 = some (68, 2)
  g69_3 : fld P 69 3 = some (3, 3)
  g69_4 : fld P 69 4 = some (3, 4)
  g69_5 : fld P 69 5 = some (3, 5)
  s69 : isSliceT P 69 = false
  t69 : isStrT P 69 = false
  h69 : hasU P 69 = true
  w69 : ftl P 69 = some [(3, 0), (3, 1), (68, 2), (3, 3), (3, 4), (3, 5)]
  c69 : P.cellsOf 69 = 6
  a69 : aggT P 69 = true
  z69 : zbox P 69 = some (A.agg [A.int .i64 0, A.int .i64 0, A.int .i64 0, A.int .i64 0, A.int .i64 0, A.int .i64 0], 48)
  b69 : bplan P 69 = some ([A.int .i64 0, A.int .i64 0, A.int .i64 0, A.int .i64 0, A.int .i64 0, A.int .i64 0], [(0, 1), (1, 1), (2, 1), (3, 1), (4, 1), (5, 1)])
  e69 : eqT P 69 = some [0, 0, 0, 0, 0, 0]
  g70_0 : fld P 70 0 = some (3, 0)
  g70_1 : fld P 70 1 = some (3, 1)
  g70_2 : fld P 70 2 = some (68, 2)
  g70_3 : fld P 70 3 = some (3, 3)
  g70_4 : fld P 70 4 = some (3, 4)
  g70_5 : fld P 70 5 = some (3, 5)
  s70 : isSliceT P 70 = false
  t70 : isStrT P 70 = false
  h70 : hasU P 70 = true
  w70 : ftl P 70 = some [(3, 0), (3, 1), (68, 2), (3, 3), (3, 4), (3, 5)]
  c70 : P.cellsOf 70 = 6
  a70 : aggT P 70 = true
  z70 : zbox P 70 = some (A.agg [A.int .i64 0, A.int .i64 0, A.int .i64 0, A.int .i64 0, A.int .i64 0, A.int .i64 0], 48)
  b70 : bplan P 70 = some ([A.int .i64 0, A.int .i64 0, A.int .i64 0, A.int .i64 0, A.int .i64 0, A.int .i64 0], [(0, 1), (1, 1), (2, 1), (3, 1), (4, 1), (5, 1)])
  e70 : eqT P 70 = some [0, 0, 0, 0, 0, 0]
  u74 : P.underlying 74 = some (.int .i64)
  s74 : isSliceT P 74 = false
  t74 : isStrT P 74 = false
  h74 : hasU P 74 = true
  i74 : intT P 74 = some .i64
  c74 : P.cellsOf 74 = 1
  a74 : aggT P 74 = false
  z74 : zbox P 74 = some (A.int .i64 0, 8)
  g75_0 : fld P 75 0 = some (3, 0)
  g75_1 : fld P 75 1 = some (3, 1)
  g75_2 : fld P 75 2 = some (3, 2)
  g75_3 : fld P 75 3 = some (24, 3)
  g75_4 : fld P 75 4 = some (74, 4)
  g75_5 : fld P 75 5 = some (3, 5)
  g75_6 : fld P 75 6 = some (3, 6)
  s75 : isSliceT P 75 = false
  t75 : isStrT P 75 = false
  h75 : hasU P 75 = true
  w75 : ftl P 75 = some [(3, 0), (3, 1), (3, 2), (24, 3), (74, 4), (3, 5), (3, 6)]
  c75 : P.cellsOf 75 = 7
  a75 : aggT P 75 = true
  z75 : zbox P 75 = some (A.agg [A.int .i64 0, A.int .i64 0, A.int .i64 0, A.sl true [], A.int .i64 0, A.int .i64 0, A.int .i64 0], 72)
  b75 : bplan P 75 = some ([A.int .i64 0, A.int .i64 0, A.int .i64 0, A.sl true [], A.int .i64 0, A.int .i64 0, A.int .i64 0], [(0, 1), (1, 1), (2, 1), (3, 1), (4, 1), (5, 1), (6, 1)])
  g76_0 : fld P 76 0 = some (3, 0)
  g76_1 : fld P 76 1 = some (3, 1)
  g76_2 : fld P 76 2 = some (3, 2)
  g76_3 : fld P 76 3 = some (24, 3)
  g76_4 : fld P 76 4 = some (74, 4)
  g76_5 : fld P 76 5 = some (3, 5)
  g76_6 : fld P 76 6 = some (3, 6)
  s76 : isSliceT P 76 = false
  t76 : isStrT P 76 = false
  h76 : hasU P 76 = true
  w76 : ftl P 76 = some [(3, 0), (3, 1), (3, 2), (24, 3), (74, 4), (3, 5), (3, 6)]
  c76 : P.cellsOf 76 = 7
  a76 : aggT P 76 = true
  z76 : zbox P 76 = some (A.agg [A.int .i64 0, A.int .i64 0, A.int .i64 0, A.sl true [], A.int .i64 0, A.int .i64 0, A.int .i64 0], 72)
  b76 : bplan P 76 = some ([A.int .i64 0, A.int .i64 0, A.int .i64 0, A.sl true [], A.int .i64 0, A.int .i64 0, A.int .i64 0], [(0, 1), (1, 1), (2, 1), (3, 1), (4, 1), (5, 1), (6, 1)])
  u78 : P.underlying 78 = some (.slice 105)
  s78 : isSliceT P 78 = true
  l78 : selem P 78 = 105
  t78 : isStrT P 78 = false
  h78 : hasU P 78 = true
  c78 : P.cellsOf 78 = 1
  a78 : aggT P 78 = false
  z78 : zbox P 78 = some (A.sl true [], 24)
  g79_0 : fld P 79 0 = some (3, 0)
  g79_1 : fld P 79 1 = some (4, 1)
  g79_2 : fld P 79 2 = some (78, 2)
  g79_3 : fld P 79 3 = some (78, 3)
  g79_4 : fld P 79 4 = some (3, 4)
  s79 : isSliceT P 79 = false
  t79 : isStrT P 79 = false
  h79 : hasU P 79 = true
  w79 : ftl P 79 = some [(3, 0), (4, 1), (78, 2), (78, 3), (3, 4)]
  c79 : P.cellsOf 79 = 5
  a79 : aggT P 79 = true
  z79 : zbox P 79 = some (A.agg [A.int .i64 0, A.bool false, A.sl true [], A.sl true [], A.int .i64 0], 72)
  b79 : bplan P 79 = some ([A.int .i64 0, A.bool false, A.sl true [], A.sl true [], A.int .i64 0], [(0, 1), (1, 1), (2, 1), (3, 1), (4, 1)])
  g80_0 : fld P 80 0 = some (3, 0)
  g80_1 : fld P 80 1 = some (4, 1)
  g80_2 : fld P 80 2 = some (78, 2)
  g80_3 : fld P 80 3 = some (78, 3)
  g80_4 : fld P 80 4 = some (3, 4)
  s80 : isSliceT P 80 = false
  t80 : isStrT P 80 = false
  h80 : hasU P 80 = true
  w80 : ftl P 80 = some [(3, 0), (4, 1), (78, 2), (78, 3), (3, 4)]
  c80 : P.cellsOf 80 = 5
  a80 : aggT P 80 = true
  z80 : zbox P 80 = some (A.agg [A.int .i64 0, A.bool false, A.sl true [], A.sl true [], A.int .i64 0], 72)
  b80 : bplan P 80 = some ([A.int .i64 0, A.bool false, A.sl true [], A.sl true [], A.int .i64 0], [(0, 1), (1, 1), (2, 1), (3, 1), (4, 1)])
  u82 : P.underlying 82 = some (.int .i64)
  s82 : isSliceT P 82 = false
  t82 : isStrT P 82 = false
  h82 : hasU P 82 = true
  i82 : intT P 82 = some .i64
  c82 : P.cellsOf 82 = 1
  a82 : aggT P 82 = false
  z82 : zbox P 82 = some (A.int .i64 0, 8)
  u83 : P.underlying 83 = some (.slice 101)
  s83 : isSliceT P 83 = true
  l83 : selem P 83 = 101
  t83 : isStrT P 83 = false
  h83 : hasU P 83 = true
  c83 : P.cellsOf 83 = 1
  a83 : aggT P 83 = false
  z83 : zbox P 83 = some (A.sl true [], 24)
  g84_0 : fld P 84 0 = some (3, 0)
  g84_1 : fld P 84 1 = some (82, 1)
  g84_2 : fld P 84 2 = some (24, 2)
  g84_3 : fld P 84 3 = some (83, 3)
  g84_4 : fld P 84 4 = some (24, 4)
  g84_5 : fld P 84 5 = some (3, 5)
  g84_6 : fld P 84 6 = some (3, 6)
  s84 : isSliceT P 84 = false
  t84 : isStrT P 84 = false
  h84 : hasU P 84 = true
  w84 : ftl P 84 = some [(3, 0), (82, 1), (24, 2), (83, 3), (24, 4), (3, 5), (3, 6)]
  c84 : P.cellsOf 84 = 7
  a84 : aggT P 84 = true
  z84 : zbox P 84 = some (A.agg [A.int .i64 0, A.int .i64 0, A.sl true [], A.sl true [], A.sl true [], A.int .i64 0, A.int .i64 0], 104)
  b84 : bplan P 84 = some ([A.int .i64 0, A.int .i64 0, A.sl true [], A.sl true [], A.sl true [], A.int .i64 0, A.int .i64 0], [(0, 1), (1, 1), (2, 1), (3, 1), (4, 1), (5, 1), (6, 1)])
  g85_0 : fld P 85 0 = some (3, 0)
  g85_1 : fld P 85 1 = some (82, 1)
  g85_2 : fld P 85 2 = some (24, 2)
  g85_3 : fld P 85 3 = some (83, 3)
  g85_4 : fld P 85 4 = some (24, 4)
  g85_5 : fld P 85 5 = some (3, 5)
  g85_6 : fld P 85 6 = some (3, 6)
  s85 : isSliceT P 85 = false
  t85 : isStrT P 85 = false
  h85 : hasU P 85 = true
  w85 : ftl P 85 = some [(3, 0), (82, 1), (24, 2), (83, 3), (24, 4), (3, 5), (3, 6)]
  c85 : P.cellsOf 85 = 7
  a85 : aggT P 85 = true
  z85 : zbox P 85 = some (A.agg [A.int .i64 0, A.int .i64 0, A.sl true [], A.sl true [], A.sl true [], A.int .i64 0, A.int .i64 0], 104)
  b85 : bplan P 85 = some ([A.int .i64 0, A.int .i64 0, A.sl true [], A.sl true [], A.sl true [], A.int .i64 0, A.int .i64 0], [(0, 1), (1, 1), (2, 1), (3, 1), (4, 1), (5, 1), (6, 1)])
  u87 : P.underlying 87 = some (.slice 103)
  s87 : isSliceT P 87 = true
  l87 : selem P 87 = 103
  t87 : isStrT P 87 = false
  h87 : hasU P 87 = true
  c87 : P.cellsOf 87 = 1
  a87 : aggT P 87 = false
  z87 : zbox P 87 = some (A.sl true [], 24)
  g88_0 : fld P 88 0 = some (3, 0)
  g88_1 : fld P 88 1 = some (3, 1)
  g88_2 : fld P 88 2 = some (87, 2)
  g88_3 : fld P 88 3 = some (3, 3)
  s88 : isSliceT P 88 = false
  t88 : isStrT P 88 = false
  h88 : hasU P 88 = true
  w88 : ftl P 88 = some [(3, 0), (3, 1), (87, 2), (3, 3)]
  c88 : P.cellsOf 88 = 4
  a88 : aggT P 88 = true
  z88 : zbox P 88 = some (A.agg [A.int .i64 0, A.int .i64 0, A.sl true [], A.int .i64 0], 48)
  b88 : bplan P 88 = some ([A.int .i64 0, A.int .i64 0, A.sl true [], A.int .i64 0], [(0, 1), (1, 1), (2, 1), (3, 1)])
  g89_0 : fld P 89 0 = some (3, 0)
  g89_1 : fld P 89 1 = some (3, 1)
  g89_2 : fld P 89 2 = some (87, 2)
  g89_3 : fld P 89 3 = some (3, 3)
  s89 : isSliceT P 89 = false
  t89 : isStrT P 89 = false
  h89 : hasU P 89 = true
  w89 : ftl P 89 = some [(3, 0), (3, 1), (87, 2), (3, 3)]
  c89 : P.cellsOf 89 = 4
  a89 : aggT P 89 = true
  z89 : zbox P 89 = some (A.agg [A.int .i64 0, A.int .i64 0, A.sl true [], A.int .i64 0], 48)
  b89 : bplan P 89 = some ([A.int .i64 0, A.int .i64 0, A.sl true [], A.int .i64 0], [(0, 1), (1, 1), (2, 1), (3, 1)])
  u90 : P.underlying 90 = some (.int .u64)
  s90 : isSliceT P 90 = false
  t90 : isStrT P 90 = false
  h90 : hasU P 90 = true
  i90 : intT P 90 = some .u64
  c90 : P.cellsOf 90 = 1
  a90 : aggT P 90 = false
  z90 : zbox P 90 = some (A.int .u64 0, 8)
  g91_0 : fld P 91 0 = some (90, 0)
  g91_1 : fld P 91 1 = some (3, 1)
  g91_2 : fld P 91 2 = some (4, 2)
  s91 : isSliceT P 91 = false
  t91 : isStrT P 91 = false
  h91 : hasU P 91 = true
  w91 : ftl P 91 = some [(90, 0), (3, 1), (4, 2)]
  c91 : P.cellsOf 91 = 3
  a91 : aggT P 91 = true
  z91 : zbox P 91 = some (A.agg [A.int .u64 0, A.int .i64 0, A.bool false], 24)
  b91 : bplan P 91 = some ([A.int .u64 0, A.int .i64 0, A.bool false], [(0, 1), (1, 1), (2, 1)])
  e91 : eqT P 91 = some [0, 0, 1]
  g92_0 : fld P 92 0 = some (90, 0)
  g92_1 : fld P 92 1 = some (3, 1)
  g92_2 : fld P 92 2 = some (4, 2)
  s92 : isSliceT P 92 = false
  t92 : isStrT P 92 = false
  h92 : hasU P 92 = true
  w92 : ftl P 92 = some [(90, 0), (3, 1), (4, 2)]
  c92 : P.cellsOf 92 = 3
  a92 : aggT P 92 = true
  z92 : zbox P 92 = some (A.agg [A.int .u64 0, A.int .i64 0, A.bool false], 24)
  b92 : bplan P 92 = some ([A.int .u64 0, A.int .i64 0, A.bool false], [(0, 1), (1, 1), (2, 1)])
  e92 : eqT P 92 = some [0, 0, 1]
  g93_0 : fld P 93 0 = some (3, 0)
  g93_1 : fld P 93 1 = some (3, 1)
  g93_2 : fld P 93 2 = some (3, 2)
  g93_3 : fld P 93 3 = some (3, 3)
  g93_4 : fld P 93 4 = some (3, 4)
  s93 : isSliceT P 93 = false
  t93 : isStrT P 93 = false
  h93 : hasU P 93 = true
  w93 : ftl P 93 = some [(3, 0), (3, 1), (3, 2), (3, 3), (3, 4)]
  c93 : P.cellsOf 93 = 5
  a93 : aggT P 93 = true
  z93 : zbox P 93 = some (A.agg [A.int .i64 0, A.int .i64 0, A.int .i64 0, A.int .i64 0, A.int .i64 0], 40)
  b93 : bplan P 93 = some ([A.int .i64 0, A.int .i64 0, A.int .i64 0, A.int .i64 0, A.int .i64 0], [(0, 1), (1, 1), (2, 1), (3, 1), (4, 1)])
  e93 : eqT P 93 = some [0, 0, 0, 0, 0]
  g94_0 : fld P 94 0 = some (3, 0)
  g94_1 : fld P 94 1 = some (3, 1)
  g94_2 : fld P 94 2 = some (3, 2)
  g94_3 : fld P 94 3 = some (3, 3)
  g94_4 : fld P 94 4 = some (3, 4)
  s94 : isSliceT P 94 = false
  t94 : isStrT P 94 = false
  h94 : hasU P 94 = true
  w94 : ftl P 94 = some [(3, 0), (3, 1), (3, 2), (3, 3), (3, 4)]
  c94 : P.cellsOf 94 = 5
  a94 : aggT P 94 = true
  z94 : zbox P 94 = some (A.agg [A.int .i64 0, A.int .i64 0, A.int .i64 0, A.int .i64 0, A.int .i64 0], 40)
  b94 : bplan P 94 = some ([A.int .i64 0, A.int .i64 0, A.int .i64 0, A.int .i64 0, A.int .i64 0], [(0, 1), (1, 1), (2, 1), (3, 1), (4, 1)])
  e94 : eqT P 94 = some [0, 0, 0, 0, 0]
  g95_0 : fld P 95 0 = some (3, 0)
  g95_1 : fld P 95 1 = some (3, 1)
  g95_2 : fld P 95 2 = some (3, 2)
  g95_3 : fld P 95 3 = some (3, 3)
  g95_4 : fld P 95 4 = some (3, 4)
  g95_5 : fld P 95 5 = some (3, 5)
  s95 : isSliceT P 95 = false
  t95 : isStrT P 95 = false
  h95 : hasU P 95 = true
  w95 : ftl P 95 = some [(3, 0), (3, 1), (3, 2), (3, 3), (3, 4), (3, 5)]
  c95 : P.cellsOf 95 = 6
  a95 : aggT P 95 = true
  z95 : zbox P 95 = some (A.agg [A.int .i64 0, A.int .i64 0, A.int .i64 0, A.int .i64 0, A.int .i64 0, A.int .i64 0], 48)
  b95 : bplan P 95 = some ([A.int .i64 0, A.int .i64 0, A.int .i64 0, A.int .i64 0, A.int .i64 0, A.int .i64 0], [(0, 1), (1, 1), (2, 1), (3, 1), (4, 1), (5, 1)])
  e95 : eqT P 95 = some [0, 0, 0, 0, 0, 0]
  g96_0 : fld P 96 0 = some (3, 0)
  g96_1 : fld P 96 1 = some (3, 1)
  g96_2 : fld P 96 2 = some (3, 2)
  g96_3 : fld P 96 3 = some (3, 3)
  g96_4 : fld P 96 4 = some (3, 4)
  g96_5 : fld P 96 5 = some (3, 5)
  s96 : isSliceT P 96 = false
  t96 : isStrT P 96 = false
  h96 : hasU P 96 = true
  w96 : ftl P 96 = some [(3, 0), (3, 1), (3, 2), (3, 3), (3, 4), (3, 5)]
  c96 : P.cellsOf 96 = 6
  a96 : aggT P 96 = true
  z96 : zbox P 96 = some (A.agg [A.int .i64 0, A.int .i64 0, A.int .i64 0, A.int .i64 0, A.int .i64 0, A.int .i64 0], 48)
  b96 : bplan P 96 = some ([A.int .i64 0, A.int .i64 0, A.int .i64 0, A.int .i64 0, A.int .i64 0, A.int .i64 0], [(0, 1), (1, 1), (2, 1), (3, 1), (4, 1), (5, 1)])
  e96 : eqT P 96 = some [0, 0, 0, 0, 0, 0]
  g100_0 : fld P 100 0 = some (3, 0)
  g100_1 : fld P 100 1 = some (3, 1)
  s100 : isSliceT P 100 = false
  t100 : isStrT P 100 = false
  h100 : hasU P 100 = true
  w100 : ftl P 100 = some [(3, 0), (3, 1)]
  c100 : P.cellsOf 100 = 2
  a100 : aggT P 100 = true
  z100 : zbox P 100 = some (A.agg [A.int .i64 0, A.int .i64 0], 16)
  b100 : bplan P 100 = some ([A.int .i64 0, A.int .i64 0], [(0, 1), (1, 1)])
  e100 : eqT P 100 = some [0, 0]
  g101_0 : fld P 101 0 = some (3, 0)
  g101_1 : fld P 101 1 = some (3, 1)
  s101 : isSliceT P 101 = false
  t101 : isStrT P 101 = false
  h101 : hasU P 101 = true
  w101 : ftl P 101 = some [(3, 0), (3, 1)]
  c101 : P.cellsOf 101 = 2
  a101 : aggT P 101 = true
  z101 : zbox P 101 = some (A.agg [A.int .i64 0, A.int .i64 0], 16)
  b101 : bplan P 101 = some ([A.int .i64 0, A.int .i64 0], [(0, 1), (1, 1)])
  e101 : eqT P 101 = some [0, 0]
  g102_0 : fld P 102 0 = some (3, 0)
  g102_1 : fld P 102 1 = some (3, 1)
  g102_2 : fld P 102 2 = some (3, 2)
  s102 : isSliceT P 102 = false
  t102 : isStrT P 102 = false
  h102 : hasU P 102 = true
  w102 : ftl P 102 = some [(3, 0), (3, 1), (3, 2)]
  c102 : P.cellsOf 102 = 3
  a102 : aggT P 102 = true
  z102 : zbox P 102 = some (A.agg [A.int .i64 0, A.int .i64 0, A.int .i64 0], 24)
  b102 : bplan P 102 = some ([A.int .i64 0, A.int .i64 0, A.int .i64 0], [(0, 1), (1, 1), (2, 1)])
  e102 : eqT P 102 = some [0, 0, 0]
  g103_0 : fld P 103 0 = some (3, 0)
  g103_1 : fld P 103 1 = some (3, 1)
  g103_2 : fld P 103 2 = some (3, 2)
  s103 : isSliceT P 103 = false
  t103 : isStrT P 103 = false
  h103 : hasU P 103 = true
  w103 : ftl P 103 = some [(3, 0), (3, 1), (3, 2)]
  c103 : P.cellsOf 103 = 3
  a103 : aggT P 103 = true
  z103 : zbox P 103 = some (A.agg [A.int .i64 0, A.int .i64 0, A.int .i64 0], 24)
  b103 : bplan P 103 = some ([A.int .i64 0, A.int .i64 0, A.int .i64 0], [(0, 1), (1, 1), (2, 1)])
  e103 : eqT P 103 = some [0, 0, 0]
  g104_0 : fld P 104 0 = some (3, 0)
  g104_1 : fld P 104 1 = some (3, 1)
  g104_2 : fld P 104 2 = some (3, 2)
  g104_3 : fld P 104 3 = some (3, 3)
  g104_4 : fld P 104 4 = some (4, 4)
  s104 : isSliceT P 104 = false
  t104 : isStrT P 104 = false
  h104 : hasU P 104 = true
  w104 : ftl P 104 = some [(3, 0), (3, 1), (3, 2), (3, 3), (4, 4)]
  c104 : P.cellsOf 104 = 5
  a104 : aggT P 104 = true
  z104 : zbox P 104 = some (A.agg [A.int .i64 0, A.int .i64 0, A.int .i64 0, A.int .i64 0, A.bool false], 40)
  b104 : bplan P 104 = some ([A.int .i64 0, A.int .i64 0, A.int .i64 0, A.int .i64 0, A.bool false], [(0, 1), (1, 1), (2, 1), (3, 1), (4, 1)])
  e104 : eqT P 104 = some [0, 0, 0, 0, 1]
  g105_0 : fld P 105 0 = some (3, 0)
  g105_1 : fld P 105 1 = some (3, 1)
  g105_2 : fld P 105 2 = some (3, 2)
  g105_3 : fld P 105 3 = some (3, 3)
  g105_4 : fld P 105 4 = some (4, 4)
  s105 : isSliceT P 105 = false
  t105 : isStrT P 105 = false
  h105 : hasU P 105 = true
  w105 : ftl P 105 = some [(3, 0), (3, 1), (3, 2), (3, 3), (4, 4)]
  c105 : P.cellsOf 105 = 5
  a105 : aggT P 105 = true
  z105 : zbox P 105 = some (A.agg [A.int .i64 0, A.int .i64 0, A.int .i64 0, A.int .i64 0, A.bool false], 40)
  b105 : bplan P 105 = some ([A.int .i64 0, A.int .i64 0, A.int .i64 0, A.int .i64 0, A.bool false], [(0, 1), (1, 1), (2, 1), (3, 1), (4, 1)])
  e105 : eqT P 105 = some [0, 0, 0, 0, 1]
  u109 : P.underlying 109 = some (.array 0 16)
  s109 : isSliceT P 109 = false
  t109 : isStrT P 109 = false
  r109 : arrT P 109 = some (0, 16)
  h109 : hasU P 109 = true
  n109 : bplan P 109 = none
  c109 : P.cellsOf 109 = 0
  a109 : aggT P 109 = true
  z109 : zbox P 109 = some (A.agg [], 0)
  b109 : aplan P 109 = some ([], 1)
  u113 : P.underlying 113 = some (.int .u32)
  s113 : isSliceT P 113 = false
  t113 : isStrT P 113 = false
  h113 : hasU P 113 = true
  i113 : intT P 113 = some .u32
  c113 : P.cellsOf 113 = 1
  a113 : aggT P 113 = false
  z113 : zbox P 113 = some (A.int .u32 0, 4)
  g120_0 : fld P 120 0 = some (12, 0)
  g120_1 : fld P 120 1 = some (12, 1)
  g120_2 : fld P 120 2 = some (113, 2)
  g120_3 : fld P 120 3 = some (114, 3)
  g120_4 : fld P 120 4 = some (5, 4)
  g120_5 : fld P 120 5 = some (5, 5)
  g120_6 : fld P 120 6 = some (115, 6)
  g120_7 : fld P 120 7 = some (116, 7)
  g120_8 : fld P 120 8 = some (117, 8)
  g120_9 : fld P 120 9 = some (118, 9)
  g120_10 : fld P 120 10 = some (119, 10)
  s120 : isSliceT P 120 = false
  t120 : isStrT P 120 = false
  h120 : hasU P 120 = true
  w120 : ftl P 120 = some [(12, 0), (12, 1), (113, 2), (114, 3), (5, 4), (5, 5), (115, 6), (116, 7), (117, 8), (118, 9), (119, 10)]
  c120 : P.cellsOf 120 = 11
  a120 : aggT P 120 = true
  z120 : zbox P 120 = some (A.agg [A.int .u64 0, A.int .u64 0, A.int .u32 0, A.int .u8 0, A.int .u8 0, A.int .u8 0, A.int .u8 0, A.nfn, A.nptr, A.int .i32 0, A.int .i32 0], 48)
  mo : P.follows .mixedOrders = true
  f0 : P.funcs[0]? = some Try.f0
  f1 : P.funcs[1]? = some Try.f1
  f2 : P.funcs[2]? = some Try.f2
  f3 : P.funcs[3]? = some Try.f3
  f4 : P.funcs[4]? = some Try.f4
  f5 : P.funcs[5]? = some Try.f5
  f6 : P.funcs[6]? = some Try.f6
  f7 : P.funcs[7]? = some Try.f7
  f8 : P.funcs[8]? = some Try.f8
  f9 : P.funcs[9]? = some Try.f9
  f10 : P.funcs[10]? = some Try.f10
  f11 : P.funcs[11]? = some Try.f11
  f12 : P.funcs[12]? = some Try.f12
  f13 : P.funcs[13]? = some Try.f13
  f14 : P.funcs[14]? = some Try.f14
  f15 : P.funcs[15]? = some Try.f15
  f16 : P.funcs[16]? = some Try.f16
  f17 : P.funcs[17]? = some Try.f17
  f18 : P.funcs[18]? = some Try.f18
  f19 : P.funcs[19]? = some Try.f19
  f20 : P.funcs[20]? = some Try.f20
  f21 : P.funcs[21]? = some Try.f21
  f22 : P.funcs[22]? = some Try.f22
  f23 : P.funcs[23]? = some Try.f23
  f24 : P.funcs[24]? = some Try.f24
  f25 : P.funcs[25]? = some Try.f25
  f26 : P.funcs[26]? = some Try.f26
  f27 : P.funcs[27]? = some Try.f27
  f28 : P.funcs[28]? = some Try.f28
  f29 : P.funcs[29]? = some Try.f29
  f30 : P.funcs[30]? = some Try.f30
  f31 : P.funcs[31]? = some Try.f31
  f32 : P.funcs[32]? = some Try.f32
  f33 : P.funcs[33]? = some Try.f33
  f34 : P.funcs[34]? = some Try.f34
  f35 : P.funcs[35]? = some Try.f35
  f36 : P.funcs[36]? = some Try.f36
  f37 : P.funcs[37]? = some Try.f37
  f38 : P.funcs[38]? = some Try.f38
  f39 : P.funcs[39]? = some Try.f39
  f40 : P.funcs[40]? = some Try.f40
  f41 : P.funcs[41]? = some Try.f41
  f42 : P.funcs[42]? = some Try.f42
  f43 : P.funcs[43]? = some Try.f43
  f44 : P.funcs[44]? = some Try.f44
  f45 : P.funcs[45]? = some Try.f45
  f46 : P.funcs[46]? = some Try.f46
  f47 : P.funcs[47]? = some Try.f47
  f48 : P.funcs[48]? = some Try.f48
  f49 : P.funcs[49]? = some Try.f49
  f50 : P.funcs[50]? = some Try.f50
  f51 : P.funcs[51]? = some Try.f51
  f52 : P.funcs[52]? = some Try.f52
  f53 : P.funcs[53]? = some Try.f53
  f54 : P.funcs[54]? = some Try.f54
  f55 : P.funcs[55]? = some Try.f55
  f56 : P.funcs[56]? = some Try.f56
  f57 : P.funcs[57]? = some Try.f57
  f58 : P.funcs[58]? = some Try.f58
  f59 : P.funcs[59]? = some Try.f59
  f60 : P.funcs[60]? = some Try.f60
  f61 : P.funcs[61]? = some Try.f61
  f62 : P.funcs[62]? = some Try.f62
  f63 : P.funcs[63]? = some Try.f63
  f64 : P.funcs[64]? = some Try.f64
  f65 : P.funcs[65]? = some Try.f65
  f66 : P.funcs[66]? = some Try.f66
  f67 : P.funcs[67]? = some Try.f67
  f68 : P.funcs[68]? = some Try.f68
  f69 : P.funcs[69]? = some Try.f69
  f70 : P.funcs[70]? = some Try.f70

section
variable {P : Program}
@[simp] theorem u2_ [h : Facts P] : P.underlying 2 = some (.int .i64) := h.u2
@[simp] theorem s2_ [h : Facts P] : isSliceT P 2 = false := h.s2
@[simp] theorem t2_ [h : Facts P] : isStrT P 2 = false := h.t2
@[simp] theorem h2_ [h : Facts P] : hasU P 2 = true := h.h2
@[simp] theorem i2_ [h : Facts P] : intT P 2 = some .i64 := h.i2
@[simp] theorem c2_ [h : Facts P] : P.cellsOf 2 = 1 := h.c2
@[simp] theorem a2_ [h : Facts P] : aggT P 2 = false := h.a2
@[simp] theorem z2_ [h : Facts P] : zbox P 2 = some (A.int .i64 0, 8) := h.z2
@[simp] theorem u3_ [h : Facts P] : P.underlying 3 = some (.int .i64) := h.u3
@[simp] theorem s3_ [h : Facts P] : isSliceT P 3 = false := h.s3
@[simp] theorem t3_ [h : Facts P] : isStrT P 3 = false := h.t3
@[simp] theorem h3_ [h : Facts P] : hasU P 3 = true := h.h3
@[simp] theorem i3_ [h : Facts P] : intT P 3 = some .i64 := h.i3
@[simp] theorem c3_ [h : Facts P] : P.cellsOf 3 = 1 := h.c3
@[simp] theorem a3_ [h : Facts P] : aggT P 3 = false := h.a3
@[simp] theorem z3_ [h : Facts P] : zbox P 3 = some (A.int .i64 0, 8) := h.z3
@[simp] theorem u4_ [h : Facts P] : P.underlying 4 = some (.bool) := h.u4
@[simp] theorem s4_ [h : Facts P] : isSliceT P 4 = false := h.s4
@[simp] theorem t4_ [h : Facts P] : isStrT P 4 = false := h.t4
@[simp] theorem h4_ [h : Facts P] : hasU P 4 = true := h.h4
@[simp] theorem d4_ [h : Facts P] : isBoolT P 4 = true := h.d4
@[simp] theorem c4_ [h : Facts P] : P.cellsOf 4 = 1 := h.c4
@[simp] theorem a4_ [h : Facts P] : aggT P 4 = false := h.a4
@[simp] theorem z4_ [h : Facts P] : zbox P 4 = some (A.bool false, 1) := h.z4
@[simp] theorem u5_ [h : Facts P] : P.underlying 5 = some (.int .u8) := h.u5
@[simp] theorem s5_ [h : Facts P] : isSliceT P 5 = false := h.s5
@[simp] theorem t5_ [h : Facts P] : isStrT P 5 = false := h.t5
@[simp] theorem h5_ [h : Facts P] : hasU P 5 = true := h.h5
@[simp] theorem i5_ [h : Facts P] : intT P 5 = some .u8 := h.i5
@[simp] theorem c5_ [h : Facts P] : P.cellsOf 5 = 1 := h.c5
@[simp] theorem a5_ [h : Facts P] : aggT P 5 = false := h.a5
@[simp] theorem z5_ [h : Facts P] : zbox P 5 = some (A.int .u8 0, 1) := h.z5
@[simp] theorem u9_ [h : Facts P] : P.underlying 9 = some (.string) := h.u9
@[simp] theorem s9_ [h : Facts P] : isSliceT P 9 = false := h.s9
@[simp] theorem t9_ [h : Facts P] : isStrT P 9 = true := h.t9
@[simp] theorem h9_ [h : Facts P] : hasU P 9 = true := h.h9
@[simp] theorem c9_ [h : Facts P] : P.cellsOf 9 = 1 := h.c9
@[simp] theorem a9_ [h : Facts P] : aggT P 9 = false := h.a9
@[simp] theorem z9_ [h : Facts P] : zbox P 9 = some (A.str [], 16) := h.z9
@[simp] theorem u12_ [h : Facts P] : P.underlying 12 = some (.int .u64) := h.u12
@[simp] theorem s12_ [h : Facts P] : isSliceT P 12 = false := h.s12
@[simp] theorem t12_ [h : Facts P] : isStrT P 12 = false := h.t12
@[simp] theorem h12_ [h : Facts P] : hasU P 12 = true := h.h12
@[simp] theorem i12_ [h : Facts P] : intT P 12 = some .u64 := h.i12
@[simp] theorem c12_ [h : Facts P] : P.cellsOf 12 = 1 := h.c12
@[simp] theorem a12_ [h : Facts P] : aggT P 12 = false := h.a12
@[simp] theorem z12_ [h : Facts P] : zbox P 12 = some (A.int .u64 0, 8) := h.z12
@[simp] theorem u21_ [h : Facts P] : P.underlying 21 = some (.int .i32) := h.u21
@[simp] theorem s21_ [h : Facts P] : isSliceT P 21 = false := h.s21
@[simp] theorem t21_ [h : Facts P] : isStrT P 21 = false := h.t21
@[simp] theorem h21_ [h : Facts P] : hasU P 21 = true := h.h21
@[simp] theorem i21_ [h : Facts P] : intT P 21 = some .i32 := h.i21
@[simp] theorem c21_ [h : Facts P] : P.cellsOf 21 = 1 := h.c21
@[simp] theorem a21_ [h : Facts P] : aggT P 21 = false := h.a21
@[simp] theorem z21_ [h : Facts P] : zbox P 21 = some (A.int .i32 0, 4) := h.z21
@[simp] theorem u22_ [h : Facts P] : P.underlying 22 = some (.slice 40) := h.u22
@[simp] theorem s22_ [h : Facts P] : isSliceT P 22 = true := h.s22
@[simp] theorem l22_ [h : Facts P] : selem P 22 = 40 := h.l22
@[simp] theorem t22_ [h : Facts P] : isStrT P 22 = false := h.t22
@[simp] theorem h22_ [h : Facts P] : hasU P 22 = true := h.h22
@[simp] theorem c22_ [h : Facts P] : P.cellsOf 22 = 1 := h.c22
@[simp] theorem a22_ [h : Facts P] : aggT P 22 = false := h.a22
@[simp] theorem z22_ [h : Facts P] : zbox P 22 = some (A.sl true [], 24) := h.z22
@[simp] theorem u23_ [h : Facts P] : P.underlying 23 = some (.int .i64) := h.u23
@[simp] theorem s23_ [h : Facts P] : isSliceT P 23 = false := h.s23
@[simp] theorem t23_ [h : Facts P] : isStrT P 23 = false := h.t23
@[simp] theorem h23_ [h : Facts P] : hasU P 23 = true := h.h23
@[simp] theorem i23_ [h : Facts P] : intT P 23 = some .i64 := h.i23
@[simp] theorem c23_ [h : Facts P] : P.cellsOf 23 = 1 := h.c23
@[simp] theorem a23_ [h : Facts P] : aggT P 23 = false := h.a23
@[simp] theorem z23_ [h : Facts P] : zbox P 23 = some (A.int .i64 0, 8) := h.z23
@[simp] theorem u24_ [h : Facts P] : P.underlying 24 = some (.slice 3) := h.u24
@[simp] theorem s24_ [h : Facts P] : isSliceT P 24 = true := h.s24
@[simp] theorem l24_ [h : Facts P] : selem P 24 = 3 := h.l24
@[simp] theorem t24_ [h : Facts P] : isStrT P 24 = false := h.t24
@[simp] theorem h24_ [h : Facts P] : hasU P 24 = true := h.h24
@[simp] theorem c24_ [h : Facts P] : P.cellsOf 24 = 1 := h.c24
@[simp] theorem a24_ [h : Facts P] : aggT P 24 = false := h.a24
@[simp] theorem z24_ [h : Facts P] : zbox P 24 = some (A.sl true [], 24) := h.z24
@[simp] theorem g25_0_ [h : Facts P] : fld P 25 0 = some (3, 0) := h.g25_0
@[simp] theorem g25_1_ [h : Facts P] : fld P 25 1 = some (3, 1) := h.g25_1
@[simp] theorem g25_2_ [h : Facts P] : fld P 25 2 = some (3, 2) := h.g25_2
@[simp] theorem g25_3_ [h : Facts P] : fld P 25 3 = some (3, 3) := h.g25_3
@[simp] theorem g25_4_ [h : Facts P] : fld P 25 4 = some (3, 4) := h.g25_4
@[simp] theorem g25_5_ [h : Facts P] : fld P 25 5 = some (23, 5) := h.g25_5
@[simp] theorem g25_6_ [h : Facts P] : fld P 25 6 = some (3, 6) := h.g25_6
@[simp] theorem g25_7_ [h : Facts P] : fld P 25 7 = some (3, 7) := h.g25_7
@[simp] theorem g25_8_ [h : Facts P] : fld P 25 8 = some (24, 8) := h.g25_8
@[simp] theorem s25_ [h : Facts P] : isSliceT P 25 = false := h.s25
@[simp] theorem t25_ [h : Facts P] : isStrT P 25 = false := h.t25
@[simp] theorem h25_ [h : Facts P] : hasU P 25 = true := h.h25
@[simp] theorem w25_ [h : Facts P] : ftl P 25 = some [(3, 0), (3, 1), (3, 2), (3, 3), (3, 4), (23, 5), (3, 6), (3, 7), (24, 8)] := h.w25
@[simp] theorem c25_ [h : Facts P] : P.cellsOf 25 = 9 := h.c25
@[simp] theorem a25_ [h : Facts P] : aggT P 25 = true := h.a25
@[simp] theorem z25_ [h : Facts P] : zbox P 25 = some (A.agg [A.int .i64 0, A.int .i64 0, A.int .i64 0, A.int .i64 0, A.int .i64 0, A.int .i64 0, A.int .i64 0, A.int .i64 0, A.sl true []], 88) := h.z25
@[simp] theorem b25_ [h : Facts P] : bplan P 25 = some ([A.int .i64 0, A.int .i64 0, A.int .i64 0, A.int .i64 0, A.int .i64 0, A.int .i64 0, A.int .i64 0, A.int .i64 0, A.sl true []], [(0, 1), (1, 1), (2, 1), (3, 1), (4, 1), (5, 1), (6, 1), (7, 1), (8, 1)]) := h.b25
@[simp] theorem g26_0_ [h : Facts P] : fld P 26 0 = some (3, 0) := h.g26_0
@[simp] theorem g26_1_ [h : Facts P] : fld P 26 1 = some (3, 1) := h.g26_1
@[simp] theorem g26_2_ [h : Facts P] : fld P 26 2 = some (3, 2) := h.g26_2
@[simp] theorem g26_3_ [h : Facts P] : fld P 26 3 = some (3, 3) := h.g26_3
@[simp] theorem g26_4_ [h : Facts P] : fld P 26 4 = some (3, 4) := h.g26_4
@[simp] theorem g26_5_ [h : Facts P] : fld P 26 5 = some (23, 5) := h.g26_5
@[simp] theorem g26_6_ [h : Facts P] : fld P 26 6 = some (3, 6) := h.g26_6
@[simp] theorem g26_7_ [h : Facts P] : fld P 26 7 = some (3, 7) := h.g26_7
@[simp] theorem g26_8_ [h : Facts P] : fld P 26 8 = some (24, 8) := h.g26_8
@[simp] theorem s26_ [h : Facts P] : isSliceT P 26 = false := h.s26
@[simp] theorem t26_ [h : Facts P] : isStrT P 26 = false := h.t26
@[simp] theorem h26_ [h : Facts P] : hasU P 26 = true := h.h26
@[simp] theorem w26_ [h : Facts P] : ftl P 26 = some [(3, 0), (3, 1), (3, 2), (3, 3), (3, 4), (23, 5), (3, 6), (3, 7), (24, 8)] := h.w26
@[simp] theorem c26_ [h : Facts P] : P.cellsOf 26 = 9 := h.c26
@[simp] theorem a26_ [h : Facts P] : aggT P 26 = true := h.a26
@[simp] theorem z26_ [h : Facts P] : zbox P 26 = some (A.agg [A.int .i64 0, A.int .i64 0, A.int .i64 0, A.int .i64 0, A.int .i64 0, A.int .i64 0, A.int .i64 0, A.int .i64 0, A.sl true []], 88) := h.z26
@[simp] theorem b26_ [h : Facts P] : bplan P 26 = some ([A.int .i64 0, A.int .i64 0, A.int .i64 0, A.int .i64 0, A.int .i64 0, A.int .i64 0, A.int .i64 0, A.int .i64 0, A.sl true []], [(0, 1), (1, 1), (2, 1), (3, 1), (4, 1), (5, 1), (6, 1), (7, 1), (8, 1)]) := h.b26
@[simp] theorem u27_ [h : Facts P] : P.underlying 27 = some (.slice 26) := h.u27
@[simp] theorem s27_ [h : Facts P] : isSliceT P 27 = true := h.s27
@[simp] theorem l27_ [h : Facts P] : selem P 27 = 26 := h.l27
@[simp] theorem t27_ [h : Facts P] : isStrT P 27 = false := h.t27
@[simp] theorem h27_ [h : Facts P] : hasU P 27 = true := h.h27
@[simp] theorem c27_ [h : Facts P] : P.cellsOf 27 = 1 := h.c27
@[simp] theorem a27_ [h : Facts P] : aggT P 27 = false := h.a27
@[simp] theorem z27_ [h : Facts P] : zbox P 27 = some (A.sl true [], 24) := h.z27
@[simp] theorem u28_ [h : Facts P] : P.underlying 28 = some (.slice 76) := h.u28
@[simp] theorem s28_ [h : Facts P] : isSliceT P 28 = true := h.s28
@[simp] theorem l28_ [h : Facts P] : selem P 28 = 76 := h.l28
@[simp] theorem t28_ [h : Facts P] : isStrT P 28 = false := h.t28
@[simp] theorem h28_ [h : Facts P] : hasU P 28 = true := h.h28
@[simp] theorem c28_ [h : Facts P] : P.cellsOf 28 = 1 := h.c28
@[simp] theorem a28_ [h : Facts P] : aggT P 28 = false := h.a28
@[simp] theorem z28_ [h : Facts P] : zbox P 28 = some (A.sl true [], 24) := h.z28
@[simp] theorem u29_ [h : Facts P] : P.underlying 29 = some (.slice 80) := h.u29
@[simp] theorem s29_ [h : Facts P] : isSliceT P 29 = true := h.s29
@[simp] theorem l29_ [h : Facts P] : selem P 29 = 80 := h.l29
@[simp] theorem t29_ [h : Facts P] : isStrT P 29 = false := h.t29
@[simp] theorem h29_ [h : Facts P] : hasU P 29 = true := h.h29
@[simp] theorem c29_ [h : Facts P] : P.cellsOf 29 = 1 := h.c29
@[simp] theorem a29_ [h : Facts P] : aggT P 29 = false := h.a29
@[simp] theorem z29_ [h : Facts P] : zbox P 29 = some (A.sl true [], 24) := h.z29
@[simp] theorem u30_ [h : Facts P] : P.underlying 30 = some (.slice 85) := h.u30
@[simp] theorem s30_ [h : Facts P] : isSliceT P 30 = true := h.s30
@[simp] theorem l30_ [h : Facts P] : selem P 30 = 85 := h.l30
@[simp] theorem t30_ [h : Facts P] : isStrT P 30 = false := h.t30
@[simp] theorem h30_ [h : Facts P] : hasU P 30 = true := h.h30
@[simp] theorem c30_ [h : Facts P] : P.cellsOf 30 = 1 := h.c30
@[simp] theorem a30_ [h : Facts P] : aggT P 30 = false := h.a30
@[simp] theorem z30_ [h : Facts P] : zbox P 30 = some (A.sl true [], 24) := h.z30
@[simp] theorem u31_ [h : Facts P] : P.underlying 31 = some (.slice 89) := h.u31
@[simp] theorem s31_ [h : Facts P] : isSliceT P 31 = true := h.s31
@[simp] theorem l31_ [h : Facts P] : selem P 31 = 89 := h.l31
@[simp] theorem t31_ [h : Facts P] : isStrT P 31 = false := h.t31
@[simp] theorem h31_ [h : Facts P] : hasU P 31 = true := h.h31
@[simp] theorem c31_ [h : Facts P] : P.cellsOf 31 = 1 := h.c31
@[simp] theorem a31_ [h : Facts P] : aggT P 31 = false := h.a31
@[simp] theorem z31_ [h : Facts P] : zbox P 31 = some (A.sl true [], 24) := h.z31
@[simp] theorem u32_ [h : Facts P] : P.underlying 32 = some (.slice 24) := h.u32
@[simp] theorem s32_ [h : Facts P] : isSliceT P 32 = true := h.s32
@[simp] theorem l32_ [h : Facts P] : selem P 32 = 24 := h.l32
@[simp] theorem t32_ [h : Facts P] : isStrT P 32 = false := h.t32
@[simp] theorem h32_ [h : Facts P] : hasU P 32 = true := h.h32
@[simp] theorem c32_ [h : Facts P] : P.cellsOf 32 = 1 := h.c32
@[simp] theorem a32_ [h : Facts P] : aggT P 32 = false := h.a32
@[simp] theorem z32_ [h : Facts P] : zbox P 32 = some (A.sl true [], 24) := h.z32
@[simp] theorem u33_ [h : Facts P] : P.underlying 33 = some (.slice 92) := h.u33
@[simp] theorem s33_ [h : Facts P] : isSliceT P 33 = true := h.s33
@[simp] theorem l33_ [h : Facts P] : selem P 33 = 92 := h.l33
@[simp] theorem t33_ [h : Facts P] : isStrT P 33 = false := h.t33
@[simp] theorem h33_ [h : Facts P] : hasU P 33 = true := h.h33
@[simp] theorem c33_ [h : Facts P] : P.cellsOf 33 = 1 := h.c33
@[simp] theorem a33_ [h : Facts P] : aggT P 33 = false := h.a33
@[simp] theorem z33_ [h : Facts P] : zbox P 33 = some (A.sl true [], 24) := h.z33
@[simp] theorem u34_ [h : Facts P] : P.underlying 34 = some (.slice 94) := h.u34
@[simp] theorem s34_ [h : Facts P] : isSliceT P 34 = true := h.s34
@[simp] theorem l34_ [h : Facts P] : selem P 34 = 94 := h.l34
@[simp] theorem t34_ [h : Facts P] : isStrT P 34 = false := h.t34
@[simp] theorem h34_ [h : Facts P] : hasU P 34 = true := h.h34
@[simp] theorem c34_ [h : Facts P] : P.cellsOf 34 = 1 := h.c34
@[simp] theorem a34_ [h : Facts P] : aggT P 34 = false := h.a34
@[simp] theorem z34_ [h : Facts P] : zbox P 34 = some (A.sl true [], 24) := h.z34
@[simp] theorem u35_ [h : Facts P] : P.underlying 35 = some (.slice 96) := h.u35
@[simp] theorem s35_ [h : Facts P] : isSliceT P 35 = true := h.s35
@[simp] theorem l35_ [h : Facts P] : selem P 35 = 96 := h.l35
@[simp] theorem t35_ [h : Facts P] : isStrT P 35 = false := h.t35
@[simp] theorem h35_ [h : Facts P] : hasU P 35 = true := h.h35
@[simp] theorem c35_ [h : Facts P] : P.cellsOf 35 = 1 := h.c35
@[simp] theorem a35_ [h : Facts P] : aggT P 35 = false := h.a35
@[simp] theorem z35_ [h : Facts P] : zbox P 35 = some (A.sl true [], 24) := h.z35
@[simp] theorem g36_0_ [h : Facts P] : fld P 36 0 = some (3, 0) := h.g36_0
@[simp] theorem g36_1_ [h : Facts P] : fld P 36 1 = some (3, 1) := h.g36_1
@[simp] theorem g36_2_ [h : Facts P] : fld P 36 2 = some (3, 2) := h.g36_2
@[simp] theorem g36_3_ [h : Facts P] : fld P 36 3 = some (27, 3) := h.g36_3
@[simp] theorem g36_4_ [h : Facts P] : fld P 36 4 = some (28, 4) := h.g36_4
@[simp] theorem g36_5_ [h : Facts P] : fld P 36 5 = some (3, 5) := h.g36_5
@[simp] theorem g36_6_ [h : Facts P] : fld P 36 6 = some (24, 6) := h.g36_6
@[simp] theorem g36_7_ [h : Facts P] : fld P 36 7 = some (29, 7) := h.g36_7
@[simp] theorem g36_8_ [h : Facts P] : fld P 36 8 = some (30, 8) := h.g36_8
@[simp] theorem g36_9_ [h : Facts P] : fld P 36 9 = some (31, 9) := h.g36_9
@[simp] theorem g36_10_ [h : Facts P] : fld P 36 10 = some (32, 10) := h.g36_10
@[simp] theorem g36_11_ [h : Facts P] : fld P 36 11 = some (33, 11) := h.g36_11
@[simp] theorem g36_12_ [h : Facts P] : fld P 36 12 = some (34, 12) := h.g36_12
@[simp] theorem g36_13_ [h : Facts P] : fld P 36 13 = some (35, 13) := h.g36_13
@[simp] theorem g36_14_ [h : Facts P] : fld P 36 14 = some (24, 14) := h.g36_14
@[simp] theorem g36_15_ [h : Facts P] : fld P 36 15 = some (24, 15) := h.g36_15
@[simp] theorem g36_16_ [h : Facts P] : fld P 36 16 = some (24, 16) := h.g36_16
@[simp] theorem g36_17_ [h : Facts P] : fld P 36 17 = some (3, 17) := h.g36_17
@[simp] theorem s36_ [h : Facts P] : isSliceT P 36 = false := h.s36
@[simp] theorem t36_ [h : Facts P] : isStrT P 36 = false := h.t36
@[simp] theorem h36_ [h : Facts P] : hasU P 36 = true := h.h36
@[simp] theorem w36_ [h : Facts P] : ftl P 36 = some [(3, 0), (3, 1), (3, 2), (27, 3), (28, 4), (3, 5), (24, 6), (29, 7), (30, 8), (31, 9), (32, 10), (33, 11), (34, 12), (35, 13), (24, 14), (24, 15), (24, 16), (3, 17)] := h.w36
@[simp] theorem c36_ [h : Facts P] : P.cellsOf 36 = 18 := h.c36
@[simp] theorem a36_ [h : Facts P] : aggT P 36 = true := h.a36
@[simp] theorem z36_ [h : Facts P] : zbox P 36 = some (A.agg [A.int .i64 0, A.int .i64 0, A.int .i64 0, A.sl true [], A.sl true [], A.int .i64 0, A.sl true [], A.sl true [], A.sl true [], A.sl true [], A.sl true [], A.sl true [], A.sl true [], A.sl true [], A.sl true [], A.sl true [], A.sl true [], A.int .i64 0], 352) := h.z36
@[simp] theorem b36_ [h : Facts P] : bplan P 36 = some ([A.int .i64 0, A.int .i64 0, A.int .i64 0, A.sl true [], A.sl true [], A.int .i64 0, A.sl true [], A.sl true [], A.sl true [], A.sl true [], A.sl true [], A.sl true [], A.sl true [], A.sl true [], A.sl true [], A.sl true [], A.sl true [], A.int .i64 0], [(0, 1), (1, 1), (2, 1), (3, 1), (4, 1), (5, 1), (6, 1), (7, 1), (8, 1), (9, 1), (10, 1), (11, 1), (12, 1), (13, 1), (14, 1), (15, 1), (16, 1), (17, 1)]) := h.b36
@[simp] theorem g37_0_ [h : Facts P] : fld P 37 0 = some (3, 0) := h.g37_0
@[simp] theorem g37_1_ [h : Facts P] : fld P 37 1 = some (3, 1) := h.g37_1
@[simp] theorem g37_2_ [h : Facts P] : fld P 37 2 = some (3, 2) := h.g37_2
@[simp] theorem g37_3_ [h : Facts P] : fld P 37 3 = some (27, 3) := h.g37_3
@[simp] theorem g37_4_ [h : Facts P] : fld P 37 4 = some (28, 4) := h.g37_4
@[simp] theorem g37_5_ [h : Facts P] : fld P 37 5 = some (3, 5) := h.g37_5
@[simp] theorem g37_6_ [h : Facts P] : fld P 37 6 = some (24, 6) := h.g37_6
@[simp] theorem g37_7_ [h : Facts P] : fld P 37 7 = some (29, 7) := h.g37_7
@[simp] theorem g37_8_ [h : Facts P] : fld P 37 8 = some (30, 8) := h.g37_8
@[simp] theorem g37_9_ [h : Facts P] : fld P 37 9 = some (31, 9) := h.g37_9
@[simp] theorem g37_10_ [h : Facts P] : fld P 37 10 = some (32, 10) := h.g37_10
@[simp] theorem g37_11_ [h : Facts P] : fld P 37 11 = some (33, 11) := h.g37_11
@[simp] theorem g37_12_ [h : Facts P] : fld P 37 12 = some (34, 12) := h.g37_12
@[simp] theorem g37_13_ [h : Facts P] : fld P 37 13 = some (35, 13) := h.g37_13
@[simp] theorem g37_14_ [h : Facts P] : fld P 37 14 = some (24, 14) := h.g37_14
@[simp] theorem g37_15_ [h : Facts P] : fld P 37 15 = some (24, 15) := h.g37_15
@[simp] theorem g37_16_ [h : Facts P] : fld P 37 16 = some (24, 16) := h.g37_16
@[simp] theorem g37_17_ [h : Facts P] : fld P 37 17 = some (3, 17) := h.g37_17
@[simp] theorem s37_ [h : Facts P] : isSliceT P 37 = false := h.s37
@[simp] theorem t37_ [h : Facts P] : isStrT P 37 = false := h.t37
@[simp] theorem h37_ [h : Facts P] : hasU P 37 = true := h.h37
@[simp] theorem w37_ [h : Facts P] : ftl P 37 = some [(3, 0), (3, 1), (3, 2), (27, 3), (28, 4), (3, 5), (24, 6), (29, 7), (30, 8), (31, 9), (32, 10), (33, 11), (34, 12), (35, 13), (24, 14), (24, 15), (24, 16), (3, 17)] := h.w37
@[simp] theorem c37_ [h : Facts P] : P.cellsOf 37 = 18 := h.c37
@[simp] theorem a37_ [h : Facts P] : aggT P 37 = true := h.a37
@[simp] theorem z37_ [h : Facts P] : zbox P 37 = some (A.agg [A.int .i64 0, A.int .i64 0, A.int .i64 0, A.sl true [], A.sl true [], A.int .i64 0, A.sl true [], A.sl true [], A.sl true [], A.sl true [], A.sl true [], A.sl true [], A.sl true [], A.sl true [], A.sl true [], A.sl true [], A.sl true [], A.int .i64 0], 352) := h.z37
@[simp] theorem b37_ [h : Facts P] : bplan P 37 = some ([A.int .i64 0, A.int .i64 0, A.int .i64 0, A.sl true [], A.sl true [], A.int .i64 0, A.sl true [], A.sl true [], A.sl true [], A.sl true [], A.sl true [], A.sl true [], A.sl true [], A.sl true [], A.sl true [], A.sl true [], A.sl true [], A.int .i64 0], [(0, 1), (1, 1), (2, 1), (3, 1), (4, 1), (5, 1), (6, 1), (7, 1), (8, 1), (9, 1), (10, 1), (11, 1), (12, 1), (13, 1), (14, 1), (15, 1), (16, 1), (17, 1)]) := h.b37
@[simp] theorem u38_ [h : Facts P] : P.underlying 38 = some (.slice 70) := h.u38
@[simp] theorem s38_ [h : Facts P] : isSliceT P 38 = true := h.s38
@[simp] theorem l38_ [h : Facts P] : selem P 38 = 70 := h.l38
@[simp] theorem t38_ [h : Facts P] : isStrT P 38 = false := h.t38
@[simp] theorem h38_ [h : Facts P] : hasU P 38 = true := h.h38
@[simp] theorem c38_ [h : Facts P] : P.cellsOf 38 = 1 := h.c38
@[simp] theorem a38_ [h : Facts P] : aggT P 38 = false := h.a38
@[simp] theorem z38_ [h : Facts P] : zbox P 38 = some (A.sl true [], 24) := h.z38
@[simp] theorem g39_0_ [h : Facts P] : fld P 39 0 = some (26, 0) := h.g39_0
@[simp] theorem g39_1_ [h : Facts P] : fld P 39 1 = some (4, 9) := h.g39_1
@[simp] theorem g39_2_ [h : Facts P] : fld P 39 2 = some (37, 10) := h.g39_2
@[simp] theorem g39_3_ [h : Facts P] : fld P 39 3 = some (27, 28) := h.g39_3
@[simp] theorem g39_4_ [h : Facts P] : fld P 39 4 = some (38, 29) := h.g39_4
@[simp] theorem s39_ [h : Facts P] : isSliceT P 39 = false := h.s39
@[simp] theorem t39_ [h : Facts P] : isStrT P 39 = false := h.t39
@[simp] theorem h39_ [h : Facts P] : hasU P 39 = true := h.h39
@[simp] theorem w39_ [h : Facts P] : ftl P 39 = some [(26, 0), (4, 9), (37, 10), (27, 28), (38, 29)] := h.w39
@[simp] theorem c39_ [h : Facts P] : P.cellsOf 39 = 30 := h.c39
@[simp] theorem a39_ [h : Facts P] : aggT P 39 = true := h.a39
@[simp] theorem z39_ [h : Facts P] : zbox P 39 = some (A.agg [A.int .i64 0, A.int .i64 0, A.int .i64 0, A.int .i64 0, A.int .i64 0, A.int .i64 0, A.int .i64 0, A.int .i64 0, A.sl true [], A.bool false, A.int .i64 0, A.int .i64 0, A.int .i64 0, A.sl true [], A.sl true [], A.int .i64 0, A.sl true [], A.sl true [], A.sl true [], A.sl true [], A.sl true [], A.sl true [], A.sl true [], A.sl true [], A.sl true [], A.sl true [], A.sl true [], A.int .i64 0, A.sl true [], A.sl true []], 496) := h.z39
@[simp] theorem b39_ [h : Facts P] : bplan P 39 = some ([A.int .i64 0, A.int .i64 0, A.int .i64 0, A.int .i64 0, A.int .i64 0, A.int .i64 0, A.int .i64 0, A.int .i64 0, A.sl true [], A.bool false, A.int .i64 0, A.int .i64 0, A.int .i64 0, A.sl true [], A.sl true [], A.int .i64 0, A.sl true [], A.sl true [], A.sl true [], A.sl true [], A.sl true [], A.sl true [], A.sl true [], A.sl true [], A.sl true [], A.sl true [], A.sl true [], A.int .i64 0, A.sl true [], A.sl true []], [(0, 9), (9, 1), (10, 18), (28, 1), (29, 1)]) := h.b39
@[simp] theorem g40_0_ [h : Facts P] : fld P 40 0 = some (26, 0) := h.g40_0
@[simp] theorem g40_1_ [h : Facts P] : fld P 40 1 = some (4, 9) := h.g40_1
@[simp] theorem g40_2_ [h : Facts P] : fld P 40 2 = some (37, 10) := h.g40_2
@[simp] theorem g40_3_ [h : Facts P] : fld P 40 3 = some (27, 28) := h.g40_3
@[simp] theorem g40_4_ [h : Facts P] : fld P 40 4 = some (38, 29) := h.g40_4
@[simp] theorem s40_ [h : Facts P] : isSliceT P 40 = false := h.s40
@[simp] theorem t40_ [h : Facts P] : isStrT P 40 = false := h.t40
@[simp] theorem h40_ [h : Facts P] : hasU P 40 = true := h.h40
@[simp] theorem w40_ [h : Facts P] : ftl P 40 = some [(26, 0), (4, 9), (37, 10), (27, 28), (38, 29)] := h.w40
@[simp] theorem c40_ [h : Facts P] : P.cellsOf 40 = 30 := h.c40
@[simp] theorem a40_ [h : Facts P] : aggT P 40 = true := h.a40
@[simp] theorem z40_ [h : Facts P] : zbox P 40 = some (A.agg [A.int .i64 0, A.int .i64 0, A.int .i64 0, A.int .i64 0, A.int .i64 0, A.int .i64 0, A.int .i64 0, A.int .i64 0, A.sl true [], A.bool false, A.int .i64 0, A.int .i64 0, A.int .i64 0, A.sl true [], A.sl true [], A.int .i64 0, A.sl true [], A.sl true [], A.sl true [], A.sl true [], A.sl true [], A.sl true [], A.sl true [], A.sl true [], A.sl true [], A.sl true [], A.sl true [], A.int .i64 0, A.sl true [], A.sl true []], 496) := h.z40
@[simp] theorem b40_ [h : Facts P] : bplan P 40 = some ([A.int .i64 0, A.int .i64 0, A.int .i64 0, A.int .i64 0, A.int .i64 0, A.int .i64 0, A.int .i64 0, A.int .i64 0, A.sl true [], A.bool false, A.int .i64 0, A.int .i64 0, A.int .i64 0, A.sl true [], A.sl true [], A.int .i64 0, A.sl true [], A.sl true [], A.sl true [], A.sl true [], A.sl true [], A.sl true [], A.sl true [], A.sl true [], A.sl true [], A.sl true [], A.sl true [], A.int .i64 0, A.sl true [], A.sl true []], [(0, 9), (9, 1), (10, 18), (28, 1), (29, 1)]) := h.b40
@[simp] theorem u43_ [h : Facts P] : P.underlying 43 = some (.int .i64) := h.u43
@[simp] theorem s43_ [h : Facts P] : isSliceT P 43 = false := h.s43
@[simp] theorem t43_ [h : Facts P] : isStrT P 43 = false := h.t43
@[simp] theorem h43_ [h : Facts P] : hasU P 43 = true := h.h43
@[simp] theorem i43_ [h : Facts P] : intT P 43 = some .i64 := h.i43
@[simp] theorem c43_ [h : Facts P] : P.cellsOf 43 = 1 := h.c43
@[simp] theorem a43_ [h : Facts P] : aggT P 43 = false := h.a43
@[simp] theorem z43_ [h : Facts P] : zbox P 43 = some (A.int .i64 0, 8) := h.z43
@[simp] theorem u68_ [h : Facts P] : P.underlying 68 = some (.int .i64) := h.u68
@[simp] theorem s68_ [h : Facts P] : isSliceT P 68 = false := h.s68
@[simp] theorem t68_ [h : Facts P] : isStrT P 68 = false := h.t68
@[simp] theorem h68_ [h : Facts P] : hasU P 68 = true := h.h68
@[simp] theorem i68_ [h : Facts P] : intT P 68 = some .i64 := h.i68
@[simp] theorem c68_ [h : Facts P] : P.cellsOf 68 = 1 := h.c68
@[simp] theorem a68_ [h : Facts P] : aggT P 68 = false := h.a68
@[simp] theorem z68_ [h : Facts P] : zbox P 68 = some (A.int .i64 0, 8) := h.z68
@[simp] theorem g69_0_ [h : Facts P] : fld P 69 0 = some (3, 0) := h.g69_0
@[simp] theorem g69_1_ [h : Facts P] : fld P 69 1 = some (3, 1) := h.g69_1
@[simp] theorem g69_2_ [h : Facts P] : fld P 69 2 = some (68, 2) := h.g69_2
@[simp] theorem g69_3_ [h : Facts P] : fld P 69 3 = some (3, 3) := h.g69_3
@[simp] theorem g69_4_ [h : Facts P] : fld P 69 4 = some (3, 4) := h.g69_4
@[simp] theorem g69_5_ [h : Facts P] : fld P 69 5 = some (3, 5) := h.g69_5
@[simp] theorem s69_ [h : Facts P] : isSliceT P 69 = false := h.s69
@[simp] theorem t69_ [h : Facts P] : isStrT P 69 = false := h.t69
@[simp] theorem h69_ [h : Facts P] : hasU P 69 = true := h.h69
@[simp] theorem w69_ [h : Facts P] : ftl P 69 = some [(3, 0), (3, 1), (68, 2), (3, 3), (3, 4), (3, 5)] := h.w69
@[simp] theorem c69_ [h : Facts P] : P.cellsOf 69 = 6 := h.c69
@[simp] theorem a69_ [h : Facts P] : aggT P 69 = true := h.a69
@[simp] theorem z69_ [h : Facts P] : zbox P 69 = some (A.agg [A.int .i64 0, A.int .i64 0, A.int .i64 0, A.int .i64 0, A.int .i64 0, A.int .i64 0], 48) := h.z69
@[simp] theorem b69_ [h : Facts P] : bplan P 69 = some ([A.int .i64 0, A.int .i64 0, A.int .i64 0, A.int .i64 0, A.int .i64 0, A.int .i64 0], [(0, 1), (1, 1), (2, 1), (3, 1), (4, 1), (5, 1)]) := h.b69
@[simp] theorem e69_ [h : Facts P] : eqT P 69 = some [0, 0, 0, 0, 0, 0] := h.e69
@[simp] theorem g70_0_ [h : Facts P] : fld P 70 0 = some (3, 0) := h.g70_0
@[simp] theorem g70_1_ [h : Facts P] : fld P 70 1 = some (3, 1) := h.g70_1
@[simp] theorem g70_2_ [h : Facts P] : fld P 70 2 = some (68, 2) := h.g70_2
@[simp] theorem g70_3_ [h : Facts P] : fld P 70 3 = some (3, 3) := h.g70_3
@[simp] theorem g70_4_ [h : Facts P] : fld P 70 4 = some (3, 4) := h.g70_4
@[simp] theorem g70_5_ [h : Facts P] : fld P 70 5 = some (3, 5) := h.g70_5
@[simp] theorem s70_ [h : Facts P] : isSliceT P 70 = false := h.s70
@[simp] theorem t70_ [h : Facts P] : isStrT P 70 = false := h.t70
@[simp] theorem h70_ [h : Facts P] : hasU P 70 = true := h.h70
@[simp] theorem w70_ [h : Facts P] : ftl P 70 = some [(3, 0), (3, 1), (68, 2), (3, 3), (3, 4), (3, 5)] := h.w70
@[simp] theorem c70_ [h : Facts P] : P.cellsOf 70 = 6 := h.c70
@[simp] theorem a70_ [h : Facts P] : aggT P 70 = true := h.a70
@[simp] theorem z70_ [h : Facts P] : zbox P 70 = some (A.agg [A.int .i64 0, A.int .i64 0, A.int .i64 0, A.int .i64 0, A.int .i64 0, A.int .i64 0], 48) := h.z70
@[simp] theorem b70_ [h : Facts P] : bplan P 70 = some ([A.int .i64 0, A.int .i64 0, A.int .i64 0, A.int .i64 0, A.int .i64 0, A.int .i64 0], [(0, 1), (1, 1), (2, 1), (3, 1), (4, 1), (5, 1)]) := h.b70
@[simp] theorem e70_ [h : Facts P] : eqT P 70 = some [0, 0, 0, 0, 0, 0] := h.e70
@[simp] theorem u74_ [h : Facts P] : P.underlying 74 = some (.int .i64) := h.u74
@[simp] theorem s74_ [h : Facts P] : isSliceT P 74 = false := h.s74
@[simp] theorem t74_ [h : Facts P] : isStrT P 74 = false := h.t74
@[simp] theorem h74_ [h : Facts P] : hasU P 74 = true := h.h74
@[simp] theorem i74_ [h : Facts P] : intT P 74 = some .i64 := h.i74
@[simp] theorem c74_ [h : Facts P] : P.cellsOf 74 = 1 := h.c74
@[simp] theorem a74_ [h : Facts P] : aggT P 74 = false := h.a74
@[simp] theorem z74_ [h : Facts P] : zbox P 74 = some (A.int .i64 0, 8) := h.z74
@[simp] theorem g75_0_ [h : Facts P] : fld P 75 0 = some (3, 0) := h.g75_0
@[simp] theorem g75_1_ [h : Facts P] : fld P 75 1 = some (3, 1) := h.g75_1
@[simp] theorem g75_2_ [h : Facts P] : fld P 75 2 = some (3, 2) := h.g75_2
@[simp] theorem g75_3_ [h : Facts P] : fld P 75 3 = some (24, 3) := h.g75_3
@[simp] theorem g75_4_ [h : Facts P] : fld P 75 4 = some (74, 4) := h.g75_4
@[simp] theorem g75_5_ [h : Facts P] : fld P 75 5 = some (3, 5) := h.g75_5
@[simp] theorem g75_6_ [h : Facts P] : fld P 75 6 = some (3, 6) := h.g75_6
@[simp] theorem s75_ [h : Facts P] : isSliceT P 75 = false := h.s75
@[simp] theorem t75_ [h : Facts P] : isStrT P 75 = false := h.t75
@[simp] theorem h75_ [h : Facts P] : hasU P 75 = true := h.h75
@[simp] theorem w75_ [h : Facts P] : ftl P 75 = some [(3, 0), (3, 1), (3, 2), (24, 3), (74, 4), (3, 5), (3, 6)] := h.w75
@[simp] theorem c75_ [h : Facts P] : P.cellsOf 75 = 7 := h.c75
@[simp] theorem a75_ [h : Facts P] : aggT P 75 = true := h.a75
@[simp] theorem z75_ [h : Facts P] : zbox P 75 = some (A.agg [A.int .i64 0, A.int .i64 0, A.int .i64 0, A.sl true [], A.int .i64 0, A.int .i64 0, A.int .i64 0], 72) := h.z75
@[simp] theorem b75_ [h : Facts P] : bplan P 75 = some ([A.int .i64 0, A.int .i64 0, A.int .i64 0, A.sl true [], A.int .i64 0, A.int .i64 0, A.int .i64 0], [(0, 1), (1, 1), (2, 1), (3, 1), (4, 1), (5, 1), (6, 1)]) := h.b75
@[simp] theorem g76_0_ [h : Facts P] : fld P 76 0 = some (3, 0) := h.g76_0
@[simp] theorem g76_1_ [h : Facts P] : fld P 76 1 = some (3, 1) := h.g76_1
@[simp] theorem g76_2_ [h : Facts P] : fld P 76 2 = some (3, 2) := h.g76_2
@[simp] theorem g76_3_ [h : Facts P] : fld P 76 3 = some (24, 3) := h.g76_3
@[simp] theorem g76_4_ [h : Facts P] : fld P 76 4 = some (74, 4) := h.g76_4
@[simp] theorem g76_5_ [h : Facts P] : fld P 76 5 = some (3, 5) := h.g76_5
@[simp] theorem g76_6_ [h : Facts P] : fld P 76 6 = some (3, 6) := h.g76_6
@[simp] theorem s76_ [h : Facts P] : isSliceT P 76 = false := h.s76
@[simp] theorem t76_ [h : Facts P] : isStrT P 76 = false := h.t76
@[simp] theorem h76_ [h : Facts P] : hasU P 76 = true := h.h76
@[simp] theorem w76_ [h : Facts P] : ftl P 76 = some [(3, 0), (3, 1), (3, 2), (24, 3), (74, 4), (3, 5), (3, 6)] := h.w76
@[simp] theorem c76_ [h : Facts P] : P.cellsOf 76 = 7 := h.c76
@[simp] theorem a76_ [h : Facts P] : aggT P 76 = true := h.a76
@[simp] theorem z76_ [h : Facts P] : zbox P 76 = some (A.agg [A.int .i64 0, A.int .i64 0, A.int .i64 0, A.sl true [], A.int .i64 0, A.int .i64 0, A.int .i64 0], 72) := h.z76
@[simp] theorem b76_ [h : Facts P] : bplan P 76 = some ([A.int .i64 0, A.int .i64 0, A.int .i64 0, A.sl true [], A.int .i64 0, A.int .i64 0, A.int .i64 0], [(0, 1), (1, 1), (2, 1), (3, 1), (4, 1), (5, 1), (6, 1)]) := h.b76
@[simp] theorem u78_ [h : Facts P] : P.underlying 78 = some (.slice 105) := h.u78
@[simp] theorem s78_ [h : Facts P] : isSliceT P 78 = true := h.s78
@[simp] theorem l78_ [h : Facts P] : selem P 78 = 105 := h.l78
@[simp] theorem t78_ [h : Facts P] : isStrT P 78 = false := h.t78
@[simp] theorem h78_ [h : Facts P] : hasU P 78 = true := h.h78
@[simp] theorem c78_ [h : Facts P] : P.cellsOf 78 = 1 := h.c78
@[simp] theorem a78_ [h : Facts P] : aggT P 78 = false := h.a78
@[simp] theorem z78_ [h : Facts P] : zbox P 78 = some (A.sl true [], 24) := h.z78
@[simp] theorem g79_0_ [h : Facts P] : fld P 79 0 = some (3, 0) := h.g79_0
@[simp] theorem g79_1_ [h : Facts P] : fld P 79 1 = some (4, 1) := h.g79_1
@[simp] theorem g79_2_ [h : Facts P] : fld P 79 2 = some (78, 2) := h.g79_2
@[simp] theorem g79_3_ [h : Facts P] : fld P 79 3 = some (78, 3) := h.g79_3
@[simp] theorem g79_4_ [h : Facts P] : fld P 79 4 = some (3, 4) := h.g79_4
@[simp] theorem s79_ [h : Facts P] : isSliceT P 79 = false := h.s79
@[simp] theorem t79_ [h : Facts P] : isStrT P 79 = false := h.t79
@[simp] theorem h79_ [h : Facts P] : hasU P 79 = true := h.h79
@[simp] theorem w79_ [h : Facts P] : ftl P 79 = some [(3, 0), (4, 1), (78, 2), (78, 3), (3, 4)] := h.w79
@[simp] theorem c79_ [h : Facts P] : P.cellsOf 79 = 5 := h.c79
@[simp] theorem a79_ [h : Facts P] : aggT P 79 = true := h.a79
@[simp] theorem z79_ [h : Facts P] : zbox P 79 = some (A.agg [A.int .i64 0, A.bool false, A.sl true [], A.sl true [], A.int .i64 0], 72) := h.z79
@[simp] theorem b79_ [h : Facts P] : bplan P 79 = some ([A.int .i64 0, A.bool false, A.sl true [], A.sl true [], A.int .i64 0], [(0, 1), (1, 1), (2, 1), (3, 1), (4, 1)]) := h.b79
@[simp] theorem g80_0_ [h : Facts P] : fld P 80 0 = some (3, 0) := h.g80_0
@[simp] theorem g80_1_ [h : Facts P] : fld P 80 1 = some (4, 1) := h.g80_1
@[simp] theorem g80_2_ [h : Facts P] : fld P 80 2 = some (78, 2) := h.g80_2
@[simp] theorem g80_3_ [h : Facts P] : fld P 80 3 = some (78, 3) := h.g80_3
@[simp] theorem g80_4_ [h : Facts P] : fld P 80 4 = some (3, 4) := h.g80_4
@[simp] theorem s80_ [h : Facts P] : isSliceT P 80 = false := h.s80
@[simp] theorem t80_ [h : Facts P] : isStrT P 80 = false := h.t80
@[simp] theorem h80_ [h : Facts P] : hasU P 80 = true := h.h80
@[simp] theorem w80_ [h : Facts P] : ftl P 80 = some [(3, 0), (4, 1), (78, 2), (78, 3), (3, 4)] := h.w80
@[simp] theorem c80_ [h : Facts P] : P.cellsOf 80 = 5 := h.c80
@[simp] theorem a80_ [h : Facts P] : aggT P 80 = true := h.a80
@[simp] theorem z80_ [h : Facts P] : zbox P 80 = some (A.agg [A.int .i64 0, A.bool false, A.sl true [], A.sl true [], A.int .i64 0], 72) := h.z80
@[simp] theorem b80_ [h : Facts P] : bplan P 80 = some ([A.int .i64 0, A.bool false, A.sl true [], A.sl true [], A.int .i64 0], [(0, 1), (1, 1), (2, 1), (3, 1), (4, 1)]) := h.b80
@[simp] theorem u82_ [h : Facts P] : P.underlying 82 = some (.int .i64) := h.u82
@[simp] theorem s82_ [h : Facts P] : isSliceT P 82 = false := h.s82
@[simp] theorem t82_ [h : Facts P] : isStrT P 82 = false := h.t82
@[simp] theorem h82_ [h : Facts P] : hasU P 82 = true := h.h82
@[simp] theorem i82_ [h : Facts P] : intT P 82 = some .i64 := h.i82
@[simp] theorem c82_ [h : Facts P] : P.cellsOf 82 = 1 := h.c82
@[simp] theorem a82_ [h : Facts P] : aggT P 82 = false := h.a82
@[simp] theorem z82_ [h : Facts P] : zbox P 82 = some (A.int .i64 0, 8) := h.z82
@[simp] theorem u83_ [h : Facts P] : P.underlying 83 = some (.slice 101) := h.u83
@[simp] theorem s83_ [h : Facts P] : isSliceT P 83 = true := h.s83
@[simp] theorem l83_ [h : Facts P] : selem P 83 = 101 := h.l83
@[simp] theorem t83_ [h : Facts P] : isStrT P 83 = false := h.t83
@[simp] theorem h83_ [h : Facts P] : hasU P 83 = true := h.h83
@[simp] theorem c83_ [h : Facts P] : P.cellsOf 83 = 1 := h.c83
@[simp] theorem a83_ [h : Facts P] : aggT P 83 = false := h.a83
@[simp] theorem z83_ [h : Facts P] : zbox P 83 = some (A.sl true [], 24) := h.z83
@[simp] theorem g84_0_ [h : Facts P] : fld P 84 0 = some (3, 0) := h.g84_0
@[simp] theorem g84_1_ [h : Facts P] : fld P 84 1 = some (82, 1) := h.g84_1
@[simp] theorem g84_2_ [h : Facts P] : fld P 84 2 = some (24, 2) := h.g84_2
@[simp] theorem g84_3_ [h : Facts P] : fld P 84 3 = some (83, 3) := h.g84_3
@[simp] theorem g84_4_ [h : Facts P] : fld P 84 4 = some (24, 4) := h.g84_4
@[simp] theorem g84_5_ [h : Facts P] : fld P 84 5 = some (3, 5) := h.g84_5
@[simp] theorem g84_6_ [h : Facts P] : fld P 84 6 = some (3, 6) := h.g84_6
@[simp] theorem s84_ [h : Facts P] : isSliceT P 84 = false := h.s84
@[simp] theorem t84_ [h : Facts P] : isStrT P 84 = false := h.t84
@[simp] theorem h84_ [h : Facts P] : hasU P 84 = true := h.h84
@[simp] theorem w84_ [h : Facts P] : ftl P 84 = some [(3, 0), (82, 1), (24, 2), (83, 3), (24, 4), (3, 5), (3, 6)] := h.w84
@[simp] theorem c84_ [h : Facts P] : P.cellsOf 84 = 7 := h.c84
@[simp] theorem a84_ [h : Facts P] : aggT P 84 = true := h.a84
@[simp] theorem z84_ [h : Facts P] : zbox P 84 = some (A.agg [A.int .i64 0, A.int .i64 0, A.sl true [], A.sl true [], A.sl true [], A.int .i64 0, A.int .i64 0], 104) := h.z84
@[simp] theorem b84_ [h : Facts P] : bplan P 84 = some ([A.int .i64 0, A.int .i64 0, A.sl true [], A.sl true [], A.sl true [], A.int .i64 0, A.int .i64 0], [(0, 1), (1, 1), (2, 1), (3, 1), (4, 1), (5, 1), (6, 1)]) := h.b84
@[simp] theorem g85_0_ [h : Facts P] : fld P 85 0 = some (3, 0) := h.g85_0
@[simp] theorem g85_1_ [h : Facts P] : fld P 85 1 = some (82, 1) := h.g85_1
@[simp] theorem g85_2_ [h : Facts P] : fld P 85 2 = some (24, 2) := h.g85_2
@[simp] theorem g85_3_ [h : Facts P] : fld P 85 3 = some (83, 3) := h.g85_3
@[simp] theorem g85_4_ [h : Facts P] : fld P 85 4 = some (24, 4) := h.g85_4
@[simp] theorem g85_5_ [h : Facts P] : fld P 85 5 = some (3, 5) := h.g85_5
@[simp] theorem g85_6_ [h : Facts P] : fld P 85 6 = some (3, 6) := h.g85_6
@[simp] theorem s85_ [h : Facts P] : isSliceT P 85 = false := h.s85
@[simp] theorem t85_ [h : Facts P] : isStrT P 85 = false := h.t85
@[simp] theorem h85_ [h : Facts P] : hasU P 85 = true := h.h85
@[simp] theorem w85_ [h : Facts P] : ftl P 85 = some [(3, 0), (82, 1), (24, 2), (83, 3), (24, 4), (3, 5), (3, 6)] := h.w85
@[simp] theorem c85_ [h : Facts P] : P.cellsOf 85 = 7 := h.c85
@[simp] theorem a85_ [h : Facts P] : aggT P 85 = true := h.a85
@[simp] theorem z85_ [h : Facts P] : zbox P 85 = some (A.agg [A.int .i64 0, A.int .i64 0, A.sl true [], A.sl true [], A.sl true [], A.int .i64 0, A.int .i64 0], 104) := h.z85
@[simp] theorem b85_ [h : Facts P] : bplan P 85 = some ([A.int .i64 0, A.int .i64 0, A.sl true [], A.sl true [], A.sl true [], A.int .i64 0, A.int .i64 0], [(0, 1), (1, 1), (2, 1), (3, 1), (4, 1), (5, 1), (6, 1)]) := h.b85
@[simp] theorem u87_ [h : Facts P] : P.underlying 87 = some (.slice 103) := h.u87
@[simp] theorem s87_ [h : Facts P] : isSliceT P 87 = true := h.s87
@[simp] theorem l87_ [h : Facts P] : selem P 87 = 103 := h.l87
@[simp] theorem t87_ [h : Facts P] : isStrT P 87 = false := h.t87
@[simp] theorem h87_ [h : Facts P] : hasU P 87 = true := h.h87
@[simp] theorem c87_ [h : Facts P] : P.cellsOf 87 = 1 := h.c87
@[simp] theorem a87_ [h : Facts P] : aggT P 87 = false := h.a87
@[simp] theorem z87_ [h : Facts P] : zbox P 87 = some (A.sl true [], 24) := h.z87
@[simp] theorem g88_0_ [h : Facts P] : fld P 88 0 = some (3, 0) := h.g88_0
@[simp] theorem g88_1_ [h : Facts P] : fld P 88 1 = some (3, 1) := h.g88_1
@[simp] theorem g88_2_ [h : Facts P] : fld P 88 2 = some (87, 2) := h.g88_2
@[simp] theorem g88_3_ [h : Facts P] : fld P 88 3 = some (3, 3) := h.g88_3
@[simp] theorem s88_ [h : Facts P] : isSliceT P 88 = false := h.s88
@[simp] theorem t88_ [h : Facts P] : isStrT P 88 = false := h.t88
@[simp] theorem h88_ [h : Facts P] : hasU P 88 = true := h.h88
@[simp] theorem w88_ [h : Facts P] : ftl P 88 = some [(3, 0), (3, 1), (87, 2), (3, 3)] := h.w88
@[simp] theorem c88_ [h : Facts P] : P.cellsOf 88 = 4 := h.c88
@[simp] theorem a88_ [h : Facts P] : aggT P 88 = true := h.a88
@[simp] theorem z88_ [h : Facts P] : zbox P 88 = some (A.agg [A.int .i64 0, A.int .i64 0, A.sl true [], A.int .i64 0], 48) := h.z88
@[simp] theorem b88_ [h : Facts P] : bplan P 88 = some ([A.int .i64 0, A.int .i64 0, A.sl true [], A.int .i64 0], [(0, 1), (1, 1), (2, 1), (3, 1)]) := h.b88
@[simp] theorem g89_0_ [h : Facts P] : fld P 89 0 = some (3, 0) := h.g89_0
@[simp] theorem g89_1_ [h : Facts P] : fld P 89 1 = some (3, 1) := h.g89_1
@[simp] theorem g89_2_ [h : Facts P] : fld P 89 2 = some (87, 2) := h.g89_2
@[simp] theorem g89_3_ [h : Facts P] : fld P 89 3 = some (3, 3) := h.g89_3
@[simp] theorem s89_ [h : Facts P] : isSliceT P 89 = false := h.s89
@[simp] theorem t89_ [h : Facts P] : isStrT P 89 = false := h.t89
@[simp] theorem h89_ [h : Facts P] : hasU P 89 = true := h.h89
@[simp] theorem w89_ [h : Facts P] : ftl P 89 = some [(3, 0), (3, 1), (87, 2), (3, 3)] := h.w89
@[simp] theorem c89_ [h : Facts P] : P.cellsOf 89 = 4 := h.c89
@[simp] theorem a89_ [h : Facts P] : aggT P 89 = true := h.a89
@[simp] theorem z89_ [h : Facts P] : zbox P 89 = some (A.agg [A.int .i64 0, A.int .i64 0, A.sl true [], A.int .i64 0], 48) := h.z89
@[simp] theorem b89_ [h : Facts P] : bplan P 89 = some ([A.int .i64 0, A.int .i64 0, A.sl true [], A.int .i64 0], [(0, 1), (1, 1), (2, 1), (3, 1)]) := h.b89
@[simp] theorem u90_ [h : Facts P] : P.underlying 90 = some (.int .u64) := h.u90
@[simp] theorem s90_ [h : Facts P] : isSliceT P 90 = false := h.s90
@[simp] theorem t90_ [h : Facts P] : isStrT P 90 = false := h.t90
@[simp] theorem h90_ [h : Facts P] : hasU P 90 = true := h.h90
@[simp] theorem i90_ [h : Facts P] : intT P 90 = some .u64 := h.i90
@[simp] theorem c90_ [h : Facts P] : P.cellsOf 90 = 1 := h.c90
@[simp] theorem a90_ [h : Facts P] : aggT P 90 = false := h.a90
@[simp] theorem z90_ [h : Facts P] : zbox P 90 = some (A.int .u64 0, 8) := h.z90
@[simp] theorem g91_0_ [h : Facts P] : fld P 91 0 = some (90, 0) := h.g91_0
@[simp] theorem g91_1_ [h : Facts P] : fld P 91 1 = some (3, 1) := h.g91_1
@[simp] theorem g91_2_ [h : Facts P] : fld P 91 2 = some (4, 2) := h.g91_2
@[simp] theorem s91_ [h : Facts P] : isSliceT P 91 = false := h.s91
@[simp] theorem t91_ [h : Facts P] : isStrT P 91 = false := h.t91
@[simp] theorem h91_ [h : Facts P] : hasU P 91 = true := h.h91
@[simp] theorem w91_ [h : Facts P] : ftl P 91 = some [(90, 0), (3, 1), (4, 2)] := h.w91
@[simp] theorem c91_ [h : Facts P] : P.cellsOf 91 = 3 := h.c91
@[simp] theorem a91_ [h : Facts P] : aggT P 91 = true := h.a91
@[simp] theorem z91_ [h : Facts P] : zbox P 91 = some (A.agg [A.int .u64 0, A.int .i64 0, A.bool false], 24) := h.z91
@[simp] theorem b91_ [h : Facts P] : bplan P 91 = some ([A.int .u64 0, A.int .i64 0, A.bool false], [(0, 1), (1, 1), (2, 1)]) := h.b91
@[simp] theorem e91_ [h : Facts P] : eqT P 91 = some [0, 0, 1] := h.e91
@[simp] theorem g92_0_ [h : Facts P] : fld P 92 0 = some (90, 0) := h.g92_0
@[simp] theorem g92_1_ [h : Facts P] : fld P 92 1 = some (3, 1) := h.g92_1
@[simp] theorem g92_2_ [h : Facts P] : fld P 92 2 = some (4, 2) := h.g92_2
@[simp] theorem s92_ [h : Facts P] : isSliceT P 92 = false := h.s92
@[simp] theorem t92_ [h : Facts P] : isStrT P 92 = false := h.t92
@[simp] theorem h92_ [h : Facts P] : hasU P 92 = true := h.h92
@[simp] theorem w92_ [h : Facts P] : ftl P 92 = some [(90, 0), (3, 1), (4, 2)] := h.w92
@[simp] theorem c92_ [h : Facts P] : P.cellsOf 92 = 3 := h.c92
@[simp] theorem a92_ [h : Facts P] : aggT P 92 = true := h.a92
@[simp] theorem z92_ [h : Facts P] : zbox P 92 = some (A.agg [A.int .u64 0, A.int .i64 0, A.bool false], 24) := h.z92
@[simp] theorem b92_ [h : Facts P] : bplan P 92 = some ([A.int .u64 0, A.int .i64 0, A.bool false], [(0, 1), (1, 1), (2, 1)]) := h.b92
@[simp] theorem e92_ [h : Facts P] : eqT P 92 = some [0, 0, 1] := h.e92
@[simp] theorem g93_0_ [h : Facts P] : fld P 93 0 = some (3, 0) := h.g93_0
@[simp] theorem g93_1_ [h : Facts P] : fld P 93 1 = some (3, 1) := h.g93_1
@[simp] theorem g93_2_ [h : Facts P] : fld P 93 2 = some (3, 2) := h.g93_2
@[simp] theorem g93_3_ [h : Facts P] : fld P 93 3 = some (3, 3) := h.g93_3
@[simp] theorem g93_4_ [h : Facts P] : fld P 93 4 = some (3, 4) := h.g93_4
@[simp] theorem s93_ [h : Facts P] : isSliceT P 93 = false := h.s93
@[simp] theorem t93_ [h : Facts P] : isStrT P 93 = false := h.t93
@[simp] theorem h93_ [h : Facts P] : hasU P 93 = true := h.h93
@[simp] theorem w93_ [h : Facts P] : ftl P 93 = some [(3, 0), (3, 1), (3, 2), (3, 3), (3, 4)] := h.w93
@[simp] theorem c93_ [h : Facts P] : P.cellsOf 93 = 5 := h.c93
@[simp] theorem a93_ [h : Facts P] : aggT P 93 = true := h.a93
@[simp] theorem z93_ [h : Facts P] : zbox P 93 = some (A.agg [A.int .i64 0, A.int .i64 0, A.int .i64 0, A.int .i64 0, A.int .i64 0], 40) := h.z93
@[simp] theorem b93_ [h : Facts P] : bplan P 93 = some ([A.int .i64 0, A.int .i64 0, A.int .i64 0, A.int .i64 0, A.int .i64 0], [(0, 1), (1, 1), (2, 1), (3, 1), (4, 1)]) := h.b93
@[simp] theorem e93_ [h : Facts P] : eqT P 93 = some [0, 0, 0, 0, 0] := h.e93
@[simp] theorem g94_0_ [h : Facts P] : fld P 94 0 = some (3, 0) := h.g94_0
@[simp] theorem g94_1_ [h : Facts P] : fld P 94 1 = some (3, 1) := h.g94_1
@[simp] theorem g94_2_ [h : Facts P] : fld P 94 2 = some (3, 2) := h.g94_2
@[simp] theorem g94_3_ [h : Facts P] : fld P 94 3 = some (3, 3) := h.g94_3
@[simp] theorem g94_4_ [h : Facts P] : fld P 94 4 = some (3, 4) := h.g94_4
@[simp] theorem s94_ [h : Facts P] : isSliceT P 94 = false := h.s94
@[simp] theorem t94_ [h : Facts P] : isStrT P 94 = false := h.t94
@[simp] theorem h94_ [h : Facts P] : hasU P 94 = true := h.h94
@[simp] theorem w94_ [h : Facts P] : ftl P 94 = some [(3, 0), (3, 1), (3, 2), (3, 3), (3, 4)] := h.w94
@[simp] theorem c94_ [h : Facts P] : P.cellsOf 94 = 5 := h.c94
@[simp] theorem a94_ [h : Facts P] : aggT P 94 = true := h.a94
@[simp] theorem z94_ [h : Facts P] : zbox P 94 = some (A.agg [A.int .i64 0, A.int .i64 0, A.int .i64 0, A.int .i64 0, A.int .i64 0], 40) := h.z94
@[simp] theorem b94_ [h : Facts P] : bplan P 94 = some ([A.int .i64 0, A.int .i64 0, A.int .i64 0, A.int .i64 0, A.int .i64 0], [(0, 1), (1, 1), (2, 1), (3, 1), (4, 1)]) := h.b94
@[simp] theorem e94_ [h : Facts P] : eqT P 94 = some [0, 0, 0, 0, 0] := h.e94
@[simp] theorem g95_0_ [h : Facts P] : fld P 95 0 = some (3, 0) := h.g95_0
@[simp] theorem g95_1_ [h : Facts P] : fld P 95 1 = some (3, 1) := h.g95_1
@[simp] theorem g95_2_ [h : Facts P] : fld P 95 2 = some (3, 2) := h.g95_2
@[simp] theorem g95_3_ [h : Facts P] : fld P 95 3 = some (3, 3) := h.g95_3
@[simp] theorem g95_4_ [h : Facts P] : fld P 95 4 = some (3, 4) := h.g95_4
@[simp] theorem g95_5_ [h : Facts P] : fld P 95 5 = some (3, 5) := h.g95_5
@[simp] theorem s95_ [h : Facts P] : isSliceT P 95 = false := h.s95
@[simp] theorem t95_ [h : Facts P] : isStrT P 95 = false := h.t95
@[simp] theorem h95_ [h : Facts P] : hasU P 95 = true := h.h95
@[simp] theorem w95_ [h : Facts P] : ftl P 95 = some [(3, 0), (3, 1), (3, 2), (3, 3), (3, 4), (3, 5)] := h.w95
@[simp] theorem c95_ [h : Facts P] : P.cellsOf 95 = 6 := h.c95
@[simp] theorem a95_ [h : Facts P] : aggT P 95 = true := h.a95
@[simp] theorem z95_ [h : Facts P] : zbox P 95 = some (A.agg [A.int .i64 0, A.int .i64 0, A.int .i64 0, A.int .i64 0, A.int .i64 0, A.int .i64 0], 48) := h.z95
@[simp] theorem b95_ [h : Facts P] : bplan P 95 = some ([A.int .i64 0, A.int .i64 0, A.int .i64 0, A.int .i64 0, A.int .i64 0, A.int .i64 0], [(0, 1), (1, 1), (2, 1), (3, 1), (4, 1), (5, 1)]) := h.b95
@[simp] theorem e95_ [h : Facts P] : eqT P 95 = some [0, 0, 0, 0, 0, 0] := h.e95
@[simp] theorem g96_0_ [h : Facts P] : fld P 96 0 = some (3, 0) := h.g96_0
@[simp] theorem g96_1_ [h : Facts P] : fld P 96 1 = some (3, 1) := h.g96_1
@[simp] theorem g96_2_ [h : Facts P] : fld P 96 2 = some (3, 2) := h.g96_2
@[simp] theorem g96_3_ [h : Facts P] : fld P 96 3 = some (3, 3) := h.g96_3
@[simp] theorem g96_4_ [h : Facts P] : fld P 96 4 = some (3, 4) := h.g96_4
@[simp] theorem g96_5_ [h : Facts P] : fld P 96 5 = some (3, 5) := h.g96_5
@[simp] theorem s96_ [h : Facts P] : isSliceT P 96 = false := h.s96
@[simp] theorem t96_ [h : Facts P] : isStrT P 96 = false := h.t96
@[simp] theorem h96_ [h : Facts P] : hasU P 96 = true := h.h96
@[simp] theorem w96_ [h : Facts P] : ftl P 96 = some [(3, 0), (3, 1), (3, 2), (3, 3), (3, 4), (3, 5)] := h.w96
@[simp] theorem c96_ [h : Facts P] : P.cellsOf 96 = 6 := h.c96
@[simp] theorem a96_ [h : Facts P] : aggT P 96 = true := h.a96
@[simp] theorem z96_ [h : Facts P] : zbox P 96 = some (A.agg [A.int .i64 0, A.int .i64 0, A.int .i64 0, A.int .i64 0, A.int .i64 0, A.int .i64 0], 48) := h.z96
@[simp] theorem b96_ [h : Facts P] : bplan P 96 = some ([A.int .i64 0, A.int .i64 0, A.int .i64 0, A.int .i64 0, A.int .i64 0, A.int .i64 0], [(0, 1), (1, 1), (2, 1), (3, 1), (4, 1), (5, 1)]) := h.b96
@[simp] theorem e96_ [h : Facts P] : eqT P 96 = some [0, 0, 0, 0, 0, 0] := h.e96
@[simp] theorem g100_0_ [h : Facts P] : fld P 100 0 = some (3, 0) := h.g100_0
@[simp] theorem g100_1_ [h : Facts P] : fld P 100 1 = some (3, 1) := h.g100_1
@[simp] theorem s100_ [h : Facts P] : isSliceT P 100 = false := h.s100
@[simp] theorem t100_ [h : Facts P] : isStrT P 100 = false := h.t100
@[simp] theorem h100_ [h : Facts P] : hasU P 100 = true := h.h100
@[simp] theorem w100_ [h : Facts P] : ftl P 100 = some [(3, 0), (3, 1)] := h.w100
@[simp] theorem c100_ [h : Facts P] : P.cellsOf 100 = 2 := h.c100
@[simp] theorem a100_ [h : Facts P] : aggT P 100 = true := h.a100
@[simp] theorem z100_ [h : Facts P] : zbox P 100 = some (A.agg [A.int .i64 0, A.int .i64 0], 16) := h.z100
@[simp] theorem b100_ [h : Facts P] : bplan P 100 = some ([A.int .i64 0, A.int .i64 0], [(0, 1), (1, 1)]) := h.b100
@[simp] theorem e100_ [h : Facts P] : eqT P 100 = some [0, 0] := h.e100
@[simp] theorem g101_0_ [h : Facts P] : fld P 101 0 = some (3, 0) := h.g101_0
@[simp] theorem g101_1_ [h : Facts P] : fld P 101 1 = some (3, 1) := h.g101_1
@[simp] theorem s101_ [h : Facts P] : isSliceT P 101 = false := h.s101
@[simp] theorem t101_ [h : Facts P] : isStrT P 101 = false := h.t101
@[simp] theorem h101_ [h : Facts P] : hasU P 101 = true := h.h101
@[simp] theorem w101_ [h : Facts P] : ftl P 101 = some [(3, 0), (3, 1)] := h.w101
@[simp] theorem c101_ [h : Facts P] : P.cellsOf 101 = 2 := h.c101
@[simp] theorem a101_ [h : Facts P] : aggT P 101 = true := h.a101
@[simp] theorem z101_ [h : Facts P] : zbox P 101 = some (A.agg [A.int .i64 0, A.int .i64 0], 16) := h.z101
@[simp] theorem b101_ [h : Facts P] : bplan P 101 = some ([A.int .i64 0, A.int .i64 0], [(0, 1), (1, 1)]) := h.b101
@[simp] theorem e101_ [h : Facts P] : eqT P 101 = some [0, 0] := h.e101
@[simp] theorem g102_0_ [h : Facts P] : fld P 102 0 = some (3, 0) := h.g102_0
@[simp] theorem g102_1_ [h : Facts P] : fld P 102 1 = some (3, 1) := h.g102_1
@[simp] theorem g102_2_ [h : Facts P] : fld P 102 2 = some (3, 2) := h.g102_2
@[simp] theorem s102_ [h : Facts P] : isSliceT P 102 = false := h.s102
@[simp] theorem t102_ [h : Facts P] : isStrT P 102 = false := h.t102
@[simp] theorem h102_ [h : Facts P] : hasU P 102 = true := h.h102
@[simp] theorem w102_ [h : Facts P] : ftl P 102 = some [(3, 0), (3, 1), (3, 2)] := h.w102
@[simp] theorem c102_ [h : Facts P] : P.cellsOf 102 = 3 := h.c102
@[simp] theorem a102_ [h : Facts P] : aggT P 102 = true := h.a102
@[simp] theorem z102_ [h : Facts P] : zbox P 102 = some (A.agg [A.int .i64 0, A.int .i64 0, A.int .i64 0], 24) := h.z102
@[simp] theorem b102_ [h : Facts P] : bplan P 102 = some ([A.int .i64 0, A.int .i64 0, A.int .i64 0], [(0, 1), (1, 1), (2, 1)]) := h.b102
@[simp] theorem e102_ [h : Facts P] : eqT P 102 = some [0, 0, 0] := h.e102
@[simp] theorem g103_0_ [h : Facts P] : fld P 103 0 = some (3, 0) := h.g103_0
@[simp] theorem g103_1_ [h : Facts P] : fld P 103 1 = some (3, 1) := h.g103_1
@[simp] theorem g103_2_ [h : Facts P] : fld P 103 2 = some (3, 2) := h.g103_2
@[simp] theorem s103_ [h : Facts P] : isSliceT P 103 = false := h.s103
@[simp] theorem t103_ [h : Facts P] : isStrT P 103 = false := h.t103
@[simp] theorem h103_ [h : Facts P] : hasU P 103 = true := h.h103
@[simp] theorem w103_ [h : Facts P] : ftl P 103 = some [(3, 0), (3, 1), (3, 2)] := h.w103
@[simp] theorem c103_ [h : Facts P] : P.cellsOf 103 = 3 := h.c103
@[simp] theorem a103_ [h : Facts P] : aggT P 103 = true := h.a103
@[simp] theorem z103_ [h : Facts P] : zbox P 103 = some (A.agg [A.int .i64 0, A.int .i64 0, A.int .i64 0], 24) := h.z103
@[simp] theorem b103_ [h : Facts P] : bplan P 103 = some ([A.int .i64 0, A.int .i64 0, A.int .i64 0], [(0, 1), (1, 1), (2, 1)]) := h.b103
@[simp] theorem e103_ [h : Facts P] : eqT P 103 = some [0, 0, 0] := h.e103
@[simp] theorem g104_0_ [h : Facts P] : fld P 104 0 = some (3, 0) := h.g104_0
@[simp] theorem g104_1_ [h : Facts P] : fld P 104 1 = some (3, 1) := h.g104_1
@[simp] theorem g104_2_ [h : Facts P] : fld P 104 2 = some (3, 2) := h.g104_2
@[simp] theorem g104_3_ [h : Facts P] : fld P 104 3 = some (3, 3) := h.g104_3
@[simp] theorem g104_4_ [h : Facts P] : fld P 104 4 = some (4, 4) := h.g104_4
@[simp] theorem s104_ [h : Facts P] : isSliceT P 104 = false := h.s104
@[simp] theorem t104_ [h : Facts P] : isStrT P 104 = false := h.t104
@[simp] theorem h104_ [h : Facts P] : hasU P 104 = true := h.h104
@[simp] theorem w104_ [h : Facts P] : ftl P 104 = some [(3, 0), (3, 1), (3, 2), (3, 3), (4, 4)] := h.w104
@[simp] theorem c104_ [h : Facts P] : P.cellsOf 104 = 5 := h.c104
@[simp] theorem a104_ [h : Facts P] : aggT P 104 = true := h.a104
@[simp] theorem z104_ [h : Facts P] : zbox P 104 = some (A.agg [A.int .i64 0, A.int .i64 0, A.int .i64 0, A.int .i64 0, A.bool false], 40) := h.z104
@[simp] theorem b104_ [h : Facts P] : bplan P 104 = some ([A.int .i64 0, A.int .i64 0, A.int .i64 0, A.int .i64 0, A.bool false], [(0, 1), (1, 1), (2, 1), (3, 1), (4, 1)]) := h.b104
@[simp] theorem e104_ [h : Facts P] : eqT P 104 = some [0, 0, 0, 0, 1] := h.e104
@[simp] theorem g105_0_ [h : Facts P] : fld P 105 0 = some (3, 0) := h.g105_0
@[simp] theorem g105_1_ [h : Facts P] : fld P 105 1 = some (3, 1) := h.g105_1
@[simp] theorem g105_2_ [h : Facts P] : fld P 105 2 = some (3, 2) := h.g105_2
@[simp] theorem g105_3_ [h : Facts P] : fld P 105 3 = some (3, 3) := h.g105_3
@[simp] theorem g105_4_ [h : Facts P] : fld P 105 4 = some (4, 4) := h.g105_4
@[simp] theorem s105_ [h : Facts P] : isSliceT P 105 = false := h.s105
@[simp] theorem t105_ [h : Facts P] : isStrT P 105 = false := h.t105
@[simp] theorem h105_ [h : Facts P] : hasU P 105 = true := h.h105
@[simp] theorem w105_ [h : Facts P] : ftl P 105 = some [(3, 0), (3, 1), (3, 2), (3, 3), (4, 4)] := h.w105
@[simp] theorem c105_ [h : Facts P] : P.cellsOf 105 = 5 := h.c105
@[simp] theorem a105_ [h : Facts P] : aggT P 105 = true := h.a105
@[simp] theorem z105_ [h : Facts P] : zbox P 105 = some (A.agg [A.int .i64 0, A.int .i64 0, A.int .i64 0, A.int .i64 0, A.bool false], 40) := h.z105
@[simp] theorem b105_ [h : Facts P] : bplan P 105 = some ([A.int .i64 0, A.int .i64 0, A.int .i64 0, A.int .i64 0, A.bool false], [(0, 1), (1, 1), (2, 1), (3, 1), (4, 1)]) := h.b105
@[simp] theorem e105_ [h : Facts P] : eqT P 105 = some [0, 0, 0, 0, 1] := h.e105
@[simp] theorem u109_ [h : Facts P] : P.underlying 109 = some (.array 0 16) := h.u109
@[simp] theorem s109_ [h : Facts P] : isSliceT P 109 = false := h.s109
@[simp] theorem t109_ [h : Facts P] : isStrT P 109 = false := h.t109
@[simp] theorem r109_ [h : Facts P] : arrT P 109 = some (0, 16) := h.r109
@[simp] theorem h109_ [h : Facts P] : hasU P 109 = true := h.h109
@[simp] theorem n109_ [h : Facts P] : bplan P 109 = none := h.n109
@[simp] theorem c109_ [h : Facts P] : P.cellsOf 109 = 0 := h.c109
@[simp] theorem a109_ [h : Facts P] : aggT P 109 = true := h.a109
@[simp] theorem z109_ [h : Facts P] : zbox P 109 = some (A.agg [], 0) := h.z109
@[simp] theorem b109_ [h : Facts P] : aplan P 109 = some ([], 1) := h.b109
@[simp] theorem u113_ [h : Facts P] : P.underlying 113 = some (.int .u32) := h.u113
@[simp] theorem s113_ [h : Facts P] : isSliceT P 113 = false := h.s113
@[simp] theorem t113_ [h : Facts P] : isStrT P 113 = false := h.t113
@[simp] theorem h113_ [h : Facts P] : hasU P 113 = true := h.h113
@[simp] theorem i113_ [h : Facts P] : intT P 113 = some .u32 := h.i113
@[simp] theorem c113_ [h : Facts P] : P.cellsOf 113 = 1 := h.c113
@[simp] theorem a113_ [h : Facts P] : aggT P 113 = false := h.a113
@[simp] theorem z113_ [h : Facts P] : zbox P 113 = some (A.int .u32 0, 4) := h.z113
@[simp] theorem g120_0_ [h : Facts P] : fld P 120 0 = some (12, 0) := h.g120_0
@[simp] theorem g120_1_ [h : Facts P] : fld P 120 1 = some (12, 1) := h.g120_1
@[simp] theorem g120_2_ [h : Facts P] : fld P 120 2 = some (113, 2) := h.g120_2
@[simp] theorem g120_3_ [h : Facts P] : fld P 120 3 = some (114, 3) := h.g120_3
@[simp] theorem g120_4_ [h : Facts P] : fld P 120 4 = some (5, 4) := h.g120_4
@[simp] theorem g120_5_ [h : Facts P] : fld P 120 5 = some (5, 5) := h.g120_5
@[simp] theorem g120_6_ [h : Facts P] : fld P 120 6 = some (115, 6) := h.g120_6
@[simp] theorem g120_7_ [h : Facts P] : fld P 120 7 = some (116, 7) := h.g120_7
@[simp] theorem g120_8_ [h : Facts P] : fld P 120 8 = some (117, 8) := h.g120_8
@[simp] theorem g120_9_ [h : Facts P] : fld P 120 9 = some (118, 9) := h.g120_9
@[simp] theorem g120_10_ [h : Facts P] : fld P 120 10 = some (119, 10) := h.g120_10
@[simp] theorem s120_ [h : Facts P] : isSliceT P 120 = false := h.s120
@[simp] theorem t120_ [h : Facts P] : isStrT P 120 = false := h.t120
@[simp] theorem h120_ [h : Facts P] : hasU P 120 = true := h.h120
@[simp] theorem w120_ [h : Facts P] : ftl P 120 = some [(12, 0), (12, 1), (113, 2), (114, 3), (5, 4), (5, 5), (115, 6), (116, 7), (117, 8), (118, 9), (119, 10)] := h.w120
@[simp] theorem c120_ [h : Facts P] : P.cellsOf 120 = 11 := h.c120
@[simp] theorem a120_ [h : Facts P] : aggT P 120 = true := h.a120
@[simp] theorem z120_ [h : Facts P] : zbox P 120 = some (A.agg [A.int .u64 0, A.int .u64 0, A.int .u32 0, A.int .u8 0, A.int .u8 0, A.int .u8 0, A.int .u8 0, A.nfn, A.nptr, A.int .i32 0, A.int .i32 0], 48) := h.z120
end

theorem has_u2 : Try.prog.underlying 2 = some (.int .i64) := by kernel_rfl
theorem has_s2 : isSliceT Try.prog 2 = false := by kernel_rfl
theorem has_t2 : isStrT Try.prog 2 = false := by kernel_rfl
theorem has_h2 : hasU Try.prog 2 = true := by kernel_rfl
theorem has_i2 : intT Try.prog 2 = some .i64 := by kernel_rfl
theorem has_c2 : Try.prog.cellsOf 2 = 1 := by kernel_rfl
theorem has_a2 : aggT Try.prog 2 = false := by kernel_rfl
theorem has_z2 : zbox Try.prog 2 = some (A.int .i64 0, 8) := by kernel_rfl
theorem has_u3 : Try.prog.underlying 3 = some (.int .i64) := by kernel_rfl
theorem has_s3 : isSliceT Try.prog 3 = false := by kernel_rfl
theorem has_t3 : isStrT Try.prog 3 = false := by kernel_rfl
theorem has_h3 : hasU Try.prog 3 = true := by kernel_rfl
theorem has_i3 : intT Try.prog 3 = some .i64 := by kernel_rfl
theorem has_c3 : Try.prog.cellsOf 3 = 1 := by kernel_rfl
theorem has_a3 : aggT Try.prog 3 = false := by kernel_rfl
theorem has_z3 : zbox Try.prog 3 = some (A.int .i64 0, 8) := by kernel_rfl
theorem has_u4 : Try.prog.underlying 4 = some (.bool) := by kernel_rfl
theorem has_s4 : isSliceT Try.prog 4 = false := by kernel_rfl
theorem has_t4 : isStrT Try.prog 4 = false := by kernel_rfl
theorem has_h4 : hasU Try.prog 4 = true := by kernel_rfl
theorem has_d4 : isBoolT Try.prog 4 = true := by kernel_rfl
theorem has_c4 : Try.prog.cellsOf 4 = 1 := by kernel_rfl
theorem has_a4 : aggT Try.prog 4 = false := by kernel_rfl
theorem has_z4 : zbox Try.prog 4 = some (A.bool false, 1) := by kernel_rfl
theorem has_u5 : Try.prog.underlying 5 = some (.int .u8) := by kernel_rfl
theorem has_s5 : isSliceT Try.prog 5 = false := by kernel_rfl
theorem has_t5 : isStrT Try.prog 5 = false := by kernel_rfl
theorem has_h5 : hasU Try.prog 5 = true := by kernel_rfl
theorem has_i5 : intT Try.prog 5 = some .u8 := by kernel_rfl
theorem has_c5 : Try.prog.cellsOf 5 = 1 := by kernel_rfl
theorem has_a5 : aggT Try.prog 5 = false := by kernel_rfl
theorem has_z5 : zbox Try.prog 5 = some (A.int .u8 0, 1) := by kernel_rfl
theorem has_u9 : Try.prog.underlying 9 = some (.string) := by kernel_rfl
theorem has_s9 : isSliceT Try.prog 9 = false := by kernel_rfl
theorem has_t9 : isStrT Try.prog 9 = true := by kernel_rfl
theorem has_h9 : hasU Try.prog 9 = true := by kernel_rfl
theorem has_c9 : Try.prog.cellsOf 9 = 1 := by kernel_rfl
theorem has_a9 : aggT Try.prog 9 = false := by kernel_rfl
theorem has_z9 : zbox Try.prog 9 = some (A.str [], 16) := by kernel_rfl
theorem has_u12 : Try.prog.underlying 12 = some (.int .u64) := by kernel_rfl
theorem has_s12 : isSliceT Try.prog 12 = false := by kernel_rfl
theorem has_t12 : isStrT Try.prog 12 = false := by kernel_rfl
theorem has_h12 : hasU Try.prog 12 = true := by kernel_rfl
theorem has_i12 : intT Try.prog 12 = some .u64 := by kernel_rfl
theorem has_c12 : Try.prog.cellsOf 12 = 1 := by kernel_rfl
theorem has_a12 : aggT Try.prog 12 = false := by kernel_rfl
theorem has_z12 : zbox Try.prog 12 = some (A.int .u64 0, 8) := by kernel_rfl
theorem has_u21 : Try.prog.underlying 21 = some (.int .i32) := by kernel_rfl
theorem has_s21 : isSliceT Try.prog 21 = false := by kernel_rfl
theorem has_t21 : isStrT Try.prog 21 = false := by kernel_rfl
theorem has_h21 : hasU Try.prog 21 = true := by kernel_rfl
theorem has_i21 : intT Try.prog 21 = some .i32 := by kernel_rfl
theorem has_c21 : Try.prog.cellsOf 21 = 1 := by kernel_rfl
theorem has_a21 : aggT Try.prog 21 = false := by kernel_rfl
theorem has_z21 : zbox Try.prog 21 = some (A.int .i32 0, 4) := by kernel_rfl
theorem has_u22 : Try.prog.underlying 22 = some (.slice 40) := by kernel_rfl
theorem has_s22 : isSliceT Try.prog 22 = true := by kernel_rfl
theorem has_l22 : selem Try.prog 22 = 40 := by kernel_rfl
theorem has_t22 : isStrT Try.prog 22 = false := by kernel_rfl
theorem has_h22 : hasU Try.prog 22 = true := by kernel_rfl
theorem has_c22 : Try.prog.cellsOf 22 = 1 := by kernel_rfl
theorem has_a22 : aggT Try.prog 22 = false := by kernel_rfl
theorem has_z22 : zbox Try.prog 22 = some (A.sl true [], 24) := by kernel_rfl
theorem has_u23 : Try.prog.underlying 23 = some (.int .i64) := by kernel_rfl
theorem has_s23 : isSliceT Try.prog 23 = false := by kernel_rfl
theorem has_t23 : isStrT Try.prog 23 = false := by kernel_rfl
theorem has_h23 : hasU Try.prog 23 = true := by kernel_rfl
theorem has_i23 : intT Try.prog 23 = some .i64 := by kernel_rfl
theorem has_c23 : Try.prog.cellsOf 23 = 1 := by kernel_rfl
theorem has_a23 : aggT Try.prog 23 = false := by kernel_rfl
theorem has_z23 : zbox Try.prog 23 = some (A.int .i64 0, 8) := by kernel_rfl
theorem has_u24 : Try.prog.underlying 24 = some (.slice 3) := by kernel_rfl
theorem has_s24 : isSliceT Try.prog 24 = true := by kernel_rfl
theorem has_l24 : selem Try.prog 24 = 3 := by kernel_rfl
theorem has_t24 : isStrT Try.prog 24 = false := by kernel_rfl
theorem has_h24 : hasU Try.prog 24 = true := by kernel_rfl
theorem has_c24 : Try.prog.cellsOf 24 = 1 := by kernel_rfl
theorem has_a24 : aggT Try.prog 24 = false := by kernel_rfl
theorem has_z24 : zbox Try.prog 24 = some (A.sl true [], 24) := by kernel_rfl
theorem has_g25_0 : fld Try.prog 25 0 = some (3, 0) := by kernel_rfl
theorem has_g25_1 : fld Try.prog 25 1 = some (3, 1) := by kernel_rfl
theorem has_g25_2 : fld Try.prog 25 2 = some (3, 2) := by kernel_rfl
theorem has_g25_3 : fld Try.prog 25 3 = some (3, 3) := by kernel_rfl
theorem has_g25_4 : fld Try.prog 25 4 = some (3, 4) := by kernel_rfl
theorem has_g25_5 : fld Try.prog 25 5 = some (23, 5) := by kernel_rfl
theorem has_g25_6 : fld Try.prog 25 6 = some (3, 6) := by kernel_rfl
theorem has_g25_7 : fld Try.prog 25 7 = some (3, 7) := by kernel_rfl
theorem has_g25_8 : fld Try.prog 25 8 = some (24, 8) := by kernel_rfl
theorem has_s25 : isSliceT Try.prog 25 = false := by kernel_rfl
theorem has_t25 : isStrT Try.prog 25 = false := by kernel_rfl
theorem has_h25 : hasU Try.prog 25 = true := by kernel_rfl
theorem has_w25 : ftl Try.prog 25 = some [(3, 0), (3, 1), (3, 2), (3, 3), (3, 4), (23, 5), (3, 6), (3, 7), (24, 8)] := by kernel_rfl
theorem has_c25 : Try.prog.cellsOf 25 = 9 := by kernel_rfl
theorem has_a25 : aggT Try.prog 25 = true := by kernel_rfl
theorem has_z25 : zbox Try.prog 25 = some (A.agg [A.int .i64 0, A.int .i64 0, A.int .i64 0, A.int .i64 0, A.int .i64 0, A.int .i64 0, A.int .i64 0, A.int .i64 0, A.sl true []], 88) := by kernel_rfl
theorem has_b25 : bplan Try.prog 25 = some ([A.int .i64 0, A.int .i64 0, A.int .i64 0, A.int .i64 0, A.int .i64 0, A.int .i64 0, A.int .i64 0, A.int .i64 0, A.sl true []], [(0, 1), (1, 1), (2, 1), (3, 1), (4, 1), (5, 1), (6, 1), (7, 1), (8, 1)]) := by kernel_rfl
theorem has_g26_0 : fld Try.prog 26 0 = some (3, 0) := by kernel_rfl
theorem has_g26_1 : fld Try.prog 26 1 = some (3, 1) := by kernel_rfl
theorem has_g26_2 : fld Try.prog 26 2 = some (3, 2) := by kernel_rfl
theorem has_g26_3 : fld Try.prog 26 3 = some (3, 3) := by kernel_rfl
theorem has_g26_4 : fld Try.prog 26 4 = some (3, 4) := by kernel_rfl
theorem has_g26_5 : fld Try.prog 26 5 = some (23, 5) := by kernel_rfl
theorem has_g26_6 : fld Try.prog 26 6 = some (3, 6) := by kernel_rfl
theorem has_g26_7 : fld Try.prog 26 7 = some (3, 7) := by kernel_rfl
theorem has_g26_8 : fld Try.prog 26 8 = some (24, 8) := by kernel_rfl
theorem has_s26 : isSliceT Try.prog 26 = false := by kernel_rfl
theorem has_t26 : isStrT Try.prog 26 = false := by kernel_rfl
theorem has_h26 : hasU Try.prog 26 = true := by kernel_rfl
theorem has_w26 : ftl Try.prog 26 = some [(3, 0), (3, 1), (3, 2), (3, 3), (3, 4), (23, 5), (3, 6), (3, 7), (24, 8)] := by kernel_rfl
theorem has_c26 : Try.prog.cellsOf 26 = 9 := by kernel_rfl
theorem has_a26 : aggT Try.prog 26 = true := by kernel_rfl
theorem has_z26 : zbox Try.prog 26 = some (A.agg [A.int .i64 0, A.int .i64 0, A.int .i64 0, A.int .i64 0, A.int .i64 0, A.int .i64 0, A.int .i64 0, A.int .i64 0, A.sl true []], 88) := by kernel_rfl
theorem has_b26 : bplan Try.prog 26 = some ([A.int .i64 0, A.int .i64 0, A.int .i64 0, A.int .i64 0, A.int .i64 0, A.int .i64 0, A.int .i64 0, A.int .i64 0, A.sl true []], [(0, 1), (1, 1), (2, 1), (3, 1), (4, 1), (5, 1), (6, 1), (7, 1), (8, 1)]) := by kernel_rfl
theorem has_u27 : Try.prog.underlying 27 = some (.slice 26) := by kernel_rfl
theorem has_s27 : isSliceT Try.prog 27 = true := by kernel_rfl
theorem has_l27 : selem Try.prog 27 = 26 := by kernel_rfl
theorem has_t27 : isStrT Try.prog 27 = false := by kernel_rfl
theorem has_h27 : hasU Try.prog 27 = true := by kernel_rfl
theorem has_c27 : Try.prog.cellsOf 27 = 1 := by kernel_rfl
theorem has_a27 : aggT Try.prog 27 = false := by kernel_rfl
theorem has_z27 : zbox Try.prog 27 = some (A.sl true [], 24) := by kernel_rfl
theorem has_u28 : Try.prog.underlying 28 = some (.slice 76) := by kernel_rfl
theorem has_s28 : isSliceT Try.prog 28 = true := by kernel_rfl
theorem has_l28 : selem Try.prog 28 = 76 := by kernel_rfl
theorem has_t28 : isStrT Try.prog 28 = false := by kernel_rfl
theorem has_h28 : hasU Try.prog 28 = true := by kernel_rfl
theorem has_c28 : Try.prog.cellsOf 28 = 1 := by kernel_rfl
theorem has_a28 : aggT Try.prog 28 = false := by kernel_rfl
theorem has_z28 : zbox Try.prog 28 = some (A.sl true [], 24) := by kernel_rfl
theorem has_u29 : Try.prog.underlying 29 = some (.slice 80) := by kernel_rfl
theorem has_s29 : isSliceT Try.prog 29 = true := by kernel_rfl
theorem has_l29 : selem Try.prog 29 = 80 := by kernel_rfl
theorem has_t29 : isStrT Try.prog 29 = false := by kernel_rfl
theorem has_h29 : hasU Try.prog 29 = true := by kernel_rfl
theorem has_c29 : Try.prog.cellsOf 29 = 1 := by kernel_rfl
theorem has_a29 : aggT Try.prog 29 = false := by kernel_rfl
theorem has_z29 : zbox Try.prog 29 = some (A.sl true [], 24) := by kernel_rfl
theorem has_u30 : Try.prog.underlying 30 = some (.slice 85) := by kernel_rfl
theorem has_s30 : isSliceT Try.prog 30 = true := by kernel_rfl
theorem has_l30 : selem Try.prog 30 = 85 := by kernel_rfl
theorem has_t30 : isStrT Try.prog 30 = false := by kernel_rfl
theorem has_h30 : hasU Try.prog 30 = true := by kernel_rfl
theorem has_c30 : Try.prog.cellsOf 30 = 1 := by kernel_rfl
theorem has_a30 : aggT Try.prog 30 = false := by kernel_rfl
theorem has_z30 : zbox Try.prog 30 = some (A.sl true [], 24) := by kernel_rfl
theorem has_u31 : Try.prog.underlying 31 = some (.slice 89) := by kernel_rfl
theorem has_s31 : isSliceT Try.prog 31 = true := by kernel_rfl
theorem has_l31 : selem Try.prog 31 = 89 := by kernel_rfl
theorem has_t31 : isStrT Try.prog 31 = false := by kernel_rfl
theorem has_h31 : hasU Try.prog 31 = true := by kernel_rfl
theorem has_c31 : Try.prog.cellsOf 31 = 1 := by kernel_rfl
theorem has_a31 : aggT Try.prog 31 = false := by kernel_rfl
theorem has_z31 : zbox Try.prog 31 = some (A.sl true [], 24) := by kernel_rfl
theorem has_u32 : Try.prog.underlying 32 = some (.slice 24) := by kernel_rfl
theorem has_s32 : isSliceT Try.prog 32 = true := by kernel_rfl
theorem has_l32 : selem Try.prog 32 = 24 := by kernel_rfl
theorem has_t32 : isStrT Try.prog 32 = false := by kernel_rfl
theorem has_h32 : hasU Try.prog 32 = true := by kernel_rfl
theorem has_c32 : Try.prog.cellsOf 32 = 1 := by kernel_rfl
theorem has_a32 : aggT Try.prog 32 = false := by kernel_rfl
theorem has_z32 : zbox Try.prog 32 = some (A.sl true [], 24) := by kernel_rfl
theorem has_u33 : Try.prog.underlying 33 = some (.slice 92) := by kernel_rfl
theorem has_s33 : isSliceT Try.prog 33 = true := by kernel_rfl
theorem has_l33 : selem Try.prog 33 = 92 := by kernel_rfl
theorem has_t33 : isStrT Try.prog 33 = false := by kernel_rfl
theorem has_h33 : hasU Try.prog 33 = true := by kernel_rfl
theorem has_c33 : Try.prog.cellsOf 33 = 1 := by kernel_rfl
theorem has_a33 : aggT Try.prog 33 = false := by kernel_rfl
theorem has_z33 : zbox Try.prog 33 = some (A.sl true [], 24) := by kernel_rfl
theorem has_u34 : Try.prog.underlying 34 = some (.slice 94) := by kernel_rfl
theorem has_s34 : isSliceT Try.prog 34 = true := by kernel_rfl
theorem has_l34 : selem Try.prog 34 = 94 := by kernel_rfl
theorem has_t34 : isStrT Try.prog 34 = false := by kernel_rfl
theorem has_h34 : hasU Try.prog 34 = true := by kernel_rfl
theorem has_c34 : Try.prog.cellsOf 34 = 1 := by kernel_rfl
theorem has_a34 : aggT Try.prog 34 = false := by kernel_rfl
theorem has_z34 : zbox Try.prog 34 = some (A.sl true [], 24) := by kernel_rfl
theorem has_u35 : Try.prog.underlying 35 = some (.slice 96) := by kernel_rfl
theorem has_s35 : isSliceT Try.prog 35 = true := by kernel_rfl
theorem has_l35 : selem Try.prog 35 = 96 := by kernel_rfl
theorem has_t35 : isStrT Try.prog 35 = false := by kernel_rfl
theorem has_h35 : hasU Try.prog 35 = true := by kernel_rfl
theorem has_c35 : Try.prog.cellsOf 35 = 1 := by kernel_rfl
theorem has_a35 : aggT Try.prog 35 = false := by kernel_rfl
theorem has_z35 : zbox Try.prog 35 = some (A.sl true [], 24) := by kernel_rfl
theorem has_g36_0 : fld Try.prog 36 0 = some (3, 0) := by kernel_rfl
theorem has_g36_1 : fld Try.prog 36 1 = some (3, 1) := by kernel_rfl
theorem has_g36_2 : fld Try.prog 36 2 = some (3, 2) := by kernel_rfl
theorem has_g36_3 : fld Try.prog 36 3 = some (27, 3) := by kernel_rfl
theorem has_g36_4 : fld Try.prog 36 4 = some (28, 4) := by kernel_rfl
theorem has_g36_5 : fld Try.prog 36 5 = some (3, 5) := by kernel_rfl
theorem has_g36_6 : fld Try.prog 36 6 = some (24, 6) := by kernel_rfl
theorem has_g36_7 : fld Try.prog 36 7 = some (29, 7) := by kernel_rfl
theorem has_g36_8 : fld Try.prog 36 8 = some (30, 8) := by kernel_rfl
theorem has_g36_9 : fld Try.prog 36 9 = some (31, 9) := by kernel_rfl
theorem has_g36_10 : fld Try.prog 36 10 = some (32, 10) := by kernel_rfl
theorem has_g36_11 : fld Try.prog 36 11 = some (33, 11) := by kernel_rfl
theorem has_g36_12 : fld Try.prog 36 12 = some (34, 12) := by kernel_rfl
theorem has_g36_13 : fld Try.prog 36 13 = some (35, 13) := by kernel_rfl
theorem has_g36_14 : fld Try.prog 36 14 = some (24, 14) := by kernel_rfl
theorem has_g36_15 : fld Try.prog 36 15 = some (24, 15) := by kernel_rfl
theorem has_g36_16 : fld Try.prog 36 16 = some (24, 16) := by kernel_rfl
theorem has_g36_17 : fld Try.prog 36 17 = some (3, 17) := by kernel_rfl
theorem has_s36 : isSliceT Try.prog 36 = false := by kernel_rfl
theorem has_t36 : isStrT Try.prog 36 = false := by kernel_rfl
theorem has_h36 : hasU Try.prog 36 = true := by kernel_rfl
theorem has_w36 : ftl Try.prog 36 = some [(3, 0), (3, 1), (3, 2), (27, 3), (28, 4), (3, 5), (24, 6), (29, 7), (30, 8), (31, 9), (32, 10), (33, 11), (34, 12), (35, 13), (24, 14), (24, 15), (24, 16), (3, 17)] := by kernel_rfl
theorem has_c36 : Try.prog.cellsOf 36 = 18 := by kernel_rfl
theorem has_a36 : aggT Try.prog 36 = true := by kernel_rfl
theorem has_z36 : zbox Try.prog 36 = some (A.agg [A.int .i64 0, A.int .i64 0, A.int .i64 0, A.sl true [], A.sl true [], A.int .i64 0, A.sl true [], A.sl true [], A.sl true [], A.sl true [], A.sl true [], A.sl true [], A.sl true [], A.sl true [], A.sl true [], A.sl true [], A.sl true [], A.int .i64 0], 352) := by kernel_rfl
theorem has_b36 : bplan Try.prog 36 = some ([A.int .i64 0, A.int .i64 0, A.int .i64 0, A.sl true [], A.sl true [], A.int .i64 0, A.sl true [], A.sl true [], A.sl true [], A.sl true [], A.sl true [], A.sl true [], A.sl true [], A.sl true [], A.sl true [], A.sl true [], A.sl true [], A.int .i64 0], [(0, 1), (1, 1), (2, 1), (3, 1), (4, 1), (5, 1), (6, 1), (7, 1), (8, 1), (9, 1), (10, 1), (11, 1), (12, 1), (13, 1), (14, 1), (15, 1), (16, 1), (17, 1)]) := by kernel_rfl
theorem has_g37_0 : fld Try.prog 37 0 = some (3, 0) := by kernel_rfl
theorem has_g37_1 : fld Try.prog 37 1 = some (3, 1) := by kernel_rfl
theorem has_g37_2 : fld Try.prog 37 2 = some (3, 2) := by kernel_rfl
theorem has_g37_3 : fld Try.prog 37 3 = some (27, 3) := by kernel_rfl
theorem has_g37_4 : fld Try.prog 37 4 = some (28, 4) := by kernel_rfl
theorem has_g37_5 : fld Try.prog 37 5 = some (3, 5) := by kernel_rfl
theorem has_g37_6 : fld Try.prog 37 6 = some (24, 6) := by kernel_rfl
theorem has_g37_7 : fld Try.prog 37 7 = some (29, 7) := by kernel_rfl
theorem has_g37_8 : fld Try.prog 37 8 = some (30, 8) := by kernel_rfl
theorem has_g37_9 : fld Try.prog 37 9 = some (31, 9) := by kernel_rfl
theorem has_g37_10 : fld Try.prog 37 10 = some (32, 10) := by kernel_rfl
theorem has_g37_11 : fld Try.prog 37 11 = some (33, 11) := by kernel_rfl
theorem has_g37_12 : fld Try.prog 37 12 = some (34, 12) := by kernel_rfl
theorem has_g37_13 : fld Try.prog 37 13 = some (35, 13) := by kernel_rfl
theorem has_g37_14 : fld Try.prog 37 14 = some (24, 14) := by kernel_rfl
theorem has_g37_15 : fld Try.prog 37 15 = some (24, 15) := by kernel_rfl
theorem has_g37_16 : fld Try.prog 37 16 = some (24, 16) := by kernel_rfl
theorem has_g37_17 : fld Try.prog 37 17 = some (3, 17) := by kernel_rfl
theorem has_s37 : isSliceT Try.prog 37 = false := by kernel_rfl
theorem has_t37 : isStrT Try.prog 37 = false := by kernel_rfl
theorem has_h37 : hasU Try.prog 37 = true := by kernel_rfl
theorem has_w37 : ftl Try.prog 37 = some [(3, 0), (3, 1), (3, 2), (27, 3), (28, 4), (3, 5), (24, 6), (29, 7), (30, 8), (31, 9), (32, 10), (33, 11), (34, 12), (35, 13), (24, 14), (24, 15), (24, 16), (3, 17)] := by kernel_rfl
theorem has_c37 : Try.prog.cellsOf 37 = 18 := by kernel_rfl
theorem has_a37 : aggT Try.prog 37 = true := by kernel_rfl
theorem has_z37 : zbox Try.prog 37 = some (A.agg [A.int .i64 0, A.int .i64 0, A.int .i64 0, A.sl true [], A.sl true [], A.int .i64 0, A.sl true [], A.sl true [], A.sl true [], A.sl true [], A.sl true [], A.sl true [], A.sl true [], A.sl true [], A.sl true [], A.sl true [], A.sl true [], A.int .i64 0], 352) := by kernel_rfl
theorem has_b37 : bplan Try.prog 37 = some ([A.int .i64 0, A.int .i64 0, A.int .i64 0, A.sl true [], A.sl true [], A.int .i64 0, A.sl true [], A.sl true [], A.sl true [], A.sl true [], A.sl true [], A.sl true [], A.sl true [], A.sl true [], A.sl true [], A.sl true [], A.sl true [], A.int .i64 0], [(0, 1), (1, 1), (2, 1), (3, 1), (4, 1), (5, 1), (6, 1), (7, 1), (8, 1), (9, 1), (10, 1), (11, 1), (12, 1), (13, 1), (14, 1), (15, 1), (16, 1), (17, 1)]) := by kernel_rfl
theorem has_u38 : Try.prog.underlying 38 = some (.slice 70) := by kernel_rfl
theorem has_s38 : isSliceT Try.prog 38 = true := by kernel_rfl
theorem has_l38 : selem Try.prog 38 = 70 := by kernel_rfl
theorem has_t38 : isStrT Try.prog 38 = false := by kernel_rfl
theorem has_h38 : hasU Try.prog 38 = true := by kernel_rfl
theorem has_c38 : Try.prog.cellsOf 38 = 1 := by kernel_rfl
theorem has_a38 : aggT Try.prog 38 = false := by kernel_rfl
theorem has_z38 : zbox Try.prog 38 = some (A.sl true [], 24) := by kernel_rfl
theorem has_g39_0 : fld Try.prog 39 0 = some (26, 0) := by kernel_rfl
theorem has_g39_1 : fld Try.prog 39 1 = some (4, 9) := by kernel_rfl
theorem has_g39_2 : fld Try.prog 39 2 = some (37, 10) := by kernel_rfl
theorem has_g39_3 : fld Try.prog 39 3 = some (27, 28) := by kernel_rfl
theorem has_g39_4 : fld Try.prog 39 4 = some (38, 29) := by kernel_rfl
theorem has_s39 : isSliceT Try.prog 39 = false := by kernel_rfl
theorem has_t39 : isStrT Try.prog 39 = false := by kernel_rfl
theorem has_h39 : hasU Try.prog 39 = true := by kernel_rfl
theorem has_w39 : ftl Try.prog 39 = some [(26, 0), (4, 9), (37, 10), (27, 28), (38, 29)] := by kernel_rfl
theorem has_c39 : Try.prog.cellsOf 39 = 30 := by kernel_rfl
theorem has_a39 : aggT Try.prog 39 = true := by kernel_rfl
theorem has_z39 : zbox Try.prog 39 = some (A.agg [A.int .i64 0, A.int .i64 0, A.int .i64 0, A.int .i64 0, A.int .i64 0, A.int .i64 0, A.int .i64 0, A.int .i64 0, A.sl true [], A.bool false, A.int .i64 0, A.int .i64 0, A.int .i64 0, A.sl true [], A.sl true [], A.int .i64 0, A.sl true [], A.sl true [], A.sl true [], A.sl true [], A.sl true [], A.sl true [], A.sl true [], A.sl true [], A.sl true [], A.sl true [], A.sl true [], A.int .i64 0, A.sl true [], A.sl true []], 496) := by kernel_rfl
theorem has_b39 : bplan Try.prog 39 = some ([A.int .i64 0, A.int .i64 0, A.int .i64 0, A.int .i64 0, A.int .i64 0, A.int .i64 0, A.int .i64 0, A.int .i64 0, A.sl true [], A.bool false, A.int .i64 0, A.int .i64 0, A.int .i64 0, A.sl true [], A.sl true [], A.int .i64 0, A.sl true [], A.sl true [], A.sl true [], A.sl true [], A.sl true [], A.sl true [], A.sl true [], A.sl true [], A.sl true [], A.sl true [], A.sl true [], A.int .i64 0, A.sl true [], A.sl true []], [(0, 9), (9, 1), (10, 18), (28, 1), (29, 1)]) := by kernel_rfl
theorem has_g40_0 : fld Try.prog 40 0 = some (26, 0) := by kernel_rfl
theorem has_g40_1 : fld Try.prog 40 1 = some (4, 9) := by kernel_rfl
theorem has_g40_2 : fld Try.prog 40 2 = some (37, 10) := by kernel_rfl
theorem has_g40_3 : fld Try.prog 40 3 = some (27, 28) := by kernel_rfl
theorem has_g40_4 : fld Try.prog 40 4 = some (38, 29) := by kernel_rfl
theorem has_s40 : isSliceT Try.prog 40 = false := by kernel_rfl
theorem has_t40 : isStrT Try.prog 40 = false := by kernel_rfl
theorem has_h40 : hasU Try.prog 40 = true := by kernel_rfl
theorem has_w40 : ftl Try.prog 40 = some [(26, 0), (4, 9), (37, 10), (27, 28), (38, 29)] := by kernel_rfl
theorem has_c40 : Try.prog.cellsOf 40 = 30 := by kernel_rfl
theorem has_a40 : aggT Try.prog 40 = true := by kernel_rfl
theorem has_z40 : zbox Try.prog 40 = some (A.agg [A.int .i64 0, A.int .i64 0, A.int .i64 0, A.int .i64 0, A.int .i64 0, A.int .i64 0, A.int .i64 0, A.int .i64 0, A.sl true [], A.bool false, A.int .i64 0, A.int .i64 0, A.int .i64 0, A.sl true [], A.sl true [], A.int .i64 0, A.sl true [], A.sl true [], A.sl true [], A.sl true [], A.sl true [], A.sl true [], A.sl true [], A.sl true [], A.sl true [], A.sl true [], A.sl true [], A.int .i64 0, A.sl true [], A.sl true []], 496) := by kernel_rfl
theorem has_b40 : bplan Try.prog 40 = some ([A.int .i64 0, A.int .i64 0, A.int .i64 0, A.int .i64 0, A.int .i64 0, A.int .i64 0, A.int .i64 0, A.int .i64 0, A.sl true [], A.bool false, A.int .i64 0, A.int .i64 0, A.int .i64 0, A.sl true [], A.sl true [], A.int .i64 0, A.sl true [], A.sl true [], A.sl true [], A.sl true [], A.sl true [], A.sl true [], A.sl true [], A.sl true [], A.sl true [], A.sl true [], A.sl true [], A.int .i64 0, A.sl true [], A.sl true []], [(0, 9), (9, 1), (10, 18), (28, 1), (29, 1)]) := by kernel_rfl
theorem has_u43 : Try.prog.underlying 43 = some (.int .i64) := by kernel_rfl
theorem has_s43 : isSliceT Try.prog 43 = false := by kernel_rfl
theorem has_t43 : isStrT Try.prog 43 = false := by kernel_rfl
theorem has_h43 : hasU Try.prog 43 = true := by kernel_rfl
theorem has_i43 : intT Try.prog 43 = some .i64 := by kernel_rfl
theorem has_c43 : Try.prog.cellsOf 43 = 1 := by kernel_rfl
theorem has_a43 : aggT Try.prog 43 = false := by kernel_rfl
theorem has_z43 : zbox Try.prog 43 = some (A.int .i64 0, 8) := by kernel_rfl
theorem has_u68 : Try.prog.underlying 68 = some (.int .i64) := by kernel_rfl
theorem has_s68 : isSliceT Try.prog 68 = false := by kernel_rfl
theorem has_t68 : isStrT Try.prog 68 = false := by kernel_rfl
theorem has_h68 : hasU Try.prog 68 = true := by kernel_rfl
theorem has_i68 : intT Try.prog 68 = some .i64 := by kernel_rfl
theorem has_c68 : Try.prog.cellsOf 68 = 1 := by kernel_rfl
theorem has_a68 : aggT Try.prog 68 = false := by kernel_rfl
theorem has_z68 : zbox Try.prog 68 = some (A.int .i64 0, 8) := by kernel_rfl
theorem has_g69_0 : fld Try.prog 69 0 = some (3, 0) := by kernel_rfl
theorem has_g69_1 : fld Try.prog 69 1 = some (3, 1) := by kernel_rfl
theorem has_g69_2 : fld Try.prog 69 2 = some (68, 2) := by kernel_rfl
theorem has_g69_3 : fld Try.prog 69 3 = some (3, 3) := by kernel_rfl
theorem has_g69_4 : fld Try.prog 69 4 = some (3, 4) := by kernel_rfl
theorem has_g69_5 : fld Try.prog 69 5 = some (3, 5) := by kernel_rfl
theorem has_s69 : isSliceT Try.prog 69 = false := by kernel_rfl
theorem has_t69 : isStrT Try.prog 69 = false := by kernel_rfl
theorem has_h69 : hasU Try.prog 69 = true := by kernel_rfl
theorem has_w69 : ftl Try.prog 69 = some [(3, 0), (3, 1), (68, 2), (3, 3), (3, 4), (3, 5)] := by kernel_rfl
theorem has_c69 : Try.prog.cellsOf 69 = 6 := by kernel_rfl
theorem has_a69 : aggT Try.prog 69 = true := by kernel_rfl
theorem has_z69 : zbox Try.prog 69 = some (A.agg [A.int .i64 0, A.int .i64 0, A.int .i64 0, A.int .i64 0, A.int .i64 0, A.int .i64 0], 48) := by kernel_rfl
theorem has_b69 : bplan Try.prog 69 = some ([A.int .i64 0, A.int .i64 0, A.int .i64 0, A.int .i64 0, A.int .i64 0, A.int .i64 0], [(0, 1), (1, 1), (2, 1), (3, 1), (4, 1), (5, 1)]) := by kernel_rfl
theorem has_e69 : eqT Try.prog 69 = some [0, 0, 0, 0, 0, 0] := by kernel_rfl
theorem has_g70_0 : fld Try.prog 70 0 = some (3, 0) := by kernel_rfl
theorem has_g70_1 : fld Try.prog 70 1 = some (3, 1) := by kernel_rfl
theorem has_g70_2 : fld Try.prog 70 2 = some (68, 2) := by kernel_rfl
theorem has_g70_3 : fld Try.prog 70 3 = some (3, 3) := by kernel_rfl
theorem has_g70_4 : fld Try.prog 70 4 = some (3, 4) := by kernel_rfl
theorem has_g70_5 : fld Try.prog 70 5 = some (3, 5) := by kernel_rfl
theorem has_s70 : isSliceT Try.prog 70 = false := by kernel_rfl
theorem has_t70 : isStrT Try.prog 70 = false := by kernel_rfl
theorem has_h70 : hasU Try.prog 70 = true := by kernel_rfl
theorem has_w70 : ftl Try.prog 70 = some [(3, 0), (3, 1), (68, 2), (3, 3), (3, 4), (3, 5)] := by kernel_rfl
theorem has_c70 : Try.prog.cellsOf 70 = 6 := by kernel_rfl
theorem has_a70 : aggT Try.prog 70 = true := by kernel_rfl
theorem has_z70 : zbox Try.prog 70 = some (A.agg [A.int .i64 0, A.int .i64 0, A.int .i64 0, A.int .i64 0, A.int .i64 0, A.int .i64 0], 48) := by kernel_rfl
theorem has_b70 : bplan Try.prog 70 = some ([A.int .i64 0, A.int .i64 0, A.int .i64 0, A.int .i64 0, A.int .i64 0, A.int .i64 0], [(0, 1), (1, 1), (2, 1), (3, 1), (4, 1), (5, 1)]) := by kernel_rfl
theorem has_e70 : eqT Try.prog 70 = some [0, 0, 0, 0, 0, 0] := by kernel_rfl
theorem has_u74 : Try.prog.underlying 74 = some (.int .i64) := by kernel_rfl
theorem has_s74 : isSliceT Try.prog 74 = false := by kernel_rfl
theorem has_t74 : isStrT Try.prog 74 = false := by kernel_rfl
theorem has_h74 : hasU Try.prog 74 = true := by kernel_rfl
theorem has_i74 : intT Try.prog 74 = some .i64 := by kernel_rfl
theorem has_c74 : Try.prog.cellsOf 74 = 1 := by kernel_rfl
theorem has_a74 : aggT Try.prog 74 = false := by kernel_rfl
theorem has_z74 : zbox Try.prog 74 = some (A.int .i64 0, 8) := by kernel_rfl
theorem has_g75_0 : fld Try.prog 75 0 = some (3, 0) := by kernel_rfl
theorem has_g75_1 : fld Try.prog 75 1 = some (3, 1) := by kernel_rfl
theorem has_g75_2 : fld Try.prog 75 2 = some (3, 2) := by kernel_rfl
theorem has_g75_3 : fld Try.prog 75 3 = some (24, 3) := by kernel_rfl
theorem has_g75_4 : fld Try.prog 75 4 = some (74, 4) := by kernel_rfl
theorem has_g75_5 : fld Try.prog 75 5 = some (3, 5) := by kernel_rfl
theorem has_g75_6 : fld Try.prog 75 6 = some (3, 6) := by kernel_rfl
theorem has_s75 : isSliceT Try.prog 75 = false := by kernel_rfl
theorem has_t75 : isStrT Try.prog 75 = false := by kernel_rfl
theorem has_h75 : hasU Try.prog 75 = true := by kernel_rfl
theorem has_w75 : ftl Try.prog 75 = some [(3, 0), (3, 1), (3, 2), (24, 3), (74, 4), (3, 5), (3, 6)] := by kernel_rfl
theorem has_c75 : Try.prog.cellsOf 75 = 7 := by kernel_rfl
theorem has_a75 : aggT Try.prog 75 = true := by kernel_rfl
theorem has_z75 : zbox Try.prog 75 = some (A.agg [A.int .i64 0, A.int .i64 0, A.int .i64 0, A.sl true [], A.int .i64 0, A.int .i64 0, A.int .i64 0], 72) := by kernel_rfl
theorem has_b75 : bplan Try.prog 75 = some ([A.int .i64 0, A.int .i64 0, A.int .i64 0, A.sl true [], A.int .i64 0, A.int .i64 0, A.int .i64 0], [(0, 1), (1, 1), (2, 1), (3, 1), (4, 1), (5, 1), (6, 1)]) := by kernel_rfl
theorem has_g76_0 : fld Try.prog 76 0 = some (3, 0) := by kernel_rfl
theorem has_g76_1 : fld Try.prog 76 1 = some (3, 1) := by kernel_rfl
theorem has_g76_2 : fld Try.prog 76 2 = some (3, 2) := by kernel_rfl
theorem has_g76_3 : fld Try.prog 76 3 = some (24, 3) := by kernel_rfl
theorem has_g76_4 : fld Try.prog 76 4 = some (74, 4) := by kernel_rfl
theorem has_g76_5 : fld Try.prog 76 5 = some (3, 5) := by kernel_rfl
theorem has_g76_6 : fld Try.prog 76 6 = some (3, 6) := by kernel_rfl
theorem has_s76 : isSliceT Try.prog 76 = false := by kernel_rfl
theorem has_t76 : isStrT Try.prog 76 = false := by kernel_rfl
theorem has_h76 : hasU Try.prog 76 = true := by kernel_rfl
theorem has_w76 : ftl Try.prog 76 = some [(3, 0), (3, 1), (3, 2), (24, 3), (74, 4), (3, 5), (3, 6)] := by kernel_rfl
theorem has_c76 : Try.prog.cellsOf 76 = 7 := by kernel_rfl
theorem has_a76 : aggT Try.prog 76 = true := by kernel_rfl
theorem has_z76 : zbox Try.prog 76 = some (A.agg [A.int .i64 0, A.int .i64 0, A.int .i64 0, A.sl true [], A.int .i64 0, A.int .i64 0, A.int .i64 0], 72) := by kernel_rfl
theorem has_b76 : bplan Try.prog 76 = some ([A.int .i64 0, A.int .i64 0, A.int .i64 0, A.sl true [], A.int .i64 0, A.int .i64 0, A.int .i64 0], [(0, 1), (1, 1), (2, 1), (3, 1), (4, 1), (5, 1), (6, 1)]) := by kernel_rfl
theorem has_u78 : Try.prog.underlying 78 = some (.slice 105) := by kernel_rfl
theorem has_s78 : isSliceT Try.prog 78 = true := by kernel_rfl
theorem has_l78 : selem Try.prog 78 = 105 := by kernel_rfl
theorem has_t78 : isStrT Try.prog 78 = false := by kernel_rfl
theorem has_h78 : hasU Try.prog 78 = true := by kernel_rfl
theorem has_c78 : Try.prog.cellsOf 78 = 1 := by kernel_rfl
theorem has_a78 : aggT Try.prog 78 = false := by kernel_rfl
theorem has_z78 : zbox Try.prog 78 = some (A.sl true [], 24) := by kernel_rfl
theorem has_g79_0 : fld Try.prog 79 0 = some (3, 0) := by kernel_rfl
theorem has_g79_1 : fld Try.prog 79 1 = some (4, 1) := by kernel_rfl
theorem has_g79_2 : fld Try.prog 79 2 = some (78, 2) := by kernel_rfl
theorem has_g79_3 : fld Try.prog 79 3 = some (78, 3) := by kernel_rfl
theorem has_g79_4 : fld Try.prog 79 4 = some (3, 4) := by kernel_rfl
theorem has_s79 : isSliceT Try.prog 79 = false := by kernel_rfl
theorem has_t79 : isStrT Try.prog 79 = false := by kernel_rfl
theorem has_h79 : hasU Try.prog 79 = true := by kernel_rfl
theorem has_w79 : ftl Try.prog 79 = some [(3, 0), (4, 1), (78, 2), (78, 3), (3, 4)] := by kernel_rfl
theorem has_c79 : Try.prog.cellsOf 79 = 5 := by kernel_rfl
theorem has_a79 : aggT Try.prog 79 = true := by kernel_rfl
theorem has_z79 : zbox Try.prog 79 = some (A.agg [A.int .i64 0, A.bool false, A.sl true [], A.sl true [], A.int .i64 0], 72) := by kernel_rfl
theorem has_b79 : bplan Try.prog 79 = some ([A.int .i64 0, A.bool false, A.sl true [], A.sl true [], A.int .i64 0], [(0, 1), (1, 1), (2, 1), (3, 1), (4, 1)]) := by kernel_rfl
theorem has_g80_0 : fld Try.prog 80 0 = some (3, 0) := by kernel_rfl
theorem has_g80_1 : fld Try.prog 80 1 = some (4, 1) := by kernel_rfl
theorem has_g80_2 : fld Try.prog 80 2 = some (78, 2) := by kernel_rfl
theorem has_g80_3 : fld Try.prog 80 3 = some (78, 3) := by kernel_rfl
theorem has_g80_4 : fld Try.prog 80 4 = some (3, 4) := by kernel_rfl
theorem has_s80 : isSliceT Try.prog 80 = false := by kernel_rfl
theorem has_t80 : isStrT Try.prog 80 = false := by kernel_rfl
theorem has_h80 : hasU Try.prog 80 = true := by kernel_rfl
theorem has_w80 : ftl Try.prog 80 = some [(3, 0), (4, 1), (78, 2), (78, 3), (3, 4)] := by kernel_rfl
theorem has_c80 : Try.prog.cellsOf 80 = 5 := by kernel_rfl
theorem has_a80 : aggT Try.prog 80 = true := by kernel_rfl
theorem has_z80 : zbox Try.prog 80 = some (A.agg [A.int .i64 0, A.bool false, A.sl true [], A.sl true [], A.int .i64 0], 72) := by kernel_rfl
theorem has_b80 : bplan Try.prog 80 = some ([A.int .i64 0, A.bool false, A.sl true [], A.sl true [], A.int .i64 0], [(0, 1), (1, 1), (2, 1), (3, 1), (4, 1)]) := by kernel_rfl
theorem has_u82 : Try.prog.underlying 82 = some (.int .i64) := by kernel_rfl
theorem has_s82 : isSliceT Try.prog 82 = false := by kernel_rfl
theorem has_t82 : isStrT Try.prog 82 = false := by kernel_rfl
theorem has_h82 : hasU Try.prog 82 = true := by kernel_rfl
theorem has_i82 : intT Try.prog 82 = some .i64 := by kernel_rfl
theorem has_c82 : Try.prog.cellsOf 82 = 1 := by kernel_rfl
theorem has_a82 : aggT Try.prog 82 = false := by kernel_rfl
theorem has_z82 : zbox Try.prog 82 = some (A.int .i64 0, 8) := by kernel_rfl
theorem has_u83 : Try.prog.underlying 83 = some (.slice 101) := by kernel_rfl
theorem has_s83 : isSliceT Try.prog 83 = true := by kernel_rfl
theorem has_l83 : selem Try.prog 83 = 101 := by kernel_rfl
theorem has_t83 : isStrT Try.prog 83 = false := by kernel_rfl
theorem has_h83 : hasU Try.prog 83 = true := by kernel_rfl
theorem has_c83 : Try.prog.cellsOf 83 = 1 := by kernel_rfl
theorem has_a83 : aggT Try.prog 83 = false := by kernel_rfl
theorem has_z83 : zbox Try.prog 83 = some (A.sl true [], 24) := by kernel_rfl
theorem has_g84_0 : fld Try.prog 84 0 = some (3, 0) := by kernel_rfl
theorem has_g84_1 : fld Try.prog 84 1 = some (82, 1) := by kernel_rfl
theorem has_g84_2 : fld Try.prog 84 2 = some (24, 2) := by kernel_rfl
theorem has_g84_3 : fld Try.prog 84 3 = some (83, 3) := by kernel_rfl
theorem has_g84_4 : fld Try.prog 84 4 = some (24, 4) := by kernel_rfl
theorem has_g84_5 : fld Try.prog 84 5 = some (3, 5) := by kernel_rfl
theorem has_g84_6 : fld Try.prog 84 6 = some (3, 6) := by kernel_rfl
theorem has_s84 : isSliceT Try.prog 84 = false := by kernel_rfl
theorem has_t84 : isStrT Try.prog 84 = false := by kernel_rfl
theorem has_h84 : hasU Try.prog 84 = true := by kernel_rfl
theorem has_w84 : ftl Try.prog 84 = some [(3, 0), (82, 1), (24, 2), (83, 3), (24, 4), (3, 5), (3, 6)] := by kernel_rfl
theorem has_c84 : Try.prog.cellsOf 84 = 7 := by kernel_rfl
theorem has_a84 : aggT Try.prog 84 = true := by kernel_rfl
theorem has_z84 : zbox Try.prog 84 = some (A.agg [A.int .i64 0, A.int .i64 0, A.sl true [], A.sl true [], A.sl true [], A.int .i64 0, A.int .i64 0], 104) := by kernel_rfl
theorem has_b84 : bplan Try.prog 84 = some ([A.int .i64 0, A.int .i64 0, A.sl true [], A.sl true [], A.sl true [], A.int .i64 0, A.int .i64 0], [(0, 1), (1, 1), (2, 1), (3, 1), (4, 1), (5, 1), (6, 1)]) := by kernel_rfl
theorem has_g85_0 : fld Try.prog 85 0 = some (3, 0) := by kernel_rfl
theorem has_g85_1 : fld Try.prog 85 1 = some (82, 1) := by kernel_rfl
theorem has_g85_2 : fld Try.prog 85 2 = some (24, 2) := by kernel_rfl
theorem has_g85_3 : fld Try.prog 85 3 = some (83, 3) := by kernel_rfl
theorem has_g85_4 : fld Try.prog 85 4 = some (24, 4) := by kernel_rfl
theorem has_g85_5 : fld Try.prog 85 5 = some (3, 5) := by kernel_rfl
theorem has_g85_6 : fld Try.prog 85 6 = some (3, 6) := by kernel_rfl
theorem has_s85 : isSliceT Try.prog 85 = false := by kernel_rfl
theorem has_t85 : isStrT Try.prog 85 = false := by kernel_rfl
theorem has_h85 : hasU Try.prog 85 = true := by kernel_rfl
theorem has_w85 : ftl Try.prog 85 = some [(3, 0), (82, 1), (24, 2), (83, 3), (24, 4), (3, 5), (3, 6)] := by kernel_rfl
theorem has_c85 : Try.prog.cellsOf 85 = 7 := by kernel_rfl
theorem has_a85 : aggT Try.prog 85 = true := by kernel_rfl
theorem has_z85 : zbox Try.prog 85 = some (A.agg [A.int .i64 0, A.int .i64 0, A.sl true [], A.sl true [], A.sl true [], A.int .i64 0, A.int .i64 0], 104) := by kernel_rfl
theorem has_b85 : bplan Try.prog 85 = some ([A.int .i64 0, A.int .i64 0, A.sl true [], A.sl true [], A.sl true [], A.int .i64 0, A.int .i64 0], [(0, 1), (1, 1), (2, 1), (3, 1), (4, 1), (5, 1), (6, 1)]) := by kernel_rfl
theorem has_u87 : Try.prog.underlying 87 = some (.slice 103) := by kernel_rfl
theorem has_s87 : isSliceT Try.prog 87 = true := by kernel_rfl
theorem has_l87 : selem Try.prog 87 = 103 := by kernel_rfl
theorem has_t87 : isStrT Try.prog 87 = false := by kernel_rfl
theorem has_h87 : hasU Try.prog 87 = true := by kernel_rfl
theorem has_c87 : Try.prog.cellsOf 87 = 1 := by kernel_rfl
theorem has_a87 : aggT Try.prog 87 = false := by kernel_rfl
theorem has_z87 : zbox Try.prog 87 = some (A.sl true [], 24) := by kernel_rfl
theorem has_g88_0 : fld Try.prog 88 0 = some (3, 0) := by kernel_rfl
theorem has_g88_1 : fld Try.prog 88 1 = some (3, 1) := by kernel_rfl
theorem has_g88_2 : fld Try.prog 88 2 = some (87, 2) := by kernel_rfl
theorem has_g88_3 : fld Try.prog 88 3 = some (3, 3) := by kernel_rfl
theorem has_s88 : isSliceT Try.prog 88 = false := by kernel_rfl
theorem has_t88 : isStrT Try.prog 88 = false := by kernel_rfl
theorem has_h88 : hasU Try.prog 88 = true := by kernel_rfl
theorem has_w88 : ftl Try.prog 88 = some [(3, 0), (3, 1), (87, 2), (3, 3)] := by kernel_rfl
theorem has_c88 : Try.prog.cellsOf 88 = 4 := by kernel_rfl
theorem has_a88 : aggT Try.prog 88 = true := by kernel_rfl
theorem has_z88 : zbox Try.prog 88 = some (A.agg [A.int .i64 0, A.int .i64 0, A.sl true [], A.int .i64 0], 48) := by kernel_rfl
theorem has_b88 : bplan Try.prog 88 = some ([A.int .i64 0, A.int .i64 0, A.sl true [], A.int .i64 0], [(0, 1), (1, 1), (2, 1), (3, 1)]) := by kernel_rfl
theorem has_g89_0 : fld Try.prog 89 0 = some (3, 0) := by kernel_rfl
theorem has_g89_1 : fld Try.prog 89 1 = some (3, 1) := by kernel_rfl
theorem has_g89_2 : fld Try.prog 89 2 = some (87, 2) := by kernel_rfl
theorem has_g89_3 : fld Try.prog 89 3 = some (3, 3) := by kernel_rfl
theorem has_s89 : isSliceT Try.prog 89 = false := by kernel_rfl
theorem has_t89 : isStrT Try.prog 89 = false := by kernel_rfl
theorem has_h89 : hasU Try.prog 89 = true := by kernel_rfl
theorem has_w89 : ftl Try.prog 89 = some [(3, 0), (3, 1), (87, 2), (3, 3)] := by kernel_rfl
theorem has_c89 : Try.prog.cellsOf 89 = 4 := by kernel_rfl
theorem has_a89 : aggT Try.prog 89 = true := by kernel_rfl
theorem has_z89 : zbox Try.prog 89 = some (A.agg [A.int .i64 0, A.int .i64 0, A.sl true [], A.int .i64 0], 48) := by kernel_rfl
theorem has_b89 : bplan Try.prog 89 = some ([A.int .i64 0, A.int .i64 0, A.sl true [], A.int .i64 0], [(0, 1), (1, 1), (2, 1), (3, 1)]) := by kernel_rfl
theorem has_u90 : Try.prog.underlying 90 = some (.int .u64) := by kernel_rfl
theorem has_s90 : isSliceT Try.prog 90 = false := by kernel_rfl
theorem has_t90 : isStrT Try.prog 90 = false := by kernel_rfl
theorem has_h90 : hasU Try.prog 90 = true := by kernel_rfl
theorem has_i90 : intT Try.prog 90 = some .u64 := by kernel_rfl
theorem has_c90 : Try.prog.cellsOf 90 = 1 := by kernel_rfl
theorem has_a90 : aggT Try.prog 90 = false := by kernel_rfl
theorem has_z90 : zbox Try.prog 90 = some (A.int .u64 0, 8) := by kernel_rfl
theorem has_g91_0 : fld Try.prog 91 0 = some (90, 0) := by kernel_rfl
theorem has_g91_1 : fld Try.prog 91 1 = some (3, 1) := by kernel_rfl
theorem has_g91_2 : fld Try.prog 91 2 = some (4, 2) := by kernel_rfl
theorem has_s91 : isSliceT Try.prog 91 = false := by kernel_rfl
theorem has_t91 : isStrT Try.prog 91 = false := by kernel_rfl
theorem has_h91 : hasU Try.prog 91 = true := by kernel_rfl
theorem has_w91 : ftl Try.prog 91 = some [(90, 0), (3, 1), (4, 2)] := by kernel_rfl
theorem has_c91 : Try.prog.cellsOf 91 = 3 := by kernel_rfl
theorem has_a91 : aggT Try.prog 91 = true := by kernel_rfl
theorem has_z91 : zbox Try.prog 91 = some (A.agg [A.int .u64 0, A.int .i64 0, A.bool false], 24) := by kernel_rfl
theorem has_b91 : bplan Try.prog 91 = some ([A.int .u64 0, A.int .i64 0, A.bool false], [(0, 1), (1, 1), (2, 1)]) := by kernel_rfl
theorem has_e91 : eqT Try.prog 91 = some [0, 0, 1] := by kernel_rfl
theorem has_g92_0 : fld Try.prog 92 0 = some (90, 0) := by kernel_rfl
theorem has_g92_1 : fld Try.prog 92 1 = some (3, 1) := by kernel_rfl
theorem has_g92_2 : fld Try.prog 92 2 = some (4, 2) := by kernel_rfl
theorem has_s92 : isSliceT Try.prog 92 = false := by kernel_rfl
theorem has_t92 : isStrT Try.prog 92 = false := by kernel_rfl
theorem has_h92 : hasU Try.prog 92 = true := by kernel_rfl
theorem has_w92 : ftl Try.prog 92 = some [(90, 0), (3, 1), (4, 2)] := by kernel_rfl
theorem has_c92 : Try.prog.cellsOf 92 = 3 := by kernel_rfl
theorem has_a92 : aggT Try.prog 92 = true := by kernel_rfl
theorem has_z92 : zbox Try.prog 92 = some (A.agg [A.int .u64 0, A.int .i64 0, A.bool false], 24) := by kernel_rfl
theorem has_b92 : bplan Try.prog 92 = some ([A.int .u64 0, A.int .i64 0, A.bool false], [(0, 1), (1, 1), (2, 1)]) := by kernel_rfl
theorem has_e92 : eqT Try.prog 92 = some [0, 0, 1] := by kernel_rfl
theorem has_g93_0 : fld Try.prog 93 0 = some (3, 0) := by kernel_rfl
theorem has_g93_1 : fld Try.prog 93 1 = some (3, 1) := by kernel_rfl
theorem has_g93_2 : fld Try.prog 93 2 = some (3, 2) := by kernel_rfl
theorem has_g93_3 : fld Try.prog 93 3 = some (3, 3) := by kernel_rfl
theorem has_g93_4 : fld Try.prog 93 4 = some (3, 4) := by kernel_rfl
theorem has_s93 : isSliceT Try.prog 93 = false := by kernel_rfl
theorem has_t93 : isStrT Try.prog 93 = false := by kernel_rfl
theorem has_h93 : hasU Try.prog 93 = true := by kernel_rfl
theorem has_w93 : ftl Try.prog 93 = some [(3, 0), (3, 1), (3, 2), (3, 3), (3, 4)] := by kernel_rfl
theorem has_c93 : Try.prog.cellsOf 93 = 5 := by kernel_rfl
theorem has_a93 : aggT Try.prog 93 = true := by kernel_rfl
theorem has_z93 : zbox Try.prog 93 = some (A.agg [A.int .i64 0, A.int .i64 0, A.int .i64 0, A.int .i64 0, A.int .i64 0], 40) := by kernel_rfl
theorem has_b93 : bplan Try.prog 93 = some ([A.int .i64 0, A.int .i64 0, A.int .i64 0, A.int .i64 0, A.int .i64 0], [(0, 1), (1, 1), (2, 1), (3, 1), (4, 1)]) := by kernel_rfl
theorem has_e93 : eqT Try.prog 93 = some [0, 0, 0, 0, 0] := by kernel_rfl
theorem has_g94_0 : fld Try.prog 94 0 = some (3, 0) := by kernel_rfl
theorem has_g94_1 : fld Try.prog 94 1 = some (3, 1) := by kernel_rfl
theorem has_g94_2 : fld Try.prog 94 2 = some (3, 2) := by kernel_rfl
theorem has_g94_3 : fld Try.prog 94 3 = some (3, 3) := by kernel_rfl
theorem has_g94_4 : fld Try.prog 94 4 = some (3, 4) := by kernel_rfl
theorem has_s94 : isSliceT Try.prog 94 = false := by kernel_rfl
theorem has_t94 : isStrT Try.prog 94 = false := by kernel_rfl
theorem has_h94 : hasU Try.prog 94 = true := by kernel_rfl
theorem has_w94 : ftl Try.prog 94 = some [(3, 0), (3, 1), (3, 2), (3, 3), (3, 4)] := by kernel_rfl
theorem has_c94 : Try.prog.cellsOf 94 = 5 := by kernel_rfl
theorem has_a94 : aggT Try.prog 94 = true := by kernel_rfl
theorem has_z94 : zbox Try.prog 94 = some (A.agg [A.int .i64 0, A.int .i64 0, A.int .i64 0, A.int .i64 0, A.int .i64 0], 40) := by kernel_rfl
theorem has_b94 : bplan Try.prog 94 = some ([A.int .i64 0, A.int .i64 0, A.int .i64 0, A.int .i64 0, A.int .i64 0], [(0, 1), (1, 1), (2, 1), (3, 1), (4, 1)]) := by kernel_rfl
theorem has_e94 : eqT Try.prog 94 = some [0, 0, 0, 0, 0] := by kernel_rfl
theorem has_g95_0 : fld Try.prog 95 0 = some (3, 0) := by kernel_rfl
theorem has_g95_1 : fld Try.prog 95 1 = some (3, 1) := by kernel_rfl
theorem has_g95_2 : fld Try.prog 95 2 = some (3, 2) := by kernel_rfl
theorem has_g95_3 : fld Try.prog 95 3 = some (3, 3) := by kernel_rfl
theorem has_g95_4 : fld Try.prog 95 4 = some (3, 4) := by kernel_rfl
theorem has_g95_5 : fld Try.prog 95 5 = some (3, 5) := by kernel_rfl
theorem has_s95 : isSliceT Try.prog 95 = false := by kernel_rfl
theorem has_t95 : isStrT Try.prog 95 = false := by kernel_rfl
theorem has_h95 : hasU Try.prog 95 = true := by kernel_rfl
theorem has_w95 : ftl Try.prog 95 = some [(3, 0), (3, 1), (3, 2), (3, 3), (3, 4), (3, 5)] := by kernel_rfl
theorem has_c95 : Try.prog.cellsOf 95 = 6 := by kernel_rfl
theorem has_a95 : aggT Try.prog 95 = true := by kernel_rfl
theorem has_z95 : zbox Try.prog 95 = some (A.agg [A.int .i64 0, A.int .i64 0, A.int .i64 0, A.int .i64 0, A.int .i64 0, A.int .i64 0], 48) := by kernel_rfl
theorem has_b95 : bplan Try.prog 95 = some ([A.int .i64 0, A.int .i64 0, A.int .i64 0, A.int .i64 0, A.int .i64 0, A.int .i64 0], [(0, 1), (1, 1), (2, 1), (3, 1), (4, 1), (5, 1)]) := by kernel_rfl
theorem has_e95 : eqT Try.prog 95 = some [0, 0, 0, 0, 0, 0] := by kernel_rfl
theorem has_g96_0 : fld Try.prog 96 0 = some (3, 0) := by kernel_rfl
theorem has_g96_1 : fld Try.prog 96 1 = some (3, 1) := by kernel_rfl
theorem has_g96_2 : fld Try.prog 96 2 = some (3, 2) := by kernel_rfl
theorem has_g96_3 : fld Try.prog 96 3 = some (3, 3) := by kernel_rfl
theorem has_g96_4 : fld Try.prog 96 4 = some (3, 4) := by kernel_rfl
theorem has_g96_5 : fld Try.prog 96 5 = some (3, 5) := by kernel_rfl
theorem has_s96 : isSliceT Try.prog 96 = false := by kernel_rfl
theorem has_t96 : isStrT Try.prog 96 = false := by kernel_rfl
theorem has_h96 : hasU Try.prog 96 = true := by kernel_rfl
theorem has_w96 : ftl Try.prog 96 = some [(3, 0), (3, 1), (3, 2), (3, 3), (3, 4), (3, 5)] := by kernel_rfl
theorem has_c96 : Try.prog.cellsOf 96 = 6 := by kernel_rfl
theorem has_a96 : aggT Try.prog 96 = true := by kernel_rfl
theorem has_z96 : zbox Try.prog 96 = some (A.agg [A.int .i64 0, A.int .i64 0, A.int .i64 0, A.int .i64 0, A.int .i64 0, A.int .i64 0], 48) := by kernel_rfl
theorem has_b96 : bplan Try.prog 96 = some ([A.int .i64 0, A.int .i64 0, A.int .i64 0, A.int .i64 0, A.int .i64 0, A.int .i64 0], [(0, 1), (1, 1), (2, 1), (3, 1), (4, 1), (5, 1)]) := by kernel_rfl
theorem has_e96 : eqT Try.prog 96 = some [0, 0, 0, 0, 0, 0] := by kernel_rfl
theorem has_g100_0 : fld Try.prog 100 0 = some (3, 0) := by kernel_rfl
theorem has_g100_1 : fld Try.prog 100 1 = some (3, 1) := by kernel_rfl
theorem has_s100 : isSliceT Try.prog 100 = false := by kernel_rfl
theorem has_t100 : isStrT Try.prog 100 = false := by kernel_rfl
theorem has_h100 : hasU Try.prog 100 = true := by kernel_rfl
theorem has_w100 : ftl Try.prog 100 = some [(3, 0), (3, 1)] := by kernel_rfl
theorem has_c100 : Try.prog.cellsOf 100 = 2 := by kernel_rfl
theorem has_a100 : aggT Try.prog 100 = true := by kernel_rfl
theorem has_z100 : zbox Try.prog 100 = some (A.agg [A.int .i64 0, A.int .i64 0], 16) := by kernel_rfl
theorem has_b100 : bplan Try.prog 100 = some ([A.int .i64 0, A.int .i64 0], [(0, 1), (1, 1)]) := by kernel_rfl
theorem has_e100 : eqT Try.prog 100 = some [0, 0] := by kernel_rfl
theorem has_g101_0 : fld Try.prog 101 0 = some (3, 0) := by kernel_rfl
theorem has_g101_1 : fld Try.prog 101 1 = some (3, 1) := by kernel_rfl
theorem has_s101 : isSliceT Try.prog 101 = false := by kernel_rfl
theorem has_t101 : isStrT Try.prog 101 = false := by kernel_rfl
theorem has_h101 : hasU Try.prog 101 = true := by kernel_rfl
theorem has_w101 : ftl Try.prog 101 = some [(3, 0), (3, 1)] := by kernel_rfl
theorem has_c101 : Try.prog.cellsOf 101 = 2 := by kernel_rfl
theorem has_a101 : aggT Try.prog 101 = true := by kernel_rfl
theorem has_z101 : zbox Try.prog 101 = some (A.agg [A.int .i64 0, A.int .i64 0], 16) := by kernel_rfl
theorem has_b101 : bplan Try.prog 101 = some ([A.int .i64 0, A.int .i64 0], [(0, 1), (1, 1)]) := by kernel_rfl
theorem has_e101 : eqT Try.prog 101 = some [0, 0] := by kernel_rfl
theorem has_g102_0 : fld Try.prog 102 0 = some (3, 0) := by kernel_rfl
theorem has_g102_1 : fld Try.prog 102 1 = some (3, 1) := by kernel_rfl
theorem has_g102_2 : fld Try.prog 102 2 = some (3, 2) := by kernel_rfl
theorem has_s102 : isSliceT Try.prog 102 = false := by kernel_rfl
theorem has_t102 : isStrT Try.prog 102 = false := by kernel_rfl
theorem has_h102 : hasU Try.prog 102 = true := by kernel_rfl
theorem has_w102 : ftl Try.prog 102 = some [(3, 0), (3, 1), (3, 2)] := by kernel_rfl
theorem has_c102 : Try.prog.cellsOf 102 = 3 := by kernel_rfl
theorem has_a102 : aggT Try.prog 102 = true := by kernel_rfl
theorem has_z102 : zbox Try.prog 102 = some (A.agg [A.int .i64 0, A.int .i64 0, A.int .i64 0], 24) := by kernel_rfl
theorem has_b102 : bplan Try.prog 102 = some ([A.int .i64 0, A.int .i64 0, A.int .i64 0], [(0, 1), (1, 1), (2, 1)]) := by kernel_rfl
theorem has_e102 : eqT Try.prog 102 = some [0, 0, 0] := by kernel_rfl
theorem has_g103_0 : fld Try.prog 103 0 = some (3, 0) := by kernel_rfl
theorem has_g103_1 : fld Try.prog 103 1 = some (3, 1) := by kernel_rfl
theorem has_g103_2 : fld Try.prog 103 2 = some (3, 2) := by kernel_rfl
theorem has_s103 : isSliceT Try.prog 103 = false := by kernel_rfl
theorem has_t103 : isStrT Try.prog 103 = false := by kernel_rfl
theorem has_h103 : hasU Try.prog 103 = true := by kernel_rfl
theorem has_w103 : ftl Try.prog 103 = some [(3, 0), (3, 1), (3, 2)] := by kernel_rfl
theorem has_c103 : Try.prog.cellsOf 103 = 3 := by kernel_rfl
theorem has_a103 : aggT Try.prog 103 = true := by kernel_rfl
theorem has_z103 : zbox Try.prog 103 = some (A.agg [A.int .i64 0, A.int .i64 0, A.int .i64 0], 24) := by kernel_rfl
theorem has_b103 : bplan Try.prog 103 = some ([A.int .i64 0, A.int .i64 0, A.int .i64 0], [(0, 1), (1, 1), (2, 1)]) := by kernel_rfl
theorem has_e103 : eqT Try.prog 103 = some [0, 0, 0] := by kernel_rfl
theorem has_g104_0 : fld Try.prog 104 0 = some (3, 0) := by kernel_rfl
theorem has_g104_1 : fld Try.prog 104 1 = some (3, 1) := by kernel_rfl
theorem has_g104_2 : fld Try.prog 104 2 = some (3, 2) := by kernel_rfl
theorem has_g104_3 : fld Try.prog 104 3 = some (3, 3) := by kernel_rfl
theorem has_g104_4 : fld Try.prog 104 4 = some (4, 4) := by kernel_rfl
theorem has_s104 : isSliceT Try.prog 104 = false := by kernel_rfl
theorem has_t104 : isStrT Try.prog 104 = false := by kernel_rfl
theorem has_h104 : hasU Try.prog 104 = true := by kernel_rfl
theorem has_w104 : ftl Try.prog 104 = some [(3, 0), (3, 1), (3, 2), (3, 3), (4, 4)] := by kernel_rfl
theorem has_c104 : Try.prog.cellsOf 104 = 5 := by kernel_rfl
theorem has_a104 : aggT Try.prog 104 = true := by kernel_rfl
theorem has_z104 : zbox Try.prog 104 = some (A.agg [A.int .i64 0, A.int .i64 0, A.int .i64 0, A.int .i64 0, A.bool false], 40) := by kernel_rfl
theorem has_b104 : bplan Try.prog 104 = some ([A.int .i64 0, A.int .i64 0, A.int .i64 0, A.int .i64 0, A.bool false], [(0, 1), (1, 1), (2, 1), (3, 1), (4, 1)]) := by kernel_rfl
theorem has_e104 : eqT Try.prog 104 = some [0, 0, 0, 0, 1] := by kernel_rfl
theorem has_g105_0 : fld Try.prog 105 0 = some (3, 0) := by kernel_rfl
theorem has_g105_1 : fld Try.prog 105 1 = some (3, 1) := by kernel_rfl
theorem has_g105_2 : fld Try.prog 105 2 = some (3, 2) := by kernel_rfl
theorem has_g105_3 : fld Try.prog 105 3 = some (3, 3) := by kernel_rfl
theorem has_g105_4 : fld Try.prog 105 4 = some (4, 4) := by kernel_rfl
theorem has_s105 : isSliceT Try.prog 105 = false := by kernel_rfl
theorem has_t105 : isStrT Try.prog 105 = false := by kernel_rfl
theorem has_h105 : hasU Try.prog 105 = true := by kernel_rfl
theorem has_w105 : ftl Try.prog 105 = some [(3, 0), (3, 1), (3, 2), (3, 3), (4, 4)] := by kernel_rfl
theorem has_c105 : Try.prog.cellsOf 105 = 5 := by kernel_rfl
theorem has_a105 : aggT Try.prog 105 = true := by kernel_rfl
theorem has_z105 : zbox Try.prog 105 = some (A.agg [A.int .i64 0, A.int .i64 0, A.int .i64 0, A.int .i64 0, A.bool false], 40) := by kernel_rfl
theorem has_b105 : bplan Try.prog 105 = some ([A.int .i64 0, A.int .i64 0, A.int .i64 0, A.int .i64 0, A.bool false], [(0, 1), (1, 1), (2, 1), (3, 1), (4, 1)]) := by kernel_rfl
theorem has_e105 : eqT Try.prog 105 = some [0, 0, 0, 0, 1] := by kernel_rfl
theorem has_u109 : Try.prog.underlying 109 = some (.array 0 16) := by kernel_rfl
theorem has_s109 : isSliceT Try.prog 109 = false := by kernel_rfl
theorem has_t109 : isStrT Try.prog 109 = false := by kernel_rfl
theorem has_r109 : arrT Try.prog 109 = some (0, 16) := by kernel_rfl
theorem has_h109 : hasU Try.prog 109 = true := by kernel_rfl
theorem has_n109 : bplan Try.prog 109 = none := by kernel_rfl
theorem has_c109 : Try.prog.cellsOf 109 = 0 := by kernel_rfl
theorem has_a109 : aggT Try.prog 109 = true := by kernel_rfl
theorem has_z109 : zbox Try.prog 109 = some (A.agg [], 0) := by kernel_rfl
theorem has_b109 : aplan Try.prog 109 = some ([], 1) := by kernel_rfl
theorem has_u113 : Try.prog.underlying 113 = some (.int .u32) := by kernel_rfl
theorem has_s113 : isSliceT Try.prog 113 = false := by kernel_rfl
theorem has_t113 : isStrT Try.prog 113 = false := by kernel_rfl
theorem has_h113 : hasU Try.prog 113 = true := by kernel_rfl
theorem has_i113 : intT Try.prog 113 = some .u32 := by kernel_rfl
theorem has_c113 : Try.prog.cellsOf 113 = 1 := by kernel_rfl
theorem has_a113 : aggT Try.prog 113 = false := by kernel_rfl
theorem has_z113 : zbox Try.prog 113 = some (A.int .u32 0, 4) := by kernel_rfl
theorem has_g120_0 : fld Try.prog 120 0 = some (12, 0) := by kernel_rfl
theorem has_g120_1 : fld Try.prog 120 1 = some (12, 1) := by kernel_rfl
theorem has_g120_2 : fld Try.prog 120 2 = some (113, 2) := by kernel_rfl
theorem has_g120_3 : fld Try.prog 120 3 = some (114, 3) := by kernel_rfl
theorem has_g120_4 : fld Try.prog 120 4 = some (5, 4) := by kernel_rfl
theorem has_g120_5 : fld Try.prog 120 5 = some (5, 5) := by kernel_rfl
theorem has_g120_6 : fld Try.prog 120 6 = some (115, 6) := by kernel_rfl
theorem has_g120_7 : fld Try.prog 120 7 = some (116, 7) := by kernel_rfl
theorem has_g120_8 : fld Try.prog 120 8 = some (117, 8) := by kernel_rfl
theorem has_g120_9 : fld Try.prog 120 9 = some (118, 9) := by kernel_rfl
theorem has_g120_10 : fld Try.prog 120 10 = some (119, 10) := by kernel_rfl
theorem has_s120 : isSliceT Try.prog 120 = false := by kernel_rfl
theorem has_t120 : isStrT Try.prog 120 = false := by kernel_rfl
theorem has_h120 : hasU Try.prog 120 = true := by kernel_rfl
theorem has_w120 : ftl Try.prog 120 = some [(12, 0), (12, 1), (113, 2), (114, 3), (5, 4), (5, 5), (115, 6), (116, 7), (117, 8), (118, 9), (119, 10)] := by kernel_rfl
theorem has_c120 : Try.prog.cellsOf 120 = 11 := by kernel_rfl
theorem has_a120 : aggT Try.prog 120 = true := by kernel_rfl
theorem has_z120 : zbox Try.prog 120 = some (A.agg [A.int .u64 0, A.int .u64 0, A.int .u32 0, A.int .u8 0, A.int .u8 0, A.int .u8 0, A.int .u8 0, A.nfn, A.nptr, A.int .i32 0, A.int .i32 0], 48) := by kernel_rfl
theorem has_mo : Try.prog.follows .mixedOrders = true := by kernel_rfl
instance facts : Facts Try.prog where
  u2 := has_u2
  s2 := has_s2
  t2 := has_t2
  h2 := has_h2
  i2 := has_i2
  c2 := has_c2
  a2 := has_a2
  z2 := has_z2
  u3 := has_u3
  s3 := has_s3
  t3 := has_t3
  h3 := has_h3
  i3 := has_i3
  c3 := has_c3
  a3 := has_a3
  z3 := has_z3
  u4 := has_u4
  s4 := has_s4
  t4 := has_t4
  h4 := has_h4
  d4 := has_d4
  c4 := has_c4
  a4 := has_a4
  z4 := has_z4
  u5 := has_u5
  s5 := has_s5
  t5 := has_t5
  h5 := has_h5
  i5 := has_i5
  c5 := has_c5
  a5 := has_a5
  z5 := has_z5
  u9 := has_u9
  s9 := has_s9
  t9 := has_t9
  h9 := has_h9
  c9 := has_c9
  a9 := has_a9
  z9 := has_z9
  u12 := has_u12
  s12 := has_s12
  t12 := has_t12
  h12 := has_h12
  i12 := has_i12
  c12 := has_c12
  a12 := has_a12
  z12 := has_z12
  u21 := has_u21
  s21 := has_s21
  t21 := has_t21
  h21 := has_h21
  i21 := has_i21
  c21 := has_c21
  a21 := has_a21
  z21 := has_z21
  u22 := has_u22
  s22 := has_s22
  l22 := has_l22
  t22 := has_t22
  h22 := has_h22
  c22 := has_c22
  a22 := has_a22
  z22 := has_z22
  u23 := has_u23
  s23 := has_s23
  t23 := has_t23
  h23 := has_h23
  i23 := has_i23
  c23 := has_c23
  a23 := has_a23
  z23 := has_z23
  u24 := has_u24
  s24 := has_s24
  l24 := has_l24
  t24 := has_t24
  h24 := has_h24
  c24 := has_c24
  a24 := has_a24
  z24 := has_z24
  g25_0 := has_g25_0
  g25_1 := has_g25_1
  g25_2 := has_g25_2
  g25_3 := has_g25_3
  g25_4 := has_g25_4
  g25_5 := has_g25_5
  g25_6 := has_g25_6
  g25_7 := has_g25_7
  g25_8 := has_g25_8
  s25 := has_s25
  t25 := has_t25
  h25 := has_h25
  w25 := has_w25
  c25 := has_c25
  a25 := has_a25
  z25 := has_z25
  b25 := has_b25
  g26_0 := has_g26_0
  g26_1 := has_g26_1
  g26_2 := has_g26_2
  g26_3 := has_g26_3
  g26_4 := has_g26_4
  g26_5 := has_g26_5
  g26_6 := has_g26_6
  g26_7 := has_g26_7
  g26_8 := has_g26_8
  s26 := has_s26
  t26 := has_t26
  h26 := has_h26
  w26 := has_w26
  c26 := has_c26
  a26 := has_a26
  z26 := has_z26
  b26 := has_b26
  u27 := has_u27
  s27 := has_s27
  l27 := has_l27
  t27 := has_t27
  h27 := has_h27
  c27 := has_c27
  a27 := has_a27
  z27 := has_z27
  u28 := has_u28
  s28 := has_s28
  l28 := has_l28
  t28 := has_t28
  h28 := has_h28
  c28 := has_c28
  a28 := has_a28
  z28 := has_z28
  u29 := has_u29
  s29 := has_s29
  l29 := has_l29
  t29 := has_t29
  h29 := has_h29
  c29 := has_c29
  a29 := has_a29
  z29 := has_z29
  u30 := has_u30
  s30 := has_s30
  l30 := has_l30
  t30 := has_t30
  h30 := has_h30
  c30 := has_c30
  a30 := has_a30
  z30 := has_z30
  u31 := has_u31
  s31 := has_s31
  l31 := has_l31
  t31 := has_t31
  h31 := has_h31
  c31 := has_c31
  a31 := has_a31
  z31 := has_z31
  u32 := has_u32
  s32 := has_s32
  l32 := has_l32
  t32 := has_t32
  h32 := has_h32
  c32 := has_c32
  a32 := has_a32
  z32 := has_z32
  u33 := has_u33
  s33 := has_s33
  l33 := has_l33
  t33 := has_t33
  h33 := has_h33
  c33 := has_c33
  a33 := has_a33
  z33 := has_z33
  u34 := has_u34
  s34 := has_s34
  l34 := has_l34
  t34 := has_t34
  h34 := has_h34
  c34 := has_c34
  a34 := has_a34
  z34 := has_z34
  u35 := has_u35
  s35 := has_s35
  l35 := has_l35
  t35 := has_t35
  h35 := has_h35
  c35 := has_c35
  a35 := has_a35
  z35 := has_z35
  g36_0 := has_g36_0
  g36_1 := has_g36_1
  g36_2 := has_g36_2
  g36_3 := has_g36_3
  g36_4 := has_g36_4
  g36_5 := has_g36_5
  g36_6 := has_g36_6
  g36_7 := has_g36_7
  g36_8 := has_g36_8
  g36_9 := has_g36_9
  g36_10 := has_g36_10
  g36_11 := has_g36_11
  g36_12 := has_g36_12
  g36_13 := has_g36_13
  g36_14 := has_g36_14
  g36_15 := has_g36_15
  g36_16 := has_g36_16
  g36_17 := has_g36_17
  s36 := has_s36
  t36 := has_t36
  h36 := has_h36
  w36 := has_w36
  c36 := has_c36
  a36 := has_a36
  z36 := has_z36
  b36 := has_b36
  g37_0 := has_g37_0
  g37_1 := has_g37_1
  g37_2 := has_g37_2
  g37_3 := has_g37_3
  g37_4 := has_g37_4
  g37_5 := has_g37_5
  g37_6 := has_g37_6
  g37_7 := has_g37_7
  g37_8 := has_g37_8
  g37_9 := has_g37_9
  g37_10 := has_g37_10
  g37_11 := has_g37_11
  g37_12 := has_g37_12
  g37_13 := has_g37_13
  g37_14 := has_g37_14
  g37_15 := has_g37_15
  g37_16 := has_g37_16
  g37_17 := has_g37_17
  s37 := has_s37
  t37 := has_t37
  h37 := has_h37
  w37 := has_w37
  c37 := has_c37
  a37 := has_a37
  z37 := has_z37
  b37 := has_b37
  u38 := has_u38
  s38 := has_s38
  l38 := has_l38
  t38 := has_t38
  h38 := has_h38
  c38 := has_c38
  a38 := has_a38
  z38 := has_z38
  g39_0 := has_g39_0
  g39_1 := has_g39_1
  g39_2 := has_g39_2
  g39_3 := has_g39_3
  g39_4 := has_g39_4
  s39 := has_s39
  t39 := has_t39
  h39 := has_h39
  w39 := has_w39
  c39 := has_c39
  a39 := has_a39
  z39 := has_z39
  b39 := has_b39
  g40_0 := has_g40_0
  g40_1 := has_g40_1
  g40_2 := has_g40_2
  g40_3 := has_g40_3
  g40_4 := has_g40_4
  s40 := has_s40
  t40 := has_t40
  h40 := has_h40
  w40 := has_w40
  c40 := has_c40
  a40 := has_a40
  z40 := has_z40
  b40 := has_b40
  u43 := has_u43
  s43 := has_s43
  t43 := has_t43
  h43 := has_h43
  i43 := has_i43
  c43 := has_c43
  a43 := has_a43
  z43 := has_z43
  u68 := has_u68
  s68 := has_s68
  t68 := has_t68
  h68 := has_h68
  i68 := has_i68
  c68 := has_c68
  a68 := has_a68
  z68 := has_z68
  g69_0 := has_g69_0
  g69_1 := has_g69_1
  g69_2 := has_g69_2
  g69_3 := has_g69_3
  g69_4 := has_g69_4
  g69_5 := has_g69_5
  s69 := has_s69
  t69 := has_t69
  h69 := has_h69
  w69 := has_w69
  c69 := has_c69
  a69 := has_a69
  z69 := has_z69
  b69 := has_b69
  e69 := has_e69
  g70_0 := has_g70_0
  g70_1 := has_g70_1
  g70_2 := has_g70_2
  g70_3 := has_g70_3
  g70_4 := has_g70_4
  g70_5 := has_g70_5
  s70 := has_s70
  t70 := has_t70
  h70 := has_h70
  w70 := has_w70
  c70 := has_c70
  a70 := has_a70
  z70 := has_z70
  b70 := has_b70
  e70 := has_e70
  u74 := has_u74
  s74 := has_s74
  t74 := has_t74
  h74 := has_h74
  i74 := has_i74
  c74 := has_c74
  a74 := has_a74
  z74 := has_z74
  g75_0 := has_g75_0
  g75_1 := has_g75_1
  g75_2 := has_g75_2
  g75_3 := has_g75_3
  g75_4 := has_g75_4
  g75_5 := has_g75_5
  g75_6 := has_g75_6
  s75 := has_s75
  t75 := has_t75
  h75 := has_h75
  w75 := has_w75
  c75 := has_c75
  a75 := has_a75
  z75 := has_z75
  b75 := has_b75
  g76_0 := has_g76_0
  g76_1 := has_g76_1
  g76_2 := has_g76_2
  g76_3 := has_g76_3
  g76_4 := has_g76_4
  g76_5 := has_g76_5
  g76_6 := has_g76_6
  s76 := has_s76
  t76 := has_t76
  h76 := has_h76
  w76 := has_w76
  c76 := has_c76
  a76 := has_a76
  z76 := has_z76
  b76 := has_b76
  u78 := has_u78
  s78 := has_s78
  l78 := has_l78
  t78 := has_t78
  h78 := has_h78
  c78 := has_c78
  a78 := has_a78
  z78 := has_z78
  g79_0 := has_g79_0
  g79_1 := has_g79_1
  g79_2 := has_g79_2
  g79_3 := has_g79_3
  g79_4 := has_g79_4
  s79 := has_s79
  t79 := has_t79
  h79 := has_h79
  w79 := has_w79
  c79 := has_c79
  a79 := has_a79
  z79 := has_z79
  b79 := has_b79
  g80_0 := has_g80_0
  g80_1 := has_g80_1
  g80_2 := has_g80_2
  g80_3 := has_g80_3
  g80_4 := has_g80_4
  s80 := has_s80
  t80 := has_t80
  h80 := has_h80
  w80 := has_w80
  c80 := has_c80
  a80 := has_a80
  z80 := has_z80
  b80 := has_b80
  u82 := has_u82
  s82 := has_s82
  t82 := has_t82
  h82 := has_h82
  i82 := has_i82
  c82 := has_c82
  a82 := has_a82
  z82 := has_z82
  u83 := has_u83
  s83 := has_s83
  l83 := has_l83
  t83 := has_t83
  h83 := has_h83
  c83 := has_c83
  a83 := has_a83
  z83 := has_z83
  g84_0 := has_g84_0
  g84_1 := has_g84_1
  g84_2 := has_g84_2
  g84_3 := has_g84_3
  g84_4 := has_g84_4
  g84_5 := has_g84_5
  g84_6 := has_g84_6
  s84 := has_s84
  t84 := has_t84
  h84 := has_h84
  w84 := has_w84
  c84 := has_c84
  a84 := has_a84
  z84 := has_z84
  b84 := has_b84
  g85_0 := has_g85_0
  g85_1 := has_g85_1
  g85_2 := has_g85_2
  g85_3 := has_g85_3
  g85_4 := has_g85_4
  g85_5 := has_g85_5
  g85_6 := has_g85_6
  s85 := has_s85
  t85 := has_t85
  h85 := has_h85
  w85 := has_w85
  c85 := has_c85
  a85 := has_a85
  z85 := has_z85
  b85 := has_b85
  u87 := has_u87
  s87 := has_s87
  l87 := has_l87
  t87 := has_t87
  h87 := has_h87
  c87 := has_c87
  a87 := has_a87
  z87 := has_z87
  g88_0 := has_g88_0
  g88_1 := has_g88_1
  g88_2 := has_g88_2
  g88_3 := has_g88_3
  s88 := has_s88
  t88 := has_t88
  h88 := has_h88
  w88 := has_w88
  c88 := has_c88
  a88 := has_a88
  z88 := has_z88
  b88 := has_b88
  g89_0 := has_g89_0
  g89_1 := has_g89_1
  g89_2 := has_g89_2
  g89_3 := has_g89_3
  s89 := has_s89
  t89 := has_t89
  h89 := has_h89
  w89 := has_w89
  c89 := has_c89
  a89 := has_a89
  z89 := has_z89
  b89 := has_b89
  u90 := has_u90
  s90 := has_s90
  t90 := has_t90
  h90 := has_h90
  i90 := has_i90
  c90 := has_c90
  a90 := has_a90
  z90 := has_z90
  g91_0 := has_g91_0
  g91_1 := has_g91_1
  g91_2 := has_g91_2
  s91 := has_s91
  t91 := has_t91
  h91 := has_h91
  w91 := has_w91
  c91 := has_c91
  a91 := has_a91
  z91 := has_z91
  b91 := has_b91
  e91 := has_e91
  g92_0 := has_g92_0
  g92_1 := has_g92_1
  g92_2 := has_g92_2
  s92 := has_s92
  t92 := has_t92
  h92 := has_h92
  w92 := has_w92
  c92 := has_c92
  a92 := has_a92
  z92 := has_z92
  b92 := has_b92
  e92 := has_e92
  g93_0 := has_g93_0
  g93_1 := has_g93_1
  g93_2 := has_g93_2
  g93_3 := has_g93_3
  g93_4 := has_g93_4
  s93 := has_s93
  t93 := has_t93
  h93 := has_h93
  w93 := has_w93
  c93 := has_c93
  a93 := has_a93
  z93 := has_z93
  b93 := has_b93
  e93 := has_e93
  g94_0 := has_g94_0
  g94_1 := has_g94_1
  g94_2 := has_g94_2
  g94_3 := has_g94_3
  g94_4 := has_g94_4
  s94 := has_s94
  t94 := has_t94
  h94 := has_h94
  w94 := has_w94
  c94 := has_c94
  a94 := has_a94
  z94 := has_z94
  b94 := has_b94
  e94 := has_e94
  g95_0 := has_g95_0
  g95_1 := has_g95_1
  g95_2 := has_g95_2
  g95_3 := has_g95_3
  g95_4 := has_g95_4
  g95_5 := has_g95_5
  s95 := has_s95
  t95 := has_t95
  h95 := has_h95
  w95 := has_w95
  c95 := has_c95
  a95 := has_a95
  z95 := has_z95
  b95 := has_b95
  e95 := has_e95
  g96_0 := has_g96_0
  g96_1 := has_g96_1
  g96_2 := has_g96_2
  g96_3 := has_g96_3
  g96_4 := has_g96_4
  g96_5 := has_g96_5
  s96 := has_s96
  t96 := has_t96
  h96 := has_h96
  w96 := has_w96
  c96 := has_c96
  a96 := has_a96
  z96 := has_z96
  b96 := has_b96
  e96 := has_e96
  g100_0 := has_g100_0
  g100_1 := has_g100_1
  s100 := has_s100
  t100 := has_t100
  h100 := has_h100
  w100 := has_w100
  c100 := has_c100
  a100 := has_a100
  z100 := has_z100
  b100 := has_b100
  e100 := has_e100
  g101_0 := has_g101_0
  g101_1 := has_g101_1
  s101 := has_s101
  t101 := has_t101
  h101 := has_h101
  w101 := has_w101
  c101 := has_c101
  a101 := has_a101
  z101 := has_z101
  b101 := has_b101
  e101 := has_e101
  g102_0 := has_g102_0
  g102_1 := has_g102_1
  g102_2 := has_g102_2
  s102 := has_s102
  t102 := has_t102
  h102 := has_h102
  w102 := has_w102
  c102 := has_c102
  a102 := has_a102
  z102 := has_z102
  b102 := has_b102
  e102 := has_e102
  g103_0 := has_g103_0
  g103_1 := has_g103_1
  g103_2 := has_g103_2
  s103 := has_s103
  t103 := has_t103
  h103 := has_h103
  w103 := has_w103
  c103 := has_c103
  a103 := has_a103
  z103 := has_z103
  b103 := has_b103
  e103 := has_e103
  g104_0 := has_g104_0
  g104_1 := has_g104_1
  g104_2 := has_g104_2
  g104_3 := has_g104_3
  g104_4 := has_g104_4
  s104 := has_s104
  t104 := has_t104
  h104 := has_h104
  w104 := has_w104
  c104 := has_c104
  a104 := has_a104
  z104 := has_z104
  b104 := has_b104
  e104 := has_e104
  g105_0 := has_g105_0
  g105_1 := has_g105_1
  g105_2 := has_g105_2
  g105_3 := has_g105_3
  g105_4 := has_g105_4
  s105 := has_s105
  t105 := has_t105
  h105 := has_h105
  w105 := has_w105
  c105 := has_c105
  a105 := has_a105
  z105 := has_z105
  b105 := has_b105
  e105 := has_e105
  u109 := has_u109
  s109 := has_s109
  t109 := has_t109
  r109 := has_r109
  h109 := has_h109
  n109 := has_n109
  c109 := has_c109
  a109 := has_a109
  z109 := has_z109
  b109 := has_b109
  u113 := has_u113
  s113 := has_s113
  t113 := has_t113
  h113 := has_h113
  i113 := has_i113
  c113 := has_c113
  a113 := has_a113
  z113 := has_z113
  g120_0 := has_g120_0
  g120_1 := has_g120_1
  g120_2 := has_g120_2
  g120_3 := has_g120_3
  g120_4 := has_g120_4
  g120_5 := has_g120_5
  g120_6 := has_g120_6
  g120_7 := has_g120_7
  g120_8 := has_g120_8
  g120_9 := has_g120_9
  g120_10 := has_g120_10
  s120 := has_s120
  t120 := has_t120
  h120 := has_h120
  w120 := has_w120
  c120 := has_c120
  a120 := has_a120
  z120 := has_z120
  mo := has_mo
  f0 := Try.func0
  f1 := Try.func1
  f2 := Try.func2
  f3 := Try.func3
  f4 := Try.func4
  f5 := Try.func5
  f6 := Try.func6
  f7 := Try.func7
  f8 := Try.func8
  f9 := Try.func9
  f10 := Try.func10
  f11 := Try.func11
  f12 := Try.func12
  f13 := Try.func13
  f14 := Try.func14
  f15 := Try.func15
  f16 := Try.func16
  f17 := Try.func17
  f18 := Try.func18
  f19 := Try.func19
  f20 := Try.func20
  f21 := Try.func21
  f22 := Try.func22
  f23 := Try.func23
  f24 := Try.func24
  f25 := Try.func25
  f26 := Try.func26
  f27 := Try.func27
  f28 := Try.func28
  f29 := Try.func29
  f30 := Try.func30
  f31 := Try.func31
  f32 := Try.func32
  f33 := Try.func33
  f34 := Try.func34
  f35 := Try.func35
  f36 := Try.func36
  f37 := Try.func37
  f38 := Try.func38
  f39 := Try.func39
  f40 := Try.func40
  f41 := Try.func41
  f42 := Try.func42
  f43 := Try.func43
  f44 := Try.func44
  f45 := Try.func45
  f46 := Try.func46
  f47 := Try.func47
  f48 := Try.func48
  f49 := Try.func49
  f50 := Try.func50
  f51 := Try.func51
  f52 := Try.func52
  f53 := Try.func53
  f54 := Try.func54
  f55 := Try.func55
  f56 := Try.func56
  f57 := Try.func57
  f58 := Try.func58
  f59 := Try.func59
  f60 := Try.func60
  f61 := Try.func61
  f62 := Try.func62
  f63 := Try.func63
  f64 := Try.func64
  f65 := Try.func65
  f66 := Try.func66
  f67 := Try.func67
  f68 := Try.func68
  f69 := Try.func69
  f70 := Try.func70
end Go.Proofs.Ytbefchnpilmajaa
