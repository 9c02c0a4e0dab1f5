/- The facts about types and functions that the walks of this seat use, and that its program has them. -/
import Derived.Test.YtnnpahcanpakcaaAlLib
import Derived.Test.YtnnpahcanpakcaaProg
import Derived.KernelRfl
namespace Go.Proofs.Ytnnpahcanpakcaa
open Go.AL

class Facts (P : Program) : Prop where
  u2 : P.underlying 2 = some (.int .i64)
  s2 : isSliceT P 2 = false
  t2 : isStrT P 2 = false
  h2 : hasU P 2 = true
  i2 : intT P 2 = some .i64
  c2 : P.cellsOf 2 = 1
  a2 : aggT P 2 = false
  z2 : zbox P 2 = some (A.int .i64 0, 8)
  u3 : P.underlying 3 = some (.int .i64)
  s3 : isSliceT P 3 = false
  t3 : isStrT P 3 = false
  h3 : hasU P 3 = true
  i3 : intT P 3 = some .i64
  c3 : P.cellsOf 3 = 1
  a3 : aggT P 3 = false
  z3 : zbox P 3 = some (A.int .i64 0, 8)
  u4 : P.underlying 4 = some (.bool)
  s4 : isSliceT P 4 = false
  t4 : isStrT P 4 = false
  h4 : hasU P 4 = true
  d4 : isBoolT P 4 = true
  c4 : P.cellsOf 4 = 1
  a4 : aggT P 4 = false
  z4 : zbox P 4 = some (A.bool false, 1)
  u5 : P.underlying 5 = some (.int .u8)
  s5 : isSliceT P 5 = false
  t5 : isStrT P 5 = false
  h5 : hasU P 5 = true
  i5 : intT P 5 = some .u8
  c5 : P.cellsOf 5 = 1
  a5 : aggT P 5 = false
  z5 : zbox P 5 = some (A.int .u8 0, 1)
  u9 : P.underlying 9 = some (.string)
  s9 : isSliceT P 9 = false
  t9 : isStrT P 9 = true
  h9 : hasU P 9 = true
  c9 : P.cellsOf 9 = 1
  a9 : aggT P 9 = false
  z9 : zbox P 9 = some (A.str [], 16)
  u12 : P.underlying 12 = some (.int .u64)
  s12 : isSliceT P 12 = false
  t12 : isStrT P 12 = false
  h12 : hasU P 12 = true
  i12 : intT P 12 = some .u64
  c12 : P.cellsOf 12 = 1
  a12 : aggT P 12 = false
  z12 : zbox P 12 = some (A.int .u64 0, 8)
  u21 : P.underlying 21 = some (.int .i32)
  s21 : isSliceT P 21 = false
  t21 : isStrT P 21 = false
  h21 : hasU P 21 = true
  i21 : intT P 21 = some .i32
  c21 : P.cellsOf 21 = 1
  a21 : aggT P 21 = false
  z21 : zbox P 21 = some (A.int .i32 0, 4)
  u22 : P.underlying 22 = some (.slice 3)
  s22 : isSliceT P 22 = true
  l22 : selem P 22 = 3
  t22 : isStrT P 22 = false
  h22 : hasU P 22 = true
  c22 : P.cellsOf 22 = 1
  a22 : aggT P 22 = false
  z22 : zbox P 22 = some (A.sl true [], 24)
  u23 : P.underlying 23 = some (.slice 38)
  s23 : isSliceT P 23 = true
  l23 : selem P 23 = 38
  t23 : isStrT P 23 = false
  h23 : hasU P 23 = true
  c23 : P.cellsOf 23 = 1
  a23 : aggT P 23 = false
  z23 : zbox P 23 = some (A.sl true [], 24)
  g24_0 : fld P 24 0 = some (22, 0)
  g24_1 : fld P 24 1 = some (3, 1)
  g24_2 : fld P 24 2 = some (23, 2)
  s24 : isSliceT P 24 = false
  t24 : isStrT P 24 = false
  h24 : hasU P 24 = true
  w24 : ftl P 24 = some [(22, 0), (3, 1), (23, 2)]
  c24 : P.cellsOf 24 = 3
  a24 : aggT P 24 = true
  z24 : zbox P 24 = some (A.agg [A.sl true [], A.int .i64 0, A.sl true []], 56)
  b24 : bplan P 24 = some ([A.sl true [], A.int .i64 0, A.sl true []], [(0, 1), (1, 1), (2, 1)])
  g25_0 : fld P 25 0 = some (22, 0)
  g25_1 : fld P 25 1 = some (3, 1)
  g25_2 : fld P 25 2 = some (23, 2)
  s25 : isSliceT P 25 = false
  t25 : isStrT P 25 = false
  h25 : hasU P 25 = true
  w25 : ftl P 25 = some [(22, 0), (3, 1), (23, 2)]
  c25 : P.cellsOf 25 = 3
  a25 : aggT P 25 = true
  z25 : zbox P 25 = some (A.agg [A.sl true [], A.int .i64 0, A.sl true []], 56)
  b25 : bplan P 25 = some ([A.sl true [], A.int .i64 0, A.sl true []], [(0, 1), (1, 1), (2, 1)])
  u28 : P.underlying 28 = some (.int .i64)
  s28 : isSliceT P 28 = false
  t28 : isStrT P 28 = false
  h28 : hasU P 28 = true
  i28 : intT P 28 = some .i64
  c28 : P.cellsOf 28 = 1
  a28 : aggT P 28 = false
  z28 : zbox P 28 = some (A.int .i64 0, 8)
  u34 : P.underlying 34 = some (.int .i64)
  s34 : isSliceT P 34 = false
  t34 : isStrT P 34 = false
  h34 : hasU P 34 = true
  i34 : intT P 34 = some .i64
  c34 : P.cellsOf 34 = 1
  a34 : aggT P 34 = false
  z34 : zbox P 34 = some (A.int .i64 0, 8)
  g35_0 : fld P 35 0 = some (3, 0)
  g35_1 : fld P 35 1 = some (3, 1)
  g35_2 : fld P 35 2 = some (3, 2)
  g35_3 : fld P 35 3 = some (3, 3)
  g35_4 : fld P 35 4 = some (3, 4)
  g35_5 : fld P 35 5 = some (34, 5)
  g35_6 : fld P 35 6 = some (3, 6)
  g35_7 : fld P 35 7 = some (3, 7)
  g35_8 : fld P 35 8 = some (22, 8)
  s35 : isSliceT P 35 = false
  t35 : isStrT P 35 = false
  h35 : hasU P 35 = true
  w35 : ftl P 35 = some [(3, 0), (3, 1), (3, 2), (3, 3), (3, 4), (34, 5), (3, 6), (3, 7), (22, 8)]
  c35 : P.cellsOf 35 = 9
  a35 : aggT P 35 = true
  z35 : zbox P 35 = some (A.agg [A.int .i64 0, A.int .i64 0, A.int .i64 0, A.int .i64 0, A.int .i64 0, A.int .i64 0, A.int .i64 0, A.int .i64 0, A.sl true []], 88)
  b35 : bplan P 35 = some ([A.int .i64 0, A.int .i64 0, A.int .i64 0, A.int .i64 0, A.int .i64 0, A.int .i64 0, A.int .i64 0, A.int .i64 0, A.sl true []], [(0, 1), (1, 1), (2, 1), (3, 1), (4, 1), (5, 1), (6, 1), (7, 1), (8, 1)])
  g36_0 : fld P 36 0 = some (3, 0)
  g36_1 : fld P 36 1 = some (3, 1)
  g36_2 : fld P 36 2 = some (3, 2)
  g36_3 : fld P 36 3 = some (3, 3)
  g36_4 : fld P 36 4 = some (3, 4)
  g36_5 : fld P 36 5 = some (34, 5)
  g36_6 : fld P 36 6 = some (3, 6)
  g36_7 : fld P 36 7 = some (3, 7)
  g36_8 : fld P 36 8 = some (22, 8)
  s36 : isSliceT P 36 = false
  t36 : isStrT P 36 = false
  h36 : hasU P 36 = true
  w36 : ftl P 36 = some [(3, 0), (3, 1), (3, 2), (3, 3), (3, 4), (34, 5), (3, 6), (3, 7), (22, 8)]
  c36 : P.cellsOf 36 = 9
  a36 : aggT P 36 = true
  z36 : zbox P 36 = some (A.agg [A.int .i64 0, A.int .i64 0, A.int .i64 0, A.int .i64 0, A.int .i64 0, A.int .i64 0, A.int .i64 0, A.int .i64 0, A.sl true []], 88)
  b36 : bplan P 36 = some ([A.int .i64 0, A.int .i64 0, A.int .i64 0, A.int .i64 0, A.int .i64 0, A.int .i64 0, A.int .i64 0, A.int .i64 0, A.sl true []], [(0, 1), (1, 1), (2, 1), (3, 1), (4, 1), (5, 1), (6, 1), (7, 1), (8, 1)])
  g37_0 : fld P 37 0 = some (3, 0)
  g37_1 : fld P 37 1 = some (3, 1)
  g37_2 : fld P 37 2 = some (3, 2)
  g37_3 : fld P 37 3 = some (36, 3)
  g37_4 : fld P 37 4 = some (4, 12)
  g37_5 : fld P 37 5 = some (4, 13)
  g37_6 : fld P 37 6 = some (3, 14)
  s37 : isSliceT P 37 = false
  t37 : isStrT P 37 = false
  h37 : hasU P 37 = true
  w37 : ftl P 37 = some [(3, 0), (3, 1), (3, 2), (36, 3), (4, 12), (4, 13), (3, 14)]
  c37 : P.cellsOf 37 = 15
  a37 : aggT P 37 = true
  z37 : zbox P 37 = some (A.agg [A.int .i64 0, A.int .i64 0, A.int .i64 0, A.int .i64 0, A.int .i64 0, A.int .i64 0, A.int .i64 0, A.int .i64 0, A.int .i64 0, A.int .i64 0, A.int .i64 0, A.sl true [], A.bool false, A.bool false, A.int .i64 0], 128)
  b37 : bplan P 37 = some ([A.int .i64 0, A.int .i64 0, A.int .i64 0, A.int .i64 0, A.int .i64 0, A.int .i64 0, A.int .i64 0, A.int .i64 0, A.int .i64 0, A.int .i64 0, A.int .i64 0, A.sl true [], A.bool false, A.bool false, A.int .i64 0], [(0, 1), (1, 1), (2, 1), (3, 9), (12, 1), (13, 1), (14, 1)])
  g38_0 : fld P 38 0 = some (3, 0)
  g38_1 : fld P 38 1 = some (3, 1)
  g38_2 : fld P 38 2 = some (3, 2)
  g38_3 : fld P 38 3 = some (36, 3)
  g38_4 : fld P 38 4 = some (4, 12)
  g38_5 : fld P 38 5 = some (4, 13)
  g38_6 : fld P 38 6 = some (3, 14)
  s38 : isSliceT P 38 = false
  t38 : isStrT P 38 = false
  h38 : hasU P 38 = true
  w38 : ftl P 38 = some [(3, 0), (3, 1), (3, 2), (36, 3), (4, 12), (4, 13), (3, 14)]
  c38 : P.cellsOf 38 = 15
  a38 : aggT P 38 = true
  z38 : zbox P 38 = some (A.agg [A.int .i64 0, A.int .i64 0, A.int .i64 0, A.int .i64 0, A.int .i64 0, A.int .i64 0, A.int .i64 0, A.int .i64 0, A.int .i64 0, A.int .i64 0, A.int .i64 0, A.sl true [], A.bool false, A.bool false, A.int .i64 0], 128)
  b38 : bplan P 38 = some ([A.int .i64 0, A.int .i64 0, A.int .i64 0, A.int .i64 0, A.int .i64 0, A.int .i64 0, A.int .i64 0, A.int .i64 0, A.int .i64 0, A.int .i64 0, A.int .i64 0, A.sl true [], A.bool false, A.bool false, A.int .i64 0], [(0, 1), (1, 1), (2, 1), (3, 9), (12, 1), (13, 1), (14, 1)])
  u48 : P.underlying 48 = some (.slice 51)
  s48 : isSliceT P 48 = true
  l48 : selem P 48 = 51
  t48 : isStrT P 48 = false
  h48 : hasU P 48 = true
  c48 : P.cellsOf 48 = 1
  a48 : aggT P 48 = false
  z48 : zbox P 48 = some (A.sl true [], 24)
  u49 : P.underlying 49 = some (.array 16 3)
  s49 : isSliceT P 49 = false
  t49 : isStrT P 49 = false
  r49 : arrT P 49 = some (16, 3)
  h49 : hasU P 49 = true
  n49 : bplan P 49 = none
  c49 : P.cellsOf 49 = 16
  a49 : aggT P 49 = true
  z49 : zbox P 49 = some (A.agg ((zerosI 16).map Enc.enc), 128)
  e49 : eqT P 49 = some [0, 0, 0, 0, 0, 0, 0, 0, 0, 0, 0, 0, 0, 0, 0, 0]
  b49 : aplan P 49 = some (((zerosI 16).map Enc.enc), 1)
  g50_0 : fld P 50 0 = some (4, 0)
  g50_1 : fld P 50 1 = some (4, 1)
  g50_2 : fld P 50 2 = some (3, 2)
  g50_3 : fld P 50 3 = some (3, 3)
  s50 : isSliceT P 50 = false
  t50 : isStrT P 50 = false
  h50 : hasU P 50 = true
  w50 : ftl P 50 = some [(4, 0), (4, 1), (3, 2), (3, 3)]
  c50 : P.cellsOf 50 = 4
  a50 : aggT P 50 = true
  z50 : zbox P 50 = some (A.agg [A.bool false, A.bool false, A.int .i64 0, A.int .i64 0], 24)
  b50 : bplan P 50 = some ([A.bool false, A.bool false, A.int .i64 0, A.int .i64 0], [(0, 1), (1, 1), (2, 1), (3, 1)])
  e50 : eqT P 50 = some [1, 1, 0, 0]
  g51_0 : fld P 51 0 = some (4, 0)
  g51_1 : fld P 51 1 = some (4, 1)
  g51_2 : fld P 51 2 = some (3, 2)
  g51_3 : fld P 51 3 = some (3, 3)
  s51 : isSliceT P 51 = false
  t51 : isStrT P 51 = false
  h51 : hasU P 51 = true
  w51 : ftl P 51 = some [(4, 0), (4, 1), (3, 2), (3, 3)]
  c51 : P.cellsOf 51 = 4
  a51 : aggT P 51 = true
  z51 : zbox P 51 = some (A.agg [A.bool false, A.bool false, A.int .i64 0, A.int .i64 0], 24)
  b51 : bplan P 51 = some ([A.bool false, A.bool false, A.int .i64 0, A.int .i64 0], [(0, 1), (1, 1), (2, 1), (3, 1)])
  e51 : eqT P 51 = some [1, 1, 0, 0]
  u57 : P.underlying 57 = some (.map 60 3)
  s57 : isSliceT P 57 = false
  t57 : isStrT P 57 = false
  m57x : isMapT P 57 = true
  m57k : mkey P 57 = 60
  m57e : melem P 57 = 3
  k60 : keyT P 60 = 2
  h57 : hasU P 57 = true
  c57 : P.cellsOf 57 = 1
  a57 : aggT P 57 = false
  g59_0 : fld P 59 0 = some (3, 0)
  g59_1 : fld P 59 1 = some (3, 1)
  s59 : isSliceT P 59 = false
  t59 : isStrT P 59 = false
  h59 : hasU P 59 = true
  w59 : ftl P 59 = some [(3, 0), (3, 1)]
  c59 : P.cellsOf 59 = 2
  a59 : aggT P 59 = true
  z59 : zbox P 59 = some (A.agg [A.int .i64 0, A.int .i64 0], 16)
  b59 : bplan P 59 = some ([A.int .i64 0, A.int .i64 0], [(0, 1), (1, 1)])
  e59 : eqT P 59 = some [0, 0]
  g60_0 : fld P 60 0 = some (3, 0)
  g60_1 : fld P 60 1 = some (3, 1)
  s60 : isSliceT P 60 = false
  t60 : isStrT P 60 = false
  h60 : hasU P 60 = true
  w60 : ftl P 60 = some [(3, 0), (3, 1)]
  c60 : P.cellsOf 60 = 2
  a60 : aggT P 60 = true
  z60 : zbox P 60 = some (A.agg [A.int .i64 0, A.int .i64 0], 16)
  b60 : bplan P 60 = some ([A.int .i64 0, A.int .i64 0], [(0, 1), (1, 1)])
  e60 : eqT P 60 = some [0, 0]
  u62 : P.underlying 62 = some (.array 256 3)
  s62 : isSliceT P 62 = false
  t62 : isStrT P 62 = false
  r62 : arrT P 62 = some (256, 3)
  h62 : hasU P 62 = true
  n62 : bplan P 62 = none
  c62 : P.cellsOf 62 = 256
  a62 : aggT P 62 = true
  z62 : zbox P 62 = some (A.agg ((zerosI 256).map Enc.enc), 2048)
  e62 : eqT P 62 = some [0, 0, 0, 0, 0, 0, 0, 0, 0, 0, 0, 0, 0, 0, 0, 0, 0, 0, 0, 0, 0, 0, 0, 0, 0, 0, 0, 0, 0, 0, 0, 0, 0, 0, 0, 0, 0, 0, 0, 0, 0, 0, 0, 0, 0, 0, 0, 0, 0, 0, 0, 0, 0, 0, 0, 0, 0, 0, 0, 0, 0, 0, 0, 0, 0, 0, 0, 0, 0, 0, 0, 0, 0, 0, 0, 0, 0, 0, 0, 0, 0, 0, 0, 0, 0, 0, 0, 0, 0, 0, 0, 0, 0, 0, 0, 0, 0, 0, 0, 0, 0, 0, 0, 0, 0, 0, 0, 0, 0, 0, 0, 0, 0, 0, 0, 0, 0, 0, 0, 0, 0, 0, 0, 0, 0, 0, 0, 0, 0, 0, 0, 0, 0, 0, 0, 0, 0, 0, 0, 0, 0, 0, 0, 0, 0, 0, 0, 0, 0, 0, 0, 0, 0, 0, 0, 0, 0, 0, 0, 0, 0, 0, 0, 0, 0, 0, 0, 0, 0, 0, 0, 0, 0, 0, 0, 0, 0, 0, 0, 0, 0, 0, 0, 0, 0, 0, 0, 0, 0, 0, 0, 0, 0, 0, 0, 0, 0, 0, 0, 0, 0, 0, 0, 0, 0, 0, 0, 0, 0, 0, 0, 0, 0, 0, 0, 0, 0, 0, 0, 0, 0, 0, 0, 0, 0, 0, 0, 0, 0, 0, 0, 0, 0, 0, 0, 0, 0, 0, 0, 0, 0, 0, 0, 0, 0, 0, 0, 0, 0, 0, 0, 0, 0, 0, 0, 0]
  u74 : P.underlying 74 = some (.array 0 16)
  s74 : isSliceT P 74 = false
  t74 : isStrT P 74 = false
  r74 : arrT P 74 = some (0, 16)
  h74 : hasU P 74 = true
  n74 : bplan P 74 = none
  c74 : P.cellsOf 74 = 0
  a74 : aggT P 74 = true
  z74 : zbox P 74 = some (A.agg [], 0)
  b74 : aplan P 74 = some ([], 1)
  u78 : P.underlying 78 = some (.int .u32)
  s78 : isSliceT P 78 = false
  t78 : isStrT P 78 = false
  h78 : hasU P 78 = true
  i78 : intT P 78 = some .u32
  c78 : P.cellsOf 78 = 1
  a78 : aggT P 78 = false
  z78 : zbox P 78 = some (A.int .u32 0, 4)
  g85_0 : fld P 85 0 = some (12, 0)
  g85_1 : fld P 85 1 = some (12, 1)
  g85_2 : fld P 85 2 = some (78, 2)
  g85_3 : fld P 85 3 = some (79, 3)
  g85_4 : fld P 85 4 = some (5, 4)
  g85_5 : fld P 85 5 = some (5, 5)
  g85_6 : fld P 85 6 = some (80, 6)
  g85_7 : fld P 85 7 = some (81, 7)
  g85_8 : fld P 85 8 = some (82, 8)
  g85_9 : fld P 85 9 = some (83, 9)
  g85_10 : fld P 85 10 = some (84, 10)
  s85 : isSliceT P 85 = false
  t85 : isStrT P 85 = false
  h85 : hasU P 85 = true
  w85 : ftl P 85 = some [(12, 0), (12, 1), (78, 2), (79, 3), (5, 4), (5, 5), (80, 6), (81, 7), (82, 8), (83, 9), (84, 10)]
  c85 : P.cellsOf 85 = 11
  a85 : aggT P 85 = true
  z85 : zbox P 85 = some (A.agg [A.int .u64 0, A.int .u64 0, A.int .u32 0, A.int .u8 0, A.int .u8 0, A.int .u8 0, A.int .u8 0, A.nfn, A.nptr, A.int .i32 0, A.int .i32 0], 48)
  q0 : P.cellsOf 4294967295 = 0
  mo : P.follows .mixedOrders = true
  f0 : P.funcs[0]? = some Try.f0
  f1 : P.funcs[1]? = some Try.f1
  f2 : P.funcs[2]? = some Try.f2
  f3 : P.funcs[3]? = some Try.f3
  f4 : P.funcs[4]? = some Try.f4
  f5 : P.funcs[5]? = some Try.f5
  f6 : P.funcs[6]? = some Try.f6
  f7 : P.funcs[7]? = some Try.f7
  f8 : P.funcs[8]? = some Try.f8
  f9 : P.funcs[9]? = some Try.f9
  f10 : P.funcs[10]? = some Try.f10
  f11 : P.funcs[11]? = some Try.f11
  f12 : P.funcs[12]? = some Try.f12
  f13 : P.funcs[13]? = some Try.f13
  f14 : P.funcs[14]? = some Try.f14
  f15 : P.funcs[15]? = some Try.f15
  f16 : P.funcs[16]? = some Try.f16
  f17 : P.funcs[17]? = some Try.f17
  f18 : P.funcs[18]? = some Try.f18
  f19 : P.funcs[19]? = some Try.f19
  f20 : P.funcs[20]? = some Try.f20
  f21 : P.funcs[21]? = some Try.f21
  f22 : P.funcs[22]? = some Try.f22
  f23 : P.funcs[23]? = some Try.f23
  f24 : P.funcs[24]? = some Try.f24
  f25 : P.funcs[25]? = some Try.f25
  f26 : P.funcs[26]? = some Try.f26
  f27 : P.funcs[27]? = some Try.f27
  f28 : P.funcs[28]? = some Try.f28
  f29 : P.funcs[29]? = some Try.f29
  f30 : P.funcs[30]? = some Try.f30
  f31 : P.funcs[31]? = some Try.f31
  f32 : P.funcs[32]? = some Try.f32
  f33 : P.funcs[33]? = some Try.f33
  f34 : P.funcs[34]? = some Try.f34
  f35 : P.funcs[35]? = some Try.f35
  f36 : P.funcs[36]? = some Try.f36
  f37 : P.funcs[37]? = some Try.f37
  f38 : P.funcs[38]? = some Try.f38
  f39 : P.funcs[39]? = some Try.f39
  f40 : P.funcs[40]? = some Try.f40
  f41 : P.funcs[41]? = some Try.f41
  f42 : P.funcs[42]? = some Try.f42
  f43 : P.funcs[43]? = some Try.f43
  f44 : P.funcs[44]? = some Try.f44
  f45 : P.funcs[45]? = some Try.f45
  f46 : P.funcs[46]? = some Try.f46
  f47 : P.funcs[47]? = some Try.f47
  f48 : P.funcs[48]? = some Try.f48
  f49 : P.funcs[49]? = some Try.f49
  f50 : P.funcs[50]? = some Try.f50
  f51 : P.funcs[51]? = some Try.f51
  f52 : P.funcs[52]? = some Try.f52
  f53 : P.funcs[53]? = some Try.f53
  f54 : P.funcs[54]? = some Try.f54
  f55 : P.funcs[55]? = some Try.f55
  f56 : P.funcs[56]? = some Try.f56
  f57 : P.funcs[57]? = some Try.f57

section
variable {P : Program}
@[simp] theorem u2_ [h : Facts P] : P.underlying 2 = some (.int .i64) := h.u2
@[simp] theorem s2_ [h : Facts P] : isSliceT P 2 = false := h.s2
@[simp] theorem t2_ [h : Facts P] : isStrT P 2 = false := h.t2
@[simp] theorem h2_ [h : Facts P] : hasU P 2 = true := h.h2
@[simp] theorem i2_ [h : Facts P] : intT P 2 = some .i64 := h.i2
@[simp] theorem c2_ [h : Facts P] : P.cellsOf 2 = 1 := h.c2
@[simp] theorem a2_ [h : Facts P] : aggT P 2 = false := h.a2
@[simp] theorem z2_ [h : Facts P] : zbox P 2 = some (A.int .i64 0, 8) := h.z2
@[simp] theorem u3_ [h : Facts P] : P.underlying 3 = some (.int .i64) := h.u3
@[simp] theorem s3_ [h : Facts P] : isSliceT P 3 = false := h.s3
@[simp] theorem t3_ [h : Facts P] : isStrT P 3 = false := h.t3
@[simp] theorem h3_ [h : Facts P] : hasU P 3 = true := h.h3
@[simp] theorem i3_ [h : Facts P] : intT P 3 = some .i64 := h.i3
@[simp] theorem c3_ [h : Facts P] : P.cellsOf 3 = 1 := h.c3
@[simp] theorem a3_ [h : Facts P] : aggT P 3 = false := h.a3
@[simp] theorem z3_ [h : Facts P] : zbox P 3 = some (A.int .i64 0, 8) := h.z3
@[simp] theorem u4_ [h : Facts P] : P.underlying 4 = some (.bool) := h.u4
@[simp] theorem s4_ [h : Facts P] : isSliceT P 4 = false := h.s4
@[simp] theorem t4_ [h : Facts P] : isStrT P 4 = false := h.t4
@[simp] theorem h4_ [h : Facts P] : hasU P 4 = true := h.h4
@[simp] theorem d4_ [h : Facts P] : isBoolT P 4 = true := h.d4
@[simp] theorem c4_ [h : Facts P] : P.cellsOf 4 = 1 := h.c4
@[simp] theorem a4_ [h : Facts P] : aggT P 4 = false := h.a4
@[simp] theorem z4_ [h : Facts P] : zbox P 4 = some (A.bool false, 1) := h.z4
@[simp] theorem u5_ [h : Facts P] : P.underlying 5 = some (.int .u8) := h.u5
@[simp] theorem s5_ [h : Facts P] : isSliceT P 5 = false := h.s5
@[simp] theorem t5_ [h : Facts P] : isStrT P 5 = false := h.t5
@[simp] theorem h5_ [h : Facts P] : hasU P 5 = true := h.h5
@[simp] theorem i5_ [h : Facts P] : intT P 5 = some .u8 := h.i5
@[simp] theorem c5_ [h : Facts P] : P.cellsOf 5 = 1 := h.c5
@[simp] theorem a5_ [h : Facts P] : aggT P 5 = false := h.a5
@[simp] theorem z5_ [h : Facts P] : zbox P 5 = some (A.int .u8 0, 1) := h.z5
@[simp] theorem u9_ [h : Facts P] : P.underlying 9 = some (.string) := h.u9
@[simp] theorem s9_ [h : Facts P] : isSliceT P 9 = false := h.s9
@[simp] theorem t9_ [h : Facts P] : isStrT P 9 = true := h.t9
@[simp] theorem h9_ [h : Facts P] : hasU P 9 = true := h.h9
@[simp] theorem c9_ [h : Facts P] : P.cellsOf 9 = 1 := h.c9
@[simp] theorem a9_ [h : Facts P] : aggT P 9 = false := h.a9
@[simp] theorem z9_ [h : Facts P] : zbox P 9 = some (A.str [], 16) := h.z9
@[simp] theorem u12_ [h : Facts P] : P.underlying 12 = some (.int .u64) := h.u12
@[simp] theorem s12_ [h : Facts P] : isSliceT P 12 = false := h.s12
@[simp] theorem t12_ [h : Facts P] : isStrT P 12 = false := h.t12
@[simp] theorem h12_ [h : Facts P] : hasU P 12 = true := h.h12
@[simp] theorem i12_ [h : Facts P] : intT P 12 = some .u64 := h.i12
@[simp] theorem c12_ [h : Facts P] : P.cellsOf 12 = 1 := h.c12
@[simp] theorem a12_ [h : Facts P] : aggT P 12 = false := h.a12
@[simp] theorem z12_ [h : Facts P] : zbox P 12 = some (A.int .u64 0, 8) := h.z12
@[simp] theorem u21_ [h : Facts P] : P.underlying 21 = some (.int .i32) := h.u21
@[simp] theorem s21_ [h : Facts P] : isSliceT P 21 = false := h.s21
@[simp] theorem t21_ [h : Facts P] : isStrT P 21 = false := h.t21
@[simp] theorem h21_ [h : Facts P] : hasU P 21 = true := h.h21
@[simp] theorem i21_ [h : Facts P] : intT P 21 = some .i32 := h.i21
@[simp] theorem c21_ [h : Facts P] : P.cellsOf 21 = 1 := h.c21
@[simp] theorem a21_ [h : Facts P] : aggT P 21 = false := h.a21
@[simp] theorem z21_ [h : Facts P] : zbox P 21 = some (A.int .i32 0, 4) := h.z21
@[simp] theorem u22_ [h : Facts P] : P.underlying 22 = some (.slice 3) := h.u22
@[simp] theorem s22_ [h : Facts P] : isSliceT P 22 = true := h.s22
@[simp] theorem l22_ [h : Facts P] : selem P 22 = 3 := h.l22
@[simp] theorem t22_ [h : Facts P] : isStrT P 22 = false := h.t22
@[simp] theorem h22_ [h : Facts P] : hasU P 22 = true := h.h22
@[simp] theorem c22_ [h : Facts P] : P.cellsOf 22 = 1 := h.c22
@[simp] theorem a22_ [h : Facts P] : aggT P 22 = false := h.a22
@[simp] theorem z22_ [h : Facts P] : zbox P 22 = some (A.sl true [], 24) := h.z22
@[simp] theorem u23_ [h : Facts P] : P.underlying 23 = some (.slice 38) := h.u23
@[simp] theorem s23_ [h : Facts P] : isSliceT P 23 = true := h.s23
@[simp] theorem l23_ [h : Facts P] : selem P 23 = 38 := h.l23
@[simp] theorem t23_ [h : Facts P] : isStrT P 23 = false := h.t23
@[simp] theorem h23_ [h : Facts P] : hasU P 23 = true := h.h23
@[simp] theorem c23_ [h : Facts P] : P.cellsOf 23 = 1 := h.c23
@[simp] theorem a23_ [h : Facts P] : aggT P 23 = false := h.a23
@[simp] theorem z23_ [h : Facts P] : zbox P 23 = some (A.sl true [], 24) := h.z23
@[simp] theorem g24_0_ [h : Facts P] : fld P 24 0 = some (22, 0) := h.g24_0
@[simp] theorem g24_1_ [h : Facts P] : fld P 24 1 = some (3, 1) := h.g24_1
@[simp] theorem g24_2_ [h : Facts P] : fld P 24 2 = some (23, 2) := h.g24_2
@[simp] theorem s24_ [h : Facts P] : isSliceT P 24 = false := h.s24
@[simp] theorem t24_ [h : Facts P] : isStrT P 24 = false := h.t24
@[simp] theorem h24_ [h : Facts P] : hasU P 24 = true := h.h24
@[simp] theorem w24_ [h : Facts P] : ftl P 24 = some [(22, 0), (3, 1), (23, 2)] := h.w24
@[simp] theorem c24_ [h : Facts P] : P.cellsOf 24 = 3 := h.c24
@[simp] theorem a24_ [h : Facts P] : aggT P 24 = true := h.a24
@[simp] theorem z24_ [h : Facts P] : zbox P 24 = some (A.agg [A.sl true [], A.int .i64 0, A.sl true []], 56) := h.z24
@[simp] theorem b24_ [h : Facts P] : bplan P 24 = some ([A.sl true [], A.int .i64 0, A.sl true []], [(0, 1), (1, 1), (2, 1)]) := h.b24
@[simp] theorem g25_0_ [h : Facts P] : fld P 25 0 = some (22, 0) := h.g25_0
@[simp] theorem g25_1_ [h : Facts P] : fld P 25 1 = some (3, 1) := h.g25_1
@[simp] theorem g25_2_ [h : Facts P] : fld P 25 2 = some (23, 2) := h.g25_2
@[simp] theorem s25_ [h : Facts P] : isSliceT P 25 = false := h.s25
@[simp] theorem t25_ [h : Facts P] : isStrT P 25 = false := h.t25
@[simp] theorem h25_ [h : Facts P] : hasU P 25 = true := h.h25
@[simp] theorem w25_ [h : Facts P] : ftl P 25 = some [(22, 0), (3, 1), (23, 2)] := h.w25
@[simp] theorem c25_ [h : Facts P] : P.cellsOf 25 = 3 := h.c25
@[simp] theorem a25_ [h : Facts P] : aggT P 25 = true := h.a25
@[simp] theorem z25_ [h : Facts P] : zbox P 25 = some (A.agg [A.sl true [], A.int .i64 0, A.sl true []], 56) := h.z25
@[simp] theorem b25_ [h : Facts P] : bplan P 25 = some ([A.sl true [], A.int .i64 0, A.sl true []], [(0, 1), (1, 1), (2, 1)]) := h.b25
@[simp] theorem u28_ [h : Facts P] : P.underlying 28 = some (.int .i64) := h.u28
@[simp] theorem s28_ [h : Facts P] : isSliceT P 28 = false := h.s28
@[simp] theorem t28_ [h : Facts P] : isStrT P 28 = false := h.t28
@[simp] theorem h28_ [h : Facts P] : hasU P 28 = true := h.h28
@[simp] theorem i28_ [h : Facts P] : intT P 28 = some .i64 := h.i28
@[simp] theorem c28_ [h : Facts P] : P.cellsOf 28 = 1 := h.c28
@[simp] theorem a28_ [h : Facts P] : aggT P 28 = false := h.a28
@[simp] theorem z28_ [h : Facts P] : zbox P 28 = some (A.int .i64 0, 8) := h.z28
@[simp] theorem u34_ [h : Facts P] : P.underlying 34 = some (.int .i64) := h.u34
@[simp] theorem s34_ [h : Facts P] : isSliceT P 34 = false := h.s34
@[simp] theorem t34_ [h : Facts P] : isStrT P 34 = false := h.t34
@[simp] theorem h34_ [h : Facts P] : hasU P 34 = true := h.h34
@[simp] theorem i34_ [h : Facts P] : intT P 34 = some .i64 := h.i34
@[simp] theorem c34_ [h : Facts P] : P.cellsOf 34 = 1 := h.c34
@[simp] theorem a34_ [h : Facts P] : aggT P 34 = false := h.a34
@[simp] theorem z34_ [h : Facts P] : zbox P 34 = some (A.int .i64 0, 8) := h.z34
@[simp] theorem g35_0_ [h : Facts P] : fld P 35 0 = some (3, 0) := h.g35_0
@[simp] theorem g35_1_ [h : Facts P] : fld P 35 1 = some (3, 1) := h.g35_1
@[simp] theorem g35_2_ [h : Facts P] : fld P 35 2 = some (3, 2) := h.g35_2
@[simp] theorem g35_3_ [h : Facts P] : fld P 35 3 = some (3, 3) := h.g35_3
@[simp] theorem g35_4_ [h : Facts P] : fld P 35 4 = some (3, 4) := h.g35_4
@[simp] theorem g35_5_ [h : Facts P] : fld P 35 5 = some (34, 5) := h.g35_5
@[simp] theorem g35_6_ [h : Facts P] : fld P 35 6 = some (3, 6) := h.g35_6
@[simp] theorem g35_7_ [h : Facts P] : fld P 35 7 = some (3, 7) := h.g35_7
@[simp] theorem g35_8_ [h : Facts P] : fld P 35 8 = some (22, 8) := h.g35_8
@[simp] theorem s35_ [h : Facts P] : isSliceT P 35 = false := h.s35
@[simp] theorem t35_ [h : Facts P] : isStrT P 35 = false := h.t35
@[simp] theorem h35_ [h : Facts P] : hasU P 35 = true := h.h35
@[simp] theorem w35_ [h : Facts P] : ftl P 35 = some [(3, 0), (3, 1), (3, 2), (3, 3), (3, 4), (34, 5), (3, 6), (3, 7), (22, 8)] := h.w35
@[simp] theorem c35_ [h : Facts P] : P.cellsOf 35 = 9 := h.c35
@[simp] theorem a35_ [h : Facts P] : aggT P 35 = true := h.a35
@[simp] theorem z35_ [h : Facts P] : zbox P 35 = some (A.agg [A.int .i64 0, A.int .i64 0, A.int .i64 0, A.int .i64 0, A.int .i64 0, A.int .i64 0, A.int .i64 0, A.int .i64 0, A.sl true []], 88) := h.z35
@[simp] theorem b35_ [h : Facts P] : bplan P 35 = some ([A.int .i64 0, A.int .i64 0, A.int .i64 0, A.int .i64 0, A.int .i64 0, A.int .i64 0, A.int .i64 0, A.int .i64 0, A.sl true []], [(0, 1), (1, 1), (2, 1), (3, 1), (4, 1), (5, 1), (6, 1), (7, 1), (8, 1)]) := h.b35
@[simp] theorem g36_0_ [h : Facts P] : fld P 36 0 = some (3, 0) := h.g36_0
@[simp] theorem g36_1_ [h : Facts P] : fld P 36 1 = some (3, 1) := h.g36_1
@[simp] theorem g36_2_ [h : Facts P] : fld P 36 2 = some (3, 2) := h.g36_2
@[simp] theorem g36_3_ [h : Facts P] : fld P 36 3 = some (3, 3) := h.g36_3
@[simp] theorem g36_4_ [h : Facts P] : fld P 36 4 = some (3, 4) := h.g36_4
@[simp] theorem g36_5_ [h : Facts P] : fld P 36 5 = some (34, 5) := h.g36_5
@[simp] theorem g36_6_ [h : Facts P] : fld P 36 6 = some (3, 6) := h.g36_6
@[simp] theorem g36_7_ [h : Facts P] : fld P 36 7 = some (3, 7) := h.g36_7
@[simp] theorem g36_8_ [h : Facts P] : fld P 36 8 = some (22, 8) := h.g36_8
@[simp] theorem s36_ [h : Facts P] : isSliceT P 36 = false := h.s36
@[simp] theorem t36_ [h : Facts P] : isStrT P 36 = false := h.t36
@[simp] theorem h36_ [h : Facts P] : hasU P 36 = true := h.h36
@[simp] theorem w36_ [h : Facts P] : ftl P 36 = some [(3, 0), (3, 1), (3, 2), (3, 3), (3, 4), (34, 5), (3, 6), (3, 7), (22, 8)] := h.w36
@[simp] theorem c36_ [h : Facts P] : P.cellsOf 36 = 9 := h.c36
@[simp] theorem a36_ [h : Facts P] : aggT P 36 = true := h.a36
@[simp] theorem z36_ [h : Facts P] : zbox P 36 = some (A.agg [A.int .i64 0, A.int .i64 0, A.int .i64 0, A.int .i64 0, A.int .i64 0, A.int .i64 0, A.int .i64 0, A.int .i64 0, A.sl true []], 88) := h.z36
@[simp] theorem b36_ [h : Facts P] : bplan P 36 = some ([A.int .i64 0, A.int .i64 0, A.int .i64 0, A.int .i64 0, A.int .i64 0, A.int .i64 0, A.int .i64 0, A.int .i64 0, A.sl true []], [(0, 1), (1, 1), (2, 1), (3, 1), (4, 1), (5, 1), (6, 1), (7, 1), (8, 1)]) := h.b36
@[simp] theorem g37_0_ [h : Facts P] : fld P 37 0 = some (3, 0) := h.g37_0
@[simp] theorem g37_1_ [h : Facts P] : fld P 37 1 = some (3, 1) := h.g37_1
@[simp] theorem g37_2_ [h : Facts P] : fld P 37 2 = some (3, 2) := h.g37_2
@[simp] theorem g37_3_ [h : Facts P] : fld P 37 3 = some (36, 3) := h.g37_3
@[simp] theorem g37_4_ [h : Facts P] : fld P 37 4 = some (4, 12) := h.g37_4
@[simp] theorem g37_5_ [h : Facts P] : fld P 37 5 = some (4, 13) := h.g37_5
@[simp] theorem g37_6_ [h : Facts P] : fld P 37 6 = some (3, 14) := h.g37_6
@[simp] theorem s37_ [h : Facts P] : isSliceT P 37 = false := h.s37
@[simp] theorem t37_ [h : Facts P] : isStrT P 37 = false := h.t37
@[simp] theorem h37_ [h : Facts P] : hasU P 37 = true := h.h37
@[simp] theorem w37_ [h : Facts P] : ftl P 37 = some [(3, 0), (3, 1), (3, 2), (36, 3), (4, 12), (4, 13), (3, 14)] := h.w37
@[simp] theorem c37_ [h : Facts P] : P.cellsOf 37 = 15 := h.c37
@[simp] theorem a37_ [h : Facts P] : aggT P 37 = true := h.a37
@[simp] theorem z37_ [h : Facts P] : zbox P 37 = some (A.agg [A.int .i64 0, A.int .i64 0, A.int .i64 0, A.int .i64 0, A.int .i64 0, A.int .i64 0, A.int .i64 0, A.int .i64 0, A.int .i64 0, A.int .i64 0, A.int .i64 0, A.sl true [], A.bool false, A.bool false, A.int .i64 0], 128) := h.z37
@[simp] theorem b37_ [h : Facts P] : bplan P 37 = some ([A.int .i64 0, A.int .i64 0, A.int .i64 0, A.int .i64 0, A.int .i64 0, A.int .i64 0, A.int .i64 0, A.int .i64 0, A.int .i64 0, A.int .i64 0, A.int .i64 0, A.sl true [], A.bool false, A.bool false, A.int .i64 0], [(0, 1), (1, 1), (2, 1), (3, 9), (12, 1), (13, 1), (14, 1)]) := h.b37
@[simp] theorem g38_0_ [h : Facts P] : fld P 38 0 = some (3, 0) := h.g38_0
@[simp] theorem g38_1_ [h : Facts P] : fld P 38 1 = some (3, 1) := h.g38_1
@[simp] theorem g38_2_ [h : Facts P] : fld P 38 2 = some (3, 2) := h.g38_2
@[simp] theorem g38_3_ [h : Facts P] : fld P 38 3 = some (36, 3) := h.g38_3
@[simp] theorem g38_4_ [h : Facts P] : fld P 38 4 = some (4, 12) := h.g38_4
@[simp] theorem g38_5_ [h : Facts P] : fld P 38 5 = some (4, 13) := h.g38_5
@[simp] theorem g38_6_ [h : Facts P] : fld P 38 6 = some (3, 14) := h.g38_6
@[simp] theorem s38_ [h : Facts P] : isSliceT P 38 = false := h.s38
@[simp] theorem t38_ [h : Facts P] : isStrT P 38 = false := h.t38
@[simp] theorem h38_ [h : Facts P] : hasU P 38 = true := h.h38
@[simp] theorem w38_ [h : Facts P] : ftl P 38 = some [(3, 0), (3, 1), (3, 2), (36, 3), (4, 12), (4, 13), (3, 14)] := h.w38
@[simp] theorem c38_ [h : Facts P] : P.cellsOf 38 = 15 := h.c38
@[simp] theorem a38_ [h : Facts P] : aggT P 38 = true := h.a38
@[simp] theorem z38_ [h : Facts P] : zbox P 38 = some (A.agg [A.int .i64 0, A.int .i64 0, A.int .i64 0, A.int .i64 0, A.int .i64 0, A.int .i64 0, A.int .i64 0, A.int .i64 0, A.int .i64 0, A.int .i64 0, A.int .i64 0, A.sl true [], A.bool false, A.bool false, A.int .i64 0], 128) := h.z38
@[simp] theorem b38_ [h : Facts P] : bplan P 38 = some ([A.int .i64 0, A.int .i64 0, A.int .i64 0, A.int .i64 0, A.int .i64 0, A.int .i64 0, A.int .i64 0, A.int .i64 0, A.int .i64 0, A.int .i64 0, A.int .i64 0, A.sl true [], A.bool false, A.bool false, A.int .i64 0], [(0, 1), (1, 1), (2, 1), (3, 9), (12, 1), (13, 1), (14, 1)]) := h.b38
@[simp] theorem u48_ [h : Facts P] : P.underlying 48 = some (.slice 51) := h.u48
@[simp] theorem s48_ [h : Facts P] : isSliceT P 48 = true := h.s48
@[simp] theorem l48_ [h : Facts P] : selem P 48 = 51 := h.l48
@[simp] theorem t48_ [h : Facts P] : isStrT P 48 = false := h.t48
@[simp] theorem h48_ [h : Facts P] : hasU P 48 = true := h.h48
@[simp] theorem c48_ [h : Facts P] : P.cellsOf 48 = 1 := h.c48
@[simp] theorem a48_ [h : Facts P] : aggT P 48 = false := h.a48
@[simp] theorem z48_ [h : Facts P] : zbox P 48 = some (A.sl true [], 24) := h.z48
@[simp] theorem u49_ [h : Facts P] : P.underlying 49 = some (.array 16 3) := h.u49
@[simp] theorem s49_ [h : Facts P] : isSliceT P 49 = false := h.s49
@[simp] theorem t49_ [h : Facts P] : isStrT P 49 = false := h.t49
@[simp] theorem r49_ [h : Facts P] : arrT P 49 = some (16, 3) := h.r49
@[simp] theorem h49_ [h : Facts P] : hasU P 49 = true := h.h49
@[simp] theorem n49_ [h : Facts P] : bplan P 49 = none := h.n49
@[simp] theorem c49_ [h : Facts P] : P.cellsOf 49 = 16 := h.c49
@[simp] theorem a49_ [h : Facts P] : aggT P 49 = true := h.a49
@[simp] theorem z49_ [h : Facts P] : zbox P 49 = some (A.agg ((zerosI 16).map Enc.enc), 128) := h.z49
@[simp] theorem e49_ [h : Facts P] : eqT P 49 = some [0, 0, 0, 0, 0, 0, 0, 0, 0, 0, 0, 0, 0, 0, 0, 0] := h.e49
@[simp] theorem b49_ [h : Facts P] : aplan P 49 = some (((zerosI 16).map Enc.enc), 1) := h.b49
@[simp] theorem g50_0_ [h : Facts P] : fld P 50 0 = some (4, 0) := h.g50_0
@[simp] theorem g50_1_ [h : Facts P] : fld P 50 1 = some (4, 1) := h.g50_1
@[simp] theorem g50_2_ [h : Facts P] : fld P 50 2 = some (3, 2) := h.g50_2
@[simp] theorem g50_3_ [h : Facts P] : fld P 50 3 = some (3, 3) := h.g50_3
@[simp] theorem s50_ [h : Facts P] : isSliceT P 50 = false := h.s50
@[simp] theorem t50_ [h : Facts P] : isStrT P 50 = false := h.t50
@[simp] theorem h50_ [h : Facts P] : hasU P 50 = true := h.h50
@[simp] theorem w50_ [h : Facts P] : ftl P 50 = some [(4, 0), (4, 1), (3, 2), (3, 3)] := h.w50
@[simp] theorem c50_ [h : Facts P] : P.cellsOf 50 = 4 := h.c50
@[simp] theorem a50_ [h : Facts P] : aggT P 50 = true := h.a50
@[simp] theorem z50_ [h : Facts P] : zbox P 50 = some (A.agg [A.bool false, A.bool false, A.int .i64 0, A.int .i64 0], 24) := h.z50
@[simp] theorem b50_ [h : Facts P] : bplan P 50 = some ([A.bool false, A.bool false, A.int .i64 0, A.int .i64 0], [(0, 1), (1, 1), (2, 1), (3, 1)]) := h.b50
@[simp] theorem e50_ [h : Facts P] : eqT P 50 = some [1, 1, 0, 0] := h.e50
@[simp] theorem g51_0_ [h : Facts P] : fld P 51 0 = some (4, 0) := h.g51_0
@[simp] theorem g51_1_ [h : Facts P] : fld P 51 1 = some (4, 1) := h.g51_1
@[simp] theorem g51_2_ [h : Facts P] : fld P 51 2 = some (3, 2) := h.g51_2
@[simp] theorem g51_3_ [h : Facts P] : fld P 51 3 = some (3, 3) := h.g51_3
@[simp] theorem s51_ [h : Facts P] : isSliceT P 51 = false := h.s51
@[simp] theorem t51_ [h : Facts P] : isStrT P 51 = false := h.t51
@[simp] theorem h51_ [h : Facts P] : hasU P 51 = true := h.h51
@[simp] theorem w51_ [h : Facts P] : ftl P 51 = some [(4, 0), (4, 1), (3, 2), (3, 3)] := h.w51
@[simp] theorem c51_ [h : Facts P] : P.cellsOf 51 = 4 := h.c51
@[simp] theorem a51_ [h : Facts P] : aggT P 51 = true := h.a51
@[simp] theorem z51_ [h : Facts P] : zbox P 51 = some (A.agg [A.bool false, A.bool false, A.int .i64 0, A.int .i64 0], 24) := h.z51
@[simp] theorem b51_ [h : Facts P] : bplan P 51 = some ([A.bool false, A.bool false, A.int .i64 0, A.int .i64 0], [(0, 1), (1, 1), (2, 1), (3, 1)]) := h.b51
@[simp] theorem e51_ [h : Facts P] : eqT P 51 = some [1, 1, 0, 0] := h.e51
@[simp] theorem u57_ [h : Facts P] : P.underlying 57 = some (.map 60 3) := h.u57
@[simp] theorem s57_ [h : Facts P] : isSliceT P 57 = false := h.s57
@[simp] theorem t57_ [h : Facts P] : isStrT P 57 = false := h.t57
@[simp] theorem m57x_ [h : Facts P] : isMapT P 57 = true := h.m57x
@[simp] theorem m57k_ [h : Facts P] : mkey P 57 = 60 := h.m57k
@[simp] theorem m57e_ [h : Facts P] : melem P 57 = 3 := h.m57e
@[simp] theorem k60_ [h : Facts P] : keyT P 60 = 2 := h.k60
@[simp] theorem h57_ [h : Facts P] : hasU P 57 = true := h.h57
@[simp] theorem c57_ [h : Facts P] : P.cellsOf 57 = 1 := h.c57
@[simp] theorem a57_ [h : Facts P] : aggT P 57 = false := h.a57
@[simp] theorem g59_0_ [h : Facts P] : fld P 59 0 = some (3, 0) := h.g59_0
@[simp] theorem g59_1_ [h : Facts P] : fld P 59 1 = some (3, 1) := h.g59_1
@[simp] theorem s59_ [h : Facts P] : isSliceT P 59 = false := h.s59
@[simp] theorem t59_ [h : Facts P] : isStrT P 59 = false := h.t59
@[simp] theorem h59_ [h : Facts P] : hasU P 59 = true := h.h59
@[simp] theorem w59_ [h : Facts P] : ftl P 59 = some [(3, 0), (3, 1)] := h.w59
@[simp] theorem c59_ [h : Facts P] : P.cellsOf 59 = 2 := h.c59
@[simp] theorem a59_ [h : Facts P] : aggT P 59 = true := h.a59
@[simp] theorem z59_ [h : Facts P] : zbox P 59 = some (A.agg [A.int .i64 0, A.int .i64 0], 16) := h.z59
@[simp] theorem b59_ [h : Facts P] : bplan P 59 = some ([A.int .i64 0, A.int .i64 0], [(0, 1), (1, 1)]) := h.b59
@[simp] theorem e59_ [h : Facts P] : eqT P 59 = some [0, 0] := h.e59
@[simp] theorem g60_0_ [h : Facts P] : fld P 60 0 = some (3, 0) := h.g60_0
@[simp] theorem g60_1_ [h : Facts P] : fld P 60 1 = some (3, 1) := h.g60_1
@[simp] theorem s60_ [h : Facts P] : isSliceT P 60 = false := h.s60
@[simp] theorem t60_ [h : Facts P] : isStrT P 60 = false := h.t60
@[simp] theorem h60_ [h : Facts P] : hasU P 60 = true := h.h60
@[simp] theorem w60_ [h : Facts P] : ftl P 60 = some [(3, 0), (3, 1)] := h.w60
@[simp] theorem c60_ [h : Facts P] : P.cellsOf 60 = 2 := h.c60
@[simp] theorem a60_ [h : Facts P] : aggT P 60 = true := h.a60
@[simp] theorem z60_ [h : Facts P] : zbox P 60 = some (A.agg [A.int .i64 0, A.int .i64 0], 16) := h.z60
@[simp] theorem b60_ [h : Facts P] : bplan P 60 = some ([A.int .i64 0, A.int .i64 0], [(0, 1), (1, 1)]) := h.b60
@[simp] theorem e60_ [h : Facts P] : eqT P 60 = some [0, 0] := h.e60
@[simp] theorem u62_ [h : Facts P] : P.underlying 62 = some (.array 256 3) := h.u62
@[simp] theorem s62_ [h : Facts P] : isSliceT P 62 = false := h.s62
@[simp] theorem t62_ [h : Facts P] : isStrT P 62 = false := h.t62
@[simp] theorem r62_ [h : Facts P] : arrT P 62 = some (256, 3) := h.r62
@[simp] theorem h62_ [h : Facts P] : hasU P 62 = true := h.h62
@[simp] theorem n62_ [h : Facts P] : bplan P 62 = none := h.n62
@[simp] theorem c62_ [h : Facts P] : P.cellsOf 62 = 256 := h.c62
@[simp] theorem a62_ [h : Facts P] : aggT P 62 = true := h.a62
@[simp] theorem z62_ [h : Facts P] : zbox P 62 = some (A.agg ((zerosI 256).map Enc.enc), 2048) := h.z62
@[simp] theorem e62_ [h : Facts P] : eqT P 62 = some [0, 0, 0, 0, 0, 0, 0, 0, 0, 0, 0, 0, 0, 0, 0, 0, 0, 0, 0, 0, 0, 0, 0, 0, 0, 0, 0, 0, 0, 0, 0, 0, 0, 0, 0, 0, 0, 0, 0, 0, 0, 0, 0, 0, 0, 0, 0, 0, 0, 0, 0, 0, 0, 0, 0, 0, 0, 0, 0, 0, 0, 0, 0, 0, 0, 0, 0, 0, 0, 0, 0, 0, 0, 0, 0, 0, 0, 0, 0, 0, 0, 0, 0, 0, 0, 0, 0, 0, 0, 0, 0, 0, 0, 0, 0, 0, 0, 0, 0, 0, 0, 0, 0, 0, 0, 0, 0, 0, 0, 0, 0, 0, 0, 0, 0, 0, 0, 0, 0, 0, 0, 0, 0, 0, 0, 0, 0, 0, 0, 0, 0, 0, 0, 0, 0, 0, 0, 0, 0, 0, 0, 0, 0, 0, 0, 0, 0, 0, 0, 0, 0, 0, 0, 0, 0, 0, 0, 0, 0, 0, 0, 0, 0, 0, 0, 0, 0, 0, 0, 0, 0, 0, 0, 0, 0, 0, 0, 0, 0, 0, 0, 0, 0, 0, 0, 0, 0, 0, 0, 0, 0, 0, 0, 0, 0, 0, 0, 0, 0, 0, 0, 0, 0, 0, 0, 0, 0, 0, 0, 0, 0, 0, 0, 0, 0, 0, 0, 0, 0, 0, 0, 0, 0, 0, 0, 0, 0, 0, 0, 0, 0, 0, 0, 0, 0, 0, 0, 0, 0, 0, 0, 0, 0, 0, 0, 0, 0, 0, 0, 0, 0, 0, 0, 0, 0, 0] := h.e62
@[simp] theorem u74_ [h : Facts P] : P.underlying 74 = some (.array 0 16) := h.u74
@[simp] theorem s74_ [h : Facts P] : isSliceT P 74 = false := h.s74
@[simp] theorem t74_ [h : Facts P] : isStrT P 74 = false := h.t74
@[simp] theorem r74_ [h : Facts P] : arrT P 74 = some (0, 16) := h.r74
@[simp] theorem h74_ [h : Facts P] : hasU P 74 = true := h.h74
@[simp] theorem n74_ [h : Facts P] : bplan P 74 = none := h.n74
@[simp] theorem c74_ [h : Facts P] : P.cellsOf 74 = 0 := h.c74
@[simp] theorem a74_ [h : Facts P] : aggT P 74 = true := h.a74
@[simp] theorem z74_ [h : Facts P] : zbox P 74 = some (A.agg [], 0) := h.z74
@[simp] theorem b74_ [h : Facts P] : aplan P 74 = some ([], 1) := h.b74
@[simp] theorem u78_ [h : Facts P] : P.underlying 78 = some (.int .u32) := h.u78
@[simp] theorem s78_ [h : Facts P] : isSliceT P 78 = false := h.s78
@[simp] theorem t78_ [h : Facts P] : isStrT P 78 = false := h.t78
@[simp] theorem h78_ [h : Facts P] : hasU P 78 = true := h.h78
@[simp] theorem i78_ [h : Facts P] : intT P 78 = some .u32 := h.i78
@[simp] theorem c78_ [h : Facts P] : P.cellsOf 78 = 1 := h.c78
@[simp] theorem a78_ [h : Facts P] : aggT P 78 = false := h.a78
@[simp] theorem z78_ [h : Facts P] : zbox P 78 = some (A.int .u32 0, 4) := h.z78
@[simp] theorem g85_0_ [h : Facts P] : fld P 85 0 = some (12, 0) := h.g85_0
@[simp] theorem g85_1_ [h : Facts P] : fld P 85 1 = some (12, 1) := h.g85_1
@[simp] theorem g85_2_ [h : Facts P] : fld P 85 2 = some (78, 2) := h.g85_2
@[simp] theorem g85_3_ [h : Facts P] : fld P 85 3 = some (79, 3) := h.g85_3
@[simp] theorem g85_4_ [h : Facts P] : fld P 85 4 = some (5, 4) := h.g85_4
@[simp] theorem g85_5_ [h : Facts P] : fld P 85 5 = some (5, 5) := h.g85_5
@[simp] theorem g85_6_ [h : Facts P] : fld P 85 6 = some (80, 6) := h.g85_6
@[simp] theorem g85_7_ [h : Facts P] : fld P 85 7 = some (81, 7) := h.g85_7
@[simp] theorem g85_8_ [h : Facts P] : fld P 85 8 = some (82, 8) := h.g85_8
@[simp] theorem g85_9_ [h : Facts P] : fld P 85 9 = some (83, 9) := h.g85_9
@[simp] theorem g85_10_ [h : Facts P] : fld P 85 10 = some (84, 10) := h.g85_10
@[simp] theorem s85_ [h : Facts P] : isSliceT P 85 = false := h.s85
@[simp] theorem t85_ [h : Facts P] : isStrT P 85 = false := h.t85
@[simp] theorem h85_ [h : Facts P] : hasU P 85 = true := h.h85
@[simp] theorem w85_ [h : Facts P] : ftl P 85 = some [(12, 0), (12, 1), (78, 2), (79, 3), (5, 4), (5, 5), (80, 6), (81, 7), (82, 8), (83, 9), (84, 10)] := h.w85
@[simp] theorem c85_ [h : Facts P] : P.cellsOf 85 = 11 := h.c85
@[simp] theorem a85_ [h : Facts P] : aggT P 85 = true := h.a85
@[simp] theorem z85_ [h : Facts P] : zbox P 85 = some (A.agg [A.int .u64 0, A.int .u64 0, A.int .u32 0, A.int .u8 0, A.int .u8 0, A.int .u8 0, A.int .u8 0, A.nfn, A.nptr, A.int .i32 0, A.int .i32 0], 48) := h.z85
@[simp] theorem q0_ [h : Facts P] : P.cellsOf 4294967295 = 0 := h.q0
end

theorem has_u2 : Try.prog.underlying 2 = some (.int .i64) := by kernel_rfl
theorem has_s2 : isSliceT Try.prog 2 = false := by kernel_rfl
theorem has_t2 : isStrT Try.prog 2 = false := by kernel_rfl
theorem has_h2 : hasU Try.prog 2 = true := by kernel_rfl
theorem has_i2 : intT Try.prog 2 = some .i64 := by kernel_rfl
theorem has_c2 : Try.prog.cellsOf 2 = 1 := by kernel_rfl
theorem has_a2 : aggT Try.prog 2 = false := by kernel_rfl
theorem has_z2 : zbox Try.prog 2 = some (A.int .i64 0, 8) := by kernel_rfl
theorem has_u3 : Try.prog.underlying 3 = some (.int .i64) := by kernel_rfl
theorem has_s3 : isSliceT Try.prog 3 = false := by kernel_rfl
theorem has_t3 : isStrT Try.prog 3 = false := by kernel_rfl
theorem has_h3 : hasU Try.prog 3 = true := by kernel_rfl
theorem has_i3 : intT Try.prog 3 = some .i64 := by kernel_rfl
theorem has_c3 : Try.prog.cellsOf 3 = 1 := by kernel_rfl
theorem has_a3 : aggT Try.prog 3 = false := by kernel_rfl
theorem has_z3 : zbox Try.prog 3 = some (A.int .i64 0, 8) := by kernel_rfl
theorem has_u4 : Try.prog.underlying 4 = some (.bool) := by kernel_rfl
theorem has_s4 : isSliceT Try.prog 4 = false := by kernel_rfl
theorem has_t4 : isStrT Try.prog 4 = false := by kernel_rfl
theorem has_h4 : hasU Try.prog 4 = true := by kernel_rfl
theorem has_d4 : isBoolT Try.prog 4 = true := by kernel_rfl
theorem has_c4 : Try.prog.cellsOf 4 = 1 := by kernel_rfl
theorem has_a4 : aggT Try.prog 4 = false := by kernel_rfl
theorem has_z4 : zbox Try.prog 4 = some (A.bool false, 1) := by kernel_rfl
theorem has_u5 : Try.prog.underlying 5 = some (.int .u8) := by kernel_rfl
theorem has_s5 : isSliceT Try.prog 5 = false := by kernel_rfl
theorem has_t5 : isStrT Try.prog 5 = false := by kernel_rfl
theorem has_h5 : hasU Try.prog 5 = true := by kernel_rfl
theorem has_i5 : intT Try.prog 5 = some .u8 := by kernel_rfl
theorem has_c5 : Try.prog.cellsOf 5 = 1 := by kernel_rfl
theorem has_a5 : aggT Try.prog 5 = false := by kernel_rfl
theorem has_z5 : zbox Try.prog 5 = some (A.int .u8 0, 1) := by kernel_rfl
theorem has_u9 : Try.prog.underlying 9 = some (.string) := by kernel_rfl
theorem has_s9 : isSliceT Try.prog 9 = false := by kernel_rfl
theorem has_t9 : isStrT Try.prog 9 = true := by kernel_rfl
theorem has_h9 : hasU Try.prog 9 = true := by kernel_rfl
theorem has_c9 : Try.prog.cellsOf 9 = 1 := by kernel_rfl
theorem has_a9 : aggT Try.prog 9 = false := by kernel_rfl
theorem has_z9 : zbox Try.prog 9 = some (A.str [], 16) := by kernel_rfl
theorem has_u12 : Try.prog.underlying 12 = some (.int .u64) := by kernel_rfl
theorem has_s12 : isSliceT Try.prog 12 = false := by kernel_rfl
theorem has_t12 : isStrT Try.prog 12 = false := by kernel_rfl
theorem has_h12 : hasU Try.prog 12 = true := by kernel_rfl
theorem has_i12 : intT Try.prog 12 = some .u64 := by kernel_rfl
theorem has_c12 : Try.prog.cellsOf 12 = 1 := by kernel_rfl
theorem has_a12 : aggT Try.prog 12 = false := by kernel_rfl
theorem has_z12 : zbox Try.prog 12 = some (A.int .u64 0, 8) := by kernel_rfl
theorem has_u21 : Try.prog.underlying 21 = some (.int .i32) := by kernel_rfl
theorem has_s21 : isSliceT Try.prog 21 = false := by kernel_rfl
theorem has_t21 : isStrT Try.prog 21 = false := by kernel_rfl
theorem has_h21 : hasU Try.prog 21 = true := by kernel_rfl
theorem has_i21 : intT Try.prog 21 = some .i32 := by kernel_rfl
theorem has_c21 : Try.prog.cellsOf 21 = 1 := by kernel_rfl
theorem has_a21 : aggT Try.prog 21 = false := by kernel_rfl
theorem has_z21 : zbox Try.prog 21 = some (A.int .i32 0, 4) := by kernel_rfl
theorem has_u22 : Try.prog.underlying 22 = some (.slice 3) := by kernel_rfl
theorem has_s22 : isSliceT Try.prog 22 = true := by kernel_rfl
theorem has_l22 : selem Try.prog 22 = 3 := by kernel_rfl
theorem has_t22 : isStrT Try.prog 22 = false := by kernel_rfl
theorem has_h22 : hasU Try.prog 22 = true := by kernel_rfl
theorem has_c22 : Try.prog.cellsOf 22 = 1 := by kernel_rfl
theorem has_a22 : aggT Try.prog 22 = false := by kernel_rfl
theorem has_z22 : zbox Try.prog 22 = some (A.sl true [], 24) := by kernel_rfl
theorem has_u23 : Try.prog.underlying 23 = some (.slice 38) := by kernel_rfl
theorem has_s23 : isSliceT Try.prog 23 = true := by kernel_rfl
theorem has_l23 : selem Try.prog 23 = 38 := by kernel_rfl
theorem has_t23 : isStrT Try.prog 23 = false := by kernel_rfl
theorem has_h23 : hasU Try.prog 23 = true := by kernel_rfl
theorem has_c23 : Try.prog.cellsOf 23 = 1 := by kernel_rfl
theorem has_a23 : aggT Try.prog 23 = false := by kernel_rfl
theorem has_z23 : zbox Try.prog 23 = some (A.sl true [], 24) := by kernel_rfl
theorem has_g24_0 : fld Try.prog 24 0 = some (22, 0) := by kernel_rfl
theorem has_g24_1 : fld Try.prog 24 1 = some (3, 1) := by kernel_rfl
theorem has_g24_2 : fld Try.prog 24 2 = some (23, 2) := by kernel_rfl
theorem has_s24 : isSliceT Try.prog 24 = false := by kernel_rfl
theorem has_t24 : isStrT Try.prog 24 = false := by kernel_rfl
theorem has_h24 : hasU Try.prog 24 = true := by kernel_rfl
theorem has_w24 : ftl Try.prog 24 = some [(22, 0), (3, 1), (23, 2)] := by kernel_rfl
theorem has_c24 : Try.prog.cellsOf 24 = 3 := by kernel_rfl
theorem has_a24 : aggT Try.prog 24 = true := by kernel_rfl
theorem has_z24 : zbox Try.prog 24 = some (A.agg [A.sl true [], A.int .i64 0, A.sl true []], 56) := by kernel_rfl
theorem has_b24 : bplan Try.prog 24 = some ([A.sl true [], A.int .i64 0, A.sl true []], [(0, 1), (1, 1), (2, 1)]) := by kernel_rfl
theorem has_g25_0 : fld Try.prog 25 0 = some (22, 0) := by kernel_rfl
theorem has_g25_1 : fld Try.prog 25 1 = some (3, 1) := by kernel_rfl
theorem has_g25_2 : fld Try.prog 25 2 = some (23, 2) := by kernel_rfl
theorem has_s25 : isSliceT Try.prog 25 = false := by kernel_rfl
theorem has_t25 : isStrT Try.prog 25 = false := by kernel_rfl
theorem has_h25 : hasU Try.prog 25 = true := by kernel_rfl
theorem has_w25 : ftl Try.prog 25 = some [(22, 0), (3, 1), (23, 2)] := by kernel_rfl
theorem has_c25 : Try.prog.cellsOf 25 = 3 := by kernel_rfl
theorem has_a25 : aggT Try.prog 25 = true := by kernel_rfl
theorem has_z25 : zbox Try.prog 25 = some (A.agg [A.sl true [], A.int .i64 0, A.sl true []], 56) := by kernel_rfl
theorem has_b25 : bplan Try.prog 25 = some ([A.sl true [], A.int .i64 0, A.sl true []], [(0, 1), (1, 1), (2, 1)]) := by kernel_rfl
theorem has_u28 : Try.prog.underlying 28 = some (.int .i64) := by kernel_rfl
theorem has_s28 : isSliceT Try.prog 28 = false := by kernel_rfl
theorem has_t28 : isStrT Try.prog 28 = false := by kernel_rfl
theorem has_h28 : hasU Try.prog 28 = true := by kernel_rfl
theorem has_i28 : intT Try.prog 28 = some .i64 := by kernel_rfl
theorem has_c28 : Try.prog.cellsOf 28 = 1 := by kernel_rfl
theorem has_a28 : aggT Try.prog 28 = false := by kernel_rfl
theorem has_z28 : zbox Try.prog 28 = some (A.int .i64 0, 8) := by kernel_rfl
theorem has_u34 : Try.prog.underlying 34 = some (.int .i64) := by kernel_rfl
theorem has_s34 : isSliceT Try.prog 34 = false := by kernel_rfl
theorem has_t34 : isStrT Try.prog 34 = false := by kernel_rfl
theorem has_h34 : hasU Try.prog 34 = true := by kernel_rfl
theorem has_i34 : intT Try.prog 34 = some .i64 := by kernel_rfl
theorem has_c34 : Try.prog.cellsOf 34 = 1 := by kernel_rfl
theorem has_a34 : aggT Try.prog 34 = false := by kernel_rfl
theorem has_z34 : zbox Try.prog 34 = some (A.int .i64 0, 8) := by kernel_rfl
theorem has_g35_0 : fld Try.prog 35 0 = some (3, 0) := by kernel_rfl
theorem has_g35_1 : fld Try.prog 35 1 = some (3, 1) := by kernel_rfl
theorem has_g35_2 : fld Try.prog 35 2 = some (3, 2) := by kernel_rfl
theorem has_g35_3 : fld Try.prog 35 3 = some (3, 3) := by kernel_rfl
theorem has_g35_4 : fld Try.prog 35 4 = some (3, 4) := by kernel_rfl
theorem has_g35_5 : fld Try.prog 35 5 = some (34, 5) := by kernel_rfl
theorem has_g35_6 : fld Try.prog 35 6 = some (3, 6) := by kernel_rfl
theorem has_g35_7 : fld Try.prog 35 7 = some (3, 7) := by kernel_rfl
theorem has_g35_8 : fld Try.prog 35 8 = some (22, 8) := by kernel_rfl
theorem has_s35 : isSliceT Try.prog 35 = false := by kernel_rfl
theorem has_t35 : isStrT Try.prog 35 = false := by kernel_rfl
theorem has_h35 : hasU Try.prog 35 = true := by kernel_rfl
theorem has_w35 : ftl Try.prog 35 = some [(3, 0), (3, 1), (3, 2), (3, 3), (3, 4), (34, 5), (3, 6), (3, 7), (22, 8)] := by kernel_rfl
theorem has_c35 : Try.prog.cellsOf 35 = 9 := by kernel_rfl
theorem has_a35 : aggT Try.prog 35 = true := by kernel_rfl
theorem has_z35 : zbox Try.prog 35 = some (A.agg [A.int .i64 0, A.int .i64 0, A.int .i64 0, A.int .i64 0, A.int .i64 0, A.int .i64 0, A.int .i64 0, A.int .i64 0, A.sl true []], 88) := by kernel_rfl
theorem has_b35 : bplan Try.prog 35 = some ([A.int .i64 0, A.int .i64 0, A.int .i64 0, A.int .i64 0, A.int .i64 0, A.int .i64 0, A.int .i64 0, A.int .i64 0, A.sl true []], [(0, 1), (1, 1), (2, 1), (3, 1), (4, 1), (5, 1), (6, 1), (7, 1), (8, 1)]) := by kernel_rfl
theorem has_g36_0 : fld Try.prog 36 0 = some (3, 0) := by kernel_rfl
theorem has_g36_1 : fld Try.prog 36 1 = some (3, 1) := by kernel_rfl
theorem has_g36_2 : fld Try.prog 36 2 = some (3, 2) := by kernel_rfl
theorem has_g36_3 : fld Try.prog 36 3 = some (3, 3) := by kernel_rfl
theorem has_g36_4 : fld Try.prog 36 4 = some (3, 4) := by kernel_rfl
theorem has_g36_5 : fld Try.prog 36 5 = some (34, 5) := by kernel_rfl
theorem has_g36_6 : fld Try.prog 36 6 = some (3, 6) := by kernel_rfl
theorem has_g36_7 : fld Try.prog 36 7 = some (3, 7) := by kernel_rfl
theorem has_g36_8 : fld Try.prog 36 8 = some (22, 8) := by kernel_rfl
theorem has_s36 : isSliceT Try.prog 36 = false := by kernel_rfl
theorem has_t36 : isStrT Try.prog 36 = false := by kernel_rfl
theorem has_h36 : hasU Try.prog 36 = true := by kernel_rfl
theorem has_w36 : ftl Try.prog 36 = some [(3, 0), (3, 1), (3, 2), (3, 3), (3, 4), (34, 5), (3, 6), (3, 7), (22, 8)] := by kernel_rfl
theorem has_c36 : Try.prog.cellsOf 36 = 9 := by kernel_rfl
theorem has_a36 : aggT Try.prog 36 = true := by kernel_rfl
theorem has_z36 : zbox Try.prog 36 = some (A.agg [A.int .i64 0, A.int .i64 0, A.int .i64 0, A.int .i64 0, A.int .i64 0, A.int .i64 0, A.int .i64 0, A.int .i64 0, A.sl true []], 88) := by kernel_rfl
theorem has_b36 : bplan Try.prog 36 = some ([A.int .i64 0, A.int .i64 0, A.int .i64 0, A.int .i64 0, A.int .i64 0, A.int .i64 0, A.int .i64 0, A.int .i64 0, A.sl true []], [(0, 1), (1, 1), (2, 1), (3, 1), (4, 1), (5, 1), (6, 1), (7, 1), (8, 1)]) := by kernel_rfl
theorem has_g37_0 : fld Try.prog 37 0 = some (3, 0) := by kernel_rfl
theorem has_g37_1 : fld Try.prog 37 1 = some (3, 1) := by kernel_rfl
theorem has_g37_2 : fld Try.prog 37 2 = some (3, 2) := by kernel_rfl
theorem has_g37_3 : fld Try.prog 37 3 = some (36, 3) := by kernel_rfl
theorem has_g37_4 : fld Try.prog 37 4 = some (4, 12) := by kernel_rfl
theorem has_g37_5 : fld Try.prog 37 5 = some (4, 13) := by kernel_rfl
theorem has_g37_6 : fld Try.prog 37 6 = some (3, 14) := by kernel_rfl
theorem has_s37 : isSliceT Try.prog 37 = false := by kernel_rfl
theorem has_t37 : isStrT Try.prog 37 = false := by kernel_rfl
theorem has_h37 : hasU Try.prog 37 = true := by kernel_rfl
theorem has_w37 : ftl Try.prog 37 = some [(3, 0), (3, 1), (3, 2), (36, 3), (4, 12), (4, 13), (3, 14)] := by kernel_rfl
theorem has_c37 : Try.prog.cellsOf 37 = 15 := by kernel_rfl
theorem has_a37 : aggT Try.prog 37 = true := by kernel_rfl
theorem has_z37 : zbox Try.prog 37 = some (A.agg [A.int .i64 0, A.int .i64 0, A.int .i64 0, A.int .i64 0, A.int .i64 0, A.int .i64 0, A.int .i64 0, A.int .i64 0, A.int .i64 0, A.int .i64 0, A.int .i64 0, A.sl true [], A.bool false, A.bool false, A.int .i64 0], 128) := by kernel_rfl
theorem has_b37 : bplan Try.prog 37 = some ([A.int .i64 0, A.int .i64 0, A.int .i64 0, A.int .i64 0, A.int .i64 0, A.int .i64 0, A.int .i64 0, A.int .i64 0, A.int .i64 0, A.int .i64 0, A.int .i64 0, A.sl true [], A.bool false, A.bool false, A.int .i64 0], [(0, 1), (1, 1), (2, 1), (3, 9), (12, 1), (13, 1), (14, 1)]) := by kernel_rfl
theorem has_g38_0 : fld Try.prog 38 0 = some (3, 0) := by kernel_rfl
theorem has_g38_1 : fld Try.prog 38 1 = some (3, 1) := by kernel_rfl
theorem has_g38_2 : fld Try.prog 38 2 = some (3, 2) := by kernel_rfl
theorem has_g38_3 : fld Try.prog 38 3 = some (36, 3) := by kernel_rfl
theorem has_g38_4 : fld Try.prog 38 4 = some (4, 12) := by kernel_rfl
theorem has_g38_5 : fld Try.prog 38 5 = some (4, 13) := by kernel_rfl
theorem has_g38_6 : fld Try.prog 38 6 = some (3, 14) := by kernel_rfl
theorem has_s38 : isSliceT Try.prog 38 = false := by kernel_rfl
theorem has_t38 : isStrT Try.prog 38 = false := by kernel_rfl
theorem has_h38 : hasU Try.prog 38 = true := by kernel_rfl
theorem has_w38 : ftl Try.prog 38 = some [(3, 0), (3, 1), (3, 2), (36, 3), (4, 12), (4, 13), (3, 14)] := by kernel_rfl
theorem has_c38 : Try.prog.cellsOf 38 = 15 := by kernel_rfl
theorem has_a38 : aggT Try.prog 38 = true := by kernel_rfl
theorem has_z38 : zbox Try.prog 38 = some (A.agg [A.int .i64 0, A.int .i64 0, A.int .i64 0, A.int .i64 0, A.int .i64 0, A.int .i64 0, A.int .i64 0, A.int .i64 0, A.int .i64 0, A.int .i64 0, A.int .i64 0, A.sl true [], A.bool false, A.bool false, A.int .i64 0], 128) := by kernel_rfl
theorem has_b38 : bplan Try.prog 38 = some ([A.int .i64 0, A.int .i64 0, A.int .i64 0, A.int .i64 0, A.int .i64 0, A.int .i64 0, A.int .i64 0, A.int .i64 0, A.int .i64 0, A.int .i64 0, A.int .i64 0, A.sl true [], A.bool false, A.bool false, A.int .i64 0], [(0, 1), (1, 1), (2, 1), (3, 9), (12, 1), (13, 1), (14, 1)]) := by kernel_rfl
theorem has_u48 : Try.prog.underlying 48 = some (.slice 51) := by kernel_rfl
theorem has_s48 : isSliceT Try.prog 48 = true := by kernel_rfl
theorem has_l48 : selem Try.prog 48 = 51 := by kernel_rfl
theorem has_t48 : isStrT Try.prog 48 = false := by kernel_rfl
theorem has_h48 : hasU Try.prog 48 = true := by kernel_rfl
theorem has_c48 : Try.prog.cellsOf 48 = 1 := by kernel_rfl
theorem has_a48 : aggT Try.prog 48 = false := by kernel_rfl
theorem has_z48 : zbox Try.prog 48 = some (A.sl true [], 24) := by kernel_rfl
theorem has_u49 : Try.prog.underlying 49 = some (.array 16 3) := by kernel_rfl
theorem has_s49 : isSliceT Try.prog 49 = false := by kernel_rfl
theorem has_t49 : isStrT Try.prog 49 = false := by kernel_rfl
theorem has_r49 : arrT Try.prog 49 = some (16, 3) := by kernel_rfl
theorem has_h49 : hasU Try.prog 49 = true := by kernel_rfl
theorem has_n49 : bplan Try.prog 49 = none := by kernel_rfl
theorem has_c49 : Try.prog.cellsOf 49 = 16 := by kernel_rfl
theorem has_a49 : aggT Try.prog 49 = true := by kernel_rfl
theorem has_z49 : zbox Try.prog 49 = some (A.agg ((zerosI 16).map Enc.enc), 128) := by kernel_rfl
theorem has_e49 : eqT Try.prog 49 = some [0, 0, 0, 0, 0, 0, 0, 0, 0, 0, 0, 0, 0, 0, 0, 0] := by kernel_rfl
theorem has_b49 : aplan Try.prog 49 = some (((zerosI 16).map Enc.enc), 1) := by kernel_rfl
theorem has_g50_0 : fld Try.prog 50 0 = some (4, 0) := by kernel_rfl
theorem has_g50_1 : fld Try.prog 50 1 = some (4, 1) := by kernel_rfl
theorem has_g50_2 : fld Try.prog 50 2 = some (3, 2) := by kernel_rfl
theorem has_g50_3 : fld Try.prog 50 3 = some (3, 3) := by kernel_rfl
theorem has_s50 : isSliceT Try.prog 50 = false := by kernel_rfl
theorem has_t50 : isStrT Try.prog 50 = false := by kernel_rfl
theorem has_h50 : hasU Try.prog 50 = true := by kernel_rfl
theorem has_w50 : ftl Try.prog 50 = some [(4, 0), (4, 1), (3, 2), (3, 3)] := by kernel_rfl
theorem has_c50 : Try.prog.cellsOf 50 = 4 := by kernel_rfl
theorem has_a50 : aggT Try.prog 50 = true := by kernel_rfl
theorem has_z50 : zbox Try.prog 50 = some (A.agg [A.bool false, A.bool false, A.int .i64 0, A.int .i64 0], 24) := by kernel_rfl
theorem has_b50 : bplan Try.prog 50 = some ([A.bool false, A.bool false, A.int .i64 0, A.int .i64 0], [(0, 1), (1, 1), (2, 1), (3, 1)]) := by kernel_rfl
theorem has_e50 : eqT Try.prog 50 = some [1, 1, 0, 0] := by kernel_rfl
theorem has_g51_0 : fld Try.prog 51 0 = some (4, 0) := by kernel_rfl
theorem has_g51_1 : fld Try.prog 51 1 = some (4, 1) := by kernel_rfl
theorem has_g51_2 : fld Try.prog 51 2 = some (3, 2) := by kernel_rfl
theorem has_g51_3 : fld Try.prog 51 3 = some (3, 3) := by kernel_rfl
theorem has_s51 : isSliceT Try.prog 51 = false := by kernel_rfl
theorem has_t51 : isStrT Try.prog 51 = false := by kernel_rfl
theorem has_h51 : hasU Try.prog 51 = true := by kernel_rfl
theorem has_w51 : ftl Try.prog 51 = some [(4, 0), (4, 1), (3, 2), (3, 3)] := by kernel_rfl
theorem has_c51 : Try.prog.cellsOf 51 = 4 := by kernel_rfl
theorem has_a51 : aggT Try.prog 51 = true := by kernel_rfl
theorem has_z51 : zbox Try.prog 51 = some (A.agg [A.bool false, A.bool false, A.int .i64 0, A.int .i64 0], 24) := by kernel_rfl
theorem has_b51 : bplan Try.prog 51 = some ([A.bool false, A.bool false, A.int .i64 0, A.int .i64 0], [(0, 1), (1, 1), (2, 1), (3, 1)]) := by kernel_rfl
theorem has_e51 : eqT Try.prog 51 = some [1, 1, 0, 0] := by kernel_rfl
theorem has_u57 : Try.prog.underlying 57 = some (.map 60 3) := by kernel_rfl
theorem has_s57 : isSliceT Try.prog 57 = false := by kernel_rfl
theorem has_t57 : isStrT Try.prog 57 = false := by kernel_rfl
theorem has_m57x : isMapT Try.prog 57 = true := by kernel_rfl
theorem has_m57k : mkey Try.prog 57 = 60 := by kernel_rfl
theorem has_m57e : melem Try.prog 57 = 3 := by kernel_rfl
theorem has_k60 : keyT Try.prog 60 = 2 := by kernel_rfl
theorem has_h57 : hasU Try.prog 57 = true := by kernel_rfl
theorem has_c57 : Try.prog.cellsOf 57 = 1 := by kernel_rfl
theorem has_a57 : aggT Try.prog 57 = false := by kernel_rfl
theorem has_g59_0 : fld Try.prog 59 0 = some (3, 0) := by kernel_rfl
theorem has_g59_1 : fld Try.prog 59 1 = some (3, 1) := by kernel_rfl
theorem has_s59 : isSliceT Try.prog 59 = false := by kernel_rfl
theorem has_t59 : isStrT Try.prog 59 = false := by kernel_rfl
theorem has_h59 : hasU Try.prog 59 = true := by kernel_rfl
theorem has_w59 : ftl Try.prog 59 = some [(3, 0), (3, 1)] := by kernel_rfl
theorem has_c59 : Try.prog.cellsOf 59 = 2 := by kernel_rfl
theorem has_a59 : aggT Try.prog 59 = true := by kernel_rfl
theorem has_z59 : zbox Try.prog 59 = some (A.agg [A.int .i64 0, A.int .i64 0], 16) := by kernel_rfl
theorem has_b59 : bplan Try.prog 59 = some ([A.int .i64 0, A.int .i64 0], [(0, 1), (1, 1)]) := by kernel_rfl
theorem has_e59 : eqT Try.prog 59 = some [0, 0] := by kernel_rfl
theorem has_g60_0 : fld Try.prog 60 0 = some (3, 0) := by kernel_rfl
theorem has_g60_1 : fld Try.prog 60 1 = some (3, 1) := by kernel_rfl
theorem has_s60 : isSliceT Try.prog 60 = false := by kernel_rfl
theorem has_t60 : isStrT Try.prog 60 = false := by kernel_rfl
theorem has_h60 : hasU Try.prog 60 = true := by kernel_rfl
theorem has_w60 : ftl Try.prog 60 = some [(3, 0), (3, 1)] := by kernel_rfl
theorem has_c60 : Try.prog.cellsOf 60 = 2 := by kernel_rfl
theorem has_a60 : aggT Try.prog 60 = true := by kernel_rfl
theorem has_z60 : zbox Try.prog 60 = some (A.agg [A.int .i64 0, A.int .i64 0], 16) := by kernel_rfl
theorem has_b60 : bplan Try.prog 60 = some ([A.int .i64 0, A.int .i64 0], [(0, 1), (1, 1)]) := by kernel_rfl
theorem has_e60 : eqT Try.prog 60 = some [0, 0] := by kernel_rfl
theorem has_u62 : Try.prog.underlying 62 = some (.array 256 3) := by kernel_rfl
theorem has_s62 : isSliceT Try.prog 62 = false := by kernel_rfl
theorem has_t62 : isStrT Try.prog 62 = false := by kernel_rfl
theorem has_r62 : arrT Try.prog 62 = some (256, 3) := by kernel_rfl
theorem has_h62 : hasU Try.prog 62 = true := by kernel_rfl
theorem has_n62 : bplan Try.prog 62 = none := by kernel_rfl
theorem has_c62 : Try.prog.cellsOf 62 = 256 := by kernel_rfl
theorem has_a62 : aggT Try.prog 62 = true := by kernel_rfl
theorem has_z62 : zbox Try.prog 62 = some (A.agg ((zerosI 256).map Enc.enc), 2048) := by kernel_rfl
theorem has_e62 : eqT Try.prog 62 = some [0, 0, 0, 0, 0, 0, 0, 0, 0, 0, 0, 0, 0, 0, 0, 0, 0, 0, 0, 0, 0, 0, 0, 0, 0, 0, 0, 0, 0, 0, 0, 0, 0, 0, 0, 0, 0, 0, 0, 0, 0, 0, 0, 0, 0, 0, 0, 0, 0, 0, 0, 0, 0, 0, 0, 0, 0, 0, 0, 0, 0, 0, 0, 0, 0, 0, 0, 0, 0, 0, 0, 0, 0, 0, 0, 0, 0, 0, 0, 0, 0, 0, 0, 0, 0, 0, 0, 0, 0, 0, 0, 0, 0, 0, 0, 0, 0, 0, 0, 0, 0, 0, 0, 0, 0, 0, 0, 0, 0, 0, 0, 0, 0, 0, 0, 0, 0, 0, 0, 0, 0, 0, 0, 0, 0, 0, 0, 0, 0, 0, 0, 0, 0, 0, 0, 0, 0, 0, 0, 0, 0, 0, 0, 0, 0, 0, 0, 0, 0, 0, 0, 0, 0, 0, 0, 0, 0, 0, 0, 0, 0, 0, 0, 0, 0, 0, 0, 0, 0, 0, 0, 0, 0, 0, 0, 0, 0, 0, 0, 0, 0, 0, 0, 0, 0, 0, 0, 0, 0, 0, 0, 0, 0, 0, 0, 0, 0, 0, 0, 0, 0, 0, 0, 0, 0, 0, 0, 0, 0, 0, 0, 0, 0, 0, 0, 0, 0, 0, 0, 0, 0, 0, 0, 0, 0, 0, 0, 0, 0, 0, 0, 0, 0, 0, 0, 0, 0, 0, 0, 0, 0, 0, 0, 0, 0, 0, 0, 0, 0, 0, 0, 0, 0, 0, 0, 0] := by kernel_rfl
theorem has_u74 : Try.prog.underlying 74 = some (.array 0 16) := by kernel_rfl
theorem has_s74 : isSliceT Try.prog 74 = false := by kernel_rfl
theorem has_t74 : isStrT Try.prog 74 = false := by kernel_rfl
theorem has_r74 : arrT Try.prog 74 = some (0, 16) := by kernel_rfl
theorem has_h74 : hasU Try.prog 74 = true := by kernel_rfl
theorem has_n74 : bplan Try.prog 74 = none := by kernel_rfl
theorem has_c74 : Try.prog.cellsOf 74 = 0 := by kernel_rfl
theorem has_a74 : aggT Try.prog 74 = true := by kernel_rfl
theorem has_z74 : zbox Try.prog 74 = some (A.agg [], 0) := by kernel_rfl
theorem has_b74 : aplan Try.prog 74 = some ([], 1) := by kernel_rfl
theorem has_u78 : Try.prog.underlying 78 = some (.int .u32) := by kernel_rfl
theorem has_s78 : isSliceT Try.prog 78 = false := by kernel_rfl
theorem has_t78 : isStrT Try.prog 78 = false := by kernel_rfl
theorem has_h78 : hasU Try.prog 78 = true := by kernel_rfl
theorem has_i78 : intT Try.prog 78 = some .u32 := by kernel_rfl
theorem has_c78 : Try.prog.cellsOf 78 = 1 := by kernel_rfl
theorem has_a78 : aggT Try.prog 78 = false := by kernel_rfl
theorem has_z78 : zbox Try.prog 78 = some (A.int .u32 0, 4) := by kernel_rfl
theorem has_g85_0 : fld Try.prog 85 0 = some (12, 0) := by kernel_rfl
theorem has_g85_1 : fld Try.prog 85 1 = some (12, 1) := by kernel_rfl
theorem has_g85_2 : fld Try.prog 85 2 = some (78, 2) := by kernel_rfl
theorem has_g85_3 : fld Try.prog 85 3 = some (79, 3) := by kernel_rfl
theorem has_g85_4 : fld Try.prog 85 4 = some (5, 4) := by kernel_rfl
theorem has_g85_5 : fld Try.prog 85 5 = some (5, 5) := by kernel_rfl
theorem has_g85_6 : fld Try.prog 85 6 = some (80, 6) := by kernel_rfl
theorem has_g85_7 : fld Try.prog 85 7 = some (81, 7) := by kernel_rfl
theorem has_g85_8 : fld Try.prog 85 8 = some (82, 8) := by kernel_rfl
theorem has_g85_9 : fld Try.prog 85 9 = some (83, 9) := by kernel_rfl
theorem has_g85_10 : fld Try.prog 85 10 = some (84, 10) := by kernel_rfl
theorem has_s85 : isSliceT Try.prog 85 = false := by kernel_rfl
theorem has_t85 : isStrT Try.prog 85 = false := by kernel_rfl
theorem has_h85 : hasU Try.prog 85 = true := by kernel_rfl
theorem has_w85 : ftl Try.prog 85 = some [(12, 0), (12, 1), (78, 2), (79, 3), (5, 4), (5, 5), (80, 6), (81, 7), (82, 8), (83, 9), (84, 10)] := by kernel_rfl
theorem has_c85 : Try.prog.cellsOf 85 = 11 := by kernel_rfl
theorem has_a85 : aggT Try.prog 85 = true := by kernel_rfl
theorem has_z85 : zbox Try.prog 85 = some (A.agg [A.int .u64 0, A.int .u64 0, A.int .u32 0, A.int .u8 0, A.int .u8 0, A.int .u8 0, A.int .u8 0, A.nfn, A.nptr, A.int .i32 0, A.int .i32 0], 48) := by kernel_rfl
theorem has_q0 : Try.prog.cellsOf 4294967295 = 0 := by kernel_rfl
theorem has_mo : Try.prog.follows .mixedOrders = true := by kernel_rfl
instance facts : Facts Try.prog where
  u2 := has_u2
  s2 := has_s2
  t2 := has_t2
  h2 := has_h2
  i2 := has_i2
  c2 := has_c2
  a2 := has_a2
  z2 := has_z2
  u3 := has_u3
  s3 := has_s3
  t3 := has_t3
  h3 := has_h3
  i3 := has_i3
  c3 := has_c3
  a3 := has_a3
  z3 := has_z3
  u4 := has_u4
  s4 := has_s4
  t4 := has_t4
  h4 := has_h4
  d4 := has_d4
  c4 := has_c4
  a4 := has_a4
  z4 := has_z4
  u5 := has_u5
  s5 := has_s5
  t5 := has_t5
  h5 := has_h5
  i5 := has_i5
  c5 := has_c5
  a5 := has_a5
  z5 := has_z5
  u9 := has_u9
  s9 := has_s9
  t9 := has_t9
  h9 := has_h9
  c9 := has_c9
  a9 := has_a9
  z9 := has_z9
  u12 := has_u12
  s12 := has_s12
  t12 := has_t12
  h12 := has_h12
  i12 := has_i12
  c12 := has_c12
  a12 := has_a12
  z12 := has_z12
  u21 := has_u21
  s21 := has_s21
  t21 := has_t21
  h21 := has_h21
  i21 := has_i21
  c21 := has_c21
  a21 := has_a21
  z21 := has_z21
  u22 := has_u22
  s22 := has_s22
  l22 := has_l22
  t22 := has_t22
  h22 := has_h22
  c22 := has_c22
  a22 := has_a22
  z22 := has_z22
  u23 := has_u23
  s23 := has_s23
  l23 := has_l23
  t23 := has_t23
  h23 := has_h23
  c23 := has_c23
  a23 := has_a23
  z23 := has_z23
  g24_0 := has_g24_0
  g24_1 := has_g24_1
  g24_2 := has_g24_2
  s24 := has_s24
  t24 := has_t24
  h24 := has_h24
  w24 := has_w24
  c24 := has_c24
  a24 := has_a24
  z24 := has_z24
  b24 := has_b24
  g25_0 := has_g25_0
  g25_1 := has_g25_1
  g25_2 := has_g25_2
  s25 := has_s25
  t25 := has_t25
  h25 := has_h25
  w25 := has_w25
  c25 := has_c25
  a25 := has_a25
  z25 := has_z25
  b25 := has_b25
  u28 := has_u28
  s28 := has_s28
  t28 := has_t28
  h28 := has_h28
  i28 := has_i28
  c28 := has_c28
  a28 := has_a28
  z28 := has_z28
  u34 := has_u34
  s34 := has_s34
  t34 := has_t34
  h34 := has_h34
  i34 := has_i34
  c34 := has_c34
  a34 := has_a34
  z34 := has_z34
  g35_0 := has_g35_0
  g35_1 := has_g35_1
  g35_2 := has_g35_2
  g35_3 := has_g35_3
  g35_4 := has_g35_4
  g35_5 := has_g35_5
  g35_6 := has_g35_6
  g35_7 := has_g35_7
  g35_8 := has_g35_8
  s35 := has_s35
  t35 := has_t35
  h35 := has_h35
  w35 := has_w35
  c35 := has_c35
  a35 := has_a35
  z35 := has_z35
  b35 := has_b35
  g36_0 := has_g36_0
  g36_1 := has_g36_1
  g36_2 := has_g36_2
  g36_3 := has_g36_3
  g36_4 := has_g36_4
  g36_5 := has_g36_5
  g36_6 := has_g36_6
  g36_7 := has_g36_7
  g36_8 := has_g36_8
  s36 := has_s36
  t36 := has_t36
  h36 := has_h36
  w36 := has_w36
  c36 := has_c36
  a36 := has_a36
  z36 := has_z36
  b36 := has_b36
  g37_0 := has_g37_0
  g37_1 := has_g37_1
  g37_2 := has_g37_2
  g37_3 := has_g37_3
  g37_4 := has_g37_4
  g37_5 := has_g37_5
  g37_6 := has_g37_6
  s37 := has_s37
  t37 := has_t37
  h37 := has_h37
  w37 := has_w37
  c37 := has_c37
  a37 := has_a37
  z37 := has_z37
  b37 := has_b37
  g38_0 := has_g38_0
  g38_1 := has_g38_1
  g38_2 := has_g38_2
  g38_3 := has_g38_3
  g38_4 := has_g38_4
  g38_5 := has_g38_5
  g38_6 := has_g38_6
  s38 := has_s38
  t38 := has_t38
  h38 := has_h38
  w38 := has_w38
  c38 := has_c38
  a38 := has_a38
  z38 := has_z38
  b38 := has_b38
  u48 := has_u48
  s48 := has_s48
  l48 := has_l48
  t48 := has_t48
  h48 := has_h48
  c48 := has_c48
  a48 := has_a48
  z48 := has_z48
  u49 := has_u49
  s49 := has_s49
  t49 := has_t49
  r49 := has_r49
  h49 := has_h49
  n49 := has_n49
  c49 := has_c49
  a49 := has_a49
  z49 := has_z49
  e49 := has_e49
  b49 := has_b49
  g50_0 := has_g50_0
  g50_1 := has_g50_1
  g50_2 := has_g50_2
  g50_3 := has_g50_3
  s50 := has_s50
  t50 := has_t50
  h50 := has_h50
  w50 := has_w50
  c50 := has_c50
  a50 := has_a50
  z50 := has_z50
  b50 := has_b50
  e50 := has_e50
  g51_0 := has_g51_0
  g51_1 := has_g51_1
  g51_2 := has_g51_2
  g51_3 := has_g51_3
  s51 := has_s51
  t51 := has_t51
  h51 := has_h51
  w51 := has_w51
  c51 := has_c51
  a51 := has_a51
  z51 := has_z51
  b51 := has_b51
  e51 := has_e51
  u57 := has_u57
  s57 := has_s57
  t57 := has_t57
  m57x := has_m57x
  m57k := has_m57k
  m57e := has_m57e
  k60 := has_k60
  h57 := has_h57
  c57 := has_c57
  a57 := has_a57
  g59_0 := has_g59_0
  g59_1 := has_g59_1
  s59 := has_s59
  t59 := has_t59
  h59 := has_h59
  w59 := has_w59
  c59 := has_c59
  a59 := has_a59
  z59 := has_z59
  b59 := has_b59
  e59 := has_e59
  g60_0 := has_g60_0
  g60_1 := has_g60_1
  s60 := has_s60
  t60 := has_t60
  h60 := has_h60
  w60 := has_w60
  c60 := has_c60
  a60 := has_a60
  z60 := has_z60
  b60 := has_b60
  e60 := has_e60
  u62 := has_u62
  s62 := has_s62
  t62 := has_t62
  r62 := has_r62
  h62 := has_h62
  n62 := has_n62
  c62 := has_c62
  a62 := has_a62
  z62 := has_z62
  e62 := has_e62
  u74 := has_u74
  s74 := has_s74
  t74 := has_t74
  r74 := has_r74
  h74 := has_h74
  n74 := has_n74
  c74 := has_c74
  a74 := has_a74
  z74 := has_z74
  b74 := has_b74
  u78 := has_u78
  s78 := has_s78
  t78 := has_t78
  h78 := has_h78
  i78 := has_i78
  c78 := has_c78
  a78 := has_a78
  z78 := has_z78
  g85_0 := has_g85_0
  g85_1 := has_g85_1
  g85_2 := has_g85_2
  g85_3 := has_g85_3
  g85_4 := has_g85_4
  g85_5 := has_g85_5
  g85_6 := has_g85_6
  g85_7 := has_g85_7
  g85_8 := has_g85_8
  g85_9 := has_g85_9
  g85_10 := has_g85_10
  s85 := has_s85
  t85 := has_t85
  h85 := has_h85
  w85 := has_w85
  c85 := has_c85
  a85 := has_a85
  z85 := has_z85
  q0 := has_q0
  mo := has_mo
  f0 := Try.func0
  f1 := Try.func1
  f2 := Try.func2
  f3 := Try.func3
  f4 := Try.func4
  f5 := Try.func5
  f6 := Try.func6
  f7 := Try.func7
  f8 := Try.func8
  f9 := Try.func9
  f10 := Try.func10
  f11 := Try.func11
  f12 := Try.func12
  f13 := Try.func13
  f14 := Try.func14
  f15 := Try.func15
  f16 := Try.func16
  f17 := Try.func17
  f18 := Try.func18
  f19 := Try.func19
  f20 := Try.func20
  f21 := Try.func21
  f22 := Try.func22
  f23 := Try.func23
  f24 := Try.func24
  f25 := Try.func25
  f26 := Try.func26
  f27 := Try.func27
  f28 := Try.func28
  f29 := Try.func29
  f30 := Try.func30
  f31 := Try.func31
  f32 := Try.func32
  f33 := Try.func33
  f34 := Try.func34
  f35 := Try.func35
  f36 := Try.func36
  f37 := Try.func37
  f38 := Try.func38
  f39 := Try.func39
  f40 := Try.func40
  f41 := Try.func41
  f42 := Try.func42
  f43 := Try.func43
  f44 := Try.func44
  f45 := Try.func45
  f46 := Try.func46
  f47 := Try.func47
  f48 := Try.func48
  f49 := Try.func49
  f50 := Try.func50
  f51 := Try.func51
  f52 := Try.func52
  f53 := Try.func53
  f54 := Try.func54
  f55 := Try.func55
  f56 := Try.func56
  f57 := Try.func57
end Go.Proofs.Ytnnpahcanpakcaa
