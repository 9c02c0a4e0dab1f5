/- The facts about types and functions that the walks of this seat use, and that its program has them. -/
import Derived.Test.YthkngfomanhmnaaAlLib
import Derived.Test.YthkngfomanhmnaaProg
import Derived.KernelRfl
namespace Go.Proofs.Ythkngfomanhmnaa
open Go.AL

class Facts (P : Program) : Prop where
  u2 : P.underlying 2 = some (.int .i64)
  s2 : isSliceT P 2 = false
  t2 : isStrT P 2 = false
  h2 : hasU P 2 = true
  i2 : intT P 2 = some .i64
  c2 : P.cellsOf 2 = 1
  a2 : aggT P 2 = false
  z2 : zbox P 2 = some (A.int .i64 0, 8)
  u3 : P.underlying 3 = some (.int .i64)
  s3 : isSliceT P 3 = false
  t3 : isStrT P 3 = false
  h3 : hasU P 3 = true
  i3 : intT P 3 = some .i64
  c3 : P.cellsOf 3 = 1
  a3 : aggT P 3 = false
  z3 : zbox P 3 = some (A.int .i64 0, 8)
  u4 : P.underlying 4 = some (.bool)
  s4 : isSliceT P 4 = false
  t4 : isStrT P 4 = false
  h4 : hasU P 4 = true
  d4 : isBoolT P 4 = true
  c4 : P.cellsOf 4 = 1
  a4 : aggT P 4 = false
  z4 : zbox P 4 = some (A.bool false, 1)
  u5 : P.underlying 5 = some (.int .u8)
  s5 : isSliceT P 5 = false
  t5 : isStrT P 5 = false
  h5 : hasU P 5 = true
  i5 : intT P 5 = some .u8
  c5 : P.cellsOf 5 = 1
  a5 : aggT P 5 = false
  z5 : zbox P 5 = some (A.int .u8 0, 1)
  u9 : P.underlying 9 = some (.string)
  s9 : isSliceT P 9 = false
  t9 : isStrT P 9 = true
  h9 : hasU P 9 = true
  c9 : P.cellsOf 9 = 1
  a9 : aggT P 9 = false
  z9 : zbox P 9 = some (A.str [], 16)
  u12 : P.underlying 12 = some (.int .u64)
  s12 : isSliceT P 12 = false
  t12 : isStrT P 12 = false
  h12 : hasU P 12 = true
  i12 : intT P 12 = some .u64
  c12 : P.cellsOf 12 = 1
  a12 : aggT P 12 = false
  z12 : zbox P 12 = some (A.int .u64 0, 8)
  u21 : P.underlying 21 = some (.int .i32)
  s21 : isSliceT P 21 = false
  t21 : isStrT P 21 = false
  h21 : hasU P 21 = true
  i21 : intT P 21 = some .i32
  c21 : P.cellsOf 21 = 1
  a21 : aggT P 21 = false
  z21 : zbox P 21 = some (A.int .i32 0, 4)
  u22 : P.underlying 22 = some (.slice 3)
  s22 : isSliceT P 22 = true
  l22 : selem P 22 = 3
  t22 : isStrT P 22 = false
  h22 : hasU P 22 = true
  c22 : P.cellsOf 22 = 1
  a22 : aggT P 22 = false
  z22 : zbox P 22 = some (A.sl true [], 24)
  g23_0 : fld P 23 0 = some (3, 0)
  g23_1 : fld P 23 1 = some (3, 1)
  g23_2 : fld P 23 2 = some (22, 2)
  g23_3 : fld P 23 3 = some (3, 3)
  g23_4 : fld P 23 4 = some (3, 4)
  s23 : isSliceT P 23 = false
  t23 : isStrT P 23 = false
  h23 : hasU P 23 = true
  w23 : ftl P 23 = some [(3, 0), (3, 1), (22, 2), (3, 3), (3, 4)]
  c23 : P.cellsOf 23 = 5
  a23 : aggT P 23 = true
  z23 : zbox P 23 = some (A.agg [A.int .i64 0, A.int .i64 0, A.sl true [], A.int .i64 0, A.int .i64 0], 56)
  b23 : bplan P 23 = some ([A.int .i64 0, A.int .i64 0, A.sl true [], A.int .i64 0, A.int .i64 0], [(0, 1), (1, 1), (2, 1), (3, 1), (4, 1)])
  g24_0 : fld P 24 0 = some (3, 0)
  g24_1 : fld P 24 1 = some (3, 1)
  g24_2 : fld P 24 2 = some (22, 2)
  g24_3 : fld P 24 3 = some (3, 3)
  g24_4 : fld P 24 4 = some (3, 4)
  s24 : isSliceT P 24 = false
  t24 : isStrT P 24 = false
  h24 : hasU P 24 = true
  w24 : ftl P 24 = some [(3, 0), (3, 1), (22, 2), (3, 3), (3, 4)]
  c24 : P.cellsOf 24 = 5
  a24 : aggT P 24 = true
  z24 : zbox P 24 = some (A.agg [A.int .i64 0, A.int .i64 0, A.sl true [], A.int .i64 0, A.int .i64 0], 56)
  b24 : bplan P 24 = some ([A.int .i64 0, A.int .i64 0, A.sl true [], A.int .i64 0, A.int .i64 0], [(0, 1), (1, 1), (2, 1), (3, 1), (4, 1)])
  u27 : P.underlying 27 = some (.int .i64)
  s27 : isSliceT P 27 = false
  t27 : isStrT P 27 = false
  h27 : hasU P 27 = true
  i27 : intT P 27 = some .i64
  c27 : P.cellsOf 27 = 1
  a27 : aggT P 27 = false
  z27 : zbox P 27 = some (A.int .i64 0, 8)
  u59 : P.underlying 59 = some (.array 0 16)
  s59 : isSliceT P 59 = false
  t59 : isStrT P 59 = false
  r59 : arrT P 59 = some (0, 16)
  h59 : hasU P 59 = true
  n59 : bplan P 59 = none
  c59 : P.cellsOf 59 = 0
  a59 : aggT P 59 = true
  z59 : zbox P 59 = some (A.agg [], 0)
  b59 : aplan P 59 = some ([], 1)
  u63 : P.underlying 63 = some (.int .u32)
  s63 : isSliceT P 63 = false
  t63 : isStrT P 63 = false
  h63 : hasU P 63 = true
  i63 : intT P 63 = some .u32
  c63 : P.cellsOf 63 = 1
  a63 : aggT P 63 = false
  z63 : zbox P 63 = some (A.int .u32 0, 4)
  g70_0 : fld P 70 0 = some (12, 0)
  g70_1 : fld P 70 1 = some (12, 1)
  g70_2 : fld P 70 2 = some (63, 2)
  g70_3 : fld P 70 3 = some (64, 3)
  g70_4 : fld P 70 4 = some (5, 4)
  g70_5 : fld P 70 5 = some (5, 5)
  g70_6 : fld P 70 6 = some (65, 6)
  g70_7 : fld P 70 7 = some (66, 7)
  g70_8 : fld P 70 8 = some (67, 8)
  g70_9 : fld P 70 9 = some (68, 9)
  g70_10 : fld P 70 10 = some (69, 10)
  s70 : isSliceT P 70 = false
  t70 : isStrT P 70 = false
  h70 : hasU P 70 = true
  w70 : ftl P 70 = some [(12, 0), (12, 1), (63, 2), (64, 3), (5, 4), (5, 5), (65, 6), (66, 7), (67, 8), (68, 9), (69, 10)]
  c70 : P.cellsOf 70 = 11
  a70 : aggT P 70 = true
  z70 : zbox P 70 = some (A.agg [A.int .u64 0, A.int .u64 0, A.int .u32 0, A.int .u8 0, A.int .u8 0, A.int .u8 0, A.int .u8 0, A.nfn, A.nptr, A.int .i32 0, A.int .i32 0], 48)
  mo : P.follows .mixedOrders = true
  f0 : P.funcs[0]? = some Try.f0
  f1 : P.funcs[1]? = some Try.f1
  f2 : P.funcs[2]? = some Try.f2
  f3 : P.funcs[3]? = some Try.f3
  f4 : P.funcs[4]? = some Try.f4
  f5 : P.funcs[5]? = some Try.f5
  f6 : P.funcs[6]? = some Try.f6
  f7 : P.funcs[7]? = some Try.f7
  f8 : P.funcs[8]? = some Try.f8
  f9 : P.funcs[9]? = some Try.f9
  f10 : P.funcs[10]? = some Try.f10
  f11 : P.funcs[11]? = some Try.f11
  f12 : P.funcs[12]? = some Try.f12
  f13 : P.funcs[13]? = some Try.f13
  f14 : P.funcs[14]? = some Try.f14
  f15 : P.funcs[15]? = some Try.f15
  f16 : P.funcs[16]? = some Try.f16
  f17 : P.funcs[17]? = some Try.f17
  f18 : P.funcs[18]? = some Try.f18
  f19 : P.funcs[19]? = some Try.f19
  f20 : P.funcs[20]? = some Try.f20
  f21 : P.funcs[21]? = some Try.f21
  f22 : P.funcs[22]? = some Try.f22
  f23 : P.funcs[23]? = some Try.f23
  f24 : P.funcs[24]? = some Try.f24
  f25 : P.funcs[25]? = some Try.f25
  f26 : P.funcs[26]? = some Try.f26
  f27 : P.funcs[27]? = some Try.f27
  f28 : P.funcs[28]? = some Try.f28
  f29 : P.funcs[29]? = some Try.f29
  f30 : P.funcs[30]? = some Try.f30
  f31 : P.funcs[31]? = some Try.f31
  f32 : P.funcs[32]? = some Try.f32
  f33 : P.funcs[33]? = some Try.f33
  f34 : P.funcs[34]? = some Try.f34
  f35 : P.funcs[35]? = some Try.f35
  f36 : P.funcs[36]? = some Try.f36
  f37 : P.funcs[37]? = some Try.f37
  f38 : P.funcs[38]? = some Try.f38
  f39 : P.funcs[39]? = some Try.f39
  f40 : P.funcs[40]? = some Try.f40
  f41 : P.funcs[41]? = some Try.f41
  f42 : P.funcs[42]? = some Try.f42
  f43 : P.funcs[43]? = some Try.f43
  f44 : P.funcs[44]? = some Try.f44
  f45 : P.funcs[45]? = some Try.f45
  f46 : P.funcs[46]? = some Try.f46
  f47 : P.funcs[47]? = some Try.f47
  f48 : P.funcs[48]? = some Try.f48
  f49 : P.funcs[49]? = some Try.f49
  f50 : P.funcs[50]? = some Try.f50
  f51 : P.funcs[51]? = some Try.f51
  f52 : P.funcs[52]? = some Try.f52
  f53 : P.funcs[53]? = some Try.f53
  f54 : P.funcs[54]? = some Try.f54
  f55 : P.funcs[55]? = some Try.f55
  f56 : P.funcs[56]? = some Try.f56

section
variable {P : Program}
@[simp] theorem u2_ [h : Facts P] : P.underlying 2 = some (.int .i64) := h.u2
@[simp] theorem s2_ [h : Facts P] : isSliceT P 2 = false := h.s2
@[simp] theorem t2_ [h : Facts P] : isStrT P 2 = false := h.t2
@[simp] theorem h2_ [h : Facts P] : hasU P 2 = true := h.h2
@[simp] theorem i2_ [h : Facts P] : intT P 2 = some .i64 := h.i2
@[simp] theorem c2_ [h : Facts P] : P.cellsOf 2 = 1 := h.c2
@[simp] theorem a2_ [h : Facts P] : aggT P 2 = false := h.a2
@[simp] theorem z2_ [h : Facts P] : zbox P 2 = some (A.int .i64 0, 8) := h.z2
@[simp] theorem u3_ [h : Facts P] : P.underlying 3 = some (.int .i64) := h.u3
@[simp] theorem s3_ [h : Facts P] : isSliceT P 3 = false := h.s3
@[simp] theorem t3_ [h : Facts P] : isStrT P 3 = false := h.t3
@[simp] theorem h3_ [h : Facts P] : hasU P 3 = true := h.h3
@[simp] theorem i3_ [h : Facts P] : intT P 3 = some .i64 := h.i3
@[simp] theorem c3_ [h : Facts P] : P.cellsOf 3 = 1 := h.c3
@[simp] theorem a3_ [h : Facts P] : aggT P 3 = false := h.a3
@[simp] theorem z3_ [h : Facts P] : zbox P 3 = some (A.int .i64 0, 8) := h.z3
@[simp] theorem u4_ [h : Facts P] : P.underlying 4 = some (.bool) := h.u4
@[simp] theorem s4_ [h : Facts P] : isSliceT P 4 = false := h.s4
@[simp] theorem t4_ [h : Facts P] : isStrT P 4 = false := h.t4
@[simp] theorem h4_ [h : Facts P] : hasU P 4 = true := h.h4
@[simp] theorem d4_ [h : Facts P] : isBoolT P 4 = true := h.d4
@[simp] theorem c4_ [h : Facts P] : P.cellsOf 4 = 1 := h.c4
@[simp] theorem a4_ [h : Facts P] : aggT P 4 = false := h.a4
@[simp] theorem z4_ [h : Facts P] : zbox P 4 = some (A.bool false, 1) := h.z4
@[simp] theorem u5_ [h : Facts P] : P.underlying 5 = some (.int .u8) := h.u5
@[simp] theorem s5_ [h : Facts P] : isSliceT P 5 = false := h.s5
@[simp] theorem t5_ [h : Facts P] : isStrT P 5 = false := h.t5
@[simp] theorem h5_ [h : Facts P] : hasU P 5 = true := h.h5
@[simp] theorem i5_ [h : Facts P] : intT P 5 = some .u8 := h.i5
@[simp] theorem c5_ [h : Facts P] : P.cellsOf 5 = 1 := h.c5
@[simp] theorem a5_ [h : Facts P] : aggT P 5 = false := h.a5
@[simp] theorem z5_ [h : Facts P] : zbox P 5 = some (A.int .u8 0, 1) := h.z5
@[simp] theorem u9_ [h : Facts P] : P.underlying 9 = some (.string) := h.u9
@[simp] theorem s9_ [h : Facts P] : isSliceT P 9 = false := h.s9
@[simp] theorem t9_ [h : Facts P] : isStrT P 9 = true := h.t9
@[simp] theorem h9_ [h : Facts P] : hasU P 9 = true := h.h9
@[simp] theorem c9_ [h : Facts P] : P.cellsOf 9 = 1 := h.c9
@[simp] theorem a9_ [h : Facts P] : aggT P 9 = false := h.a9
@[simp] theorem z9_ [h : Facts P] : zbox P 9 = some (A.str [], 16) := h.z9
@[simp] theorem u12_ [h : Facts P] : P.underlying 12 = some (.int .u64) := h.u12
@[simp] theorem s12_ [h : Facts P] : isSliceT P 12 = false := h.s12
@[simp] theorem t12_ [h : Facts P] : isStrT P 12 = false := h.t12
@[simp] theorem h12_ [h : Facts P] : hasU P 12 = true := h.h12
@[simp] theorem i12_ [h : Facts P] : intT P 12 = some .u64 := h.i12
@[simp] theorem c12_ [h : Facts P] : P.cellsOf 12 = 1 := h.c12
@[simp] theorem a12_ [h : Facts P] : aggT P 12 = false := h.a12
@[simp] theorem z12_ [h : Facts P] : zbox P 12 = some (A.int .u64 0, 8) := h.z12
@[simp] theorem u21_ [h : Facts P] : P.underlying 21 = some (.int .i32) := h.u21
@[simp] theorem s21_ [h : Facts P] : isSliceT P 21 = false := h.s21
@[simp] theorem t21_ [h : Facts P] : isStrT P 21 = false := h.t21
@[simp] theorem h21_ [h : Facts P] : hasU P 21 = true := h.h21
@[simp] theorem i21_ [h : Facts P] : intT P 21 = some .i32 := h.i21
@[simp] theorem c21_ [h : Facts P] : P.cellsOf 21 = 1 := h.c21
@[simp] theorem a21_ [h : Facts P] : aggT P 21 = false := h.a21
@[simp] theorem z21_ [h : Facts P] : zbox P 21 = some (A.int .i32 0, 4) := h.z21
@[simp] theorem u22_ [h : Facts P] : P.underlying 22 = some (.slice 3) := h.u22
@[simp] theorem s22_ [h : Facts P] : isSliceT P 22 = true := h.s22
@[simp] theorem l22_ [h : Facts P] : selem P 22 = 3 := h.l22
@[simp] theorem t22_ [h : Facts P] : isStrT P 22 = false := h.t22
@[simp] theorem h22_ [h : Facts P] : hasU P 22 = true := h.h22
@[simp] theorem c22_ [h : Facts P] : P.cellsOf 22 = 1 := h.c22
@[simp] theorem a22_ [h : Facts P] : aggT P 22 = false := h.a22
@[simp] theorem z22_ [h : Facts P] : zbox P 22 = some (A.sl true [], 24) := h.z22
@[simp] theorem g23_0_ [h : Facts P] : fld P 23 0 = some (3, 0) := h.g23_0
@[simp] theorem g23_1_ [h : Facts P] : fld P 23 1 = some (3, 1) := h.g23_1
@[simp] theorem g23_2_ [h : Facts P] : fld P 23 2 = some (22, 2) := h.g23_2
@[simp] theorem g23_3_ [h : Facts P] : fld P 23 3 = some (3, 3) := h.g23_3
@[simp] theorem g23_4_ [h : Facts P] : fld P 23 4 = some (3, 4) := h.g23_4
@[simp] theorem s23_ [h : Facts P] : isSliceT P 23 = false := h.s23
@[simp] theorem t23_ [h : Facts P] : isStrT P 23 = false := h.t23
@[simp] theorem h23_ [h : Facts P] : hasU P 23 = true := h.h23
@[simp] theorem w23_ [h : Facts P] : ftl P 23 = some [(3, 0), (3, 1), (22, 2), (3, 3), (3, 4)] := h.w23
@[simp] theorem c23_ [h : Facts P] : P.cellsOf 23 = 5 := h.c23
@[simp] theorem a23_ [h : Facts P] : aggT P 23 = true := h.a23
@[simp] theorem z23_ [h : Facts P] : zbox P 23 = some (A.agg [A.int .i64 0, A.int .i64 0, A.sl true [], A.int .i64 0, A.int .i64 0], 56) := h.z23
@[simp] theorem b23_ [h : Facts P] : bplan P 23 = some ([A.int .i64 0, A.int .i64 0, A.sl true [], A.int .i64 0, A.int .i64 0], [(0, 1), (1, 1), (2, 1), (3, 1), (4, 1)]) := h.b23
@[simp] theorem g24_0_ [h : Facts P] : fld P 24 0 = some (3, 0) := h.g24_0
@[simp] theorem g24_1_ [h : Facts P] : fld P 24 1 = some (3, 1) := h.g24_1
@[simp] theorem g24_2_ [h : Facts P] : fld P 24 2 = some (22, 2) := h.g24_2
@[simp] theorem g24_3_ [h : Facts P] : fld P 24 3 = some (3, 3) := h.g24_3
@[simp] theorem g24_4_ [h : Facts P] : fld P 24 4 = some (3, 4) := h.g24_4
@[simp] theorem s24_ [h : Facts P] : isSliceT P 24 = false := h.s24
@[simp] theorem t24_ [h : Facts P] : isStrT P 24 = false := h.t24
@[simp] theorem h24_ [h : Facts P] : hasU P 24 = true := h.h24
@[simp] theorem w24_ [h : Facts P] : ftl P 24 = some [(3, 0), (3, 1), (22, 2), (3, 3), (3, 4)] := h.w24
@[simp] theorem c24_ [h : Facts P] : P.cellsOf 24 = 5 := h.c24
@[simp] theorem a24_ [h : Facts P] : aggT P 24 = true := h.a24
@[simp] theorem z24_ [h : Facts P] : zbox P 24 = some (A.agg [A.int .i64 0, A.int .i64 0, A.sl true [], A.int .i64 0, A.int .i64 0], 56) := h.z24
@[simp] theorem b24_ [h : Facts P] : bplan P 24 = some ([A.int .i64 0, A.int .i64 0, A.sl true [], A.int .i64 0, A.int .i64 0], [(0, 1), (1, 1), (2, 1), (3, 1), (4, 1)]) := h.b24
@[simp] theorem u27_ [h : Facts P] : P.underlying 27 = some (.int .i64) := h.u27
@[simp] theorem s27_ [h : Facts P] : isSliceT P 27 = false := h.s27
@[simp] theorem t27_ [h : Facts P] : isStrT P 27 = false := h.t27
@[simp] theorem h27_ [h : Facts P] : hasU P 27 = true := h.h27
@[simp] theorem i27_ [h : Facts P] : intT P 27 = some .i64 := h.i27
@[simp] theorem c27_ [h : Facts P] : P.cellsOf 27 = 1 := h.c27
@[simp] theorem a27_ [h : Facts P] : aggT P 27 = false := h.a27
@[simp] theorem z27_ [h : Facts P] : zbox P 27 = some (A.int .i64 0, 8) := h.z27
@[simp] theorem u59_ [h : Facts P] : P.underlying 59 = some (.array 0 16) := h.u59
@[simp] theorem s59_ [h : Facts P] : isSliceT P 59 = false := h.s59
@[simp] theorem t59_ [h : Facts P] : isStrT P 59 = false := h.t59
@[simp] theorem r59_ [h : Facts P] : arrT P 59 = some (0, 16) := h.r59
@[simp] theorem h59_ [h : Facts P] : hasU P 59 = true := h.h59
@[simp] theorem n59_ [h : Facts P] : bplan P 59 = none := h.n59
@[simp] theorem c59_ [h : Facts P] : P.cellsOf 59 = 0 := h.c59
@[simp] theorem a59_ [h : Facts P] : aggT P 59 = true := h.a59
@[simp] theorem z59_ [h : Facts P] : zbox P 59 = some (A.agg [], 0) := h.z59
@[simp] theorem b59_ [h : Facts P] : aplan P 59 = some ([], 1) := h.b59
@[simp] theorem u63_ [h : Facts P] : P.underlying 63 = some (.int .u32) := h.u63
@[simp] theorem s63_ [h : Facts P] : isSliceT P 63 = false := h.s63
@[simp] theorem t63_ [h : Facts P] : isStrT P 63 = false := h.t63
@[simp] theorem h63_ [h : Facts P] : hasU P 63 = true := h.h63
@[simp] theorem i63_ [h : Facts P] : intT P 63 = some .u32 := h.i63
@[simp] theorem c63_ [h : Facts P] : P.cellsOf 63 = 1 := h.c63
@[simp] theorem a63_ [h : Facts P] : aggT P 63 = false := h.a63
@[simp] theorem z63_ [h : Facts P] : zbox P 63 = some (A.int .u32 0, 4) := h.z63
@[simp] theorem g70_0_ [h : Facts P] : fld P 70 0 = some (12, 0) := h.g70_0
@[simp] theorem g70_1_ [h : Facts P] : fld P 70 1 = some (12, 1) := h.g70_1
@[simp] theorem g70_2_ [h : Facts P] : fld P 70 2 = some (63, 2) := h.g70_2
@[simp] theorem g70_3_ [h : Facts P] : fld P 70 3 = some (64, 3) := h.g70_3
@[simp] theorem g70_4_ [h : Facts P] : fld P 70 4 = some (5, 4) := h.g70_4
@[simp] theorem g70_5_ [h : Facts P] : fld P 70 5 = some (5, 5) := h.g70_5
@[simp] theorem g70_6_ [h : Facts P] : fld P 70 6 = some (65, 6) := h.g70_6
@[simp] theorem g70_7_ [h : Facts P] : fld P 70 7 = some (66, 7) := h.g70_7
@[simp] theorem g70_8_ [h : Facts P] : fld P 70 8 = some (67, 8) := h.g70_8
@[simp] theorem g70_9_ [h : Facts P] : fld P 70 9 = some (68, 9) := h.g70_9
@[simp] theorem g70_10_ [h : Facts P] : fld P 70 10 = some (69, 10) := h.g70_10
@[simp] theorem s70_ [h : Facts P] : isSliceT P 70 = false := h.s70
@[simp] theorem t70_ [h : Facts P] : isStrT P 70 = false := h.t70
@[simp] theorem h70_ [h : Facts P] : hasU P 70 = true := h.h70
@[simp] theorem w70_ [h : Facts P] : ftl P 70 = some [(12, 0), (12, 1), (63, 2), (64, 3), (5, 4), (5, 5), (65, 6), (66, 7), (67, 8), (68, 9), (69, 10)] := h.w70
@[simp] theorem c70_ [h : Facts P] : P.cellsOf 70 = 11 := h.c70
@[simp] theorem a70_ [h : Facts P] : aggT P 70 = true := h.a70
@[simp] theorem z70_ [h : Facts P] : zbox P 70 = some (A.agg [A.int .u64 0, A.int .u64 0, A.int .u32 0, A.int .u8 0, A.int .u8 0, A.int .u8 0, A.int .u8 0, A.nfn, A.nptr, A.int .i32 0, A.int .i32 0], 48) := h.z70
end

theorem has_u2 : Try.prog.underlying 2 = some (.int .i64) := by kernel_rfl
theorem has_s2 : isSliceT Try.prog 2 = false := by kernel_rfl
theorem has_t2 : isStrT Try.prog 2 = false := by kernel_rfl
theorem has_h2 : hasU Try.prog 2 = true := by kernel_rfl
theorem has_i2 : intT Try.prog 2 = some .i64 := by kernel_rfl
theorem has_c2 : Try.prog.cellsOf 2 = 1 := by kernel_rfl
theorem has_a2 : aggT Try.prog 2 = false := by kernel_rfl
theorem has_z2 : zbox Try.prog 2 = some (A.int .i64 0, 8) := by kernel_rfl
theorem has_u3 : Try.prog.underlying 3 = some (.int .i64) := by kernel_rfl
theorem has_s3 : isSliceT Try.prog 3 = false := by kernel_rfl
theorem has_t3 : isStrT Try.prog 3 = false := by kernel_rfl
theorem has_h3 : hasU Try.prog 3 = true := by kernel_rfl
theorem has_i3 : intT Try.prog 3 = some .i64 := by kernel_rfl
theorem has_c3 : Try.prog.cellsOf 3 = 1 := by kernel_rfl
theorem has_a3 : aggT Try.prog 3 = false := by kernel_rfl
theorem has_z3 : zbox Try.prog 3 = some (A.int .i64 0, 8) := by kernel_rfl
theorem has_u4 : Try.prog.underlying 4 = some (.bool) := by kernel_rfl
theorem has_s4 : isSliceT Try.prog 4 = false := by kernel_rfl
theorem has_t4 : isStrT Try.prog 4 = false := by kernel_rfl
theorem has_h4 : hasU Try.prog 4 = true := by kernel_rfl
theorem has_d4 : isBoolT Try.prog 4 = true := by kernel_rfl
theorem has_c4 : Try.prog.cellsOf 4 = 1 := by kernel_rfl
theorem has_a4 : aggT Try.prog 4 = false := by kernel_rfl
theorem has_z4 : zbox Try.prog 4 = some (A.bool false, 1) := by kernel_rfl
theorem has_u5 : Try.prog.underlying 5 = some (.int .u8) := by kernel_rfl
theorem has_s5 : isSliceT Try.prog 5 = false := by kernel_rfl
theorem has_t5 : isStrT Try.prog 5 = false := by kernel_rfl
theorem has_h5 : hasU Try.prog 5 = true := by kernel_rfl
theorem has_i5 : intT Try.prog 5 = some .u8 := by kernel_rfl
theorem has_c5 : Try.prog.cellsOf 5 = 1 := by kernel_rfl
theorem has_a5 : aggT Try.prog 5 = false := by kernel_rfl
theorem has_z5 : zbox Try.prog 5 = some (A.int .u8 0, 1) := by kernel_rfl
theorem has_u9 : Try.prog.underlying 9 = some (.string) := by kernel_rfl
theorem has_s9 : isSliceT Try.prog 9 = false := by kernel_rfl
theorem has_t9 : isStrT Try.prog 9 = true := by kernel_rfl
theorem has_h9 : hasU Try.prog 9 = true := by kernel_rfl
theorem has_c9 : Try.prog.cellsOf 9 = 1 := by kernel_rfl
theorem has_a9 : aggT Try.prog 9 = false := by kernel_rfl
theorem has_z9 : zbox Try.prog 9 = some (A.str [], 16) := by kernel_rfl
theorem has_u12 : Try.prog.underlying 12 = some (.int .u64) := by kernel_rfl
theorem has_s12 : isSliceT Try.prog 12 = false := by kernel_rfl
theorem has_t12 : isStrT Try.prog 12 = false := by kernel_rfl
theorem has_h12 : hasU Try.prog 12 = true := by kernel_rfl
theorem has_i12 : intT Try.prog 12 = some .u64 := by kernel_rfl
theorem has_c12 : Try.prog.cellsOf 12 = 1 := by kernel_rfl
theorem has_a12 : aggT Try.prog 12 = false := by kernel_rfl
theorem has_z12 : zbox Try.prog 12 = some (A.int .u64 0, 8) := by kernel_rfl
theorem has_u21 : Try.prog.underlying 21 = some (.int .i32) := by kernel_rfl
theorem has_s21 : isSliceT Try.prog 21 = false := by kernel_rfl
theorem has_t21 : isStrT Try.prog 21 = false := by kernel_rfl
theorem has_h21 : hasU Try.prog 21 = true := by kernel_rfl
theorem has_i21 : intT Try.prog 21 = some .i32 := by kernel_rfl
theorem has_c21 : Try.prog.cellsOf 21 = 1 := by kernel_rfl
theorem has_a21 : aggT Try.prog 21 = false := by kernel_rfl
theorem has_z21 : zbox Try.prog 21 = some (A.int .i32 0, 4) := by kernel_rfl
theorem has_u22 : Try.prog.underlying 22 = some (.slice 3) := by kernel_rfl
theorem has_s22 : isSliceT Try.prog 22 = true := by kernel_rfl
theorem has_l22 : selem Try.prog 22 = 3 := by kernel_rfl
theorem has_t22 : isStrT Try.prog 22 = false := by kernel_rfl
theorem has_h22 : hasU Try.prog 22 = true := by kernel_rfl
theorem has_c22 : Try.prog.cellsOf 22 = 1 := by kernel_rfl
theorem has_a22 : aggT Try.prog 22 = false := by kernel_rfl
theorem has_z22 : zbox Try.prog 22 = some (A.sl true [], 24) := by kernel_rfl
theorem has_g23_0 : fld Try.prog 23 0 = some (3, 0) := by kernel_rfl
theorem has_g23_1 : fld Try.prog 23 1 = some (3, 1) := by kernel_rfl
theorem has_g23_2 : fld Try.prog 23 2 = some (22, 2) := by kernel_rfl
theorem has_g23_3 : fld Try.prog 23 3 = some (3, 3) := by kernel_rfl
theorem has_g23_4 : fld Try.prog 23 4 = some (3, 4) := by kernel_rfl
theorem has_s23 : isSliceT Try.prog 23 = false := by kernel_rfl
theorem has_t23 : isStrT Try.prog 23 = false := by kernel_rfl
theorem has_h23 : hasU Try.prog 23 = true := by kernel_rfl
theorem has_w23 : ftl Try.prog 23 = some [(3, 0), (3, 1), (22, 2), (3, 3), (3, 4)] := by kernel_rfl
theorem has_c23 : Try.prog.cellsOf 23 = 5 := by kernel_rfl
theorem has_a23 : aggT Try.prog 23 = true := by kernel_rfl
theorem has_z23 : zbox Try.prog 23 = some (A.agg [A.int .i64 0, A.int .i64 0, A.sl true [], A.int .i64 0, A.int .i64 0], 56) := by kernel_rfl
theorem has_b23 : bplan Try.prog 23 = some ([A.int .i64 0, A.int .i64 0, A.sl true [], A.int .i64 0, A.int .i64 0], [(0, 1), (1, 1), (2, 1), (3, 1), (4, 1)]) := by kernel_rfl
theorem has_g24_0 : fld Try.prog 24 0 = some (3, 0) := by kernel_rfl
theorem has_g24_1 : fld Try.prog 24 1 = some (3, 1) := by kernel_rfl
theorem has_g24_2 : fld Try.prog 24 2 = some (22, 2) := by kernel_rfl
theorem has_g24_3 : fld Try.prog 24 3 = some (3, 3) := by kernel_rfl
theorem has_g24_4 : fld Try.prog 24 4 = some (3, 4) := by kernel_rfl
theorem has_s24 : isSliceT Try.prog 24 = false := by kernel_rfl
theorem has_t24 : isStrT Try.prog 24 = false := by kernel_rfl
theorem has_h24 : hasU Try.prog 24 = true := by kernel_rfl
theorem has_w24 : ftl Try.prog 24 = some [(3, 0), (3, 1), (22, 2), (3, 3), (3, 4)] := by kernel_rfl
theorem has_c24 : Try.prog.cellsOf 24 = 5 := by kernel_rfl
theorem has_a24 : aggT Try.prog 24 = true := by kernel_rfl
theorem has_z24 : zbox Try.prog 24 = some (A.agg [A.int .i64 0, A.int .i64 0, A.sl true [], A.int .i64 0, A.int .i64 0], 56) := by kernel_rfl
theorem has_b24 : bplan Try.prog 24 = some ([A.int .i64 0, A.int .i64 0, A.sl true [], A.int .i64 0, A.int .i64 0], [(0, 1), (1, 1), (2, 1), (3, 1), (4, 1)]) := by kernel_rfl
theorem has_u27 : Try.prog.underlying 27 = some (.int .i64) := by kernel_rfl
theorem has_s27 : isSliceT Try.prog 27 = false := by kernel_rfl
theorem has_t27 : isStrT Try.prog 27 = false := by kernel_rfl
theorem has_h27 : hasU Try.prog 27 = true := by kernel_rfl
theorem has_i27 : intT Try.prog 27 = some .i64 := by kernel_rfl
theorem has_c27 : Try.prog.cellsOf 27 = 1 := by kernel_rfl
theorem has_a27 : aggT Try.prog 27 = false := by kernel_rfl
theorem has_z27 : zbox Try.prog 27 = some (A.int .i64 0, 8) := by kernel_rfl
theorem has_u59 : Try.prog.underlying 59 = some (.array 0 16) := by kernel_rfl
theorem has_s59 : isSliceT Try.prog 59 = false := by kernel_rfl
theorem has_t59 : isStrT Try.prog 59 = false := by kernel_rfl
theorem has_r59 : arrT Try.prog 59 = some (0, 16) := by kernel_rfl
theorem has_h59 : hasU Try.prog 59 = true := by kernel_rfl
theorem has_n59 : bplan Try.prog 59 = none := by kernel_rfl
theorem has_c59 : Try.prog.cellsOf 59 = 0 := by kernel_rfl
theorem has_a59 : aggT Try.prog 59 = true := by kernel_rfl
theorem has_z59 : zbox Try.prog 59 = some (A.agg [], 0) := by kernel_rfl
theorem has_b59 : aplan Try.prog 59 = some ([], 1) := by kernel_rfl
theorem has_u63 : Try.prog.underlying 63 = some (.int .u32) := by kernel_rfl
theorem has_s63 : isSliceT Try.prog 63 = false := by kernel_rfl
theorem has_t63 : isStrT Try.prog 63 = false := by kernel_rfl
theorem has_h63 : hasU Try.prog 63 = true := by kernel_rfl
theorem has_i63 : intT Try.prog 63 = some .u32 := by kernel_rfl
theorem has_c63 : Try.prog.cellsOf 63 = 1 := by kernel_rfl
theorem has_a63 : aggT Try.prog 63 = false := by kernel_rfl
theorem has_z63 : zbox Try.prog 63 = some (A.int .u32 0, 4) := by kernel_rfl
theorem has_g70_0 : fld Try.prog 70 0 = some (12, 0) := by kernel_rfl
theorem has_g70_1 : fld Try.prog 70 1 = some (12, 1) := by kernel_rfl
theorem has_g70_2 : fld Try.prog 70 2 = some (63, 2) := by kernel_rfl
theorem has_g70_3 : fld Try.prog 70 3 = some (64, 3) := by kernel_rfl
theorem has_g70_4 : fld Try.prog 70 4 = some (5, 4) := by kernel_rfl
theorem has_g70_5 : fld Try.prog 70 5 = some (5, 5) := by kernel_rfl
theorem has_g70_6 : fld Try.prog 70 6 = some (65, 6) := by kernel_rfl
theorem has_g70_7 : fld Try.prog 70 7 = some (66, 7) := by kernel_rfl
theorem has_g70_8 : fld Try.prog 70 8 = some (67, 8) := by kernel_rfl
theorem has_g70_9 : fld Try.prog 70 9 = some (68, 9) := by kernel_rfl
theorem has_g70_10 : fld Try.prog 70 10 = some (69, 10) := by kernel_rfl
theorem has_s70 : isSliceT Try.prog 70 = false := by kernel_rfl
theorem has_t70 : isStrT Try.prog 70 = false := by kernel_rfl
theorem has_h70 : hasU Try.prog 70 = true := by kernel_rfl
theorem has_w70 : ftl Try.prog 70 = some [(12, 0), (12, 1), (63, 2), (64, 3), (5, 4), (5, 5), (65, 6), (66, 7), (67, 8), (68, 9), (69, 10)] := by kernel_rfl
theorem has_c70 : Try.prog.cellsOf 70 = 11 := by kernel_rfl
theorem has_a70 : aggT Try.prog 70 = true := by kernel_rfl
theorem has_z70 : zbox Try.prog 70 = some (A.agg [A.int .u64 0, A.int .u64 0, A.int .u32 0, A.int .u8 0, A.int .u8 0, A.int .u8 0, A.int .u8 0, A.nfn, A.nptr, A.int .i32 0, A.int .i32 0], 48) := by kernel_rfl
theorem has_mo : Try.prog.follows .mixedOrders = true := by kernel_rfl
instance facts : Facts Try.prog where
  u2 := has_u2
  s2 := has_s2
  t2 := has_t2
  h2 := has_h2
  i2 := has_i2
  c2 := has_c2
  a2 := has_a2
  z2 := has_z2
  u3 := has_u3
  s3 := has_s3
  t3 := has_t3
  h3 := has_h3
  i3 := has_i3
  c3 := has_c3
  a3 := has_a3
  z3 := has_z3
  u4 := has_u4
  s4 := has_s4
  t4 := has_t4
  h4 := has_h4
  d4 := has_d4
  c4 := has_c4
  a4 := has_a4
  z4 := has_z4
  u5 := has_u5
  s5 := has_s5
  t5 := has_t5
  h5 := has_h5
  i5 := has_i5
  c5 := has_c5
  a5 := has_a5
  z5 := has_z5
  u9 := has_u9
  s9 := has_s9
  t9 := has_t9
  h9 := has_h9
  c9 := has_c9
  a9 := has_a9
  z9 := has_z9
  u12 := has_u12
  s12 := has_s12
  t12 := has_t12
  h12 := has_h12
  i12 := has_i12
  c12 := has_c12
  a12 := has_a12
  z12 := has_z12
  u21 := has_u21
  s21 := has_s21
  t21 := has_t21
  h21 := has_h21
  i21 := has_i21
  c21 := has_c21
  a21 := has_a21
  z21 := has_z21
  u22 := has_u22
  s22 := has_s22
  l22 := has_l22
  t22 := has_t22
  h22 := has_h22
  c22 := has_c22
  a22 := has_a22
  z22 := has_z22
  g23_0 := has_g23_0
  g23_1 := has_g23_1
  g23_2 := has_g23_2
  g23_3 := has_g23_3
  g23_4 := has_g23_4
  s23 := has_s23
  t23 := has_t23
  h23 := has_h23
  w23 := has_w23
  c23 := has_c23
  a23 := has_a23
  z23 := has_z23
  b23 := has_b23
  g24_0 := has_g24_0
  g24_1 := has_g24_1
  g24_2 := has_g24_2
  g24_3 := has_g24_3
  g24_4 := has_g24_4
  s24 := has_s24
  t24 := has_t24
  h24 := has_h24
  w24 := has_w24
  c24 := has_c24
  a24 := has_a24
  z24 := has_z24
  b24 := has_b24
  u27 := has_u27
  s27 := has_s27
  t27 := has_t27
  h27 := has_h27
  i27 := has_i27
  c27 := has_c27
  a27 := has_a27
  z27 := has_z27
  u59 := has_u59
  s59 := has_s59
  t59 := has_t59
  r59 := has_r59
  h59 := has_h59
  n59 := has_n59
  c59 := has_c59
  a59 := has_a59
  z59 := has_z59
  b59 := has_b59
  u63 := has_u63
  s63 := has_s63
  t63 := has_t63
  h63 := has_h63
  i63 := has_i63
  c63 := has_c63
  a63 := has_a63
  z63 := has_z63
  g70_0 := has_g70_0
  g70_1 := has_g70_1
  g70_2 := has_g70_2
  g70_3 := has_g70_3
  g70_4 := has_g70_4
  g70_5 := has_g70_5
  g70_6 := has_g70_6
  g70_7 := has_g70_7
  g70_8 := has_g70_8
  g70_9 := has_g70_9
  g70_10 := has_g70_10
  s70 := has_s70
  t70 := has_t70
  h70 := has_h70
  w70 := has_w70
  c70 := has_c70
  a70 := has_a70
  z70 := has_z70
  mo := has_mo
  f0 := Try.func0
  f1 := Try.func1
  f2 := Try.func2
  f3 := Try.func3
  f4 := Try.func4
  f5 := Try.func5
  f6 := Try.func6
  f7 := Try.func7
  f8 := Try.func8
  f9 := Try.func9
  f10 := Try.func10
  f11 := Try.func11
  f12 := Try.func12
  f13 := Try.func13
  f14 := Try.func14
  f15 := Try.func15
  f16 := Try.func16
  f17 := Try.func17
  f18 := Try.func18
  f19 := Try.func19
  f20 := Try.func20
  f21 := Try.func21
  f22 := Try.func22
  f23 := Try.func23
  f24 := Try.func24
  f25 := Try.func25
  f26 := Try.func26
  f27 := Try.func27
  f28 := Try.func28
  f29 := Try.func29
  f30 := Try.func30
  f31 := Try.func31
  f32 := Try.func32
  f33 := Try.func33
  f34 := Try.func34
  f35 := Try.func35
  f36 := Try.func36
  f37 := Try.func37
  f38 := Try.func38
  f39 := Try.func39
  f40 := Try.func40
  f41 := Try.func41
  f42 := Try.func42
  f43 := Try.func43
  f44 := Try.func44
  f45 := Try.func45
  f46 := Try.func46
  f47 := Try.func47
  f48 := Try.func48
  f49 := Try.func49
  f50 := Try.func50
  f51 := Try.func51
  f52 := Try.func52
  f53 := Try.func53
  f54 := Try.func54
  f55 := Try.func55
  f56 := Try.func56
end Go.Proofs.Ythkngfomanhmnaa
