/- The facts about types and functions that the walks of this seat use, and that its program has them. -/
import Derived.Test.YtmegdnfihhikhaaAlRow
import Derived.Test.YtmegdnfihhikhaaProg
import Derived.KernelRfl
namespace Go.Proofs.Ytmegdnfihhikhaa
open Go.AL

class Facts (P : Program) : Prop where
  u2 : P.underlying 2 = some (.int .i64)
  s2 : isSliceT P 2 = false
  t2 : isStrT P 2 = false
  h2 : hasU P 2 = true
  i2 : intT P 2 = some .i64
  c2 : P.cellsOf 2 = 1
  a2 : aggT P 2 = false
  z2 : zbox P 2 = some (A.int .i64 0, 8)
  u3 : P.underlying 3 = some (.int .i64)
  s3 : isSliceT P 3 = false
  t3 : isStrT P 3 = false
  h3 : hasU P 3 = true
  i3 : intT P 3 = some .i64
  c3 : P.cellsOf 3 = 1
  a3 : aggT P 3 = false
  z3 : zbox P 3 = some (A.int .i64 0, 8)
  u4 : P.underlying 4 = some (.bool)
  s4 : isSliceT P 4 = false
  t4 : isStrT P 4 = false
  h4 : hasU P 4 = true
  d4 : isBoolT P 4 = true
  c4 : P.cellsOf 4 = 1
  a4 : aggT P 4 = false
  z4 : zbox P 4 = some (A.bool false, 1)
  u5 : P.underlying 5 = some (.int .u8)
  s5 : isSliceT P 5 = false
  t5 : isStrT P 5 = false
  h5 : hasU P 5 = true
  i5 : intT P 5 = some .u8
  c5 : P.cellsOf 5 = 1
  a5 : aggT P 5 = false
  z5 : zbox P 5 = some (A.int .u8 0, 1)
  u9 : P.underlying 9 = some (.string)
  s9 : isSliceT P 9 = false
  t9 : isStrT P 9 = true
  h9 : hasU P 9 = true
  c9 : P.cellsOf 9 = 1
  a9 : aggT P 9 = false
  z9 : zbox P 9 = some (A.str [], 16)
  u12 : P.underlying 12 = some (.int .u64)
  s12 : isSliceT P 12 = false
  t12 : isStrT P 12 = false
  h12 : hasU P 12 = true
  i12 : intT P 12 = some .u64
  c12 : P.cellsOf 12 = 1
  a12 : aggT P 12 = false
  z12 : zbox P 12 = some (A.int .u64 0, 8)
  u21 : P.underlying 21 = some (.int .i32)
  s21 : isSliceT P 21 = false
  t21 : isStrT P 21 = false
  h21 : hasU P 21 = true
  i21 : intT P 21 = some .i32
  c21 : P.cellsOf 21 = 1
  a21 : aggT P 21 = false
  z21 : zbox P 21 = some (A.int .i32 0, 4)
  u22 : P.underlying 22 = some (.slice 3)
  s22 : isSliceT P 22 = true
  l22 : selem P 22 = 3
  t22 : isStrT P 22 = false
  h22 : hasU P 22 = true
  c22 : P.cellsOf 22 = 1
  a22 : aggT P 22 = false
  z22 : zbox P 22 = some (A.sl true [], 24)
  u24 : P.underlying 24 = some (.int .i64)
  s24 : isSliceT P 24 = false
  t24 : isStrT P 24 = false
  h24 : hasU P 24 = true
  i24 : intT P 24 = some .i64
  c24 : P.cellsOf 24 = 1
  a24 : aggT P 24 = false
  z24 : zbox P 24 = some (A.int .i64 0, 8)
  u35 : P.underlying 35 = some (.slice 37)
  s35 : isSliceT P 35 = true
  l35 : selem P 35 = 37
  t35 : isStrT P 35 = false
  h35 : hasU P 35 = true
  c35 : P.cellsOf 35 = 1
  a35 : aggT P 35 = false
  z35 : zbox P 35 = some (A.sl true [], 24)
  g36_0 : fld P 36 0 = some (3, 0)
  g36_1 : fld P 36 1 = some (3, 1)
  s36 : isSliceT P 36 = false
  t36 : isStrT P 36 = false
  h36 : hasU P 36 = true
  w36 : ftl P 36 = some [(3, 0), (3, 1)]
  c36 : P.cellsOf 36 = 2
  a36 : aggT P 36 = true
  z36 : zbox P 36 = some (A.agg [A.int .i64 0, A.int .i64 0], 16)
  b36 : bplan P 36 = some ([A.int .i64 0, A.int .i64 0], [(0, 1), (1, 1)])
  e36 : eqT P 36 = some [0, 0]
  g37_0 : fld P 37 0 = some (3, 0)
  g37_1 : fld P 37 1 = some (3, 1)
  s37 : isSliceT P 37 = false
  t37 : isStrT P 37 = false
  h37 : hasU P 37 = true
  w37 : ftl P 37 = some [(3, 0), (3, 1)]
  c37 : P.cellsOf 37 = 2
  a37 : aggT P 37 = true
  z37 : zbox P 37 = some (A.agg [A.int .i64 0, A.int .i64 0], 16)
  b37 : bplan P 37 = some ([A.int .i64 0, A.int .i64 0], [(0, 1), (1, 1)])
  e37 : eqT P 37 = some [0, 0]
  u44 : P.underlying 44 = some (.array 0 16)
  s44 : isSliceT P 44 = false
  t44 : isStrT P 44 = false
  r44 : arrT P 44 = some (0, 16)
  h44 : hasU P 44 = true
  n44 : bplan P 44 = none
  c44 : P.cellsOf 44 = 0
  a44 : aggT P 44 = true
  z44 : zbox P 44 = some (A.agg [], 0)
  b44 : aplan P 44 = some ([], 1)
  u48 : P.underlying 48 = some (.int .u32)
  s48 : isSliceT P 48 = false
  t48 : isStrT P 48 = false
  h48 : hasU P 48 = true
  i48 : intT P 48 = some .u32
  c48 : P.cellsOf 48 = 1
  a48 : aggT P 48 = false
  z48 : zbox P 48 = some (A.int .u32 0, 4)
  g55_0 : fld P 55 0 = some (12, 0)
  g55_1 : fld P 55 1 = some (12, 1)
  g55_2 : fld P 55 2 = some (48, 2)
  g55_3 : fld P 55 3 = some (49, 3)
  g55_4 : fld P 55 4 = some (5, 4)
  g55_5 : fld P 55 5 = some (5, 5)
  g55_6 : fld P 55 6 = some (50, 6)
  g55_7 : fld P 55 7 = some (51, 7)
  g55_8 : fld P 55 8 = some (52, 8)
  g55_9 : fld P 55 9 = some (53, 9)
  g55_10 : fld P 55 10 = some (54, 10)
  s55 : isSliceT P 55 = false
  t55 : isStrT P 55 = false
  h55 : hasU P 55 = true
  w55 : ftl P 55 = some [(12, 0), (12, 1), (48, 2), (49, 3), (5, 4), (5, 5), (50, 6), (51, 7), (52, 8), (53, 9), (54, 10)]
  c55 : P.cellsOf 55 = 11
  a55 : aggT P 55 = true
  z55 : zbox P 55 = some (A.agg [A.int .u64 0, A.int .u64 0, A.int .u32 0, A.int .u8 0, A.int .u8 0, A.int .u8 0, A.int .u8 0, A.nfn, A.nptr, A.int .i32 0, A.int .i32 0], 48)
  mo : P.follows .mixedOrders = true
  f0 : P.funcs[0]? = some Try.f0
  f1 : P.funcs[1]? = some Try.f1
  f2 : P.funcs[2]? = some Try.f2
  f3 : P.funcs[3]? = some Try.f3
  f4 : P.funcs[4]? = some Try.f4
  f5 : P.funcs[5]? = some Try.f5
  f6 : P.funcs[6]? = some Try.f6
  f7 : P.funcs[7]? = some Try.f7
  f8 : P.funcs[8]? = some Try.f8
  f9 : P.funcs[9]? = some Try.f9
  f10 : P.funcs[10]? = some Try.f10
  f11 : P.funcs[11]? = some Try.f11
  f12 : P.funcs[12]? = some Try.f12
  f13 : P.funcs[13]? = some Try.f13
  f14 : P.funcs[14]? = some Try.f14
  f15 : P.funcs[15]? = some Try.f15
  f16 : P.funcs[16]? = some Try.f16
  f17 : P.funcs[17]? = some Try.f17
  f18 : P.funcs[18]? = some Try.f18
  f19 : P.funcs[19]? = some Try.f19
  f20 : P.funcs[20]? = some Try.f20
  f21 : P.funcs[21]? = some Try.f21
  f22 : P.funcs[22]? = some Try.f22
  f23 : P.funcs[23]? = some Try.f23
  f24 : P.funcs[24]? = some Try.f24
  f25 : P.funcs[25]? = some Try.f25
  f26 : P.funcs[26]? = some Try.f26
  f27 : P.funcs[27]? = some Try.f27
  f28 : P.funcs[28]? = some Try.f28
  f29 : P.funcs[29]? = some Try.f29
  f30 : P.funcs[30]? = some Try.f30
  f31 : P.funcs[31]? = some Try.f31
  f32 : P.funcs[32]? = some Try.f32
  f33 : P.funcs[33]? = some Try.f33
  f34 : P.funcs[34]? = some Try.f34
  f35 : P.funcs[35]? = some Try.f35
  f36 : P.funcs[36]? = some Try.f36
  f37 : P.funcs[37]? = some Try.f37
  f38 : P.funcs[38]? = some Try.f38
  f39 : P.funcs[39]? = some Try.f39
  f40 : P.funcs[40]? = some Try.f40
  f41 : P.funcs[41]? = some Try.f41

section
variable {P : Program}
@[simp] theorem u2_ [h : Facts P] : P.underlying 2 = some (.int .i64) := h.u2
@[simp] theorem s2_ [h : Facts P] : isSliceT P 2 = false := h.s2
@[simp] theorem t2_ [h : Facts P] : isStrT P 2 = false := h.t2
@[simp] theorem h2_ [h : Facts P] : hasU P 2 = true := h.h2
@[simp] theorem i2_ [h : Facts P] : intT P 2 = some .i64 := h.i2
@[simp] theorem c2_ [h : Facts P] : P.cellsOf 2 = 1 := h.c2
@[simp] theorem a2_ [h : Facts P] : aggT P 2 = false := h.a2
@[simp] theorem z2_ [h : Facts P] : zbox P 2 = some (A.int .i64 0, 8) := h.z2
@[simp] theorem u3_ [h : Facts P] : P.underlying 3 = some (.int .i64) := h.u3
@[simp] theorem s3_ [h : Facts P] : isSliceT P 3 = false := h.s3
@[simp] theorem t3_ [h : Facts P] : isStrT P 3 = false := h.t3
@[simp] theorem h3_ [h : Facts P] : hasU P 3 = true := h.h3
@[simp] theorem i3_ [h : Facts P] : intT P 3 = some .i64 := h.i3
@[simp] theorem c3_ [h : Facts P] : P.cellsOf 3 = 1 := h.c3
@[simp] theorem a3_ [h : Facts P] : aggT P 3 = false := h.a3
@[simp] theorem z3_ [h : Facts P] : zbox P 3 = some (A.int .i64 0, 8) := h.z3
@[simp] theorem u4_ [h : Facts P] : P.underlying 4 = some (.bool) := h.u4
@[simp] theorem s4_ [h : Facts P] : isSliceT P 4 = false := h.s4
@[simp] theorem t4_ [h : Facts P] : isStrT P 4 = false := h.t4
@[simp] theorem h4_ [h : Facts P] : hasU P 4 = true := h.h4
@[simp] theorem d4_ [h : Facts P] : isBoolT P 4 = true := h.d4
@[simp] theorem c4_ [h : Facts P] : P.cellsOf 4 = 1 := h.c4
@[simp] theorem a4_ [h : Facts P] : aggT P 4 = false := h.a4
@[simp] theorem z4_ [h : Facts P] : zbox P 4 = some (A.bool false, 1) := h.z4
@[simp] theorem u5_ [h : Facts P] : P.underlying 5 = some (.int .u8) := h.u5
@[simp] theorem s5_ [h : Facts P] : isSliceT P 5 = false := h.s5
@[simp] theorem t5_ [h : Facts P] : isStrT P 5 = false := h.t5
@[simp] theorem h5_ [h : Facts P] : hasU P 5 = true := h.h5
@[simp] theorem i5_ [h : Facts P] : intT P 5 = some .u8 := h.i5
@[simp] theorem c5_ [h : Facts P] : P.cellsOf 5 = 1 := h.c5
@[simp] theorem a5_ [h : Facts P] : aggT P 5 = false := h.a5
@[simp] theorem z5_ [h : Facts P] : zbox P 5 = some (A.int .u8 0, 1) := h.z5
@[simp] theorem u9_ [h : Facts P] : P.underlying 9 = some (.string) := h.u9
@[simp] theorem s9_ [h : Facts P] : isSliceT P 9 = false := h.s9
@[simp] theorem t9_ [h : Facts P] : isStrT P 9 = true := h.t9
@[simp] theorem h9_ [h : Facts P] : hasU P 9 = true := h.h9
@[simp] theorem c9_ [h : Facts P] : P.cellsOf 9 = 1 := h.c9
@[simp] theorem a9_ [h : Facts P] : aggT P 9 = false := h.a9
@[simp] theorem z9_ [h : Facts P] : zbox P 9 = some (A.str [], 16) := h.z9
@[simp] theorem u12_ [h : Facts P] : P.underlying 12 = some (.int .u64) := h.u12
@[simp] theorem s12_ [h : Facts P] : isSliceT P 12 = false := h.s12
@[simp] theorem t12_ [h : Facts P] : isStrT P 12 = false := h.t12
@[simp] theorem h12_ [h : Facts P] : hasU P 12 = true := h.h12
@[simp] theorem i12_ [h : Facts P] : intT P 12 = some .u64 := h.i12
@[simp] theorem c12_ [h : Facts P] : P.cellsOf 12 = 1 := h.c12
@[simp] theorem a12_ [h : Facts P] : aggT P 12 = false := h.a12
@[simp] theorem z12_ [h : Facts P] : zbox P 12 = some (A.int .u64 0, 8) := h.z12
@[simp] theorem u21_ [h : Facts P] : P.underlying 21 = some (.int .i32) := h.u21
@[simp] theorem s21_ [h : Facts P] : isSliceT P 21 = false := h.s21
@[simp] theorem t21_ [h : Facts P] : isStrT P 21 = false := h.t21
@[simp] theorem h21_ [h : Facts P] : hasU P 21 = true := h.h21
@[simp] theorem i21_ [h : Facts P] : intT P 21 = some .i32 := h.i21
@[simp] theorem c21_ [h : Facts P] : P.cellsOf 21 = 1 := h.c21
@[simp] theorem a21_ [h : Facts P] : aggT P 21 = false := h.a21
@[simp] theorem z21_ [h : Facts P] : zbox P 21 = some (A.int .i32 0, 4) := h.z21
@[simp] theorem u22_ [h : Facts P] : P.underlying 22 = some (.slice 3) := h.u22
@[simp] theorem s22_ [h : Facts P] : isSliceT P 22 = true := h.s22
@[simp] theorem l22_ [h : Facts P] : selem P 22 = 3 := h.l22
@[simp] theorem t22_ [h : Facts P] : isStrT P 22 = false := h.t22
@[simp] theorem h22_ [h : Facts P] : hasU P 22 = true := h.h22
@[simp] theorem c22_ [h : Facts P] : P.cellsOf 22 = 1 := h.c22
@[simp] theorem a22_ [h : Facts P] : aggT P 22 = false := h.a22
@[simp] theorem z22_ [h : Facts P] : zbox P 22 = some (A.sl true [], 24) := h.z22
@[simp] theorem u24_ [h : Facts P] : P.underlying 24 = some (.int .i64) := h.u24
@[simp] theorem s24_ [h : Facts P] : isSliceT P 24 = false := h.s24
@[simp] theorem t24_ [h : Facts P] : isStrT P 24 = false := h.t24
@[simp] theorem h24_ [h : Facts P] : hasU P 24 = true := h.h24
@[simp] theorem i24_ [h : Facts P] : intT P 24 = some .i64 := h.i24
@[simp] theorem c24_ [h : Facts P] : P.cellsOf 24 = 1 := h.c24
@[simp] theorem a24_ [h : Facts P] : aggT P 24 = false := h.a24
@[simp] theorem z24_ [h : Facts P] : zbox P 24 = some (A.int .i64 0, 8) := h.z24
@[simp] theorem u35_ [h : Facts P] : P.underlying 35 = some (.slice 37) := h.u35
@[simp] theorem s35_ [h : Facts P] : isSliceT P 35 = true := h.s35
@[simp] theorem l35_ [h : Facts P] : selem P 35 = 37 := h.l35
@[simp] theorem t35_ [h : Facts P] : isStrT P 35 = false := h.t35
@[simp] theorem h35_ [h : Facts P] : hasU P 35 = true := h.h35
@[simp] theorem c35_ [h : Facts P] : P.cellsOf 35 = 1 := h.c35
@[simp] theorem a35_ [h : Facts P] : aggT P 35 = false := h.a35
@[simp] theorem z35_ [h : Facts P] : zbox P 35 = some (A.sl true [], 24) := h.z35
@[simp] theorem g36_0_ [h : Facts P] : fld P 36 0 = some (3, 0) := h.g36_0
@[simp] theorem g36_1_ [h : Facts P] : fld P 36 1 = some (3, 1) := h.g36_1
@[simp] theorem s36_ [h : Facts P] : isSliceT P 36 = false := h.s36
@[simp] theorem t36_ [h : Facts P] : isStrT P 36 = false := h.t36
@[simp] theorem h36_ [h : Facts P] : hasU P 36 = true := h.h36
@[simp] theorem w36_ [h : Facts P] : ftl P 36 = some [(3, 0), (3, 1)] := h.w36
@[simp] theorem c36_ [h : Facts P] : P.cellsOf 36 = 2 := h.c36
@[simp] theorem a36_ [h : Facts P] : aggT P 36 = true := h.a36
@[simp] theorem z36_ [h : Facts P] : zbox P 36 = some (A.agg [A.int .i64 0, A.int .i64 0], 16) := h.z36
@[simp] theorem b36_ [h : Facts P] : bplan P 36 = some ([A.int .i64 0, A.int .i64 0], [(0, 1), (1, 1)]) := h.b36
@[simp] theorem e36_ [h : Facts P] : eqT P 36 = some [0, 0] := h.e36
@[simp] theorem g37_0_ [h : Facts P] : fld P 37 0 = some (3, 0) := h.g37_0
@[simp] theorem g37_1_ [h : Facts P] : fld P 37 1 = some (3, 1) := h.g37_1
@[simp] theorem s37_ [h : Facts P] : isSliceT P 37 = false := h.s37
@[simp] theorem t37_ [h : Facts P] : isStrT P 37 = false := h.t37
@[simp] theorem h37_ [h : Facts P] : hasU P 37 = true := h.h37
@[simp] theorem w37_ [h : Facts P] : ftl P 37 = some [(3, 0), (3, 1)] := h.w37
@[simp] theorem c37_ [h : Facts P] : P.cellsOf 37 = 2 := h.c37
@[simp] theorem a37_ [h : Facts P] : aggT P 37 = true := h.a37
@[simp] theorem z37_ [h : Facts P] : zbox P 37 = some (A.agg [A.int .i64 0, A.int .i64 0], 16) := h.z37
@[simp] theorem b37_ [h : Facts P] : bplan P 37 = some ([A.int .i64 0, A.int .i64 0], [(0, 1), (1, 1)]) := h.b37
@[simp] theorem e37_ [h : Facts P] : eqT P 37 = some [0, 0] := h.e37
@[simp] theorem u44_ [h : Facts P] : P.underlying 44 = some (.array 0 16) := h.u44
@[simp] theorem s44_ [h : Facts P] : isSliceT P 44 = false := h.s44
@[simp] theorem t44_ [h : Facts P] : isStrT P 44 = false := h.t44
@[simp] theorem r44_ [h : Facts P] : arrT P 44 = some (0, 16) := h.r44
@[simp] theorem h44_ [h : Facts P] : hasU P 44 = true := h.h44
@[simp] theorem n44_ [h : Facts P] : bplan P 44 = none := h.n44
@[simp] theorem c44_ [h : Facts P] : P.cellsOf 44 = 0 := h.c44
@[simp] theorem a44_ [h : Facts P] : aggT P 44 = true := h.a44
@[simp] theorem z44_ [h : Facts P] : zbox P 44 = some (A.agg [], 0) := h.z44
@[simp] theorem b44_ [h : Facts P] : aplan P 44 = some ([], 1) := h.b44
@[simp] theorem u48_ [h : Facts P] : P.underlying 48 = some (.int .u32) := h.u48
@[simp] theorem s48_ [h : Facts P] : isSliceT P 48 = false := h.s48
@[simp] theorem t48_ [h : Facts P] : isStrT P 48 = false := h.t48
@[simp] theorem h48_ [h : Facts P] : hasU P 48 = true := h.h48
@[simp] theorem i48_ [h : Facts P] : intT P 48 = some .u32 := h.i48
@[simp] theorem c48_ [h : Facts P] : P.cellsOf 48 = 1 := h.c48
@[simp] theorem a48_ [h : Facts P] : aggT P 48 = false := h.a48
@[simp] theorem z48_ [h : Facts P] : zbox P 48 = some (A.int .u32 0, 4) := h.z48
@[simp] theorem g55_0_ [h : Facts P] : fld P 55 0 = some (12, 0) := h.g55_0
@[simp] theorem g55_1_ [h : Facts P] : fld P 55 1 = some (12, 1) := h.g55_1
@[simp] theorem g55_2_ [h : Facts P] : fld P 55 2 = some (48, 2) := h.g55_2
@[simp] theorem g55_3_ [h : Facts P] : fld P 55 3 = some (49, 3) := h.g55_3
@[simp] theorem g55_4_ [h : Facts P] : fld P 55 4 = some (5, 4) := h.g55_4
@[simp] theorem g55_5_ [h : Facts P] : fld P 55 5 = some (5, 5) := h.g55_5
@[simp] theorem g55_6_ [h : Facts P] : fld P 55 6 = some (50, 6) := h.g55_6
@[simp] theorem g55_7_ [h : Facts P] : fld P 55 7 = some (51, 7) := h.g55_7
@[simp] theorem g55_8_ [h : Facts P] : fld P 55 8 = some (52, 8) := h.g55_8
@[simp] theorem g55_9_ [h : Facts P] : fld P 55 9 = some (53, 9) := h.g55_9
@[simp] theorem g55_10_ [h : Facts P] : fld P 55 10 = some (54, 10) := h.g55_10
@[simp] theorem s55_ [h : Facts P] : isSliceT P 55 = false := h.s55
@[simp] theorem t55_ [h : Facts P] : isStrT P 55 = false := h.t55
@[simp] theorem h55_ [h : Facts P] : hasU P 55 = true := h.h55
@[simp] theorem w55_ [h : Facts P] : ftl P 55 = some [(12, 0), (12, 1), (48, 2), (49, 3), (5, 4), (5, 5), (50, 6), (51, 7), (52, 8), (53, 9), (54, 10)] := h.w55
@[simp] theorem c55_ [h : Facts P] : P.cellsOf 55 = 11 := h.c55
@[simp] theorem a55_ [h : Facts P] : aggT P 55 = true := h.a55
@[simp] theorem z55_ [h : Facts P] : zbox P 55 = some (A.agg [A.int .u64 0, A.int .u64 0, A.int .u32 0, A.int .u8 0, A.int .u8 0, A.int .u8 0, A.int .u8 0, A.nfn, A.nptr, A.int .i32 0, A.int .i32 0], 48) := h.z55
end

theorem has_u2 : Try.prog.underlying 2 = some (.int .i64) := by kernel_rfl
theorem has_s2 : isSliceT Try.prog 2 = false := by kernel_rfl
theorem has_t2 : isStrT Try.prog 2 = false := by kernel_rfl
theorem has_h2 : hasU Try.prog 2 = true := by kernel_rfl
theorem has_i2 : intT Try.prog 2 = some .i64 := by kernel_rfl
theorem has_c2 : Try.prog.cellsOf 2 = 1 := by kernel_rfl
theorem has_a2 : aggT Try.prog 2 = false := by kernel_rfl
theorem has_z2 : zbox Try.prog 2 = some (A.int .i64 0, 8) := by kernel_rfl
theorem has_u3 : Try.prog.underlying 3 = some (.int .i64) := by kernel_rfl
theorem has_s3 : isSliceT Try.prog 3 = false := by kernel_rfl
theorem has_t3 : isStrT Try.prog 3 = false := by kernel_rfl
theorem has_h3 : hasU Try.prog 3 = true := by kernel_rfl
theorem has_i3 : intT Try.prog 3 = some .i64 := by kernel_rfl
theorem has_c3 : Try.prog.cellsOf 3 = 1 := by kernel_rfl
theorem has_a3 : aggT Try.prog 3 = false := by kernel_rfl
theorem has_z3 : zbox Try.prog 3 = some (A.int .i64 0, 8) := by kernel_rfl
theorem has_u4 : Try.prog.underlying 4 = some (.bool) := by kernel_rfl
theorem has_s4 : isSliceT Try.prog 4 = false := by kernel_rfl
theorem has_t4 : isStrT Try.prog 4 = false := by kernel_rfl
theorem has_h4 : hasU Try.prog 4 = true := by kernel_rfl
theorem has_d4 : isBoolT Try.prog 4 = true := by kernel_rfl
theorem has_c4 : Try.prog.cellsOf 4 = 1 := by kernel_rfl
theorem has_a4 : aggT Try.prog 4 = false := by kernel_rfl
theorem has_z4 : zbox Try.prog 4 = some (A.bool false, 1) := by kernel_rfl
theorem has_u5 : Try.prog.underlying 5 = some (.int .u8) := by kernel_rfl
theorem has_s5 : isSliceT Try.prog 5 = false := by kernel_rfl
theorem has_t5 : isStrT Try.prog 5 = false := by kernel_rfl
theorem has_h5 : hasU Try.prog 5 = true := by kernel_rfl
theorem has_i5 : intT Try.prog 5 = some .u8 := by kernel_rfl
theorem has_c5 : Try.prog.cellsOf 5 = 1 := by kernel_rfl
theorem has_a5 : aggT Try.prog 5 = false := by kernel_rfl
theorem has_z5 : zbox Try.prog 5 = some (A.int .u8 0, 1) := by kernel_rfl
theorem has_u9 : Try.prog.underlying 9 = some (.string) := by kernel_rfl
theorem has_s9 : isSliceT Try.prog 9 = false := by kernel_rfl
theorem has_t9 : isStrT Try.prog 9 = true := by kernel_rfl
theorem has_h9 : hasU Try.prog 9 = true := by kernel_rfl
theorem has_c9 : Try.prog.cellsOf 9 = 1 := by kernel_rfl
theorem has_a9 : aggT Try.prog 9 = false := by kernel_rfl
theorem has_z9 : zbox Try.prog 9 = some (A.str [], 16) := by kernel_rfl
theorem has_u12 : Try.prog.underlying 12 = some (.int .u64) := by kernel_rfl
theorem has_s12 : isSliceT Try.prog 12 = false := by kernel_rfl
theorem has_t12 : isStrT Try.prog 12 = false := by kernel_rfl
theorem has_h12 : hasU Try.prog 12 = true := by kernel_rfl
theorem has_i12 : intT Try.prog 12 = some .u64 := by kernel_rfl
theorem has_c12 : Try.prog.cellsOf 12 = 1 := by kernel_rfl
theorem has_a12 : aggT Try.prog 12 = false := by kernel_rfl
theorem has_z12 : zbox Try.prog 12 = some (A.int .u64 0, 8) := by kernel_rfl
theorem has_u21 : Try.prog.underlying 21 = some (.int .i32) := by kernel_rfl
theorem has_s21 : isSliceT Try.prog 21 = false := by kernel_rfl
theorem has_t21 : isStrT Try.prog 21 = false := by kernel_rfl
theorem has_h21 : hasU Try.prog 21 = true := by kernel_rfl
theorem has_i21 : intT Try.prog 21 = some .i32 := by kernel_rfl
theorem has_c21 : Try.prog.cellsOf 21 = 1 := by kernel_rfl
theorem has_a21 : aggT Try.prog 21 = false := by kernel_rfl
theorem has_z21 : zbox Try.prog 21 = some (A.int .i32 0, 4) := by kernel_rfl
theorem has_u22 : Try.prog.underlying 22 = some (.slice 3) := by kernel_rfl
theorem has_s22 : isSliceT Try.prog 22 = true := by kernel_rfl
theorem has_l22 : selem Try.prog 22 = 3 := by kernel_rfl
theorem has_t22 : isStrT Try.prog 22 = false := by kernel_rfl
theorem has_h22 : hasU Try.prog 22 = true := by kernel_rfl
theorem has_c22 : Try.prog.cellsOf 22 = 1 := by kernel_rfl
theorem has_a22 : aggT Try.prog 22 = false := by kernel_rfl
theorem has_z22 : zbox Try.prog 22 = some (A.sl true [], 24) := by kernel_rfl
theorem has_u24 : Try.prog.underlying 24 = some (.int .i64) := by kernel_rfl
theorem has_s24 : isSliceT Try.prog 24 = false := by kernel_rfl
theorem has_t24 : isStrT Try.prog 24 = false := by kernel_rfl
theorem has_h24 : hasU Try.prog 24 = true := by kernel_rfl
theorem has_i24 : intT Try.prog 24 = some .i64 := by kernel_rfl
theorem has_c24 : Try.prog.cellsOf 24 = 1 := by kernel_rfl
theorem has_a24 : aggT Try.prog 24 = false := by kernel_rfl
theorem has_z24 : zbox Try.prog 24 = some (A.int .i64 0, 8) := by kernel_rfl
theorem has_u35 : Try.prog.underlying 35 = some (.slice 37) := by kernel_rfl
theorem has_s35 : isSliceT Try.prog 35 = true := by kernel_rfl
theorem has_l35 : selem Try.prog 35 = 37 := by kernel_rfl
theorem has_t35 : isStrT Try.prog 35 = false := by kernel_rfl
theorem has_h35 : hasU Try.prog 35 = true := by kernel_rfl
theorem has_c35 : Try.prog.cellsOf 35 = 1 := by kernel_rfl
theorem has_a35 : aggT Try.prog 35 = false := by kernel_rfl
theorem has_z35 : zbox Try.prog 35 = some (A.sl true [], 24) := by kernel_rfl
theorem has_g36_0 : fld Try.prog 36 0 = some (3, 0) := by kernel_rfl
theorem has_g36_1 : fld Try.prog 36 1 = some (3, 1) := by kernel_rfl
theorem has_s36 : isSliceT Try.prog 36 = false := by kernel_rfl
theorem has_t36 : isStrT Try.prog 36 = false := by kernel_rfl
theorem has_h36 : hasU Try.prog 36 = true := by kernel_rfl
theorem has_w36 : ftl Try.prog 36 = some [(3, 0), (3, 1)] := by kernel_rfl
theorem has_c36 : Try.prog.cellsOf 36 = 2 := by kernel_rfl
theorem has_a36 : aggT Try.prog 36 = true := by kernel_rfl
theorem has_z36 : zbox Try.prog 36 = some (A.agg [A.int .i64 0, A.int .i64 0], 16) := by kernel_rfl
theorem has_b36 : bplan Try.prog 36 = some ([A.int .i64 0, A.int .i64 0], [(0, 1), (1, 1)]) := by kernel_rfl
theorem has_e36 : eqT Try.prog 36 = some [0, 0] := by kernel_rfl
theorem has_g37_0 : fld Try.prog 37 0 = some (3, 0) := by kernel_rfl
theorem has_g37_1 : fld Try.prog 37 1 = some (3, 1) := by kernel_rfl
theorem has_s37 : isSliceT Try.prog 37 = false := by kernel_rfl
theorem has_t37 : isStrT Try.prog 37 = false := by kernel_rfl
theorem has_h37 : hasU Try.prog 37 = true := by kernel_rfl
theorem has_w37 : ftl Try.prog 37 = some [(3, 0), (3, 1)] := by kernel_rfl
theorem has_c37 : Try.prog.cellsOf 37 = 2 := by kernel_rfl
theorem has_a37 : aggT Try.prog 37 = true := by kernel_rfl
theorem has_z37 : zbox Try.prog 37 = some (A.agg [A.int .i64 0, A.int .i64 0], 16) := by kernel_rfl
theorem has_b37 : bplan Try.prog 37 = some ([A.int .i64 0, A.int .i64 0], [(0, 1), (1, 1)]) := by kernel_rfl
theorem has_e37 : eqT Try.prog 37 = some [0, 0] := by kernel_rfl
theorem has_u44 : Try.prog.underlying 44 = some (.array 0 16) := by kernel_rfl
theorem has_s44 : isSliceT Try.prog 44 = false := by kernel_rfl
theorem has_t44 : isStrT Try.prog 44 = false := by kernel_rfl
theorem has_r44 : arrT Try.prog 44 = some (0, 16) := by kernel_rfl
theorem has_h44 : hasU Try.prog 44 = true := by kernel_rfl
theorem has_n44 : bplan Try.prog 44 = none := by kernel_rfl
theorem has_c44 : Try.prog.cellsOf 44 = 0 := by kernel_rfl
theorem has_a44 : aggT Try.prog 44 = true := by kernel_rfl
theorem has_z44 : zbox Try.prog 44 = some (A.agg [], 0) := by kernel_rfl
theorem has_b44 : aplan Try.prog 44 = some ([], 1) := by kernel_rfl
theorem has_u48 : Try.prog.underlying 48 = some (.int .u32) := by kernel_rfl
theorem has_s48 : isSliceT Try.prog 48 = false := by kernel_rfl
theorem has_t48 : isStrT Try.prog 48 = false := by kernel_rfl
theorem has_h48 : hasU Try.prog 48 = true := by kernel_rfl
theorem has_i48 : intT Try.prog 48 = some .u32 := by kernel_rfl
theorem has_c48 : Try.prog.cellsOf 48 = 1 := by kernel_rfl
theorem has_a48 : aggT Try.prog 48 = false := by kernel_rfl
theorem has_z48 : zbox Try.prog 48 = some (A.int .u32 0, 4) := by kernel_rfl
theorem has_g55_0 : fld Try.prog 55 0 = some (12, 0) := by kernel_rfl
theorem has_g55_1 : fld Try.prog 55 1 = some (12, 1) := by kernel_rfl
theorem has_g55_2 : fld Try.prog 55 2 = some (48, 2) := by kernel_rfl
theorem has_g55_3 : fld Try.prog 55 3 = some (49, 3) := by kernel_rfl
theorem has_g55_4 : fld Try.prog 55 4 = some (5, 4) := by kernel_rfl
theorem has_g55_5 : fld Try.prog 55 5 = some (5, 5) := by kernel_rfl
theorem has_g55_6 : fld Try.prog 55 6 = some (50, 6) := by kernel_rfl
theorem has_g55_7 : fld Try.prog 55 7 = some (51, 7) := by kernel_rfl
theorem has_g55_8 : fld Try.prog 55 8 = some (52, 8) := by kernel_rfl
theorem has_g55_9 : fld Try.prog 55 9 = some (53, 9) := by kernel_rfl
theorem has_g55_10 : fld Try.prog 55 10 = some (54, 10) := by kernel_rfl
theorem has_s55 : isSliceT Try.prog 55 = false := by kernel_rfl
theorem has_t55 : isStrT Try.prog 55 = false := by kernel_rfl
theorem has_h55 : hasU Try.prog 55 = true := by kernel_rfl
theorem has_w55 : ftl Try.prog 55 = some [(12, 0), (12, 1), (48, 2), (49, 3), (5, 4), (5, 5), (50, 6), (51, 7), (52, 8), (53, 9), (54, 10)] := by kernel_rfl
theorem has_c55 : Try.prog.cellsOf 55 = 11 := by kernel_rfl
theorem has_a55 : aggT Try.prog 55 = true := by kernel_rfl
theorem has_z55 : zbox Try.prog 55 = some (A.agg [A.int .u64 0, A.int .u64 0, A.int .u32 0, A.int .u8 0, A.int .u8 0, A.int .u8 0, A.int .u8 0, A.nfn, A.nptr, A.int .i32 0, A.int .i32 0], 48) := by kernel_rfl
theorem has_mo : Try.prog.follows .mixedOrders = true := by kernel_rfl
instance facts : Facts Try.prog where
  u2 := has_u2
  s2 := has_s2
  t2 := has_t2
  h2 := has_h2
  i2 := has_i2
  c2 := has_c2
  a2 := has_a2
  z2 := has_z2
  u3 := has_u3
  s3 := has_s3
  t3 := has_t3
  h3 := has_h3
  i3 := has_i3
  c3 := has_c3
  a3 := has_a3
  z3 := has_z3
  u4 := has_u4
  s4 := has_s4
  t4 := has_t4
  h4 := has_h4
  d4 := has_d4
  c4 := has_c4
  a4 := has_a4
  z4 := has_z4
  u5 := has_u5
  s5 := has_s5
  t5 := has_t5
  h5 := has_h5
  i5 := has_i5
  c5 := has_c5
  a5 := has_a5
  z5 := has_z5
  u9 := has_u9
  s9 := has_s9
  t9 := has_t9
  h9 := has_h9
  c9 := has_c9
  a9 := has_a9
  z9 := has_z9
  u12 := has_u12
  s12 := has_s12
  t12 := has_t12
  h12 := has_h12
  i12 := has_i12
  c12 := has_c12
  a12 := has_a12
  z12 := has_z12
  u21 := has_u21
  s21 := has_s21
  t21 := has_t21
  h21 := has_h21
  i21 := has_i21
  c21 := has_c21
  a21 := has_a21
  z21 := has_z21
  u22 := has_u22
  s22 := has_s22
  l22 := has_l22
  t22 := has_t22
  h22 := has_h22
  c22 := has_c22
  a22 := has_a22
  z22 := has_z22
  u24 := has_u24
  s24 := has_s24
  t24 := has_t24
  h24 := has_h24
  i24 := has_i24
  c24 := has_c24
  a24 := has_a24
  z24 := has_z24
  u35 := has_u35
  s35 := has_s35
  l35 := has_l35
  t35 := has_t35
  h35 := has_h35
  c35 := has_c35
  a35 := has_a35
  z35 := has_z35
  g36_0 := has_g36_0
  g36_1 := has_g36_1
  s36 := has_s36
  t36 := has_t36
  h36 := has_h36
  w36 := has_w36
  c36 := has_c36
  a36 := has_a36
  z36 := has_z36
  b36 := has_b36
  e36 := has_e36
  g37_0 := has_g37_0
  g37_1 := has_g37_1
  s37 := has_s37
  t37 := has_t37
  h37 := has_h37
  w37 := has_w37
  c37 := has_c37
  a37 := has_a37
  z37 := has_z37
  b37 := has_b37
  e37 := has_e37
  u44 := has_u44
  s44 := has_s44
  t44 := has_t44
  r44 := has_r44
  h44 := has_h44
  n44 := has_n44
  c44 := has_c44
  a44 := has_a44
  z44 := has_z44
  b44 := has_b44
  u48 := has_u48
  s48 := has_s48
  t48 := has_t48
  h48 := has_h48
  i48 := has_i48
  c48 := has_c48
  a48 := has_a48
  z48 := has_z48
  g55_0 := has_g55_0
  g55_1 := has_g55_1
  g55_2 := has_g55_2
  g55_3 := has_g55_3
  g55_4 := has_g55_4
  g55_5 := has_g55_5
  g55_6 := has_g55_6
  g55_7 := has_g55_7
  g55_8 := has_g55_8
  g55_9 := has_g55_9
  g55_10 := has_g55_10
  s55 := has_s55
  t55 := has_t55
  h55 := has_h55
  w55 := has_w55
  c55 := has_c55
  a55 := has_a55
  z55 := has_z55
  mo := has_mo
  f0 := Try.func0
  f1 := Try.func1
  f2 := Try.func2
  f3 := Try.func3
  f4 := Try.func4
  f5 := Try.func5
  f6 := Try.func6
  f7 := Try.func7
  f8 := Try.func8
  f9 := Try.func9
  f10 := Try.func10
  f11 := Try.func11
  f12 := Try.func12
  f13 := Try.func13
  f14 := Try.func14
  f15 := Try.func15
  f16 := Try.func16
  f17 := Try.func17
  f18 := Try.func18
  f19 := Try.func19
  f20 := Try.func20
  f21 := Try.func21
  f22 := Try.func22
  f23 := Try.func23
  f24 := Try.func24
  f25 := Try.func25
  f26 := Try.func26
  f27 := Try.func27
  f28 := Try.func28
  f29 := Try.func29
  f30 := Try.func30
  f31 := Try.func31
  f32 := Try.func32
  f33 := Try.func33
  f34 := Try.func34
  f35 := Try.func35
  f36 := Try.func36
  f37 := Try.func37
  f38 := Try.func38
  f39 := Try.func39
  f40 := Try.func40
  f41 := Try.func41
end Go.Proofs.Ytmegdnfihhikhaa
