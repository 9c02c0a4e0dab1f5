/- The facts about types and functions that the walks of this seat use, and that its program has them. -/
import Derived.Test.YtgpgajhaecfbgaaAlExt
import Derived.Test.YtgpgajhaecfbgaaProg
import Derived.KernelRfl
namespace Go.Proofs.Ytgpgajhaecfbgaa
open Go.AL

class Facts (P : Program) : Prop where
  u2 : P.underlying 2 = some (.int .i64)
  s2 : isSliceT P 2 = false
  t2 : isStrT P 2 = false
  h2 : hasU P 2 = true
  i2 : intT P 2 = some .i64
  c2 : P.cellsOf 2 = 1
  a2 : aggT P 2 = false
  z2 : zbox P 2 = some (A.int .i64 0, 8)
  u3 : P.underlying 3 = some (.int .i64)
  s3 : isSliceT P 3 = false
  t3 : isStrT P 3 = false
  h3 : hasU P 3 = true
  i3 : intT P 3 = some .i64
  c3 : P.cellsOf 3 = 1
  a3 : aggT P 3 = false
  z3 : zbox P 3 = some (A.int .i64 0, 8)
  u4 : P.underlying 4 = some (.bool)
  s4 : isSliceT P 4 = false
  t4 : isStrT P 4 = false
  h4 : hasU P 4 = true
  d4 : isBoolT P 4 = true
  c4 : P.cellsOf 4 = 1
  a4 : aggT P 4 = false
  z4 : zbox P 4 = some (A.bool false, 1)
  u5 : P.underlying 5 = some (.int .u8)
  s5 : isSliceT P 5 = false
  t5 : isStrT P 5 = false
  h5 : hasU P 5 = true
  i5 : intT P 5 = some .u8
  c5 : P.cellsOf 5 = 1
  a5 : aggT P 5 = false
  z5 : zbox P 5 = some (A.int .u8 0, 1)
  u9 : P.underlying 9 = some (.string)
  s9 : isSliceT P 9 = false
  t9 : isStrT P 9 = true
  h9 : hasU P 9 = true
  c9 : P.cellsOf 9 = 1
  a9 : aggT P 9 = false
  z9 : zbox P 9 = some (A.str [], 16)
  u12 : P.underlying 12 = some (.int .u64)
  s12 : isSliceT P 12 = false
  t12 : isStrT P 12 = false
  h12 : hasU P 12 = true
  i12 : intT P 12 = some .u64
  c12 : P.cellsOf 12 = 1
  a12 : aggT P 12 = false
  z12 : zbox P 12 = some (A.int .u64 0, 8)
  u21 : P.underlying 21 = some (.int .i32)
  s21 : isSliceT P 21 = false
  t21 : isStrT P 21 = false
  h21 : hasU P 21 = true
  i21 : intT P 21 = some .i32
  c21 : P.cellsOf 21 = 1
  a21 : aggT P 21 = false
  z21 : zbox P 21 = some (A.int .i32 0, 4)
  u23 : P.underlying 23 = some (.int .i64)
  s23 : isSliceT P 23 = false
  t23 : isStrT P 23 = false
  h23 : hasU P 23 = true
  i23 : intT P 23 = some .i64
  c23 : P.cellsOf 23 = 1
  a23 : aggT P 23 = false
  z23 : zbox P 23 = some (A.int .i64 0, 8)
  u26 : P.underlying 26 = some (.slice 5)
  s26 : isSliceT P 26 = true
  l26 : selem P 26 = 5
  t26 : isStrT P 26 = false
  h26 : hasU P 26 = true
  c26 : P.cellsOf 26 = 1
  a26 : aggT P 26 = false
  z26 : zbox P 26 = some (A.sl true [], 24)
  u28 : P.underlying 28 = some (.slice 9)
  s28 : isSliceT P 28 = true
  l28 : selem P 28 = 9
  t28 : isStrT P 28 = false
  h28 : hasU P 28 = true
  c28 : P.cellsOf 28 = 1
  a28 : aggT P 28 = false
  z28 : zbox P 28 = some (A.sl true [], 24)
  u43 : P.underlying 43 = some (.int .u64)
  s43 : isSliceT P 43 = false
  t43 : isStrT P 43 = false
  h43 : hasU P 43 = true
  i43 : intT P 43 = some .u64
  c43 : P.cellsOf 43 = 1
  a43 : aggT P 43 = false
  z43 : zbox P 43 = some (A.int .u64 0, 8)
  u44 : P.underlying 44 = some (.int .u32)
  s44 : isSliceT P 44 = false
  t44 : isStrT P 44 = false
  h44 : hasU P 44 = true
  i44 : intT P 44 = some .u32
  c44 : P.cellsOf 44 = 1
  a44 : aggT P 44 = false
  z44 : zbox P 44 = some (A.int .u32 0, 4)
  u50 : P.underlying 50 = some (.array 0 16)
  s50 : isSliceT P 50 = false
  t50 : isStrT P 50 = false
  r50 : arrT P 50 = some (0, 16)
  h50 : hasU P 50 = true
  n50 : bplan P 50 = none
  c50 : P.cellsOf 50 = 0
  a50 : aggT P 50 = true
  z50 : zbox P 50 = some (A.agg [], 0)
  b50 : aplan P 50 = some ([], 1)
  g60_0 : fld P 60 0 = some (12, 0)
  g60_1 : fld P 60 1 = some (12, 1)
  g60_2 : fld P 60 2 = some (44, 2)
  g60_3 : fld P 60 3 = some (54, 3)
  g60_4 : fld P 60 4 = some (5, 4)
  g60_5 : fld P 60 5 = some (5, 5)
  g60_6 : fld P 60 6 = some (55, 6)
  g60_7 : fld P 60 7 = some (56, 7)
  g60_8 : fld P 60 8 = some (57, 8)
  g60_9 : fld P 60 9 = some (58, 9)
  g60_10 : fld P 60 10 = some (59, 10)
  s60 : isSliceT P 60 = false
  t60 : isStrT P 60 = false
  h60 : hasU P 60 = true
  w60 : ftl P 60 = some [(12, 0), (12, 1), (44, 2), (54, 3), (5, 4), (5, 5), (55, 6), (56, 7), (57, 8), (58, 9), (59, 10)]
  c60 : P.cellsOf 60 = 11
  a60 : aggT P 60 = true
  z60 : zbox P 60 = some (A.agg [A.int .u64 0, A.int .u64 0, A.int .u32 0, A.int .u8 0, A.int .u8 0, A.int .u8 0, A.int .u8 0, A.nfn, A.nptr, A.int .i32 0, A.int .i32 0], 48)
  q0 : P.cellsOf 4294967295 = 0
  mo : P.follows .mixedOrders = true
  f0 : P.funcs[0]? = some Try.f0
  f1 : P.funcs[1]? = some Try.f1
  f2 : P.funcs[2]? = some Try.f2
  f3 : P.funcs[3]? = some Try.f3
  f4 : P.funcs[4]? = some Try.f4
  f5 : P.funcs[5]? = some Try.f5
  f6 : P.funcs[6]? = some Try.f6
  f7 : P.funcs[7]? = some Try.f7
  f8 : P.funcs[8]? = some Try.f8
  f9 : P.funcs[9]? = some Try.f9
  f10 : P.funcs[10]? = some Try.f10
  f11 : P.funcs[11]? = some Try.f11
  f12 : P.funcs[12]? = some Try.f12
  f13 : P.funcs[13]? = some Try.f13
  f14 : P.funcs[14]? = some Try.f14
  f15 : P.funcs[15]? = some Try.f15
  f16 : P.funcs[16]? = some Try.f16
  f17 : P.funcs[17]? = some Try.f17
  f18 : P.funcs[18]? = some Try.f18
  f19 : P.funcs[19]? = some Try.f19
  f20 : P.funcs[20]? = some Try.f20
  f21 : P.funcs[21]? = some Try.f21
  f22 : P.funcs[22]? = some Try.f22
  f23 : P.funcs[23]? = some Try.f23
  f24 : P.funcs[24]? = some Try.f24
  f25 : P.funcs[25]? = some Try.f25
  f26 : P.funcs[26]? = some Try.f26
  f27 : P.funcs[27]? = some Try.f27
  f28 : P.funcs[28]? = some Try.f28
  f29 : P.funcs[29]? = some Try.f29
  f30 : P.funcs[30]? = some Try.f30
  f31 : P.funcs[31]? = some Try.f31
  f32 : P.funcs[32]? = some Try.f32
  f33 : P.funcs[33]? = some Try.f33
  f34 : P.funcs[34]? = some Try.f34
  f35 : P.funcs[35]? = some Try.f35
  f36 : P.funcs[36]? = some Try.f36
  f37 : P.funcs[37]? = some Try.f37
  f38 : P.funcs[38]? = some Try.f38
  f39 : P.funcs[39]? = some Try.f39
  f40 : P.funcs[40]? = some Try.f40
  f41 : P.funcs[41]? = some Try.f41
  f42 : P.funcs[42]? = some Try.f42
  f43 : P.funcs[43]? = some Try.f43
  f44 : P.funcs[44]? = some Try.f44
  f45 : P.funcs[45]? = some Try.f45
  f46 : P.funcs[46]? = some Try.f46
  f47 : P.funcs[47]? = some Try.f47
  f48 : P.funcs[48]? = some Try.f48
  f49 : P.funcs[49]? = some Try.f49

section
variable {P : Program}
@[simp] theorem u2_ [h : Facts P] : P.underlying 2 = some (.int .i64) := h.u2
@[simp] theorem s2_ [h : Facts P] : isSliceT P 2 = false := h.s2
@[simp] theorem t2_ [h : Facts P] : isStrT P 2 = false := h.t2
@[simp] theorem h2_ [h : Facts P] : hasU P 2 = true := h.h2
@[simp] theorem i2_ [h : Facts P] : intT P 2 = some .i64 := h.i2
@[simp] theorem c2_ [h : Facts P] : P.cellsOf 2 = 1 := h.c2
@[simp] theorem a2_ [h : Facts P] : aggT P 2 = false := h.a2
@[simp] theorem z2_ [h : Facts P] : zbox P 2 = some (A.int .i64 0, 8) := h.z2
@[simp] theorem u3_ [h : Facts P] : P.underlying 3 = some (.int .i64) := h.u3
@[simp] theorem s3_ [h : Facts P] : isSliceT P 3 = false := h.s3
@[simp] theorem t3_ [h : Facts P] : isStrT P 3 = false := h.t3
@[simp] theorem h3_ [h : Facts P] : hasU P 3 = true := h.h3
@[simp] theorem i3_ [h : Facts P] : intT P 3 = some .i64 := h.i3
@[simp] theorem c3_ [h : Facts P] : P.cellsOf 3 = 1 := h.c3
@[simp] theorem a3_ [h : Facts P] : aggT P 3 = false := h.a3
@[simp] theorem z3_ [h : Facts P] : zbox P 3 = some (A.int .i64 0, 8) := h.z3
@[simp] theorem u4_ [h : Facts P] : P.underlying 4 = some (.bool) := h.u4
@[simp] theorem s4_ [h : Facts P] : isSliceT P 4 = false := h.s4
@[simp] theorem t4_ [h : Facts P] : isStrT P 4 = false := h.t4
@[simp] theorem h4_ [h : Facts P] : hasU P 4 = true := h.h4
@[simp] theorem d4_ [h : Facts P] : isBoolT P 4 = true := h.d4
@[simp] theorem c4_ [h : Facts P] : P.cellsOf 4 = 1 := h.c4
@[simp] theorem a4_ [h : Facts P] : aggT P 4 = false := h.a4
@[simp] theorem z4_ [h : Facts P] : zbox P 4 = some (A.bool false, 1) := h.z4
@[simp] theorem u5_ [h : Facts P] : P.underlying 5 = some (.int .u8) := h.u5
@[simp] theorem s5_ [h : Facts P] : isSliceT P 5 = false := h.s5
@[simp] theorem t5_ [h : Facts P] : isStrT P 5 = false := h.t5
@[simp] theorem h5_ [h : Facts P] : hasU P 5 = true := h.h5
@[simp] theorem i5_ [h : Facts P] : intT P 5 = some .u8 := h.i5
@[simp] theorem c5_ [h : Facts P] : P.cellsOf 5 = 1 := h.c5
@[simp] theorem a5_ [h : Facts P] : aggT P 5 = false := h.a5
@[simp] theorem z5_ [h : Facts P] : zbox P 5 = some (A.int .u8 0, 1) := h.z5
@[simp] theorem u9_ [h : Facts P] : P.underlying 9 = some (.string) := h.u9
@[simp] theorem s9_ [h : Facts P] : isSliceT P 9 = false := h.s9
@[simp] theorem t9_ [h : Facts P] : isStrT P 9 = true := h.t9
@[simp] theorem h9_ [h : Facts P] : hasU P 9 = true := h.h9
@[simp] theorem c9_ [h : Facts P] : P.cellsOf 9 = 1 := h.c9
@[simp] theorem a9_ [h : Facts P] : aggT P 9 = false := h.a9
@[simp] theorem z9_ [h : Facts P] : zbox P 9 = some (A.str [], 16) := h.z9
@[simp] theorem u12_ [h : Facts P] : P.underlying 12 = some (.int .u64) := h.u12
@[simp] theorem s12_ [h : Facts P] : isSliceT P 12 = false := h.s12
@[simp] theorem t12_ [h : Facts P] : isStrT P 12 = false := h.t12
@[simp] theorem h12_ [h : Facts P] : hasU P 12 = true := h.h12
@[simp] theorem i12_ [h : Facts P] : intT P 12 = some .u64 := h.i12
@[simp] theorem c12_ [h : Facts P] : P.cellsOf 12 = 1 := h.c12
@[simp] theorem a12_ [h : Facts P] : aggT P 12 = false := h.a12
@[simp] theorem z12_ [h : Facts P] : zbox P 12 = some (A.int .u64 0, 8) := h.z12
@[simp] theorem u21_ [h : Facts P] : P.underlying 21 = some (.int .i32) := h.u21
@[simp] theorem s21_ [h : Facts P] : isSliceT P 21 = false := h.s21
@[simp] theorem t21_ [h : Facts P] : isStrT P 21 = false := h.t21
@[simp] theorem h21_ [h : Facts P] : hasU P 21 = true := h.h21
@[simp] theorem i21_ [h : Facts P] : intT P 21 = some .i32 := h.i21
@[simp] theorem c21_ [h : Facts P] : P.cellsOf 21 = 1 := h.c21
@[simp] theorem a21_ [h : Facts P] : aggT P 21 = false := h.a21
@[simp] theorem z21_ [h : Facts P] : zbox P 21 = some (A.int .i32 0, 4) := h.z21
@[simp] theorem u23_ [h : Facts P] : P.underlying 23 = some (.int .i64) := h.u23
@[simp] theorem s23_ [h : Facts P] : isSliceT P 23 = false := h.s23
@[simp] theorem t23_ [h : Facts P] : isStrT P 23 = false := h.t23
@[simp] theorem h23_ [h : Facts P] : hasU P 23 = true := h.h23
@[simp] theorem i23_ [h : Facts P] : intT P 23 = some .i64 := h.i23
@[simp] theorem c23_ [h : Facts P] : P.cellsOf 23 = 1 := h.c23
@[simp] theorem a23_ [h : Facts P] : aggT P 23 = false := h.a23
@[simp] theorem z23_ [h : Facts P] : zbox P 23 = some (A.int .i64 0, 8) := h.z23
@[simp] theorem u26_ [h : Facts P] : P.underlying 26 = some (.slice 5) := h.u26
@[simp] theorem s26_ [h : Facts P] : isSliceT P 26 = true := h.s26
@[simp] theorem l26_ [h : Facts P] : selem P 26 = 5 := h.l26
@[simp] theorem t26_ [h : Facts P] : isStrT P 26 = false := h.t26
@[simp] theorem h26_ [h : Facts P] : hasU P 26 = true := h.h26
@[simp] theorem c26_ [h : Facts P] : P.cellsOf 26 = 1 := h.c26
@[simp] theorem a26_ [h : Facts P] : aggT P 26 = false := h.a26
@[simp] theorem z26_ [h : Facts P] : zbox P 26 = some (A.sl true [], 24) := h.z26
@[simp] theorem u28_ [h : Facts P] : P.underlying 28 = some (.slice 9) := h.u28
@[simp] theorem s28_ [h : Facts P] : isSliceT P 28 = true := h.s28
@[simp] theorem l28_ [h : Facts P] : selem P 28 = 9 := h.l28
@[simp] theorem t28_ [h : Facts P] : isStrT P 28 = false := h.t28
@[simp] theorem h28_ [h : Facts P] : hasU P 28 = true := h.h28
@[simp] theorem c28_ [h : Facts P] : P.cellsOf 28 = 1 := h.c28
@[simp] theorem a28_ [h : Facts P] : aggT P 28 = false := h.a28
@[simp] theorem z28_ [h : Facts P] : zbox P 28 = some (A.sl true [], 24) := h.z28
@[simp] theorem u43_ [h : Facts P] : P.underlying 43 = some (.int .u64) := h.u43
@[simp] theorem s43_ [h : Facts P] : isSliceT P 43 = false := h.s43
@[simp] theorem t43_ [h : Facts P] : isStrT P 43 = false := h.t43
@[simp] theorem h43_ [h : Facts P] : hasU P 43 = true := h.h43
@[simp] theorem i43_ [h : Facts P] : intT P 43 = some .u64 := h.i43
@[simp] theorem c43_ [h : Facts P] : P.cellsOf 43 = 1 := h.c43
@[simp] theorem a43_ [h : Facts P] : aggT P 43 = false := h.a43
@[simp] theorem z43_ [h : Facts P] : zbox P 43 = some (A.int .u64 0, 8) := h.z43
@[simp] theorem u44_ [h : Facts P] : P.underlying 44 = some (.int .u32) := h.u44
@[simp] theorem s44_ [h : Facts P] : isSliceT P 44 = false := h.s44
@[simp] theorem t44_ [h : Facts P] : isStrT P 44 = false := h.t44
@[simp] theorem h44_ [h : Facts P] : hasU P 44 = true := h.h44
@[simp] theorem i44_ [h : Facts P] : intT P 44 = some .u32 := h.i44
@[simp] theorem c44_ [h : Facts P] : P.cellsOf 44 = 1 := h.c44
@[simp] theorem a44_ [h : Facts P] : aggT P 44 = false := h.a44
@[simp] theorem z44_ [h : Facts P] : zbox P 44 = some (A.int .u32 0, 4) := h.z44
@[simp] theorem u50_ [h : Facts P] : P.underlying 50 = some (.array 0 16) := h.u50
@[simp] theorem s50_ [h : Facts P] : isSliceT P 50 = false := h.s50
@[simp] theorem t50_ [h : Facts P] : isStrT P 50 = false := h.t50
@[simp] theorem r50_ [h : Facts P] : arrT P 50 = some (0, 16) := h.r50
@[simp] theorem h50_ [h : Facts P] : hasU P 50 = true := h.h50
@[simp] theorem n50_ [h : Facts P] : bplan P 50 = none := h.n50
@[simp] theorem c50_ [h : Facts P] : P.cellsOf 50 = 0 := h.c50
@[simp] theorem a50_ [h : Facts P] : aggT P 50 = true := h.a50
@[simp] theorem z50_ [h : Facts P] : zbox P 50 = some (A.agg [], 0) := h.z50
@[simp] theorem b50_ [h : Facts P] : aplan P 50 = some ([], 1) := h.b50
@[simp] theorem g60_0_ [h : Facts P] : fld P 60 0 = some (12, 0) := h.g60_0
@[simp] theorem g60_1_ [h : Facts P] : fld P 60 1 = some (12, 1) := h.g60_1
@[simp] theorem g60_2_ [h : Facts P] : fld P 60 2 = some (44, 2) := h.g60_2
@[simp] theorem g60_3_ [h : Facts P] : fld P 60 3 = some (54, 3) := h.g60_3
@[simp] theorem g60_4_ [h : Facts P] : fld P 60 4 = some (5, 4) := h.g60_4
@[simp] theorem g60_5_ [h : Facts P] : fld P 60 5 = some (5, 5) := h.g60_5
@[simp] theorem g60_6_ [h : Facts P] : fld P 60 6 = some (55, 6) := h.g60_6
@[simp] theorem g60_7_ [h : Facts P] : fld P 60 7 = some (56, 7) := h.g60_7
@[simp] theorem g60_8_ [h : Facts P] : fld P 60 8 = some (57, 8) := h.g60_8
@[simp] theorem g60_9_ [h : Facts P] : fld P 60 9 = some (58, 9) := h.g60_9
@[simp] theorem g60_10_ [h : Facts P] : fld P 60 10 = some (59, 10) := h.g60_10
@[simp] theorem s60_ [h : Facts P] : isSliceT P 60 = false := h.s60
@[simp] theorem t60_ [h : Facts P] : isStrT P 60 = false := h.t60
@[simp] theorem h60_ [h : Facts P] : hasU P 60 = true := h.h60
@[simp] theorem w60_ [h : Facts P] : ftl P 60 = some [(12, 0), (12, 1), (44, 2), (54, 3), (5, 4), (5, 5), (55, 6), (56, 7), (57, 8), (58, 9), (59, 10)] := h.w60
@[simp] theorem c60_ [h : Facts P] : P.cellsOf 60 = 11 := h.c60
@[simp] theorem a60_ [h : Facts P] : aggT P 60 = true := h.a60
@[simp] theorem z60_ [h : Facts P] : zbox P 60 = some (A.agg [A.int .u64 0, A.int .u64 0, A.int .u32 0, A.int .u8 0, A.int .u8 0, A.int .u8 0, A.int .u8 0, A.nfn, A.nptr, A.int .i32 0, A.int .i32 0], 48) := h.z60
@[simp] theorem q0_ [h : Facts P] : P.cellsOf 4294967295 = 0 := h.q0
end

theorem has_u2 : Try.prog.underlying 2 = some (.int .i64) := by kernel_rfl
theorem has_s2 : isSliceT Try.prog 2 = false := by kernel_rfl
theorem has_t2 : isStrT Try.prog 2 = false := by kernel_rfl
theorem has_h2 : hasU Try.prog 2 = true := by kernel_rfl
theorem has_i2 : intT Try.prog 2 = some .i64 := by kernel_rfl
theorem has_c2 : Try.prog.cellsOf 2 = 1 := by kernel_rfl
theorem has_a2 : aggT Try.prog 2 = false := by kernel_rfl
theorem has_z2 : zbox Try.prog 2 = some (A.int .i64 0, 8) := by kernel_rfl
theorem has_u3 : Try.prog.underlying 3 = some (.int .i64) := by kernel_rfl
theorem has_s3 : isSliceT Try.prog 3 = false := by kernel_rfl
theorem has_t3 : isStrT Try.prog 3 = false := by kernel_rfl
theorem has_h3 : hasU Try.prog 3 = true := by kernel_rfl
theorem has_i3 : intT Try.prog 3 = some .i64 := by kernel_rfl
theorem has_c3 : Try.prog.cellsOf 3 = 1 := by kernel_rfl
theorem has_a3 : aggT Try.prog 3 = false := by kernel_rfl
theorem has_z3 : zbox Try.prog 3 = some (A.int .i64 0, 8) := by kernel_rfl
theorem has_u4 : Try.prog.underlying 4 = some (.bool) := by kernel_rfl
theorem has_s4 : isSliceT Try.prog 4 = false := by kernel_rfl
theorem has_t4 : isStrT Try.prog 4 = false := by kernel_rfl
theorem has_h4 : hasU Try.prog 4 = true := by kernel_rfl
theorem has_d4 : isBoolT Try.prog 4 = true := by kernel_rfl
theorem has_c4 : Try.prog.cellsOf 4 = 1 := by kernel_rfl
theorem has_a4 : aggT Try.prog 4 = false := by kernel_rfl
theorem has_z4 : zbox Try.prog 4 = some (A.bool false, 1) := by kernel_rfl
theorem has_u5 : Try.prog.underlying 5 = some (.int .u8) := by kernel_rfl
theorem has_s5 : isSliceT Try.prog 5 = false := by kernel_rfl
theorem has_t5 : isStrT Try.prog 5 = false := by kernel_rfl
theorem has_h5 : hasU Try.prog 5 = true := by kernel_rfl
theorem has_i5 : intT Try.prog 5 = some .u8 := by kernel_rfl
theorem has_c5 : Try.prog.cellsOf 5 = 1 := by kernel_rfl
theorem has_a5 : aggT Try.prog 5 = false := by kernel_rfl
theorem has_z5 : zbox Try.prog 5 = some (A.int .u8 0, 1) := by kernel_rfl
theorem has_u9 : Try.prog.underlying 9 = some (.string) := by kernel_rfl
theorem has_s9 : isSliceT Try.prog 9 = false := by kernel_rfl
theorem has_t9 : isStrT Try.prog 9 = true := by kernel_rfl
theorem has_h9 : hasU Try.prog 9 = true := by kernel_rfl
theorem has_c9 : Try.prog.cellsOf 9 = 1 := by kernel_rfl
theorem has_a9 : aggT Try.prog 9 = false := by kernel_rfl
theorem has_z9 : zbox Try.prog 9 = some (A.str [], 16) := by kernel_rfl
theorem has_u12 : Try.prog.underlying 12 = some (.int .u64) := by kernel_rfl
theorem has_s12 : isSliceT Try.prog 12 = false := by kernel_rfl
theorem has_t12 : isStrT Try.prog 12 = false := by kernel_rfl
theorem has_h12 : hasU Try.prog 12 = true := by kernel_rfl
theorem has_i12 : intT Try.prog 12 = some .u64 := by kernel_rfl
theorem has_c12 : Try.prog.cellsOf 12 = 1 := by kernel_rfl
theorem has_a12 : aggT Try.prog 12 = false := by kernel_rfl
theorem has_z12 : zbox Try.prog 12 = some (A.int .u64 0, 8) := by kernel_rfl
theorem has_u21 : Try.prog.underlying 21 = some (.int .i32) := by kernel_rfl
theorem has_s21 : isSliceT Try.prog 21 = false := by kernel_rfl
theorem has_t21 : isStrT Try.prog 21 = false := by kernel_rfl
theorem has_h21 : hasU Try.prog 21 = true := by kernel_rfl
theorem has_i21 : intT Try.prog 21 = some .i32 := by kernel_rfl
theorem has_c21 : Try.prog.cellsOf 21 = 1 := by kernel_rfl
theorem has_a21 : aggT Try.prog 21 = false := by kernel_rfl
theorem has_z21 : zbox Try.prog 21 = some (A.int .i32 0, 4) := by kernel_rfl
theorem has_u23 : Try.prog.underlying 23 = some (.int .i64) := by kernel_rfl
theorem has_s23 : isSliceT Try.prog 23 = false := by kernel_rfl
theorem has_t23 : isStrT Try.prog 23 = false := by kernel_rfl
theorem has_h23 : hasU Try.prog 23 = true := by kernel_rfl
theorem has_i23 : intT Try.prog 23 = some .i64 := by kernel_rfl
theorem has_c23 : Try.prog.cellsOf 23 = 1 := by kernel_rfl
theorem has_a23 : aggT Try.prog 23 = false := by kernel_rfl
theorem has_z23 : zbox Try.prog 23 = some (A.int .i64 0, 8) := by kernel_rfl
theorem has_u26 : Try.prog.underlying 26 = some (.slice 5) := by kernel_rfl
theorem has_s26 : isSliceT Try.prog 26 = true := by kernel_rfl
theorem has_l26 : selem Try.prog 26 = 5 := by kernel_rfl
theorem has_t26 : isStrT Try.prog 26 = false := by kernel_rfl
theorem has_h26 : hasU Try.prog 26 = true := by kernel_rfl
theorem has_c26 : Try.prog.cellsOf 26 = 1 := by kernel_rfl
theorem has_a26 : aggT Try.prog 26 = false := by kernel_rfl
theorem has_z26 : zbox Try.prog 26 = some (A.sl true [], 24) := by kernel_rfl
theorem has_u28 : Try.prog.underlying 28 = some (.slice 9) := by kernel_rfl
theorem has_s28 : isSliceT Try.prog 28 = true := by kernel_rfl
theorem has_l28 : selem Try.prog 28 = 9 := by kernel_rfl
theorem has_t28 : isStrT Try.prog 28 = false := by kernel_rfl
theorem has_h28 : hasU Try.prog 28 = true := by kernel_rfl
theorem has_c28 : Try.prog.cellsOf 28 = 1 := by kernel_rfl
theorem has_a28 : aggT Try.prog 28 = false := by kernel_rfl
theorem has_z28 : zbox Try.prog 28 = some (A.sl true [], 24) := by kernel_rfl
theorem has_u43 : Try.prog.underlying 43 = some (.int .u64) := by kernel_rfl
theorem has_s43 : isSliceT Try.prog 43 = false := by kernel_rfl
theorem has_t43 : isStrT Try.prog 43 = false := by kernel_rfl
theorem has_h43 : hasU Try.prog 43 = true := by kernel_rfl
theorem has_i43 : intT Try.prog 43 = some .u64 := by kernel_rfl
theorem has_c43 : Try.prog.cellsOf 43 = 1 := by kernel_rfl
theorem has_a43 : aggT Try.prog 43 = false := by kernel_rfl
theorem has_z43 : zbox Try.prog 43 = some (A.int .u64 0, 8) := by kernel_rfl
theorem has_u44 : Try.prog.underlying 44 = some (.int .u32) := by kernel_rfl
theorem has_s44 : isSliceT Try.prog 44 = false := by kernel_rfl
theorem has_t44 : isStrT Try.prog 44 = false := by kernel_rfl
theorem has_h44 : hasU Try.prog 44 = true := by kernel_rfl
theorem has_i44 : intT Try.prog 44 = some .u32 := by kernel_rfl
theorem has_c44 : Try.prog.cellsOf 44 = 1 := by kernel_rfl
theorem has_a44 : aggT Try.prog 44 = false := by kernel_rfl
theorem has_z44 : zbox Try.prog 44 = some (A.int .u32 0, 4) := by kernel_rfl
theorem has_u50 : Try.prog.underlying 50 = some (.array 0 16) := by kernel_rfl
theorem has_s50 : isSliceT Try.prog 50 = false := by kernel_rfl
theorem has_t50 : isStrT Try.prog 50 = false := by kernel_rfl
theorem has_r50 : arrT Try.prog 50 = some (0, 16) := by kernel_rfl
theorem has_h50 : hasU Try.prog 50 = true := by kernel_rfl
theorem has_n50 : bplan Try.prog 50 = none := by kernel_rfl
theorem has_c50 : Try.prog.cellsOf 50 = 0 := by kernel_rfl
theorem has_a50 : aggT Try.prog 50 = true := by kernel_rfl
theorem has_z50 : zbox Try.prog 50 = some (A.agg [], 0) := by kernel_rfl
theorem has_b50 : aplan Try.prog 50 = some ([], 1) := by kernel_rfl
theorem has_g60_0 : fld Try.prog 60 0 = some (12, 0) := by kernel_rfl
theorem has_g60_1 : fld Try.prog 60 1 = some (12, 1) := by kernel_rfl
theorem has_g60_2 : fld Try.prog 60 2 = some (44, 2) := by kernel_rfl
theorem has_g60_3 : fld Try.prog 60 3 = some (54, 3) := by kernel_rfl
theorem has_g60_4 : fld Try.prog 60 4 = some (5, 4) := by kernel_rfl
theorem has_g60_5 : fld Try.prog 60 5 = some (5, 5) := by kernel_rfl
theorem has_g60_6 : fld Try.prog 60 6 = some (55, 6) := by kernel_rfl
theorem has_g60_7 : fld Try.prog 60 7 = some (56, 7) := by kernel_rfl
theorem has_g60_8 : fld Try.prog 60 8 = some (57, 8) := by kernel_rfl
theorem has_g60_9 : fld Try.prog 60 9 = some (58, 9) := by kernel_rfl
theorem has_g60_10 : fld Try.prog 60 10 = some (59, 10) := by kernel_rfl
theorem has_s60 : isSliceT Try.prog 60 = false := by kernel_rfl
theorem has_t60 : isStrT Try.prog 60 = false := by kernel_rfl
theorem has_h60 : hasU Try.prog 60 = true := by kernel_rfl
theorem has_w60 : ftl Try.prog 60 = some [(12, 0), (12, 1), (44, 2), (54, 3), (5, 4), (5, 5), (55, 6), (56, 7), (57, 8), (58, 9), (59, 10)] := by kernel_rfl
theorem has_c60 : Try.prog.cellsOf 60 = 11 := by kernel_rfl
theorem has_a60 : aggT Try.prog 60 = true := by kernel_rfl
theorem has_z60 : zbox Try.prog 60 = some (A.agg [A.int .u64 0, A.int .u64 0, A.int .u32 0, A.int .u8 0, A.int .u8 0, A.int .u8 0, A.int .u8 0, A.nfn, A.nptr, A.int .i32 0, A.int .i32 0], 48) := by kernel_rfl
theorem has_q0 : Try.prog.cellsOf 4294967295 = 0 := by kernel_rfl
theorem has_mo : Try.prog.follows .mixedOrders = true := by kernel_rfl
instance facts : Facts Try.prog where
  u2 := has_u2
  s2 := has_s2
  t2 := has_t2
  h2 := has_h2
  i2 := has_i2
  c2 := has_c2
  a2 := has_a2
  z2 := has_z2
  u3 := has_u3
  s3 := has_s3
  t3 := has_t3
  h3 := has_h3
  i3 := has_i3
  c3 := has_c3
  a3 := has_a3
  z3 := has_z3
  u4 := has_u4
  s4 := has_s4
  t4 := has_t4
  h4 := has_h4
  d4 := has_d4
  c4 := has_c4
  a4 := has_a4
  z4 := has_z4
  u5 := has_u5
  s5 := has_s5
  t5 := has_t5
  h5 := has_h5
  i5 := has_i5
  c5 := has_c5
  a5 := has_a5
  z5 := has_z5
  u9 := has_u9
  s9 := has_s9
  t9 := has_t9
  h9 := has_h9
  c9 := has_c9
  a9 := has_a9
  z9 := has_z9
  u12 := has_u12
  s12 := has_s12
  t12 := has_t12
  h12 := has_h12
  i12 := has_i12
  c12 := has_c12
  a12 := has_a12
  z12 := has_z12
  u21 := has_u21
  s21 := has_s21
  t21 := has_t21
  h21 := has_h21
  i21 := has_i21
  c21 := has_c21
  a21 := has_a21
  z21 := has_z21
  u23 := has_u23
  s23 := has_s23
  t23 := has_t23
  h23 := has_h23
  i23 := has_i23
  c23 := has_c23
  a23 := has_a23
  z23 := has_z23
  u26 := has_u26
  s26 := has_s26
  l26 := has_l26
  t26 := has_t26
  h26 := has_h26
  c26 := has_c26
  a26 := has_a26
  z26 := has_z26
  u28 := has_u28
  s28 := has_s28
  l28 := has_l28
  t28 := has_t28
  h28 := has_h28
  c28 := has_c28
  a28 := has_a28
  z28 := has_z28
  u43 := has_u43
  s43 := has_s43
  t43 := has_t43
  h43 := has_h43
  i43 := has_i43
  c43 := has_c43
  a43 := has_a43
  z43 := has_z43
  u44 := has_u44
  s44 := has_s44
  t44 := has_t44
  h44 := has_h44
  i44 := has_i44
  c44 := has_c44
  a44 := has_a44
  z44 := has_z44
  u50 := has_u50
  s50 := has_s50
  t50 := has_t50
  r50 := has_r50
  h50 := has_h50
  n50 := has_n50
  c50 := has_c50
  a50 := has_a50
  z50 := has_z50
  b50 := has_b50
  g60_0 := has_g60_0
  g60_1 := has_g60_1
  g60_2 := has_g60_2
  g60_3 := has_g60_3
  g60_4 := has_g60_4
  g60_5 := has_g60_5
  g60_6 := has_g60_6
  g60_7 := has_g60_7
  g60_8 := has_g60_8
  g60_9 := has_g60_9
  g60_10 := has_g60_10
  s60 := has_s60
  t60 := has_t60
  h60 := has_h60
  w60 := has_w60
  c60 := has_c60
  a60 := has_a60
  z60 := has_z60
  q0 := has_q0
  mo := has_mo
  f0 := Try.func0
  f1 := Try.func1
  f2 := Try.func2
  f3 := Try.func3
  f4 := Try.func4
  f5 := Try.func5
  f6 := Try.func6
  f7 := Try.func7
  f8 := Try.func8
  f9 := Try.func9
  f10 := Try.func10
  f11 := Try.func11
  f12 := Try.func12
  f13 := Try.func13
  f14 := Try.func14
  f15 := Try.func15
  f16 := Try.func16
  f17 := Try.func17
  f18 := Try.func18
  f19 := Try.func19
  f20 := Try.func20
  f21 := Try.func21
  f22 := Try.func22
  f23 := Try.func23
  f24 := Try.func24
  f25 := Try.func25
  f26 := Try.func26
  f27 := Try.func27
  f28 := Try.func28
  f29 := Try.func29
  f30 := Try.func30
  f31 := Try.func31
  f32 := Try.func32
  f33 := Try.func33
  f34 := Try.func34
  f35 := Try.func35
  f36 := Try.func36
  f37 := Try.func37
  f38 := Try.func38
  f39 := Try.func39
  f40 := Try.func40
  f41 := Try.func41
  f42 := Try.func42
  f43 := Try.func43
  f44 := Try.func44
  f45 := Try.func45
  f46 := Try.func46
  f47 := Try.func47
  f48 := Try.func48
  f49 := Try.func49
end Go.Proofs.Ytgpgajhaecfbgaa
