/- The facts about types and functions that the walks of this seat use, and that its program has them. -/
import Derived.Test.YtmegdnfihhikhaaAlLine
import Derived.Test.YtmegdnfihhikhaaProg
import Derived.KernelRfl
namespace Go.Proofs.Ytmegdnfihhikhaa
open Go.AL

structure Facts (P : Program) : Prop where
  u3 : P.underlying 3 = some (.int .i64)
  h3 : hasU P 3 = true
  c3 : P.cellsOf 3 = 1
  a3 : aggT P 3 = false
  z3 : zbox P 3 = some (A.int .i64 0, 8)
  u4 : P.underlying 4 = some (.bool)
  h4 : hasU P 4 = true
  c4 : P.cellsOf 4 = 1
  a4 : aggT P 4 = false
  z4 : zbox P 4 = some (A.bool false, 1)
  u5 : P.underlying 5 = some (.int .u8)
  h5 : hasU P 5 = true
  c5 : P.cellsOf 5 = 1
  a5 : aggT P 5 = false
  z5 : zbox P 5 = some (A.int .u8 0, 1)
  u9 : P.underlying 9 = some (.string)
  h9 : hasU P 9 = true
  c9 : P.cellsOf 9 = 1
  a9 : aggT P 9 = false
  z9 : zbox P 9 = some (A.str [], 16)
  u22 : P.underlying 22 = some (.slice 3)
  h22 : hasU P 22 = true
  c22 : P.cellsOf 22 = 1
  a22 : aggT P 22 = false
  z22 : zbox P 22 = some (A.sl true true [], 24)
  u24 : P.underlying 24 = some (.int .i64)
  h24 : hasU P 24 = true
  c24 : P.cellsOf 24 = 1
  a24 : aggT P 24 = false
  z24 : zbox P 24 = some (A.int .i64 0, 8)
  u35 : P.underlying 35 = some (.slice 37)
  h35 : hasU P 35 = true
  c35 : P.cellsOf 35 = 1
  a35 : aggT P 35 = false
  z35 : zbox P 35 = some (A.sl true true [], 24)
  g36_0 : fld P 36 0 = some (3, 0)
  g36_1 : fld P 36 1 = some (3, 1)
  h36 : hasU P 36 = true
  c36 : P.cellsOf 36 = 2
  a36 : aggT P 36 = true
  z36 : zbox P 36 = some (A.agg [A.int .i64 0, A.int .i64 0], 16)
  b36 : bplan P 36 = some ([A.int .i64 0, A.int .i64 0], [(0, 1), (1, 1)])
  g37_0 : fld P 37 0 = some (3, 0)
  g37_1 : fld P 37 1 = some (3, 1)
  h37 : hasU P 37 = true
  c37 : P.cellsOf 37 = 2
  a37 : aggT P 37 = true
  z37 : zbox P 37 = some (A.agg [A.int .i64 0, A.int .i64 0], 16)
  b37 : bplan P 37 = some ([A.int .i64 0, A.int .i64 0], [(0, 1), (1, 1)])
  mo : P.follows .mixedOrders = true
  f0 : P.funcs[0]? = some Try.f0
  f1 : P.funcs[1]? = some Try.f1
  f2 : P.funcs[2]? = some Try.f2
  f3 : P.funcs[3]? = some Try.f3
  f4 : P.funcs[4]? = some Try.f4
  f5 : P.funcs[5]? = some Try.f5
  f6 : P.funcs[6]? = some Try.f6
  f7 : P.funcs[7]? = some Try.f7
  f8 : P.funcs[8]? = some Try.f8
  f9 : P.funcs[9]? = some Try.f9
  f10 : P.funcs[10]? = some Try.f10
  f11 : P.funcs[11]? = some Try.f11
  f12 : P.funcs[12]? = some Try.f12
  f13 : P.funcs[13]? = some Try.f13
  f14 : P.funcs[14]? = some Try.f14
  f15 : P.funcs[15]? = some Try.f15
  f16 : P.funcs[16]? = some Try.f16
  f17 : P.funcs[17]? = some Try.f17
  f18 : P.funcs[18]? = some Try.f18
  f19 : P.funcs[19]? = some Try.f19
  f20 : P.funcs[20]? = some Try.f20
  f21 : P.funcs[21]? = some Try.f21
  f22 : P.funcs[22]? = some Try.f22
  f23 : P.funcs[23]? = some Try.f23
  f24 : P.funcs[24]? = some Try.f24
  f25 : P.funcs[25]? = some Try.f25
  f26 : P.funcs[26]? = some Try.f26
  f27 : P.funcs[27]? = some Try.f27
  f28 : P.funcs[28]? = some Try.f28
  f29 : P.funcs[29]? = some Try.f29
  f30 : P.funcs[30]? = some Try.f30
  f31 : P.funcs[31]? = some Try.f31
  f32 : P.funcs[32]? = some Try.f32
  f33 : P.funcs[33]? = some Try.f33
  f34 : P.funcs[34]? = some Try.f34
  f35 : P.funcs[35]? = some Try.f35
  f36 : P.funcs[36]? = some Try.f36
  f37 : P.funcs[37]? = some Try.f37
  f38 : P.funcs[38]? = some Try.f38
  f39 : P.funcs[39]? = some Try.f39
  f40 : P.funcs[40]? = some Try.f40
  f41 : P.funcs[41]? = some Try.f41

section
variable {P : Program}
@[simp] theorem u3_ (h : Facts P) : P.underlying 3 = some (.int .i64) := h.u3
@[simp] theorem h3_ (h : Facts P) : hasU P 3 = true := h.h3
@[simp] theorem c3_ (h : Facts P) : P.cellsOf 3 = 1 := h.c3
@[simp] theorem a3_ (h : Facts P) : aggT P 3 = false := h.a3
@[simp] theorem z3_ (h : Facts P) : zbox P 3 = some (A.int .i64 0, 8) := h.z3
@[simp] theorem u4_ (h : Facts P) : P.underlying 4 = some (.bool) := h.u4
@[simp] theorem h4_ (h : Facts P) : hasU P 4 = true := h.h4
@[simp] theorem c4_ (h : Facts P) : P.cellsOf 4 = 1 := h.c4
@[simp] theorem a4_ (h : Facts P) : aggT P 4 = false := h.a4
@[simp] theorem z4_ (h : Facts P) : zbox P 4 = some (A.bool false, 1) := h.z4
@[simp] theorem u5_ (h : Facts P) : P.underlying 5 = some (.int .u8) := h.u5
@[simp] theorem h5_ (h : Facts P) : hasU P 5 = true := h.h5
@[simp] theorem c5_ (h : Facts P) : P.cellsOf 5 = 1 := h.c5
@[simp] theorem a5_ (h : Facts P) : aggT P 5 = false := h.a5
@[simp] theorem z5_ (h : Facts P) : zbox P 5 = some (A.int .u8 0, 1) := h.z5
@[simp] theorem u9_ (h : Facts P) : P.underlying 9 = some (.string) := h.u9
@[simp] theorem h9_ (h : Facts P) : hasU P 9 = true := h.h9
@[simp] theorem c9_ (h : Facts P) : P.cellsOf 9 = 1 := h.c9
@[simp] theorem a9_ (h : Facts P) : aggT P 9 = false := h.a9
@[simp] theorem z9_ (h : Facts P) : zbox P 9 = some (A.str [], 16) := h.z9
@[simp] theorem u22_ (h : Facts P) : P.underlying 22 = some (.slice 3) := h.u22
@[simp] theorem h22_ (h : Facts P) : hasU P 22 = true := h.h22
@[simp] theorem c22_ (h : Facts P) : P.cellsOf 22 = 1 := h.c22
@[simp] theorem a22_ (h : Facts P) : aggT P 22 = false := h.a22
@[simp] theorem z22_ (h : Facts P) : zbox P 22 = some (A.sl true true [], 24) := h.z22
@[simp] theorem u24_ (h : Facts P) : P.underlying 24 = some (.int .i64) := h.u24
@[simp] theorem h24_ (h : Facts P) : hasU P 24 = true := h.h24
@[simp] theorem c24_ (h : Facts P) : P.cellsOf 24 = 1 := h.c24
@[simp] theorem a24_ (h : Facts P) : aggT P 24 = false := h.a24
@[simp] theorem z24_ (h : Facts P) : zbox P 24 = some (A.int .i64 0, 8) := h.z24
@[simp] theorem u35_ (h : Facts P) : P.underlying 35 = some (.slice 37) := h.u35
@[simp] theorem h35_ (h : Facts P) : hasU P 35 = true := h.h35
@[simp] theorem c35_ (h : Facts P) : P.cellsOf 35 = 1 := h.c35
@[simp] theorem a35_ (h : Facts P) : aggT P 35 = false := h.a35
@[simp] theorem z35_ (h : Facts P) : zbox P 35 = some (A.sl true true [], 24) := h.z35
@[simp] theorem g36_0_ (h : Facts P) : fld P 36 0 = some (3, 0) := h.g36_0
@[simp] theorem g36_1_ (h : Facts P) : fld P 36 1 = some (3, 1) := h.g36_1
@[simp] theorem h36_ (h : Facts P) : hasU P 36 = true := h.h36
@[simp] theorem c36_ (h : Facts P) : P.cellsOf 36 = 2 := h.c36
@[simp] theorem a36_ (h : Facts P) : aggT P 36 = true := h.a36
@[simp] theorem z36_ (h : Facts P) : zbox P 36 = some (A.agg [A.int .i64 0, A.int .i64 0], 16) := h.z36
@[simp] theorem b36_ (h : Facts P) : bplan P 36 = some ([A.int .i64 0, A.int .i64 0], [(0, 1), (1, 1)]) := h.b36
@[simp] theorem g37_0_ (h : Facts P) : fld P 37 0 = some (3, 0) := h.g37_0
@[simp] theorem g37_1_ (h : Facts P) : fld P 37 1 = some (3, 1) := h.g37_1
@[simp] theorem h37_ (h : Facts P) : hasU P 37 = true := h.h37
@[simp] theorem c37_ (h : Facts P) : P.cellsOf 37 = 2 := h.c37
@[simp] theorem a37_ (h : Facts P) : aggT P 37 = true := h.a37
@[simp] theorem z37_ (h : Facts P) : zbox P 37 = some (A.agg [A.int .i64 0, A.int .i64 0], 16) := h.z37
@[simp] theorem b37_ (h : Facts P) : bplan P 37 = some ([A.int .i64 0, A.int .i64 0], [(0, 1), (1, 1)]) := h.b37
end

theorem has_u3 : Try.prog.underlying 3 = some (.int .i64) := by kernel_rfl
theorem has_h3 : hasU Try.prog 3 = true := by kernel_rfl
theorem has_c3 : Try.prog.cellsOf 3 = 1 := by kernel_rfl
theorem has_a3 : aggT Try.prog 3 = false := by kernel_rfl
theorem has_z3 : zbox Try.prog 3 = some (A.int .i64 0, 8) := by kernel_rfl
theorem has_u4 : Try.prog.underlying 4 = some (.bool) := by kernel_rfl
theorem has_h4 : hasU Try.prog 4 = true := by kernel_rfl
theorem has_c4 : Try.prog.cellsOf 4 = 1 := by kernel_rfl
theorem has_a4 : aggT Try.prog 4 = false := by kernel_rfl
theorem has_z4 : zbox Try.prog 4 = some (A.bool false, 1) := by kernel_rfl
theorem has_u5 : Try.prog.underlying 5 = some (.int .u8) := by kernel_rfl
theorem has_h5 : hasU Try.prog 5 = true := by kernel_rfl
theorem has_c5 : Try.prog.cellsOf 5 = 1 := by kernel_rfl
theorem has_a5 : aggT Try.prog 5 = false := by kernel_rfl
theorem has_z5 : zbox Try.prog 5 = some (A.int .u8 0, 1) := by kernel_rfl
theorem has_u9 : Try.prog.underlying 9 = some (.string) := by kernel_rfl
theorem has_h9 : hasU Try.prog 9 = true := by kernel_rfl
theorem has_c9 : Try.prog.cellsOf 9 = 1 := by kernel_rfl
theorem has_a9 : aggT Try.prog 9 = false := by kernel_rfl
theorem has_z9 : zbox Try.prog 9 = some (A.str [], 16) := by kernel_rfl
theorem has_u22 : Try.prog.underlying 22 = some (.slice 3) := by kernel_rfl
theorem has_h22 : hasU Try.prog 22 = true := by kernel_rfl
theorem has_c22 : Try.prog.cellsOf 22 = 1 := by kernel_rfl
theorem has_a22 : aggT Try.prog 22 = false := by kernel_rfl
theorem has_z22 : zbox Try.prog 22 = some (A.sl true true [], 24) := by kernel_rfl
theorem has_u24 : Try.prog.underlying 24 = some (.int .i64) := by kernel_rfl
theorem has_h24 : hasU Try.prog 24 = true := by kernel_rfl
theorem has_c24 : Try.prog.cellsOf 24 = 1 := by kernel_rfl
theorem has_a24 : aggT Try.prog 24 = false := by kernel_rfl
theorem has_z24 : zbox Try.prog 24 = some (A.int .i64 0, 8) := by kernel_rfl
theorem has_u35 : Try.prog.underlying 35 = some (.slice 37) := by kernel_rfl
theorem has_h35 : hasU Try.prog 35 = true := by kernel_rfl
theorem has_c35 : Try.prog.cellsOf 35 = 1 := by kernel_rfl
theorem has_a35 : aggT Try.prog 35 = false := by kernel_rfl
theorem has_z35 : zbox Try.prog 35 = some (A.sl true true [], 24) := by kernel_rfl
theorem has_g36_0 : fld Try.prog 36 0 = some (3, 0) := by kernel_rfl
theorem has_g36_1 : fld Try.prog 36 1 = some (3, 1) := by kernel_rfl
theorem has_h36 : hasU Try.prog 36 = true := by kernel_rfl
theorem has_c36 : Try.prog.cellsOf 36 = 2 := by kernel_rfl
theorem has_a36 : aggT Try.prog 36 = true := by kernel_rfl
theorem has_z36 : zbox Try.prog 36 = some (A.agg [A.int .i64 0, A.int .i64 0], 16) := by kernel_rfl
theorem has_b36 : bplan Try.prog 36 = some ([A.int .i64 0, A.int .i64 0], [(0, 1), (1, 1)]) := by kernel_rfl
theorem has_g37_0 : fld Try.prog 37 0 = some (3, 0) := by kernel_rfl
theorem has_g37_1 : fld Try.prog 37 1 = some (3, 1) := by kernel_rfl
theorem has_h37 : hasU Try.prog 37 = true := by kernel_rfl
theorem has_c37 : Try.prog.cellsOf 37 = 2 := by kernel_rfl
theorem has_a37 : aggT Try.prog 37 = true := by kernel_rfl
theorem has_z37 : zbox Try.prog 37 = some (A.agg [A.int .i64 0, A.int .i64 0], 16) := by kernel_rfl
theorem has_b37 : bplan Try.prog 37 = some ([A.int .i64 0, A.int .i64 0], [(0, 1), (1, 1)]) := by kernel_rfl
theorem has_mo : Try.prog.follows .mixedOrders = true := by kernel_rfl
theorem facts : Facts Try.prog where
  u3 := has_u3
  h3 := has_h3
  c3 := has_c3
  a3 := has_a3
  z3 := has_z3
  u4 := has_u4
  h4 := has_h4
  c4 := has_c4
  a4 := has_a4
  z4 := has_z4
  u5 := has_u5
  h5 := has_h5
  c5 := has_c5
  a5 := has_a5
  z5 := has_z5
  u9 := has_u9
  h9 := has_h9
  c9 := has_c9
  a9 := has_a9
  z9 := has_z9
  u22 := has_u22
  h22 := has_h22
  c22 := has_c22
  a22 := has_a22
  z22 := has_z22
  u24 := has_u24
  h24 := has_h24
  c24 := has_c24
  a24 := has_a24
  z24 := has_z24
  u35 := has_u35
  h35 := has_h35
  c35 := has_c35
  a35 := has_a35
  z35 := has_z35
  g36_0 := has_g36_0
  g36_1 := has_g36_1
  h36 := has_h36
  c36 := has_c36
  a36 := has_a36
  z36 := has_z36
  b36 := has_b36
  g37_0 := has_g37_0
  g37_1 := has_g37_1
  h37 := has_h37
  c37 := has_c37
  a37 := has_a37
  z37 := has_z37
  b37 := has_b37
  mo := has_mo
  f0 := Try.func0
  f1 := Try.func1
  f2 := Try.func2
  f3 := Try.func3
  f4 := Try.func4
  f5 := Try.func5
  f6 := Try.func6
  f7 := Try.func7
  f8 := Try.func8
  f9 := Try.func9
  f10 := Try.func10
  f11 := Try.func11
  f12 := Try.func12
  f13 := Try.func13
  f14 := Try.func14
  f15 := Try.func15
  f16 := Try.func16
  f17 := Try.func17
  f18 := Try.func18
  f19 := Try.func19
  f20 := Try.func20
  f21 := Try.func21
  f22 := Try.func22
  f23 := Try.func23
  f24 := Try.func24
  f25 := Try.func25
  f26 := Try.func26
  f27 := Try.func27
  f28 := Try.func28
  f29 := Try.func29
  f30 := Try.func30
  f31 := Try.func31
  f32 := Try.func32
  f33 := Try.func33
  f34 := Try.func34
  f35 := Try.func35
  f36 := Try.func36
  f37 := Try.func37
  f38 := Try.func38
  f39 := Try.func39
  f40 := Try.func40
  f41 := Try.func41
end Go.Proofs.Ytmegdnfihhikhaa
