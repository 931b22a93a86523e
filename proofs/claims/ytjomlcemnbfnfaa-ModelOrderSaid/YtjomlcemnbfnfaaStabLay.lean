/- What the stable sort's bodies ask of a program, at histories: laid so that the number of an element's cells stays a letter. -/
import Derived.Test.YtjomlcemnbfnfaaChecked
import Derived.Shelf.SlSortCmp.KitK
namespace Go.Proofs
open Go.RowKit Go.Shelf

structure StabK (P : Program) (k : Nat) : Prop where
  mixed : P.follows .mixedOrders = true
  fSwap : P.funcs[109]? = some Try.f109
  fRot : P.funcs[95]? = some Try.f95
  fSym : P.funcs[84]? = some Try.f84
  fIns : P.funcs[83]? = some Try.f83
  fStab : P.funcs[67]? = some Try.f67
  fSort : P.funcs[48]? = some Try.f48
  cSwap : ∀ args w, (callFunc 109 args).run P w = .ok (.enter 109 args) w
  cRot : ∀ args w, (callFunc 95 args).run P w = .ok (.enter 95 args) w
  cSym : ∀ args w, (callFunc 84 args).run P w = .ok (.enter 84 args) w
  cIns : ∀ args w, (callFunc 83 args).run P w = .ok (.enter 83 args) w
  cStab : ∀ args w, (callFunc 67 args).run P w = .ok (.enter 67 args) w
  t0 : P.underlying 0 = some (TypeDesc.tuple #[])
  a0 : ∀ w, (isAgg 0).run P w = .ok false w
  z0 : ∀ w, (Go.sizeOf 0).run P w = .ok 1 w
  v0 : ∀ w, (zeroValue 0).run P w = .ok (Value.tuple #[]) w
  t3 : P.underlying 3 = some (TypeDesc.int IntKind.i64)
  a3 : ∀ w, (isAgg 3).run P w = .ok false w
  z3 : ∀ w, (Go.sizeOf 3).run P w = .ok 1 w
  v3 : ∀ w, (zeroValue 3).run P w = .ok (Value.int IntKind.i64 0) w
  t4 : P.underlying 4 = some (TypeDesc.bool)
  a4 : ∀ w, (isAgg 4).run P w = .ok false w
  z4 : ∀ w, (Go.sizeOf 4).run P w = .ok 1 w
  v4 : ∀ w, (zeroValue 4).run P w = .ok (Value.bool false) w
  t5 : P.underlying 42 = some (TypeDesc.slice 45)
  a5 : ∀ w, (isAgg 42).run P w = .ok false w
  z5 : ∀ w, (Go.sizeOf 42).run P w = .ok 1 w
  v5 : ∀ w, (zeroValue 42).run P w = .ok (Value.slice none 0 0) w
  t6 : P.underlying 91 = some (TypeDesc.func #[45, 45] #[3] false)
  a6 : ∀ w, (isAgg 91).run P w = .ok false w
  z6 : ∀ w, (Go.sizeOf 91).run P w = .ok 1 w
  v6 : ∀ w, (zeroValue 91).run P w = .ok (Value.nilFunc) w
  t7 : P.underlying 123 = some (TypeDesc.int IntKind.u64)
  a7 : ∀ w, (isAgg 123).run P w = .ok false w
  z7 : ∀ w, (Go.sizeOf 123).run P w = .ok 1 w
  v7 : ∀ w, (zeroValue 123).run P w = .ok (Value.int IntKind.u64 0) w
  aE : ∀ w, (isAgg 45).run P w = .ok true w
  zE : ∀ w, (Go.sizeOf 45).run P w = .ok k w

theorem stabK : StabK Try.prog 7 where
  mixed := by kernel_rfl
  fSwap := Try.func109
  fRot := Try.func95
  fSym := Try.func84
  fIns := Try.func83
  fStab := Try.func67
  fSort := Try.func48
  cSwap := Try.call109
  cRot := Try.call95
  cSym := Try.call84
  cIns := Try.call83
  cStab := Try.call67
  t0 := Try.underlying0
  a0 := Try.isAgg0
  z0 := Try.sizeOf0
  v0 := Try.zeroValue0
  t3 := Try.underlying3
  a3 := Try.isAgg3
  z3 := Try.sizeOf3
  v3 := Try.zeroValue3
  t4 := Try.underlying4
  a4 := Try.isAgg4
  z4 := Try.sizeOf4
  v4 := Try.zeroValue4
  t5 := Try.underlying42
  a5 := Try.isAgg42
  z5 := Try.sizeOf42
  v5 := Try.zeroValue42
  t6 := Try.underlying91
  a6 := Try.isAgg91
  z6 := Try.sizeOf91
  v6 := Try.zeroValue91
  t7 := Try.underlying123
  a7 := Try.isAgg123
  z7 := Try.sizeOf123
  v7 := Try.zeroValue123
  aE := Try.isAgg45
  zE := Try.sizeOf45
end Go.Proofs
