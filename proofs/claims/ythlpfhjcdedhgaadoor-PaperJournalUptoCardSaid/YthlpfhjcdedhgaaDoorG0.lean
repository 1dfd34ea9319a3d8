/-
  THE FUNCTIONAL FORMS of the functions of this seat's translation, and that each function comes to its form: printed by a program of the prover's own (lift.py).
-/
import Derived.Test.YthlpfhjcdedhgaaDoorLiftH
import Derived.Test.YthlpfhjcdedhgaaDoorProg
import Derived.KernelRfl
import Derived.Test.YthlpfhjcdedhgaaDoorGivP
namespace Go.Proofs.YthlpfhjcdedhgaaDoor
open Go.Lift Go.Lift.Plan
/-- granary/paper.isSum -/
noncomputable def F.paper_isSum (a0 : Value) : M Value :=
  bindO (binV BinOp.geq a0 (Value.int IntKind.i64 0)) fun x1 =>
  M.bind (guardM x1 true (M.ret a0)) fun x2 =>
  M.bind (guardM x1 true (optM (binV BinOp.lss x2 (Value.int IntKind.i64 4294967296)))) fun x3 =>
  bindO (pickV x1 x3 (Value.bool false)) fun x4 =>
  M.ret x4
def F.paper_isSum.plan : Plan := (seq leaf (seq leaf leaf))
theorem F.paper_isSum.lift : LiftOk Tryd.prog 18 (ap1 F.paper_isSum) :=
  lift1 (g := evFn Tryd.prog tnil tnil 18 Tryd.f18 F.paper_isSum.plan) (evFn_sound tnil_ok tnil_ok Tryd.func18 (by kernel_rfl)) (fun x0 => by kernel_rfl)

/-- math/bits.Len64 -/
noncomputable def F.bits_Len64 (a0 : Value) : M Value :=
  M.bind (
    bindO (binV BinOp.geq a0 (Value.int IntKind.u64 4294967296)) fun x1 =>
    condM x1 (
      bindO (shV BinOp.shr a0 (Value.int IntKind.u64 32)) fun x2 =>
      M.ret (Out.norm [x2, (Value.int IntKind.i64 32)])) (
      M.ret (Out.norm [a0, (Value.int IntKind.i64 0)]))) fun o4 =>
  outK o4 (fun l3 =>
    M.bind (
      bindO (binV BinOp.geq (getL l3 0) (Value.int IntKind.u64 65536)) fun x7 =>
      condM x7 (
        bindO (shV BinOp.shr (getL l3 0) (Value.int IntKind.u64 16)) fun x8 =>
        bindO (binV BinOp.add (getL l3 1) (Value.int IntKind.i64 16)) fun x9 =>
        M.ret (Out.norm [x8, x9])) (
        M.ret (Out.norm [(getL l3 0), (getL l3 1)]))) fun o11 =>
    outK o11 (fun l10 =>
      M.bind (
        bindO (binV BinOp.geq (getL l10 0) (Value.int IntKind.u64 256)) fun x14 =>
        condM x14 (
          bindO (shV BinOp.shr (getL l10 0) (Value.int IntKind.u64 8)) fun x15 =>
          bindO (binV BinOp.add (getL l10 1) (Value.int IntKind.i64 8)) fun x16 =>
          M.ret (Out.norm [x15, x16])) (
          M.ret (Out.norm [(getL l10 0), (getL l10 1)]))) fun o18 =>
      outK o18 (fun l17 =>
        bindO (cvtI IntKind.u8 (getL l17 0)) fun x21 =>
        bindO (idxS (Value.string (ByteArray.mk #[0, 1, 2, 2, 3, 3, 3, 3, 4, 4, 4, 4, 4, 4, 4, 4, 5, 5, 5, 5, 5, 5, 5, 5, 5, 5, 5, 5, 5, 5, 5, 5, 6, 6, 6, 6, 6, 6, 6, 6, 6, 6, 6, 6, 6, 6, 6, 6, 6, 6, 6, 6, 6, 6, 6, 6, 6, 6, 6, 6, 6, 6, 6, 6, 7, 7, 7, 7, 7, 7, 7, 7, 7, 7, 7, 7, 7, 7, 7, 7, 7, 7, 7, 7, 7, 7, 7, 7, 7, 7, 7, 7, 7, 7, 7, 7, 7, 7, 7, 7, 7, 7, 7, 7, 7, 7, 7, 7, 7, 7, 7, 7, 7, 7, 7, 7, 7, 7, 7, 7, 7, 7, 7, 7, 7, 7, 7, 7, 8, 8, 8, 8, 8, 8, 8, 8, 8, 8, 8, 8, 8, 8, 8, 8, 8, 8, 8, 8, 8, 8, 8, 8, 8, 8, 8, 8, 8, 8, 8, 8, 8, 8, 8, 8, 8, 8, 8, 8, 8, 8, 8, 8, 8, 8, 8, 8, 8, 8, 8, 8, 8, 8, 8, 8, 8, 8, 8, 8, 8, 8, 8, 8, 8, 8, 8, 8, 8, 8, 8, 8, 8, 8, 8, 8, 8, 8, 8, 8, 8, 8, 8, 8, 8, 8, 8, 8, 8, 8, 8, 8, 8, 8, 8, 8, 8, 8, 8, 8, 8, 8, 8, 8, 8, 8, 8, 8, 8, 8, 8, 8, 8, 8, 8, 8, 8, 8, 8, 8, 8, 8, 8, 8, 8, 8, 8, 8])) x21) fun x22 =>
        bindO (cvtI IntKind.i64 x22) fun x23 =>
        bindO (binV BinOp.add (getL l17 1) x23) fun x24 =>
        M.ret x24) (fun _ _ =>
        M.fail) (fun r20 => M.ret r20)) (fun _ _ =>
      M.fail) (fun r13 => M.ret r13)) (fun _ _ =>
    M.fail) (fun r6 => M.ret r6)
def F.bits_Len64.plan : Plan := (seq leaf (fork [0, 2] [0, 2, 3, 4, 5, 6] [] (seq leaf (cond (seq leaf leaf) leaf)) (fork [0, 2] [0, 2, 7, 8, 9, 10, 11, 12] [] (seq leaf (cond (seq leaf leaf) leaf)) (fork [0, 2] [0, 2, 13, 14, 15, 16, 17, 18] [] (seq leaf (cond (seq leaf leaf) leaf)) (seq leaf leaf)))))
theorem F.bits_Len64.lift : LiftOk Tryd.prog 96 (ap1 F.bits_Len64) :=
  lift1 (g := evFn Tryd.prog tnil tnil 96 Tryd.f96 F.bits_Len64.plan) (evFn_sound tnil_ok tnil_ok Tryd.func96 (by kernel_rfl)) (fun x0 => by kernel_rfl)

/-- internal/strconv.log10Pow2 -/
noncomputable def F.strconv_log10Pow2 (a0 : Value) : M Value :=
  bindO (binV BinOp.mul a0 (Value.int IntKind.i64 78913)) fun x1 =>
  bindO (shV BinOp.shr x1 (Value.int IntKind.u64 18)) fun x2 =>
  M.ret x2
def F.strconv_log10Pow2.plan : Plan := (seq leaf (seq leaf leaf))
theorem F.strconv_log10Pow2.lift : LiftOk Tryd.prog 95 (ap1 F.strconv_log10Pow2) :=
  lift1 (g := evFn Tryd.prog tnil tnil 95 Tryd.f95 F.strconv_log10Pow2.plan) (evFn_sound tnil_ok tnil_ok Tryd.func95 (by kernel_rfl)) (fun x0 => by kernel_rfl)

/-- internal/strconv.bool2[int] -/
noncomputable def F.strconv_bool2_inst (a0 : Value) : M Value :=
  condM a0 (
    M.ret (Value.int IntKind.i64 1)) (
    M.ret (Value.int IntKind.i64 0))
def F.strconv_bool2_inst.plan : Plan := (seq leaf (seq (seq leaf (cond (seq leaf leaf) leaf)) (seq leaf leaf)))
theorem F.strconv_bool2_inst.lift : LiftOk Tryd.prog 97 (ap1 F.strconv_bool2_inst) :=
  lift1 (g := evFn Tryd.prog tnil tnil 97 Tryd.f97 F.strconv_bool2_inst.plan) (evFn_sound tnil_ok tnil_ok Tryd.func97 (by kernel_rfl)) (fun x0 => by kernel_rfl)

/-- internal/strconv.formatBase10 -/
noncomputable def F.strconv_formatBase10 (a0 a1 : Value) : M Value :=
  bindO (lenL a0) fun x1 =>
  M.bind (loopM (fun l2 =>
    bindO (binV BinOp.geq (getL l2 1) (Value.int IntKind.i64 8)) fun x3 =>
    condM x3 (
      bindO (binV BinOp.rem (getL l2 0) (Value.int IntKind.u64 100000000)) fun x4 =>
      bindO (cvtI IntKind.u32 x4) fun x5 =>
      bindO (binV BinOp.quo (getL l2 0) (Value.int IntKind.u64 100000000)) fun x6 =>
      bindO (binV BinOp.quo x5 (Value.int IntKind.u32 10000)) fun x7 =>
      bindO (binV BinOp.rem x5 (Value.int IntKind.u32 10000)) fun x8 =>
      bindO (binV BinOp.quo x8 (Value.int IntKind.u32 100)) fun x9 =>
      bindO (binV BinOp.mul x9 (Value.int IntKind.u32 2)) fun x10 =>
      bindO (binV BinOp.rem x8 (Value.int IntKind.u32 100)) fun x11 =>
      bindO (binV BinOp.mul x11 (Value.int IntKind.u32 2)) fun x12 =>
      bindO (binV BinOp.quo x7 (Value.int IntKind.u32 100)) fun x13 =>
      bindO (binV BinOp.mul x13 (Value.int IntKind.u32 2)) fun x14 =>
      bindO (binV BinOp.rem x7 (Value.int IntKind.u32 100)) fun x15 =>
      bindO (binV BinOp.mul x15 (Value.int IntKind.u32 2)) fun x16 =>
      drewM <|
      bindO (binV BinOp.sub (getL l2 1) (Value.int IntKind.i64 1)) fun x17 =>
      bindO (binV BinOp.sub (getL l2 1) (Value.int IntKind.i64 2)) fun x18 =>
      bindO (binV BinOp.add x12 (Value.int IntKind.u32 1)) fun x19 =>
      bindO (idxS (Value.string (ByteArray.mk #[48, 48, 48, 49, 48, 50, 48, 51, 48, 52, 48, 53, 48, 54, 48, 55, 48, 56, 48, 57, 49, 48, 49, 49, 49, 50, 49, 51, 49, 52, 49, 53, 49, 54, 49, 55, 49, 56, 49, 57, 50, 48, 50, 49, 50, 50, 50, 51, 50, 52, 50, 53, 50, 54, 50, 55, 50, 56, 50, 57, 51, 48, 51, 49, 51, 50, 51, 51, 51, 52, 51, 53, 51, 54, 51, 55, 51, 56, 51, 57, 52, 48, 52, 49, 52, 50, 52, 51, 52, 52, 52, 53, 52, 54, 52, 55, 52, 56, 52, 57, 53, 48, 53, 49, 53, 50, 53, 51, 53, 52, 53, 53, 53, 54, 53, 55, 53, 56, 53, 57, 54, 48, 54, 49, 54, 50, 54, 51, 54, 52, 54, 53, 54, 54, 54, 55, 54, 56, 54, 57, 55, 48, 55, 49, 55, 50, 55, 51, 55, 52, 55, 53, 55, 54, 55, 55, 55, 56, 55, 57, 56, 48, 56, 49, 56, 50, 56, 51, 56, 52, 56, 53, 56, 54, 56, 55, 56, 56, 56, 57, 57, 48, 57, 49, 57, 50, 57, 51, 57, 52, 57, 53, 57, 54, 57, 55, 57, 56, 57, 57])) x19) fun x20 =>
      bindO (idxS (Value.string (ByteArray.mk #[48, 48, 48, 49, 48, 50, 48, 51, 48, 52, 48, 53, 48, 54, 48, 55, 48, 56, 48, 57, 49, 48, 49, 49, 49, 50, 49, 51, 49, 52, 49, 53, 49, 54, 49, 55, 49, 56, 49, 57, 50, 48, 50, 49, 50, 50, 50, 51, 50, 52, 50, 53, 50, 54, 50, 55, 50, 56, 50, 57, 51, 48, 51, 49, 51, 50, 51, 51, 51, 52, 51, 53, 51, 54, 51, 55, 51, 56, 51, 57, 52, 48, 52, 49, 52, 50, 52, 51, 52, 52, 52, 53, 52, 54, 52, 55, 52, 56, 52, 57, 53, 48, 53, 49, 53, 50, 53, 51, 53, 52, 53, 53, 53, 54, 53, 55, 53, 56, 53, 57, 54, 48, 54, 49, 54, 50, 54, 51, 54, 52, 54, 53, 54, 54, 54, 55, 54, 56, 54, 57, 55, 48, 55, 49, 55, 50, 55, 51, 55, 52, 55, 53, 55, 54, 55, 55, 55, 56, 55, 57, 56, 48, 56, 49, 56, 50, 56, 51, 56, 52, 56, 53, 56, 54, 56, 55, 56, 56, 56, 57, 57, 48, 57, 49, 57, 50, 57, 51, 57, 52, 57, 53, 57, 54, 57, 55, 57, 56, 57, 57])) x12) fun x21 =>
      bindO (idxA 1 a0 x17) fun x22 =>
      M.bind (stM 1 x22 x20) fun _ =>
      bindO (idxA 1 a0 x18) fun x24 =>
      M.bind (stM 1 x24 x21) fun _ =>
      drewM <|
      bindO (binV BinOp.sub (getL l2 1) (Value.int IntKind.i64 3)) fun x26 =>
      bindO (binV BinOp.sub (getL l2 1) (Value.int IntKind.i64 4)) fun x27 =>
      bindO (binV BinOp.add x10 (Value.int IntKind.u32 1)) fun x28 =>
      bindO (idxS (Value.string (ByteArray.mk #[48, 48, 48, 49, 48, 50, 48, 51, 48, 52, 48, 53, 48, 54, 48, 55, 48, 56, 48, 57, 49, 48, 49, 49, 49, 50, 49, 51, 49, 52, 49, 53, 49, 54, 49, 55, 49, 56, 49, 57, 50, 48, 50, 49, 50, 50, 50, 51, 50, 52, 50, 53, 50, 54, 50, 55, 50, 56, 50, 57, 51, 48, 51, 49, 51, 50, 51, 51, 51, 52, 51, 53, 51, 54, 51, 55, 51, 56, 51, 57, 52, 48, 52, 49, 52, 50, 52, 51, 52, 52, 52, 53, 52, 54, 52, 55, 52, 56, 52, 57, 53, 48, 53, 49, 53, 50, 53, 51, 53, 52, 53, 53, 53, 54, 53, 55, 53, 56, 53, 57, 54, 48, 54, 49, 54, 50, 54, 51, 54, 52, 54, 53, 54, 54, 54, 55, 54, 56, 54, 57, 55, 48, 55, 49, 55, 50, 55, 51, 55, 52, 55, 53, 55, 54, 55, 55, 55, 56, 55, 57, 56, 48, 56, 49, 56, 50, 56, 51, 56, 52, 56, 53, 56, 54, 56, 55, 56, 56, 56, 57, 57, 48, 57, 49, 57, 50, 57, 51, 57, 52, 57, 53, 57, 54, 57, 55, 57, 56, 57, 57])) x28) fun x29 =>
      bindO (idxS (Value.string (ByteArray.mk #[48, 48, 48, 49, 48, 50, 48, 51, 48, 52, 48, 53, 48, 54, 48, 55, 48, 56, 48, 57, 49, 48, 49, 49, 49, 50, 49, 51, 49, 52, 49, 53, 49, 54, 49, 55, 49, 56, 49, 57, 50, 48, 50, 49, 50, 50, 50, 51, 50, 52, 50, 53, 50, 54, 50, 55, 50, 56, 50, 57, 51, 48, 51, 49, 51, 50, 51, 51, 51, 52, 51, 53, 51, 54, 51, 55, 51, 56, 51, 57, 52, 48, 52, 49, 52, 50, 52, 51, 52, 52, 52, 53, 52, 54, 52, 55, 52, 56, 52, 57, 53, 48, 53, 49, 53, 50, 53, 51, 53, 52, 53, 53, 53, 54, 53, 55, 53, 56, 53, 57, 54, 48, 54, 49, 54, 50, 54, 51, 54, 52, 54, 53, 54, 54, 54, 55, 54, 56, 54, 57, 55, 48, 55, 49, 55, 50, 55, 51, 55, 52, 55, 53, 55, 54, 55, 55, 55, 56, 55, 57, 56, 48, 56, 49, 56, 50, 56, 51, 56, 52, 56, 53, 56, 54, 56, 55, 56, 56, 56, 57, 57, 48, 57, 49, 57, 50, 57, 51, 57, 52, 57, 53, 57, 54, 57, 55, 57, 56, 57, 57])) x10) fun x30 =>
      bindO (idxA 1 a0 x26) fun x31 =>
      M.bind (stM 1 x31 x29) fun _ =>
      bindO (idxA 1 a0 x27) fun x33 =>
      M.bind (stM 1 x33 x30) fun _ =>
      drewM <|
      bindO (binV BinOp.sub (getL l2 1) (Value.int IntKind.i64 5)) fun x35 =>
      bindO (binV BinOp.sub (getL l2 1) (Value.int IntKind.i64 6)) fun x36 =>
      bindO (binV BinOp.add x16 (Value.int IntKind.u32 1)) fun x37 =>
      bindO (idxS (Value.string (ByteArray.mk #[48, 48, 48, 49, 48, 50, 48, 51, 48, 52, 48, 53, 48, 54, 48, 55, 48, 56, 48, 57, 49, 48, 49, 49, 49, 50, 49, 51, 49, 52, 49, 53, 49, 54, 49, 55, 49, 56, 49, 57, 50, 48, 50, 49, 50, 50, 50, 51, 50, 52, 50, 53, 50, 54, 50, 55, 50, 56, 50, 57, 51, 48, 51, 49, 51, 50, 51, 51, 51, 52, 51, 53, 51, 54, 51, 55, 51, 56, 51, 57, 52, 48, 52, 49, 52, 50, 52, 51, 52, 52, 52, 53, 52, 54, 52, 55, 52, 56, 52, 57, 53, 48, 53, 49, 53, 50, 53, 51, 53, 52, 53, 53, 53, 54, 53, 55, 53, 56, 53, 57, 54, 48, 54, 49, 54, 50, 54, 51, 54, 52, 54, 53, 54, 54, 54, 55, 54, 56, 54, 57, 55, 48, 55, 49, 55, 50, 55, 51, 55, 52, 55, 53, 55, 54, 55, 55, 55, 56, 55, 57, 56, 48, 56, 49, 56, 50, 56, 51, 56, 52, 56, 53, 56, 54, 56, 55, 56, 56, 56, 57, 57, 48, 57, 49, 57, 50, 57, 51, 57, 52, 57, 53, 57, 54, 57, 55, 57, 56, 57, 57])) x37) fun x38 =>
      bindO (idxS (Value.string (ByteArray.mk #[48, 48, 48, 49, 48, 50, 48, 51, 48, 52, 48, 53, 48, 54, 48, 55, 48, 56, 48, 57, 49, 48, 49, 49, 49, 50, 49, 51, 49, 52, 49, 53, 49, 54, 49, 55, 49, 56, 49, 57, 50, 48, 50, 49, 50, 50, 50, 51, 50, 52, 50, 53, 50, 54, 50, 55, 50, 56, 50, 57, 51, 48, 51, 49, 51, 50, 51, 51, 51, 52, 51, 53, 51, 54, 51, 55, 51, 56, 51, 57, 52, 48, 52, 49, 52, 50, 52, 51, 52, 52, 52, 53, 52, 54, 52, 55, 52, 56, 52, 57, 53, 48, 53, 49, 53, 50, 53, 51, 53, 52, 53, 53, 53, 54, 53, 55, 53, 56, 53, 57, 54, 48, 54, 49, 54, 50, 54, 51, 54, 52, 54, 53, 54, 54, 54, 55, 54, 56, 54, 57, 55, 48, 55, 49, 55, 50, 55, 51, 55, 52, 55, 53, 55, 54, 55, 55, 55, 56, 55, 57, 56, 48, 56, 49, 56, 50, 56, 51, 56, 52, 56, 53, 56, 54, 56, 55, 56, 56, 56, 57, 57, 48, 57, 49, 57, 50, 57, 51, 57, 52, 57, 53, 57, 54, 57, 55, 57, 56, 57, 57])) x16) fun x39 =>
      bindO (idxA 1 a0 x35) fun x40 =>
      M.bind (stM 1 x40 x38) fun _ =>
      bindO (idxA 1 a0 x36) fun x42 =>
      M.bind (stM 1 x42 x39) fun _ =>
      drewM <|
      bindO (binV BinOp.sub (getL l2 1) (Value.int IntKind.i64 7)) fun x44 =>
      bindO (binV BinOp.sub (getL l2 1) (Value.int IntKind.i64 8)) fun x45 =>
      bindO (binV BinOp.add x14 (Value.int IntKind.u32 1)) fun x46 =>
      bindO (idxS (Value.string (ByteArray.mk #[48, 48, 48, 49, 48, 50, 48, 51, 48, 52, 48, 53, 48, 54, 48, 55, 48, 56, 48, 57, 49, 48, 49, 49, 49, 50, 49, 51, 49, 52, 49, 53, 49, 54, 49, 55, 49, 56, 49, 57, 50, 48, 50, 49, 50, 50, 50, 51, 50, 52, 50, 53, 50, 54, 50, 55, 50, 56, 50, 57, 51, 48, 51, 49, 51, 50, 51, 51, 51, 52, 51, 53, 51, 54, 51, 55, 51, 56, 51, 57, 52, 48, 52, 49, 52, 50, 52, 51, 52, 52, 52, 53, 52, 54, 52, 55, 52, 56, 52, 57, 53, 48, 53, 49, 53, 50, 53, 51, 53, 52, 53, 53, 53, 54, 53, 55, 53, 56, 53, 57, 54, 48, 54, 49, 54, 50, 54, 51, 54, 52, 54, 53, 54, 54, 54, 55, 54, 56, 54, 57, 55, 48, 55, 49, 55, 50, 55, 51, 55, 52, 55, 53, 55, 54, 55, 55, 55, 56, 55, 57, 56, 48, 56, 49, 56, 50, 56, 51, 56, 52, 56, 53, 56, 54, 56, 55, 56, 56, 56, 57, 57, 48, 57, 49, 57, 50, 57, 51, 57, 52, 57, 53, 57, 54, 57, 55, 57, 56, 57, 57])) x46) fun x47 =>
      bindO (idxS (Value.string (ByteArray.mk #[48, 48, 48, 49, 48, 50, 48, 51, 48, 52, 48, 53, 48, 54, 48, 55, 48, 56, 48, 57, 49, 48, 49, 49, 49, 50, 49, 51, 49, 52, 49, 53, 49, 54, 49, 55, 49, 56, 49, 57, 50, 48, 50, 49, 50, 50, 50, 51, 50, 52, 50, 53, 50, 54, 50, 55, 50, 56, 50, 57, 51, 48, 51, 49, 51, 50, 51, 51, 51, 52, 51, 53, 51, 54, 51, 55, 51, 56, 51, 57, 52, 48, 52, 49, 52, 50, 52, 51, 52, 52, 52, 53, 52, 54, 52, 55, 52, 56, 52, 57, 53, 48, 53, 49, 53, 50, 53, 51, 53, 52, 53, 53, 53, 54, 53, 55, 53, 56, 53, 57, 54, 48, 54, 49, 54, 50, 54, 51, 54, 52, 54, 53, 54, 54, 54, 55, 54, 56, 54, 57, 55, 48, 55, 49, 55, 50, 55, 51, 55, 52, 55, 53, 55, 54, 55, 55, 55, 56, 55, 57, 56, 48, 56, 49, 56, 50, 56, 51, 56, 52, 56, 53, 56, 54, 56, 55, 56, 56, 56, 57, 57, 48, 57, 49, 57, 50, 57, 51, 57, 52, 57, 53, 57, 54, 57, 55, 57, 56, 57, 57])) x14) fun x48 =>
      bindO (idxA 1 a0 x44) fun x49 =>
      M.bind (stM 1 x49 x47) fun _ =>
      bindO (idxA 1 a0 x45) fun x51 =>
      M.bind (stM 1 x51 x48) fun _ =>
      bindO (binV BinOp.sub (getL l2 1) (Value.int IntKind.i64 8)) fun x53 =>
      M.ret (Out.norm [x6, x53])) (
      M.ret (Out.exit 0 [(getL l2 0), (getL l2 1)]))) [a1, x1]) fun o55 =>
  outK o55 (fun _ => M.fail) (fun k56 l54 =>
    bif Nat.beq k56 0 then (
      bindO (cvtI IntKind.u32 (getL l54 0)) fun x58 =>
      M.bind (
        bindO (binV BinOp.geq (getL l54 1) (Value.int IntKind.i64 4)) fun x59 =>
        condM x59 (
          bindO (binV BinOp.rem x58 (Value.int IntKind.u32 10000)) fun x60 =>
          bindO (binV BinOp.quo x58 (Value.int IntKind.u32 10000)) fun x61 =>
          bindO (binV BinOp.quo x60 (Value.int IntKind.u32 100)) fun x62 =>
          bindO (binV BinOp.mul x62 (Value.int IntKind.u32 2)) fun x63 =>
          bindO (binV BinOp.rem x60 (Value.int IntKind.u32 100)) fun x64 =>
          bindO (binV BinOp.mul x64 (Value.int IntKind.u32 2)) fun x65 =>
          drewM <|
          bindO (binV BinOp.sub (getL l54 1) (Value.int IntKind.i64 1)) fun x66 =>
          bindO (binV BinOp.sub (getL l54 1) (Value.int IntKind.i64 2)) fun x67 =>
          bindO (binV BinOp.add x65 (Value.int IntKind.u32 1)) fun x68 =>
          bindO (idxS (Value.string (ByteArray.mk #[48, 48, 48, 49, 48, 50, 48, 51, 48, 52, 48, 53, 48, 54, 48, 55, 48, 56, 48, 57, 49, 48, 49, 49, 49, 50, 49, 51, 49, 52, 49, 53, 49, 54, 49, 55, 49, 56, 49, 57, 50, 48, 50, 49, 50, 50, 50, 51, 50, 52, 50, 53, 50, 54, 50, 55, 50, 56, 50, 57, 51, 48, 51, 49, 51, 50, 51, 51, 51, 52, 51, 53, 51, 54, 51, 55, 51, 56, 51, 57, 52, 48, 52, 49, 52, 50, 52, 51, 52, 52, 52, 53, 52, 54, 52, 55, 52, 56, 52, 57, 53, 48, 53, 49, 53, 50, 53, 51, 53, 52, 53, 53, 53, 54, 53, 55, 53, 56, 53, 57, 54, 48, 54, 49, 54, 50, 54, 51, 54, 52, 54, 53, 54, 54, 54, 55, 54, 56, 54, 57, 55, 48, 55, 49, 55, 50, 55, 51, 55, 52, 55, 53, 55, 54, 55, 55, 55, 56, 55, 57, 56, 48, 56, 49, 56, 50, 56, 51, 56, 52, 56, 53, 56, 54, 56, 55, 56, 56, 56, 57, 57, 48, 57, 49, 57, 50, 57, 51, 57, 52, 57, 53, 57, 54, 57, 55, 57, 56, 57, 57])) x68) fun x69 =>
          bindO (idxS (Value.string (ByteArray.mk #[48, 48, 48, 49, 48, 50, 48, 51, 48, 52, 48, 53, 48, 54, 48, 55, 48, 56, 48, 57, 49, 48, 49, 49, 49, 50, 49, 51, 49, 52, 49, 53, 49, 54, 49, 55, 49, 56, 49, 57, 50, 48, 50, 49, 50, 50, 50, 51, 50, 52, 50, 53, 50, 54, 50, 55, 50, 56, 50, 57, 51, 48, 51, 49, 51, 50, 51, 51, 51, 52, 51, 53, 51, 54, 51, 55, 51, 56, 51, 57, 52, 48, 52, 49, 52, 50, 52, 51, 52, 52, 52, 53, 52, 54, 52, 55, 52, 56, 52, 57, 53, 48, 53, 49, 53, 50, 53, 51, 53, 52, 53, 53, 53, 54, 53, 55, 53, 56, 53, 57, 54, 48, 54, 49, 54, 50, 54, 51, 54, 52, 54, 53, 54, 54, 54, 55, 54, 56, 54, 57, 55, 48, 55, 49, 55, 50, 55, 51, 55, 52, 55, 53, 55, 54, 55, 55, 55, 56, 55, 57, 56, 48, 56, 49, 56, 50, 56, 51, 56, 52, 56, 53, 56, 54, 56, 55, 56, 56, 56, 57, 57, 48, 57, 49, 57, 50, 57, 51, 57, 52, 57, 53, 57, 54, 57, 55, 57, 56, 57, 57])) x65) fun x70 =>
          bindO (idxA 1 a0 x66) fun x71 =>
          M.bind (stM 1 x71 x69) fun _ =>
          bindO (idxA 1 a0 x67) fun x73 =>
          M.bind (stM 1 x73 x70) fun _ =>
          drewM <|
          bindO (binV BinOp.sub (getL l54 1) (Value.int IntKind.i64 3)) fun x75 =>
          bindO (binV BinOp.sub (getL l54 1) (Value.int IntKind.i64 4)) fun x76 =>
          bindO (binV BinOp.add x63 (Value.int IntKind.u32 1)) fun x77 =>
          bindO (idxS (Value.string (ByteArray.mk #[48, 48, 48, 49, 48, 50, 48, 51, 48, 52, 48, 53, 48, 54, 48, 55, 48, 56, 48, 57, 49, 48, 49, 49, 49, 50, 49, 51, 49, 52, 49, 53, 49, 54, 49, 55, 49, 56, 49, 57, 50, 48, 50, 49, 50, 50, 50, 51, 50, 52, 50, 53, 50, 54, 50, 55, 50, 56, 50, 57, 51, 48, 51, 49, 51, 50, 51, 51, 51, 52, 51, 53, 51, 54, 51, 55, 51, 56, 51, 57, 52, 48, 52, 49, 52, 50, 52, 51, 52, 52, 52, 53, 52, 54, 52, 55, 52, 56, 52, 57, 53, 48, 53, 49, 53, 50, 53, 51, 53, 52, 53, 53, 53, 54, 53, 55, 53, 56, 53, 57, 54, 48, 54, 49, 54, 50, 54, 51, 54, 52, 54, 53, 54, 54, 54, 55, 54, 56, 54, 57, 55, 48, 55, 49, 55, 50, 55, 51, 55, 52, 55, 53, 55, 54, 55, 55, 55, 56, 55, 57, 56, 48, 56, 49, 56, 50, 56, 51, 56, 52, 56, 53, 56, 54, 56, 55, 56, 56, 56, 57, 57, 48, 57, 49, 57, 50, 57, 51, 57, 52, 57, 53, 57, 54, 57, 55, 57, 56, 57, 57])) x77) fun x78 =>
          bindO (idxS (Value.string (ByteArray.mk #[48, 48, 48, 49, 48, 50, 48, 51, 48, 52, 48, 53, 48, 54, 48, 55, 48, 56, 48, 57, 49, 48, 49, 49, 49, 50, 49, 51, 49, 52, 49, 53, 49, 54, 49, 55, 49, 56, 49, 57, 50, 48, 50, 49, 50, 50, 50, 51, 50, 52, 50, 53, 50, 54, 50, 55, 50, 56, 50, 57, 51, 48, 51, 49, 51, 50, 51, 51, 51, 52, 51, 53, 51, 54, 51, 55, 51, 56, 51, 57, 52, 48, 52, 49, 52, 50, 52, 51, 52, 52, 52, 53, 52, 54, 52, 55, 52, 56, 52, 57, 53, 48, 53, 49, 53, 50, 53, 51, 53, 52, 53, 53, 53, 54, 53, 55, 53, 56, 53, 57, 54, 48, 54, 49, 54, 50, 54, 51, 54, 52, 54, 53, 54, 54, 54, 55, 54, 56, 54, 57, 55, 48, 55, 49, 55, 50, 55, 51, 55, 52, 55, 53, 55, 54, 55, 55, 55, 56, 55, 57, 56, 48, 56, 49, 56, 50, 56, 51, 56, 52, 56, 53, 56, 54, 56, 55, 56, 56, 56, 57, 57, 48, 57, 49, 57, 50, 57, 51, 57, 52, 57, 53, 57, 54, 57, 55, 57, 56, 57, 57])) x63) fun x79 =>
          bindO (idxA 1 a0 x75) fun x80 =>
          M.bind (stM 1 x80 x78) fun _ =>
          bindO (idxA 1 a0 x76) fun x82 =>
          M.bind (stM 1 x82 x79) fun _ =>
          bindO (binV BinOp.sub (getL l54 1) (Value.int IntKind.i64 4)) fun x84 =>
          M.ret (Out.norm [x84, x61])) (
          M.ret (Out.norm [(getL l54 1), x58]))) fun o86 =>
      outK o86 (fun l85 =>
        M.bind (
          bindO (binV BinOp.geq (getL l85 0) (Value.int IntKind.i64 2)) fun x89 =>
          condM x89 (
            bindO (binV BinOp.rem (getL l85 1) (Value.int IntKind.u32 100)) fun x90 =>
            bindO (binV BinOp.mul x90 (Value.int IntKind.u32 2)) fun x91 =>
            bindO (binV BinOp.quo (getL l85 1) (Value.int IntKind.u32 100)) fun x92 =>
            drewM <|
            bindO (binV BinOp.sub (getL l85 0) (Value.int IntKind.i64 1)) fun x93 =>
            bindO (binV BinOp.sub (getL l85 0) (Value.int IntKind.i64 2)) fun x94 =>
            bindO (binV BinOp.add x91 (Value.int IntKind.u32 1)) fun x95 =>
            bindO (idxS (Value.string (ByteArray.mk #[48, 48, 48, 49, 48, 50, 48, 51, 48, 52, 48, 53, 48, 54, 48, 55, 48, 56, 48, 57, 49, 48, 49, 49, 49, 50, 49, 51, 49, 52, 49, 53, 49, 54, 49, 55, 49, 56, 49, 57, 50, 48, 50, 49, 50, 50, 50, 51, 50, 52, 50, 53, 50, 54, 50, 55, 50, 56, 50, 57, 51, 48, 51, 49, 51, 50, 51, 51, 51, 52, 51, 53, 51, 54, 51, 55, 51, 56, 51, 57, 52, 48, 52, 49, 52, 50, 52, 51, 52, 52, 52, 53, 52, 54, 52, 55, 52, 56, 52, 57, 53, 48, 53, 49, 53, 50, 53, 51, 53, 52, 53, 53, 53, 54, 53, 55, 53, 56, 53, 57, 54, 48, 54, 49, 54, 50, 54, 51, 54, 52, 54, 53, 54, 54, 54, 55, 54, 56, 54, 57, 55, 48, 55, 49, 55, 50, 55, 51, 55, 52, 55, 53, 55, 54, 55, 55, 55, 56, 55, 57, 56, 48, 56, 49, 56, 50, 56, 51, 56, 52, 56, 53, 56, 54, 56, 55, 56, 56, 56, 57, 57, 48, 57, 49, 57, 50, 57, 51, 57, 52, 57, 53, 57, 54, 57, 55, 57, 56, 57, 57])) x95) fun x96 =>
            bindO (idxS (Value.string (ByteArray.mk #[48, 48, 48, 49, 48, 50, 48, 51, 48, 52, 48, 53, 48, 54, 48, 55, 48, 56, 48, 57, 49, 48, 49, 49, 49, 50, 49, 51, 49, 52, 49, 53, 49, 54, 49, 55, 49, 56, 49, 57, 50, 48, 50, 49, 50, 50, 50, 51, 50, 52, 50, 53, 50, 54, 50, 55, 50, 56, 50, 57, 51, 48, 51, 49, 51, 50, 51, 51, 51, 52, 51, 53, 51, 54, 51, 55, 51, 56, 51, 57, 52, 48, 52, 49, 52, 50, 52, 51, 52, 52, 52, 53, 52, 54, 52, 55, 52, 56, 52, 57, 53, 48, 53, 49, 53, 50, 53, 51, 53, 52, 53, 53, 53, 54, 53, 55, 53, 56, 53, 57, 54, 48, 54, 49, 54, 50, 54, 51, 54, 52, 54, 53, 54, 54, 54, 55, 54, 56, 54, 57, 55, 48, 55, 49, 55, 50, 55, 51, 55, 52, 55, 53, 55, 54, 55, 55, 55, 56, 55, 57, 56, 48, 56, 49, 56, 50, 56, 51, 56, 52, 56, 53, 56, 54, 56, 55, 56, 56, 56, 57, 57, 48, 57, 49, 57, 50, 57, 51, 57, 52, 57, 53, 57, 54, 57, 55, 57, 56, 57, 57])) x91) fun x97 =>
            bindO (idxA 1 a0 x93) fun x98 =>
            M.bind (stM 1 x98 x96) fun _ =>
            bindO (idxA 1 a0 x94) fun x100 =>
            M.bind (stM 1 x100 x97) fun _ =>
            bindO (binV BinOp.sub (getL l85 0) (Value.int IntKind.i64 2)) fun x102 =>
            M.ret (Out.norm [x102, x92])) (
            M.ret (Out.norm [(getL l85 0), (getL l85 1)]))) fun o104 =>
        outK o104 (fun l103 =>
          bindO (binV BinOp.gtr (getL l103 0) (Value.int IntKind.i64 0)) fun x107 =>
          condM x107 (
            bindO (binV BinOp.add (Value.int IntKind.u32 48) (getL l103 1)) fun x108 =>
            bindO (cvtI IntKind.u8 x108) fun x109 =>
            bindO (idxA 1 a0 (Value.int IntKind.i64 0)) fun x110 =>
            M.bind (stM 1 x110 x109) fun _ =>
            M.ret (Value.tuple #[])) (
            M.ret (Value.tuple #[]))) (fun _ _ =>
          M.fail) (fun r106 => M.ret r106)) (fun _ _ =>
        M.fail) (fun r88 => M.ret r88)) else
    M.fail) (fun r57 => M.ret r57)
def F.strconv_formatBase10.plan : Plan := (seq leaf (seq (body (loop [1, 4] [1, 4, 5, 6, 7, 8, 9, 10, 11, 19, 20, 21, 22, 23, 24, 25, 26, 27, 28, 29, 30, 31, 32, 33, 34, 35, 36, 37, 38, 39, 40, 41, 42, 43, 44, 45, 46, 47, 48, 49, 50, 51, 52, 53, 54, 55, 56, 57, 58, 59, 60, 61, 62, 63, 64, 65, 66, 67, 68, 69, 70, 71, 72, 73, 74, 75, 76, 77, 78, 79, 80, 81, 82, 83, 84, 85, 86, 87, 88, 89, 90, 91, 92, 93, 94, 95] [0] (seq (seq leaf (cond leaf leaf)) (body (seq leaf (seq leaf (seq leaf (seq leaf (seq leaf (seq leaf (seq leaf (seq leaf (seq leaf leaf))))))))))))) (seq leaf (fork [4, 12] [4, 12, 13, 14, 15, 98, 99, 100, 101, 102, 103, 104, 105, 106, 107, 108, 109, 110, 111, 112, 113, 114, 115, 116, 117, 118, 119, 120, 121, 122, 123, 124, 125, 126, 127, 128, 129, 130, 131, 132, 133, 134, 135, 136, 137] [] (seq leaf (cond (seq leaf (seq leaf (seq leaf (seq leaf (seq leaf leaf))))) leaf)) (fork [4, 12] [4, 12, 16, 138, 139, 140, 141, 142, 143, 144, 145, 146, 147, 148, 149, 150, 151, 152, 153, 154, 155, 156, 157, 158, 159] [] (seq leaf (cond (seq leaf (seq leaf (seq leaf leaf))) leaf)) (seq leaf (cond leaf leaf)))))))
theorem F.strconv_formatBase10.lift : LiftOk Tryd.prog 79 (ap2 F.strconv_formatBase10) :=
  lift2 (g := evFn Tryd.prog tnil tnil 79 Tryd.f79 F.strconv_formatBase10.plan) (evFn_sound tnil_ok tnil_ok Tryd.func79 (by kernel_rfl)) (fun x0 x1 => by kernel_rfl)

/-- internal/strconv.isPowerOfTwo -/
noncomputable def F.strconv_isPowerOfTwo (a0 : Value) : M Value :=
  bindO (binV BinOp.sub a0 (Value.int IntKind.i64 1)) fun x1 =>
  bindO (binV BinOp.and a0 x1) fun x2 =>
  bindO (binV BinOp.eql x2 (Value.int IntKind.i64 0)) fun x3 =>
  M.ret x3
def F.strconv_isPowerOfTwo.plan : Plan := (seq leaf (seq leaf leaf))
theorem F.strconv_isPowerOfTwo.lift : LiftOk Tryd.prog 98 (ap1 F.strconv_isPowerOfTwo) :=
  lift1 (g := evFn Tryd.prog tnil tnil 98 Tryd.f98 F.strconv_isPowerOfTwo.plan) (evFn_sound tnil_ok tnil_ok Tryd.func98 (by kernel_rfl)) (fun x0 => by kernel_rfl)

/-- math/bits.TrailingZeros32 -/
noncomputable def F.bits_TrailingZeros32 (a0 : Value) : M Value :=
  bindO (binV BinOp.eql a0 (Value.int IntKind.u32 0)) fun x1 =>
  condM x1 (
    M.ret (Value.int IntKind.i64 32)) (
    bindO (negV a0) fun x2 =>
    bindO (binV BinOp.and a0 x2) fun x3 =>
    bindO (binV BinOp.mul x3 (Value.int IntKind.u32 125613361)) fun x4 =>
    bindO (shV BinOp.shr x4 (Value.int IntKind.u64 27)) fun x5 =>
    bindO (idxR 32 1 (Value.pointer (some { block := 3, off := 0, spot := none })) x5) fun x6 =>
    M.bind (rdM (ld1 x6)) fun x7 =>
    bindO (cvtI IntKind.i64 x7) fun x8 =>
    M.ret x8)
def F.bits_TrailingZeros32.plan : Plan := (seq leaf (seq (seq leaf (cond (seq leaf leaf) leaf)) (seq leaf leaf)))
theorem F.bits_TrailingZeros32.lift : LiftOk Tryd.prog 107 (ap1 F.bits_TrailingZeros32) :=
  lift1 (g := evFn Tryd.prog tnil tnil 107 Tryd.f107 F.bits_TrailingZeros32.plan) (evFn_sound tnil_ok tnil_ok Tryd.func107 (by kernel_rfl)) (fun x0 => by kernel_rfl)

/-- math/bits.TrailingZeros64 -/
noncomputable def F.bits_TrailingZeros64 (a0 : Value) : M Value :=
  bindO (binV BinOp.eql a0 (Value.int IntKind.u64 0)) fun x1 =>
  condM x1 (
    M.ret (Value.int IntKind.i64 64)) (
    bindO (negV a0) fun x2 =>
    bindO (binV BinOp.and a0 x2) fun x3 =>
    bindO (binV BinOp.mul x3 (Value.int IntKind.u64 285870213051353865)) fun x4 =>
    bindO (shV BinOp.shr x4 (Value.int IntKind.u64 58)) fun x5 =>
    bindO (idxR 64 1 (Value.pointer (some { block := 4, off := 0, spot := none })) x5) fun x6 =>
    M.bind (rdM (ld1 x6)) fun x7 =>
    bindO (cvtI IntKind.i64 x7) fun x8 =>
    M.ret x8)
def F.bits_TrailingZeros64.plan : Plan := (seq leaf (seq (seq leaf (cond (seq leaf leaf) leaf)) (seq leaf leaf)))
theorem F.bits_TrailingZeros64.lift : LiftOk Tryd.prog 108 (ap1 F.bits_TrailingZeros64) :=
  lift1 (g := evFn Tryd.prog tnil tnil 108 Tryd.f108 F.bits_TrailingZeros64.plan) (evFn_sound tnil_ok tnil_ok Tryd.func108 (by kernel_rfl)) (fun x0 => by kernel_rfl)

/-- math/bits.TrailingZeros -/
noncomputable def F.bits_TrailingZeros (a0 : Value) : M Value :=
  condM (Value.bool false) (
    bindO (cvtI IntKind.u32 a0) fun x1 =>
    M.bind (F.bits_TrailingZeros32 x1) fun x2 =>
    M.ret x2) (
    M.bind (F.bits_TrailingZeros64 a0) fun x3 =>
    M.ret x3)
def F.bits_TrailingZeros.plan : Plan := (seq leaf (seq (cond (seq leaf leaf) leaf) (seq leaf leaf)))
theorem F.bits_TrailingZeros.lift : LiftOk Tryd.prog 99 (ap1 F.bits_TrailingZeros) :=
  lift1 (g := evFn Tryd.prog (tcons 107 (ap1 F.bits_TrailingZeros32) (tcons 108 (ap1 F.bits_TrailingZeros64) tnil)) tnil 99 Tryd.f99 F.bits_TrailingZeros.plan) (evFn_sound (tcons_ok F.bits_TrailingZeros32.lift (tcons_ok F.bits_TrailingZeros64.lift tnil_ok)) tnil_ok Tryd.func99 (by kernel_rfl)) (fun x0 => by kernel_rfl)

/-- internal/strconv.formatBits -/
noncomputable def F.strconv_formatBits (a0 a1 a2 a3 a4 : Value) : M Value :=
  M.bind (
    bindO (binV BinOp.lss a2 (Value.int IntKind.i64 2)) fun x1 =>
    M.bind (guardM x1 false (M.ret a2)) fun x2 =>
    M.bind (guardM x1 false (optM (binV BinOp.eql x2 (Value.int IntKind.i64 10)))) fun x3 =>
    bindO (pickV x1 (Value.bool true) x3) fun x4 =>
    M.bind (guardM x4 false (M.ret a2)) fun x5 =>
    M.bind (guardM x4 false (optM (binV BinOp.gtr x5 (Value.int IntKind.i64 36)))) fun x6 =>
    bindO (pickV x4 (Value.bool true) x6) fun x7 =>
    condM x7 (
      M.bind ((M.fail : M Value)) fun _ =>
      M.ret (Out.norm [])) (
      M.ret (Out.norm []))) fun o10 =>
  outK o10 (fun _ =>
    M.bind (newM 134 #[(Value.int IntKind.u8 0), (Value.int IntKind.u8 0), (Value.int IntKind.u8 0), (Value.int IntKind.u8 0), (Value.int IntKind.u8 0), (Value.int IntKind.u8 0), (Value.int IntKind.u8 0), (Value.int IntKind.u8 0), (Value.int IntKind.u8 0), (Value.int IntKind.u8 0), (Value.int IntKind.u8 0), (Value.int IntKind.u8 0), (Value.int IntKind.u8 0), (Value.int IntKind.u8 0), (Value.int IntKind.u8 0), (Value.int IntKind.u8 0), (Value.int IntKind.u8 0), (Value.int IntKind.u8 0), (Value.int IntKind.u8 0), (Value.int IntKind.u8 0), (Value.int IntKind.u8 0), (Value.int IntKind.u8 0), (Value.int IntKind.u8 0), (Value.int IntKind.u8 0), (Value.int IntKind.u8 0), (Value.int IntKind.u8 0), (Value.int IntKind.u8 0), (Value.int IntKind.u8 0), (Value.int IntKind.u8 0), (Value.int IntKind.u8 0), (Value.int IntKind.u8 0), (Value.int IntKind.u8 0), (Value.int IntKind.u8 0), (Value.int IntKind.u8 0), (Value.int IntKind.u8 0), (Value.int IntKind.u8 0), (Value.int IntKind.u8 0), (Value.int IntKind.u8 0), (Value.int IntKind.u8 0), (Value.int IntKind.u8 0), (Value.int IntKind.u8 0), (Value.int IntKind.u8 0), (Value.int IntKind.u8 0), (Value.int IntKind.u8 0), (Value.int IntKind.u8 0), (Value.int IntKind.u8 0), (Value.int IntKind.u8 0), (Value.int IntKind.u8 0), (Value.int IntKind.u8 0), (Value.int IntKind.u8 0), (Value.int IntKind.u8 0), (Value.int IntKind.u8 0), (Value.int IntKind.u8 0), (Value.int IntKind.u8 0), (Value.int IntKind.u8 0), (Value.int IntKind.u8 0), (Value.int IntKind.u8 0), (Value.int IntKind.u8 0), (Value.int IntKind.u8 0), (Value.int IntKind.u8 0), (Value.int IntKind.u8 0), (Value.int IntKind.u8 0), (Value.int IntKind.u8 0), (Value.int IntKind.u8 0), (Value.int IntKind.u8 0)]) fun x13 =>
    M.bind (
      condM a3 (
        bindO (negV a1) fun x14 =>
        M.ret (Out.norm [x14])) (
        M.ret (Out.norm [a1]))) fun o16 =>
    outK o16 (fun l15 =>
      M.bind (
        M.bind (F.strconv_isPowerOfTwo a2) fun x19 =>
        condM x19 (
          bindO (cvtI IntKind.u64 a2) fun x20 =>
          M.bind (F.bits_TrailingZeros x20) fun x21 =>
          bindO (cvtI IntKind.u64 x21) fun x22 =>
          bindO (cvtI IntKind.u64 a2) fun x23 =>
          bindO (cvtI IntKind.u64 a2) fun x24 =>
          bindO (binV BinOp.sub x24 (Value.int IntKind.u64 1)) fun x25 =>
          M.bind (loopM (fun l26 =>
            bindO (binV BinOp.geq (getL l26 0) x23) fun x27 =>
            condM x27 (
              bindO (binV BinOp.sub (getL l26 1) (Value.int IntKind.i64 1)) fun x28 =>
              bindO (binV BinOp.and (getL l26 0) x25) fun x29 =>
              bindO (idxS (Value.string (ByteArray.mk #[48, 49, 50, 51, 52, 53, 54, 55, 56, 57, 97, 98, 99, 100, 101, 102, 103, 104, 105, 106, 107, 108, 109, 110, 111, 112, 113, 114, 115, 116, 117, 118, 119, 120, 121, 122])) x29) fun x30 =>
              bindO (idxR 65 1 x13 x28) fun x31 =>
              M.bind (stM 1 x31 x30) fun _ =>
              bindO (shV BinOp.shr (getL l26 0) x22) fun x33 =>
              M.ret (Out.norm [x33, x28])) (
              M.ret (Out.exit 0 [(getL l26 0), (getL l26 1)]))) [(getL l15 0), (Value.int IntKind.i64 65)]) fun o35 =>
          outK o35 (fun _ => M.fail) (fun k36 l34 =>
            bif Nat.beq k36 0 then (
              bindO (binV BinOp.sub (getL l34 1) (Value.int IntKind.i64 1)) fun x38 =>
              bindO (idxS (Value.string (ByteArray.mk #[48, 49, 50, 51, 52, 53, 54, 55, 56, 57, 97, 98, 99, 100, 101, 102, 103, 104, 105, 106, 107, 108, 109, 110, 111, 112, 113, 114, 115, 116, 117, 118, 119, 120, 121, 122])) (getL l34 0)) fun x39 =>
              bindO (idxR 65 1 x13 x38) fun x40 =>
              M.bind (stM 1 x40 x39) fun _ =>
              M.ret (Out.norm [x38])) else
            M.fail) (fun r37 => M.ret (Out.ret r37))) (
          bindO (cvtI IntKind.u64 a2) fun x42 =>
          M.bind (loopM (fun l43 =>
            bindO (binV BinOp.geq (getL l43 0) x42) fun x44 =>
            condM x44 (
              bindO (binV BinOp.sub (getL l43 1) (Value.int IntKind.i64 1)) fun x45 =>
              bindO (binV BinOp.quo (getL l43 0) x42) fun x46 =>
              bindO (binV BinOp.mul x46 x42) fun x47 =>
              bindO (binV BinOp.sub (getL l43 0) x47) fun x48 =>
              bindO (idxS (Value.string (ByteArray.mk #[48, 49, 50, 51, 52, 53, 54, 55, 56, 57, 97, 98, 99, 100, 101, 102, 103, 104, 105, 106, 107, 108, 109, 110, 111, 112, 113, 114, 115, 116, 117, 118, 119, 120, 121, 122])) x48) fun x49 =>
              bindO (idxR 65 1 x13 x45) fun x50 =>
              M.bind (stM 1 x50 x49) fun _ =>
              M.ret (Out.norm [x46, x45])) (
              M.ret (Out.exit 2 [(getL l43 0), (getL l43 1)]))) [(getL l15 0), (Value.int IntKind.i64 65)]) fun o53 =>
          outK o53 (fun _ => M.fail) (fun k54 l52 =>
            bif Nat.beq k54 2 then (
              bindO (binV BinOp.sub (getL l52 1) (Value.int IntKind.i64 1)) fun x56 =>
              bindO (idxS (Value.string (ByteArray.mk #[48, 49, 50, 51, 52, 53, 54, 55, 56, 57, 97, 98, 99, 100, 101, 102, 103, 104, 105, 106, 107, 108, 109, 110, 111, 112, 113, 114, 115, 116, 117, 118, 119, 120, 121, 122])) (getL l52 0)) fun x57 =>
              bindO (idxR 65 1 x13 x56) fun x58 =>
              M.bind (stM 1 x58 x57) fun _ =>
              M.ret (Out.norm [x56])) else
            M.fail) (fun r55 => M.ret (Out.ret r55)))) fun o61 =>
      outK o61 (fun l60 =>
        M.bind (
          condM a3 (
            bindO (binV BinOp.sub (getL l60 0) (Value.int IntKind.i64 1)) fun x64 =>
            bindO (idxR 65 1 x13 x64) fun x65 =>
            M.bind (stM 1 x65 (Value.int IntKind.u8 45)) fun _ =>
            M.ret (Out.norm [x64])) (
            M.ret (Out.norm [(getL l60 0)]))) fun o68 =>
        outK o68 (fun l67 =>
          condM a4 (
            bindO (sliceR 65 1 x13 (some (getL l67 0)) none) fun x71 =>
            M.bind (appM 5 1 1 #[(Value.int IntKind.u8 0)] a0 x71) fun x72 =>
            M.ret (Value.tuple #[x72, (Value.string (ByteArray.mk #[]))])) (
            bindO (sliceR 65 1 x13 (some (getL l67 0)) none) fun x73 =>
            M.bind (rdM (bsR x73)) fun x74 =>
            M.ret (Value.tuple #[(Value.slice none 0 0), x74]))) (fun _ _ =>
          M.fail) (fun r70 => M.ret r70)) (fun _ _ =>
        M.fail) (fun r63 => M.ret r63)) (fun _ _ =>
      M.fail) (fun r18 => M.ret r18)) (fun _ _ =>
    M.fail) (fun r12 => M.ret r12)
def F.strconv_formatBits.plan : Plan := (seq leaf (fork [] [19, 20, 21, 22, 23, 24, 25, 26, 27, 28, 29] [] (seq leaf (cond leaf leaf)) (seq leaf (seq leaf (fork [1] [1, 30, 31, 32] [] (seq leaf (cond leaf leaf)) (fork [13] [1, 13, 14, 15, 16, 17, 18, 33, 34, 35, 36, 37, 38, 39, 40, 41, 42, 43, 44, 45, 46, 47, 48, 49, 50, 51, 52, 53, 54, 55, 56, 57, 58, 59, 60, 61, 62, 63, 64, 65, 66, 67, 68, 69, 70, 71, 72, 73, 74, 75, 76, 77, 78, 79, 80, 81, 82, 83, 84, 85, 86, 87, 88] [] (seq leaf (cond (seq leaf (seq leaf (seq leaf (seq (body (loop [1, 13] [1, 13, 44, 45, 46, 47, 48, 49, 50, 51, 52, 53, 54, 55, 56, 57] [0] (seq (seq leaf (cond leaf leaf)) (body (seq leaf (seq leaf leaf)))))) (seq leaf leaf))))) (seq leaf (seq (body (loop [1, 13] [1, 13, 18, 66, 67, 68, 69, 70, 71, 72, 73, 74, 75, 76, 77, 78, 79, 80, 81, 82] [2] (seq (seq leaf (cond leaf leaf)) (body (seq leaf (seq leaf (seq leaf leaf))))))) (seq leaf leaf))))) (fork [13] [13, 89, 90, 91, 92, 93] [] (seq leaf (cond (seq leaf leaf) leaf)) (seq (seq leaf (cond (seq leaf leaf) leaf)) (seq leaf leaf)))))))))
theorem F.strconv_formatBits.lift : LiftOk Tryd.prog 80 (ap5 F.strconv_formatBits) :=
  lift5 (g := evFn Tryd.prog (tcons 98 (ap1 F.strconv_isPowerOfTwo) (tcons 99 (ap1 F.bits_TrailingZeros) tnil)) tnil 80 Tryd.f80 F.strconv_formatBits.plan) (evFn_sound (tcons_ok F.strconv_isPowerOfTwo.lift (tcons_ok F.bits_TrailingZeros.lift tnil_ok)) tnil_ok Tryd.func80 (by kernel_rfl)) (fun x0 x1 x2 x3 x4 => by kernel_rfl)

/-- internal/strconv.FormatInt -/
noncomputable def F.strconv_FormatInt_64 (a0 a1 : Value) : M Value :=
  bindO (binV BinOp.eql a1 (Value.int IntKind.i64 10)) fun x1 =>
  condM x1 (
    bindO (binV BinOp.leq (Value.int IntKind.i64 0) a0) fun x2 =>
    M.bind (guardM x2 true (M.ret a0)) fun x3 =>
    M.bind (guardM x2 true (optM (binV BinOp.lss x3 (Value.int IntKind.i64 100)))) fun x4 =>
    bindO (pickV x2 x4 (Value.bool false)) fun x5 =>
    condM x5 (
      M.bind (F.strconv_small a0) fun x6 =>
      M.ret x6) (
      M.bind (newM 119 #[(Value.int IntKind.u8 0), (Value.int IntKind.u8 0), (Value.int IntKind.u8 0), (Value.int IntKind.u8 0), (Value.int IntKind.u8 0), (Value.int IntKind.u8 0), (Value.int IntKind.u8 0), (Value.int IntKind.u8 0), (Value.int IntKind.u8 0), (Value.int IntKind.u8 0), (Value.int IntKind.u8 0), (Value.int IntKind.u8 0), (Value.int IntKind.u8 0), (Value.int IntKind.u8 0), (Value.int IntKind.u8 0), (Value.int IntKind.u8 0), (Value.int IntKind.u8 0), (Value.int IntKind.u8 0), (Value.int IntKind.u8 0), (Value.int IntKind.u8 0), (Value.int IntKind.u8 0), (Value.int IntKind.u8 0), (Value.int IntKind.u8 0), (Value.int IntKind.u8 0)]) fun x7 =>
      bindO (cvtI IntKind.u64 a0) fun x8 =>
      M.bind (
        bindO (binV BinOp.lss a0 (Value.int IntKind.i64 0)) fun x9 =>
        condM x9 (
          bindO (negV x8) fun x10 =>
          M.ret (Out.norm [x10])) (
          M.ret (Out.norm [x8]))) fun o12 =>
      outK o12 (fun l11 =>
        M.bind (F.strconv_numDigits (getL l11 0)) fun x15 =>
        bindO (binV BinOp.add (Value.int IntKind.i64 1) x15) fun x16 =>
        bindO (sliceR 24 1 x7 (some (Value.int IntKind.i64 1)) (some x16)) fun x17 =>
        M.bind (F.strconv_formatBase10 x17 (getL l11 0)) fun _ =>
        bindO (binV BinOp.lss a0 (Value.int IntKind.i64 0)) fun x19 =>
        condM x19 (
          bindO (idxR 24 1 x7 (Value.int IntKind.i64 0)) fun x20 =>
          M.bind (stM 1 x20 (Value.int IntKind.u8 45)) fun _ =>
          bindO (binV BinOp.add (Value.int IntKind.i64 1) x15) fun x22 =>
          bindO (sliceR 24 1 x7 none (some x22)) fun x23 =>
          M.bind (rdM (bsR x23)) fun x24 =>
          M.ret x24) (
          bindO (binV BinOp.add (Value.int IntKind.i64 1) x15) fun x25 =>
          bindO (sliceR 24 1 x7 (some (Value.int IntKind.i64 1)) (some x25)) fun x26 =>
          M.bind (rdM (bsR x26)) fun x27 =>
          M.ret x27)) (fun _ _ =>
        M.fail) (fun r14 => M.ret r14))) (
    bindO (cvtI IntKind.u64 a0) fun x29 =>
    bindO (binV BinOp.lss a0 (Value.int IntKind.i64 0)) fun x30 =>
    M.bind (F.strconv_formatBits (Value.slice none 0 0) x29 a1 x30 (Value.bool false)) fun x31 =>
    bindO (extV 0 x31) fun _ =>
    bindO (extV 1 x31) fun x33 =>
    M.ret x33)
def F.strconv_FormatInt_64.plan : Plan := (seq leaf (seq (seq leaf (cond (seq (seq leaf (cond (seq leaf leaf) leaf)) (seq leaf (seq leaf (fork [6] [6, 22, 23, 24, 25] [] (seq leaf (cond leaf leaf)) (seq leaf (seq leaf (seq (seq leaf (cond (seq leaf (seq leaf leaf)) leaf)) (seq leaf leaf)))))))) leaf)) (seq leaf (seq leaf leaf))))
theorem F.strconv_FormatInt_64.lift : LiftOk Tryd.prog 64 (ap2 F.strconv_FormatInt_64) :=
  lift2 (g := evFn Tryd.prog (tcons 77 (ap1 F.strconv_small) (tcons 78 (ap1 F.strconv_numDigits) (tcons 79 (ap2 F.strconv_formatBase10) (tcons 80 (ap5 F.strconv_formatBits) tnil)))) tnil 64 Tryd.f64 F.strconv_FormatInt_64.plan) (evFn_sound (tcons_ok F.strconv_small.lift (tcons_ok F.strconv_numDigits.lift (tcons_ok F.strconv_formatBase10.lift (tcons_ok F.strconv_formatBits.lift tnil_ok)))) tnil_ok Tryd.func64 (by kernel_rfl)) (fun x0 x1 => by kernel_rfl)

/-- internal/strconv.Itoa -/
noncomputable def F.strconv_Itoa_42 (a0 : Value) : M Value :=
  M.bind (F.strconv_FormatInt_64 a0 (Value.int IntKind.i64 10)) fun x1 =>
  M.ret x1
def F.strconv_Itoa_42.plan : Plan := (seq leaf (seq leaf leaf))
theorem F.strconv_Itoa_42.lift : LiftOk Tryd.prog 42 (ap1 F.strconv_Itoa_42) :=
  lift1 (g := evFn Tryd.prog (tcons 64 (ap2 F.strconv_FormatInt_64) tnil) tnil 42 Tryd.f42 F.strconv_Itoa_42.plan) (evFn_sound (tcons_ok F.strconv_FormatInt_64.lift tnil_ok) tnil_ok Tryd.func42 (by kernel_rfl)) (fun x0 => by kernel_rfl)

/-- strconv.Itoa -/
noncomputable def F.strconv_Itoa (a0 : Value) : M Value :=
  M.bind (F.strconv_Itoa_42 a0) fun x1 =>
  M.ret x1
def F.strconv_Itoa.plan : Plan := (seq leaf (seq leaf leaf))
theorem F.strconv_Itoa.lift : LiftOk Tryd.prog 20 (ap1 F.strconv_Itoa) :=
  lift1 (g := evFn Tryd.prog (tcons 42 (ap1 F.strconv_Itoa_42) tnil) tnil 20 Tryd.f20 F.strconv_Itoa.plan) (evFn_sound (tcons_ok F.strconv_Itoa_42.lift tnil_ok) tnil_ok Tryd.func20 (by kernel_rfl)) (fun x0 => by kernel_rfl)

/-- strconv.FormatInt -/
noncomputable def F.strconv_FormatInt (a0 a1 : Value) : M Value :=
  M.bind (F.strconv_FormatInt_64 a0 a1) fun x1 =>
  M.ret x1
def F.strconv_FormatInt.plan : Plan := (seq leaf (seq leaf leaf))
theorem F.strconv_FormatInt.lift : LiftOk Tryd.prog 43 (ap2 F.strconv_FormatInt) :=
  lift2 (g := evFn Tryd.prog (tcons 64 (ap2 F.strconv_FormatInt_64) tnil) tnil 43 Tryd.f43 F.strconv_FormatInt.plan) (evFn_sound (tcons_ok F.strconv_FormatInt_64.lift tnil_ok) tnil_ok Tryd.func43 (by kernel_rfl)) (fun x0 x1 => by kernel_rfl)

/-- math/bits.Mul32 -/
noncomputable def F.bits_Mul32 (a0 a1 : Value) : M Value :=
  bindO (cvtI IntKind.u64 a0) fun x1 =>
  bindO (cvtI IntKind.u64 a1) fun x2 =>
  bindO (binV BinOp.mul x1 x2) fun x3 =>
  bindO (shV BinOp.shr x3 (Value.int IntKind.u64 32)) fun x4 =>
  bindO (cvtI IntKind.u32 x4) fun x5 =>
  bindO (cvtI IntKind.u32 x3) fun x6 =>
  M.ret (Value.tuple #[x5, x6])
def F.bits_Mul32.plan : Plan := (seq leaf (seq leaf (seq leaf leaf)))
theorem F.bits_Mul32.lift : LiftOk Tryd.prog 81 (ap2 F.bits_Mul32) :=
  lift2 (g := evFn Tryd.prog tnil tnil 81 Tryd.f81 F.bits_Mul32.plan) (evFn_sound tnil_ok tnil_ok Tryd.func81 (by kernel_rfl)) (fun x0 x1 => by kernel_rfl)

/-- math/bits.Mul64 -/
noncomputable def F.bits_Mul64 (a0 a1 : Value) : M Value :=
  bindO (binV BinOp.and a0 (Value.int IntKind.u64 4294967295)) fun x1 =>
  bindO (shV BinOp.shr a0 (Value.int IntKind.u64 32)) fun x2 =>
  bindO (binV BinOp.and a1 (Value.int IntKind.u64 4294967295)) fun x3 =>
  bindO (shV BinOp.shr a1 (Value.int IntKind.u64 32)) fun x4 =>
  bindO (binV BinOp.mul x1 x3) fun x5 =>
  bindO (binV BinOp.mul x2 x3) fun x6 =>
  bindO (shV BinOp.shr x5 (Value.int IntKind.u64 32)) fun x7 =>
  bindO (binV BinOp.add x6 x7) fun x8 =>
  bindO (binV BinOp.and x8 (Value.int IntKind.u64 4294967295)) fun x9 =>
  bindO (shV BinOp.shr x8 (Value.int IntKind.u64 32)) fun x10 =>
  bindO (binV BinOp.mul x1 x4) fun x11 =>
  bindO (binV BinOp.add x9 x11) fun x12 =>
  bindO (binV BinOp.mul x2 x4) fun x13 =>
  bindO (binV BinOp.add x13 x10) fun x14 =>
  bindO (shV BinOp.shr x12 (Value.int IntKind.u64 32)) fun x15 =>
  bindO (binV BinOp.add x14 x15) fun x16 =>
  bindO (binV BinOp.mul a0 a1) fun x17 =>
  M.ret (Value.tuple #[x16, x17])
def F.bits_Mul64.plan : Plan := (seq leaf (seq leaf (seq leaf (seq leaf (seq leaf (seq leaf (seq leaf (seq leaf (seq leaf (seq leaf (seq leaf (seq leaf leaf))))))))))))
theorem F.bits_Mul64.lift : LiftOk Tryd.prog 82 (ap2 F.bits_Mul64) :=
  lift2 (g := evFn Tryd.prog tnil tnil 82 Tryd.f82 F.bits_Mul64.plan) (evFn_sound tnil_ok tnil_ok Tryd.func82 (by kernel_rfl)) (fun x0 x1 => by kernel_rfl)

/-- internal/stringslite.HasPrefix -/
noncomputable def F.stringslite_HasPrefix (a0 a1 : Value) : M Value :=
  bindO (lenS a0) fun x1 =>
  bindO (lenS a1) fun x2 =>
  bindO (binV BinOp.geq x1 x2) fun x3 =>
  M.bind (guardM x3 true (M.ret a0)) fun x4 =>
  M.bind (guardM x3 true (M.ret a1)) fun x5 =>
  M.bind (guardM x3 true (optM (lenS x5))) fun x6 =>
  M.bind (guardM x3 true (optM (sliceS x4 none (some x6)))) fun x7 =>
  M.bind (guardM x3 true (M.ret a1)) fun x8 =>
  M.bind (guardM x3 true (optM (binV BinOp.eql x7 x8))) fun x9 =>
  bindO (pickV x3 x9 (Value.bool false)) fun x10 =>
  M.ret x10
def F.stringslite_HasPrefix.plan : Plan := (seq leaf (seq leaf leaf))
theorem F.stringslite_HasPrefix.lift : LiftOk Tryd.prog 83 (ap2 F.stringslite_HasPrefix) :=
  lift2 (g := evFn Tryd.prog tnil tnil 83 Tryd.f83 F.stringslite_HasPrefix.plan) (evFn_sound tnil_ok tnil_ok Tryd.func83 (by kernel_rfl)) (fun x0 x1 => by kernel_rfl)

/-- (*strings.Builder).grow -/
noncomputable def F.strings_Builder_grow (a0 a1 : Value) : M Value :=
  drewM <|
  getM fun W1 =>
  bindO (nilChk a0) fun x2 =>
  bindO (fieldA 1 x2) fun x3 =>
  M.bind (rdM (ld1 x3)) fun x4 =>
  bindO (capV x4) fun x5 =>
  bindO (binV BinOp.mul (Value.int IntKind.i64 2) x5) fun x6 =>
  bindO (binV BinOp.add x6 a1) fun x7 =>
  M.bind (F.bytealg_MakeNoZero x7) fun x8 =>
  getM fun _ =>
  bindO (nilChk a0) fun x10 =>
  bindO (fieldA 1 x10) fun x11 =>
  M.bind (rdM (ld1 x11)) fun x12 =>
  bindO (lenL x12) fun x13 =>
  bindO (sliceV 1 x8 none (some x13)) fun x14 =>
  reqM (ld1 x11 W1 = some x12) <|
  bindO (nilChk a0) fun x15 =>
  bindO (fieldA 1 x15) fun x16 =>
  M.bind (rdM (ld1 x16)) fun x17 =>
  M.bind (cpyM 1 x14 x17) fun _ =>
  bindO (nilChk a0) fun x19 =>
  bindO (fieldA 1 x19) fun x20 =>
  M.bind (stM 1 x20 x14) fun _ =>
  M.ret (Value.tuple #[])
def F.strings_Builder_grow.plan : Plan := (seq leaf (seq leaf leaf))
theorem F.strings_Builder_grow.lift : LiftOk Tryd.prog 63 (ap2 F.strings_Builder_grow) :=
  lift2 (g := evFn Tryd.prog (tcons 76 (ap1 F.bytealg_MakeNoZero) tnil) tnil 63 Tryd.f63 F.strings_Builder_grow.plan) (evFn_sound (tcons_ok F.bytealg_MakeNoZero.lift tnil_ok) tnil_ok Tryd.func63 (by kernel_rfl)) (fun x0 x1 => by kernel_rfl)

/-- (*strings.Builder).Grow -/
noncomputable def F.strings_Builder_Grow (a0 a1 : Value) : M Value :=
  M.bind (F.strings_Builder_copyCheck a0) fun _ =>
  M.bind (
    bindO (binV BinOp.lss a1 (Value.int IntKind.i64 0)) fun x2 =>
    condM x2 (
      M.bind ((M.fail : M Value)) fun _ =>
      M.ret (Out.norm [])) (
      M.ret (Out.norm []))) fun o5 =>
  outK o5 (fun _ =>
    drewM <|
    bindO (nilChk a0) fun x8 =>
    bindO (fieldA 1 x8) fun x9 =>
    M.bind (rdM (ld1 x9)) fun x10 =>
    bindO (capV x10) fun x11 =>
    bindO (nilChk a0) fun x12 =>
    bindO (fieldA 1 x12) fun x13 =>
    M.bind (rdM (ld1 x13)) fun x14 =>
    bindO (lenL x14) fun x15 =>
    bindO (binV BinOp.sub x11 x15) fun x16 =>
    bindO (binV BinOp.lss x16 a1) fun x17 =>
    condM x17 (
      M.bind (F.strings_Builder_grow a0 a1) fun _ =>
      M.ret (Value.tuple #[])) (
      M.ret (Value.tuple #[]))) (fun _ _ =>
    M.fail) (fun r7 => M.ret r7)
def F.strings_Builder_Grow.plan : Plan := (seq leaf (fork [] [6, 7, 8] [] (seq leaf (cond leaf leaf)) (seq leaf (cond leaf leaf))))
theorem F.strings_Builder_Grow.lift : LiftOk Tryd.prog 39 (ap2 F.strings_Builder_Grow) :=
  lift2 (g := evFn Tryd.prog (tcons 62 (ap1 F.strings_Builder_copyCheck) (tcons 63 (ap2 F.strings_Builder_grow) tnil)) tnil 39 Tryd.f39 F.strings_Builder_Grow.plan) (evFn_sound (tcons_ok F.strings_Builder_copyCheck.lift (tcons_ok F.strings_Builder_grow.lift tnil_ok)) tnil_ok Tryd.func39 (by kernel_rfl)) (fun x0 x1 => by kernel_rfl)

/-- (*strings.Builder).WriteString -/
noncomputable def F.strings_Builder_WriteString (a0 a1 : Value) : M Value :=
  M.bind (F.strings_Builder_copyCheck a0) fun _ =>
  bindO (nilChk a0) fun x2 =>
  bindO (fieldA 1 x2) fun x3 =>
  M.bind (rdM (ld1 x3)) fun x4 =>
  M.bind (appM 5 1 1 #[(Value.int IntKind.u8 0)] x4 a1) fun x5 =>
  bindO (nilChk a0) fun x6 =>
  bindO (fieldA 1 x6) fun x7 =>
  M.bind (stM 1 x7 x5) fun _ =>
  bindO (lenS a1) fun x9 =>
  M.ret (Value.tuple #[x9, Value.nilIface])
def F.strings_Builder_WriteString.plan : Plan := (seq leaf (seq leaf (seq leaf (seq leaf leaf))))
theorem F.strings_Builder_WriteString.lift : LiftOk Tryd.prog 40 (ap2 F.strings_Builder_WriteString) :=
  lift2 (g := evFn Tryd.prog (tcons 62 (ap1 F.strings_Builder_copyCheck) tnil) tnil 40 Tryd.f40 F.strings_Builder_WriteString.plan) (evFn_sound (tcons_ok F.strings_Builder_copyCheck.lift tnil_ok) tnil_ok Tryd.func40 (by kernel_rfl)) (fun x0 x1 => by kernel_rfl)

/-- (*strings.Builder).Len -/
noncomputable def F.strings_Builder_Len (a0 : Value) : M Value :=
  bindO (nilChk a0) fun x1 =>
  bindO (fieldA 1 x1) fun x2 =>
  M.bind (rdM (ld1 x2)) fun x3 =>
  bindO (lenL x3) fun x4 =>
  M.ret x4
def F.strings_Builder_Len.plan : Plan := (seq leaf (seq leaf leaf))
theorem F.strings_Builder_Len.lift : LiftOk Tryd.prog 67 (ap1 F.strings_Builder_Len) :=
  lift1 (g := evFn Tryd.prog tnil tnil 67 Tryd.f67 F.strings_Builder_Len.plan) (evFn_sound tnil_ok tnil_ok Tryd.func67 (by kernel_rfl)) (fun x0 => by kernel_rfl)

/-- (*strings.Builder).String -/
noncomputable def F.strings_Builder_String (a0 : Value) : M Value :=
  drewM <|
  getM fun W1 =>
  bindO (nilChk a0) fun x2 =>
  bindO (fieldA 1 x2) fun x3 =>
  M.bind (rdM (ld1 x3)) fun x4 =>
  M.bind (optM (sdV x4)) fun x5 =>
  getM fun _ =>
  bindO (nilChk a0) fun x7 =>
  bindO (fieldA 1 x7) fun x8 =>
  M.bind (rdM (ld1 x8)) fun x9 =>
  bindO (lenL x9) fun x10 =>
  M.bind (usM Tryd.prog [104, 3] x5 x10) fun x11 =>
  getM fun _ =>
  reqM (ld1 x8 W1 = some x9) <|
  M.ret x11
def F.strings_Builder_String.plan : Plan := (seq leaf (seq leaf leaf))
theorem F.strings_Builder_String.lift : LiftOk Tryd.prog 41 (ap1 F.strings_Builder_String) :=
  lift1 (g := evFn Tryd.prog tnil tnil 41 Tryd.f41 F.strings_Builder_String.plan) (evFn_sound tnil_ok tnil_ok Tryd.func41 (by kernel_rfl)) (fun x0 => by kernel_rfl)

/-- strings.Repeat -/
noncomputable def F.strings_Repeat (a0 a1 : Value) : M Value :=
  bindO (binV BinOp.eql a1 (Value.int IntKind.i64 0)) fun x1 =>
  condM x1 (
    M.ret (Value.string (ByteArray.mk #[]))) (
    bindO (binV BinOp.eql a1 (Value.int IntKind.i64 1)) fun x2 =>
    condM x2 (
      M.ret a0) (
      M.bind (
        bindO (binV BinOp.lss a1 (Value.int IntKind.i64 0)) fun x3 =>
        condM x3 (
          M.bind ((M.fail : M Value)) fun _ =>
          M.ret (Out.norm [])) (
          M.ret (Out.norm []))) fun o6 =>
      outK o6 (fun _ =>
        bindO (lenS a0) fun x9 =>
        bindO (cvtI IntKind.u64 x9) fun x10 =>
        bindO (cvtI IntKind.u64 a1) fun x11 =>
        M.bind (F.bits_Mul x10 x11) fun x12 =>
        bindO (extV 0 x12) fun x13 =>
        bindO (extV 1 x12) fun x14 =>
        M.bind (
          bindO (binV BinOp.gtr x13 (Value.int IntKind.u64 0)) fun x15 =>
          M.bind (guardM x15 false (M.ret x14)) fun x16 =>
          M.bind (guardM x15 false (optM (binV BinOp.gtr x16 (Value.int IntKind.u64 9223372036854775807)))) fun x17 =>
          bindO (pickV x15 (Value.bool true) x17) fun x18 =>
          condM x18 (
            M.bind ((M.fail : M Value)) fun _ =>
            M.ret (Out.norm [])) (
            M.ret (Out.norm []))) fun o21 =>
        outK o21 (fun _ =>
          bindO (cvtI IntKind.i64 x14) fun x24 =>
          bindO (lenS a0) fun x25 =>
          bindO (binV BinOp.eql x25 (Value.int IntKind.i64 0)) fun x26 =>
          condM x26 (
            M.ret (Value.string (ByteArray.mk #[]))) (
            M.bind (
              bindO (idxS a0 (Value.int IntKind.i64 0)) fun x27 =>
              M.bind (
                bindO (binV BinOp.eql x27 (Value.int IntKind.u8 32)) fun x28 =>
                condM x28 (
                  M.ret (Out.norm [x28])) (
                  bindO (binV BinOp.eql x27 (Value.int IntKind.u8 45)) fun x29 =>
                  condM x29 (
                    M.ret (Out.norm [x29])) (
                    bindO (binV BinOp.eql x27 (Value.int IntKind.u8 48)) fun x30 =>
                    condM x30 (
                      M.ret (Out.norm [x30])) (
                      bindO (binV BinOp.eql x27 (Value.int IntKind.u8 61)) fun x31 =>
                      condM x31 (
                        M.ret (Out.norm [x31])) (
                        bindO (binV BinOp.eql x27 (Value.int IntKind.u8 9)) fun x32 =>
                        M.ret (Out.norm [x32])))))) fun o34 =>
              outK o34 (fun l33 =>
                condM (getL l33 0) (
                  bindO (binV BinOp.leq x24 (Value.int IntKind.i64 128)) fun x37 =>
                  M.bind (guardM x37 true (M.ret a0)) fun x38 =>
                  M.bind (guardM x37 true (F.strings_HasPrefix (Value.string (ByteArray.mk #[32, 32, 32, 32, 32, 32, 32, 32, 32, 32, 32, 32, 32, 32, 32, 32, 32, 32, 32, 32, 32, 32, 32, 32, 32, 32, 32, 32, 32, 32, 32, 32, 32, 32, 32, 32, 32, 32, 32, 32, 32, 32, 32, 32, 32, 32, 32, 32, 32, 32, 32, 32, 32, 32, 32, 32, 32, 32, 32, 32, 32, 32, 32, 32, 32, 32, 32, 32, 32, 32, 32, 32, 32, 32, 32, 32, 32, 32, 32, 32, 32, 32, 32, 32, 32, 32, 32, 32, 32, 32, 32, 32, 32, 32, 32, 32, 32, 32, 32, 32, 32, 32, 32, 32, 32, 32, 32, 32, 32, 32, 32, 32, 32, 32, 32, 32, 32, 32, 32, 32, 32, 32, 32, 32, 32, 32, 32, 32])) x38)) fun x39 =>
                  bindO (pickV x37 x39 (Value.bool false)) fun x40 =>
                  condM x40 (
                    bindO (sliceS (Value.string (ByteArray.mk #[32, 32, 32, 32, 32, 32, 32, 32, 32, 32, 32, 32, 32, 32, 32, 32, 32, 32, 32, 32, 32, 32, 32, 32, 32, 32, 32, 32, 32, 32, 32, 32, 32, 32, 32, 32, 32, 32, 32, 32, 32, 32, 32, 32, 32, 32, 32, 32, 32, 32, 32, 32, 32, 32, 32, 32, 32, 32, 32, 32, 32, 32, 32, 32, 32, 32, 32, 32, 32, 32, 32, 32, 32, 32, 32, 32, 32, 32, 32, 32, 32, 32, 32, 32, 32, 32, 32, 32, 32, 32, 32, 32, 32, 32, 32, 32, 32, 32, 32, 32, 32, 32, 32, 32, 32, 32, 32, 32, 32, 32, 32, 32, 32, 32, 32, 32, 32, 32, 32, 32, 32, 32, 32, 32, 32, 32, 32, 32])) none (some x24)) fun x41 =>
                    M.ret (Out.ret x41)) (
                    bindO (binV BinOp.leq x24 (Value.int IntKind.i64 128)) fun x42 =>
                    M.bind (guardM x42 true (M.ret a0)) fun x43 =>
                    M.bind (guardM x42 true (F.strings_HasPrefix (Value.string (ByteArray.mk #[45, 45, 45, 45, 45, 45, 45, 45, 45, 45, 45, 45, 45, 45, 45, 45, 45, 45, 45, 45, 45, 45, 45, 45, 45, 45, 45, 45, 45, 45, 45, 45, 45, 45, 45, 45, 45, 45, 45, 45, 45, 45, 45, 45, 45, 45, 45, 45, 45, 45, 45, 45, 45, 45, 45, 45, 45, 45, 45, 45, 45, 45, 45, 45, 45, 45, 45, 45, 45, 45, 45, 45, 45, 45, 45, 45, 45, 45, 45, 45, 45, 45, 45, 45, 45, 45, 45, 45, 45, 45, 45, 45, 45, 45, 45, 45, 45, 45, 45, 45, 45, 45, 45, 45, 45, 45, 45, 45, 45, 45, 45, 45, 45, 45, 45, 45, 45, 45, 45, 45, 45, 45, 45, 45, 45, 45, 45, 45])) x43)) fun x44 =>
                    bindO (pickV x42 x44 (Value.bool false)) fun x45 =>
                    condM x45 (
                      bindO (sliceS (Value.string (ByteArray.mk #[45, 45, 45, 45, 45, 45, 45, 45, 45, 45, 45, 45, 45, 45, 45, 45, 45, 45, 45, 45, 45, 45, 45, 45, 45, 45, 45, 45, 45, 45, 45, 45, 45, 45, 45, 45, 45, 45, 45, 45, 45, 45, 45, 45, 45, 45, 45, 45, 45, 45, 45, 45, 45, 45, 45, 45, 45, 45, 45, 45, 45, 45, 45, 45, 45, 45, 45, 45, 45, 45, 45, 45, 45, 45, 45, 45, 45, 45, 45, 45, 45, 45, 45, 45, 45, 45, 45, 45, 45, 45, 45, 45, 45, 45, 45, 45, 45, 45, 45, 45, 45, 45, 45, 45, 45, 45, 45, 45, 45, 45, 45, 45, 45, 45, 45, 45, 45, 45, 45, 45, 45, 45, 45, 45, 45, 45, 45, 45])) none (some x24)) fun x46 =>
                      M.ret (Out.ret x46)) (
                      bindO (binV BinOp.leq x24 (Value.int IntKind.i64 64)) fun x47 =>
                      M.bind (guardM x47 true (M.ret a0)) fun x48 =>
                      M.bind (guardM x47 true (F.strings_HasPrefix (Value.string (ByteArray.mk #[48, 48, 48, 48, 48, 48, 48, 48, 48, 48, 48, 48, 48, 48, 48, 48, 48, 48, 48, 48, 48, 48, 48, 48, 48, 48, 48, 48, 48, 48, 48, 48, 48, 48, 48, 48, 48, 48, 48, 48, 48, 48, 48, 48, 48, 48, 48, 48, 48, 48, 48, 48, 48, 48, 48, 48, 48, 48, 48, 48, 48, 48, 48, 48])) x48)) fun x49 =>
                      bindO (pickV x47 x49 (Value.bool false)) fun x50 =>
                      condM x50 (
                        bindO (sliceS (Value.string (ByteArray.mk #[48, 48, 48, 48, 48, 48, 48, 48, 48, 48, 48, 48, 48, 48, 48, 48, 48, 48, 48, 48, 48, 48, 48, 48, 48, 48, 48, 48, 48, 48, 48, 48, 48, 48, 48, 48, 48, 48, 48, 48, 48, 48, 48, 48, 48, 48, 48, 48, 48, 48, 48, 48, 48, 48, 48, 48, 48, 48, 48, 48, 48, 48, 48, 48])) none (some x24)) fun x51 =>
                        M.ret (Out.ret x51)) (
                        bindO (binV BinOp.leq x24 (Value.int IntKind.i64 128)) fun x52 =>
                        M.bind (guardM x52 true (M.ret a0)) fun x53 =>
                        M.bind (guardM x52 true (F.strings_HasPrefix (Value.string (ByteArray.mk #[61, 61, 61, 61, 61, 61, 61, 61, 61, 61, 61, 61, 61, 61, 61, 61, 61, 61, 61, 61, 61, 61, 61, 61, 61, 61, 61, 61, 61, 61, 61, 61, 61, 61, 61, 61, 61, 61, 61, 61, 61, 61, 61, 61, 61, 61, 61, 61, 61, 61, 61, 61, 61, 61, 61, 61, 61, 61, 61, 61, 61, 61, 61, 61, 61, 61, 61, 61, 61, 61, 61, 61, 61, 61, 61, 61, 61, 61, 61, 61, 61, 61, 61, 61, 61, 61, 61, 61, 61, 61, 61, 61, 61, 61, 61, 61, 61, 61, 61, 61, 61, 61, 61, 61, 61, 61, 61, 61, 61, 61, 61, 61, 61, 61, 61, 61, 61, 61, 61, 61, 61, 61, 61, 61, 61, 61, 61, 61])) x53)) fun x54 =>
                        bindO (pickV x52 x54 (Value.bool false)) fun x55 =>
                        condM x55 (
                          bindO (sliceS (Value.string (ByteArray.mk #[61, 61, 61, 61, 61, 61, 61, 61, 61, 61, 61, 61, 61, 61, 61, 61, 61, 61, 61, 61, 61, 61, 61, 61, 61, 61, 61, 61, 61, 61, 61, 61, 61, 61, 61, 61, 61, 61, 61, 61, 61, 61, 61, 61, 61, 61, 61, 61, 61, 61, 61, 61, 61, 61, 61, 61, 61, 61, 61, 61, 61, 61, 61, 61, 61, 61, 61, 61, 61, 61, 61, 61, 61, 61, 61, 61, 61, 61, 61, 61, 61, 61, 61, 61, 61, 61, 61, 61, 61, 61, 61, 61, 61, 61, 61, 61, 61, 61, 61, 61, 61, 61, 61, 61, 61, 61, 61, 61, 61, 61, 61, 61, 61, 61, 61, 61, 61, 61, 61, 61, 61, 61, 61, 61, 61, 61, 61, 61])) none (some x24)) fun x56 =>
                          M.ret (Out.ret x56)) (
                          bindO (binV BinOp.leq x24 (Value.int IntKind.i64 64)) fun x57 =>
                          M.bind (guardM x57 true (M.ret a0)) fun x58 =>
                          M.bind (guardM x57 true (F.strings_HasPrefix (Value.string (ByteArray.mk #[9, 9, 9, 9, 9, 9, 9, 9, 9, 9, 9, 9, 9, 9, 9, 9, 9, 9, 9, 9, 9, 9, 9, 9, 9, 9, 9, 9, 9, 9, 9, 9, 9, 9, 9, 9, 9, 9, 9, 9, 9, 9, 9, 9, 9, 9, 9, 9, 9, 9, 9, 9, 9, 9, 9, 9, 9, 9, 9, 9, 9, 9, 9, 9])) x58)) fun x59 =>
                          bindO (pickV x57 x59 (Value.bool false)) fun x60 =>
                          condM x60 (
                            bindO (sliceS (Value.string (ByteArray.mk #[9, 9, 9, 9, 9, 9, 9, 9, 9, 9, 9, 9, 9, 9, 9, 9, 9, 9, 9, 9, 9, 9, 9, 9, 9, 9, 9, 9, 9, 9, 9, 9, 9, 9, 9, 9, 9, 9, 9, 9, 9, 9, 9, 9, 9, 9, 9, 9, 9, 9, 9, 9, 9, 9, 9, 9, 9, 9, 9, 9, 9, 9, 9, 9])) none (some x24)) fun x61 =>
                            M.ret (Out.ret x61)) (
                            M.ret (Out.norm []))))))) (
                  M.ret (Out.norm []))) (fun _ _ =>
                M.fail) (fun r36 => M.ret (Out.ret r36))) fun o64 =>
            outK o64 (fun _ =>
              M.bind (
                bindO (binV BinOp.gtr x24 (Value.int IntKind.i64 8192)) fun x67 =>
                condM x67 (
                  bindO (lenS a0) fun x68 =>
                  bindO (binV BinOp.quo (Value.int IntKind.i64 8192) x68) fun x69 =>
                  bindO (lenS a0) fun x70 =>
                  bindO (binV BinOp.mul x69 x70) fun x71 =>
                  bindO (binV BinOp.eql x71 (Value.int IntKind.i64 0)) fun x72 =>
                  condM x72 (
                    bindO (lenS a0) fun x73 =>
                    M.ret (Out.norm [x73])) (
                    M.ret (Out.norm [x71]))) (
                  M.ret (Out.norm [x24]))) fun o75 =>
              outK o75 (fun l74 =>
                M.bind (newM 60 #[(Value.pointer none), (Value.slice none 0 0)]) fun x78 =>
                M.bind (F.strings_Builder_Grow x78 x24) fun _ =>
                M.bind (F.strings_Builder_WriteString x78 a0) fun _ =>
                M.bind (loopM (fun _ =>
                  M.bind (F.strings_Builder_Len x78) fun x82 =>
                  bindO (binV BinOp.lss x82 x24) fun x83 =>
                  condM x83 (
                    M.bind (F.strings_Builder_Len x78) fun x84 =>
                    bindO (binV BinOp.sub x24 x84) fun x85 =>
                    M.bind (F.strings_Builder_Len x78) fun x86 =>
                    M.bind (optM (min3V x85 x86 (getL l74 0))) fun x87 =>
                    M.bind (F.strings_Builder_String x78) fun x88 =>
                    bindO (sliceS x88 none (some x87)) fun x89 =>
                    M.bind (F.strings_Builder_WriteString x78 x89) fun _ =>
                    M.ret (Out.norm [])) (
                    M.ret (Out.exit 3 []))) []) fun o92 =>
                outK o92 (fun _ => M.fail) (fun k93 _ =>
                  bif Nat.beq k93 3 then (
                    M.bind (F.strings_Builder_String x78) fun x95 =>
                    M.ret x95) else
                  M.fail) (fun r94 => M.ret r94)) (fun _ _ =>
                M.fail) (fun r77 => M.ret r77)) (fun _ _ =>
              M.fail) (fun r66 => M.ret r66))) (fun _ _ =>
          M.fail) (fun r23 => M.ret r23)) (fun _ _ =>
        M.fail) (fun r8 => M.ret r8)))
def F.strings_Repeat.plan : Plan := (seq leaf (seq (seq leaf (body (seq leaf (cond (seq leaf leaf) (seq leaf (cond (seq leaf leaf) leaf)))))) (fork [] [17, 18, 19] [] (seq leaf (cond leaf leaf)) (seq leaf (fork [] [29, 30, 31, 32, 33, 34, 35] [] (seq leaf (cond leaf leaf)) (seq leaf (seq (seq leaf (cond (seq leaf leaf) leaf)) (fork [] [4, 41, 42, 43, 44, 45, 46, 47, 48, 49, 50, 51, 52, 53, 54, 55, 56, 57, 58, 59, 60, 61, 62, 63, 64, 65, 66, 67, 68, 69, 70, 71, 72, 73, 74, 75, 76, 77, 78, 79, 80, 81, 82, 83, 84, 85, 86, 87, 88, 89, 90, 91, 92, 93] [] (seq leaf (body (fork [43] [43, 44, 45, 46, 47, 48] [] (seq leaf (cond leaf (seq leaf (cond leaf (seq leaf (cond leaf (seq leaf (cond leaf leaf)))))))) (cond (body (seq leaf (cond (seq leaf leaf) (seq leaf (cond (seq leaf leaf) (seq leaf (cond (seq leaf leaf) (seq leaf (cond (seq leaf leaf) (seq leaf (cond (seq leaf leaf) leaf))))))))))) leaf)))) (seq leaf (fork [8] [8, 95, 96, 97, 98, 99, 100, 101, 102, 103, 104, 105, 106] [] (seq leaf (cond (seq leaf (seq leaf (cond leaf leaf))) leaf)) (seq leaf (seq leaf (seq leaf (seq (body (loop [] [10, 111, 112, 113, 114, 115, 116, 117, 118, 119, 120, 121, 122, 123] [3] (seq (seq leaf (cond leaf leaf)) (body (seq leaf leaf))))) (seq leaf leaf)))))))))))))))
theorem F.strings_Repeat.lift : LiftOk Tryd.prog 44 (ap2 F.strings_Repeat) :=
  lift2 (g := evFn Tryd.prog (tcons 39 (ap2 F.strings_Builder_Grow) (tcons 40 (ap2 F.strings_Builder_WriteString) (tcons 41 (ap1 F.strings_Builder_String) (tcons 65 (ap2 F.bits_Mul) (tcons 66 (ap2 F.strings_HasPrefix) (tcons 67 (ap1 F.strings_Builder_Len) tnil)))))) tnil 44 Tryd.f44 F.strings_Repeat.plan) (evFn_sound (tcons_ok F.strings_Builder_Grow.lift (tcons_ok F.strings_Builder_WriteString.lift (tcons_ok F.strings_Builder_String.lift (tcons_ok F.bits_Mul.lift (tcons_ok F.strings_HasPrefix.lift (tcons_ok F.strings_Builder_Len.lift tnil_ok)))))) tnil_ok Tryd.func44 (by kernel_rfl)) (fun x0 x1 => by kernel_rfl)

/-- granary/paper.hex8 -/
noncomputable def F.paper_hex8 (a0 : Value) : M Value :=
  M.bind (F.strconv_FormatInt a0 (Value.int IntKind.i64 16)) fun x1 =>
  bindO (lenS x1) fun x2 =>
  bindO (binV BinOp.sub (Value.int IntKind.i64 8) x2) fun x3 =>
  M.bind (F.strings_Repeat (Value.string (ByteArray.mk #[48])) x3) fun x4 =>
  bindO (binV BinOp.add x4 x1) fun x5 =>
  M.ret x5
def F.paper_hex8.plan : Plan := (seq leaf (seq leaf (seq leaf leaf)))
theorem F.paper_hex8.lift : LiftOk Tryd.prog 21 (ap1 F.paper_hex8) :=
  lift1 (g := evFn Tryd.prog (tcons 43 (ap2 F.strconv_FormatInt) (tcons 44 (ap2 F.strings_Repeat) tnil)) tnil 21 Tryd.f21 F.paper_hex8.plan) (evFn_sound (tcons_ok F.strconv_FormatInt.lift (tcons_ok F.strings_Repeat.lift tnil_ok)) tnil_ok Tryd.func21 (by kernel_rfl)) (fun x0 => by kernel_rfl)

/-- strings.Join -/
noncomputable def F.strings_Join (a0 a1 : Value) : M Value :=
  bindO (lenL a0) fun x1 =>
  bindO (binV BinOp.eql x1 (Value.int IntKind.i64 0)) fun x2 =>
  condM x2 (
    M.ret (Value.string (ByteArray.mk #[]))) (
    bindO (binV BinOp.eql x1 (Value.int IntKind.i64 1)) fun x3 =>
    condM x3 (
      bindO (idxA 1 a0 (Value.int IntKind.i64 0)) fun x4 =>
      M.bind (rdM (ld1 x4)) fun x5 =>
      M.ret x5) (
      M.bind (
        bindO (lenS a1) fun x6 =>
        bindO (binV BinOp.gtr x6 (Value.int IntKind.i64 0)) fun x7 =>
        condM x7 (
          M.bind (
            bindO (lenS a1) fun x8 =>
            bindO (lenL a0) fun x9 =>
            bindO (binV BinOp.sub x9 (Value.int IntKind.i64 1)) fun x10 =>
            bindO (binV BinOp.quo (Value.int IntKind.i64 9223372036854775807) x10) fun x11 =>
            bindO (binV BinOp.geq x8 x11) fun x12 =>
            condM x12 (
              M.bind ((M.fail : M Value)) fun _ =>
              M.ret (Out.norm [])) (
              M.ret (Out.norm []))) fun o15 =>
          outK o15 (fun _ =>
            bindO (lenS a1) fun x18 =>
            bindO (lenL a0) fun x19 =>
            bindO (binV BinOp.sub x19 (Value.int IntKind.i64 1)) fun x20 =>
            bindO (binV BinOp.mul x18 x20) fun x21 =>
            bindO (binV BinOp.add (Value.int IntKind.i64 0) x21) fun x22 =>
            M.ret (Out.norm [x22])) (fun _ _ =>
            M.fail) (fun r17 => M.ret (Out.ret r17))) (
          M.ret (Out.norm [(Value.int IntKind.i64 0)]))) fun o25 =>
      outK o25 (fun l24 =>
        bindO (lenL a0) fun x28 =>
        M.bind (loopM (fun l29 =>
          bindO (binV BinOp.lss (getL l29 1) x28) fun x30 =>
          condM x30 (
            bindO (idxA 1 a0 (getL l29 1)) fun x31 =>
            M.bind (rdM (ld1 x31)) fun x32 =>
            M.bind (
              bindO (lenS x32) fun x33 =>
              bindO (binV BinOp.sub (Value.int IntKind.i64 9223372036854775807) (getL l29 0)) fun x34 =>
              bindO (binV BinOp.gtr x33 x34) fun x35 =>
              condM x35 (
                M.bind ((M.fail : M Value)) fun _ =>
                M.ret (Out.norm [])) (
                M.ret (Out.norm []))) fun o38 =>
            outK o38 (fun _ =>
              bindO (lenS x32) fun x41 =>
              bindO (binV BinOp.add (getL l29 0) x41) fun x42 =>
              bindO (binV BinOp.add (getL l29 1) (Value.int IntKind.i64 1)) fun x43 =>
              M.ret (Out.norm [x42, x43])) (fun _ _ =>
              M.fail) (fun r40 => M.ret (Out.ret r40))) (
            M.ret (Out.exit 1 [(getL l29 0), (getL l29 1)]))) [(getL l24 0), (Value.int IntKind.i64 0)]) fun o46 =>
        outK o46 (fun _ => M.fail) (fun k47 l45 =>
          bif Nat.beq k47 1 then (
            M.bind (newM 60 #[(Value.pointer none), (Value.slice none 0 0)]) fun x49 =>
            M.bind (F.strings_Builder_Grow x49 (getL l45 0)) fun _ =>
            bindO (idxA 1 a0 (Value.int IntKind.i64 0)) fun x51 =>
            M.bind (rdM (ld1 x51)) fun x52 =>
            M.bind (F.strings_Builder_WriteString x49 x52) fun _ =>
            bindO (sliceV 1 a0 (some (Value.int IntKind.i64 1)) none) fun x54 =>
            bindO (lenL x54) fun x55 =>
            M.bind (loopM (fun l56 =>
              bindO (binV BinOp.lss (getL l56 0) x55) fun x57 =>
              condM x57 (
                bindO (idxA 1 x54 (getL l56 0)) fun x58 =>
                M.bind (rdM (ld1 x58)) fun x59 =>
                M.bind (F.strings_Builder_WriteString x49 a1) fun _ =>
                M.bind (F.strings_Builder_WriteString x49 x59) fun _ =>
                bindO (binV BinOp.add (getL l56 0) (Value.int IntKind.i64 1)) fun x62 =>
                M.ret (Out.norm [x62])) (
                M.ret (Out.exit 3 [(getL l56 0)]))) [(Value.int IntKind.i64 0)]) fun o64 =>
            outK o64 (fun _ => M.fail) (fun k65 _ =>
              bif Nat.beq k65 3 then (
                M.bind (F.strings_Builder_String x49) fun x67 =>
                M.ret x67) else
              M.fail) (fun r66 => M.ret r66)) else
          M.fail) (fun r48 => M.ret r48)) (fun _ _ =>
        M.fail) (fun r27 => M.ret r27)))
def F.strings_Join.plan : Plan := (seq leaf (seq (seq leaf (body (seq leaf (cond (seq leaf leaf) (seq leaf (cond (seq leaf leaf) leaf)))))) (seq leaf (fork [5] [5, 20, 21, 22, 23, 24, 25, 26, 27, 28, 29, 30, 31, 32, 33, 34, 35, 36, 37, 38] [] (seq leaf (cond (fork [] [23, 24, 25, 26, 27, 28, 29, 30] [] (seq leaf (cond leaf leaf)) leaf) leaf)) (seq (seq leaf (body (loop [5, 41] [5, 7, 41, 42, 43, 44, 45, 46, 47, 48, 49, 50, 51, 52, 53, 54, 55] [1] (seq leaf (seq (cond leaf leaf) (seq (body (seq leaf (fork [] [45, 46, 47, 48, 49, 50] [] (seq leaf (cond leaf leaf)) leaf))) leaf)))))) (seq leaf (seq leaf (seq leaf (seq (seq leaf (body (loop [65] [10, 65, 66, 67, 68, 69, 70, 71, 72, 73] [3] (seq leaf (seq (cond leaf leaf) (seq (body (seq leaf (seq leaf leaf))) leaf)))))) (seq leaf leaf))))))))))
theorem F.strings_Join.lift : LiftOk Tryd.prog 19 (ap2 F.strings_Join) :=
  lift2 (g := evFn Tryd.prog (tcons 39 (ap2 F.strings_Builder_Grow) (tcons 40 (ap2 F.strings_Builder_WriteString) (tcons 41 (ap1 F.strings_Builder_String) tnil))) tnil 19 Tryd.f19 F.strings_Join.plan) (evFn_sound (tcons_ok F.strings_Builder_Grow.lift (tcons_ok F.strings_Builder_WriteString.lift (tcons_ok F.strings_Builder_String.lift tnil_ok))) tnil_ok Tryd.func19 (by kernel_rfl)) (fun x0 x1 => by kernel_rfl)

/-- granary/digest.through -/
noncomputable def F.digest_through (a0 a1 : Value) : M Value :=
  M.bind (loopM (fun l1 =>
    bindO (lenS a1) fun x2 =>
    bindO (binV BinOp.lss (getL l1 1) x2) fun x3 =>
    condM x3 (
      bindO (idxS a1 (getL l1 1)) fun x4 =>
      bindO (cvtI IntKind.u32 x4) fun x5 =>
      bindO (binV BinOp.xor (getL l1 0) x5) fun x6 =>
      bindO (binV BinOp.and x6 (Value.int IntKind.u32 15)) fun x7 =>
      bindO (idxR 16 1 (Value.pointer (some { block := 0, off := 0, spot := none })) x7) fun x8 =>
      M.bind (rdM (ld1 x8)) fun x9 =>
      bindO (shV BinOp.shr x6 (Value.int IntKind.u64 4)) fun x10 =>
      bindO (binV BinOp.xor x9 x10) fun x11 =>
      bindO (binV BinOp.and x11 (Value.int IntKind.u32 15)) fun x12 =>
      bindO (idxR 16 1 (Value.pointer (some { block := 0, off := 0, spot := none })) x12) fun x13 =>
      M.bind (rdM (ld1 x13)) fun x14 =>
      bindO (shV BinOp.shr x11 (Value.int IntKind.u64 4)) fun x15 =>
      bindO (binV BinOp.xor x14 x15) fun x16 =>
      bindO (binV BinOp.add (getL l1 1) (Value.int IntKind.i64 1)) fun x17 =>
      M.ret (Out.norm [x16, x17])) (
      M.ret (Out.exit 0 [(getL l1 0), (getL l1 1)]))) [a0, (Value.int IntKind.i64 0)]) fun o19 =>
  outK o19 (fun _ => M.fail) (fun k20 l18 =>
    bif Nat.beq k20 0 then (
      M.ret (getL l18 0)) else
    M.fail) (fun r21 => M.ret r21)
def F.digest_through.plan : Plan := (seq leaf (seq (seq leaf (body (loop [0, 5] [0, 5, 6, 7, 8, 9, 10, 11, 12, 13, 14, 15, 16, 17, 18, 19, 20, 21, 22, 23, 24, 25, 26, 27, 28, 29, 30, 31] [0] (seq (seq leaf (cond leaf leaf)) (seq (body (seq leaf (seq leaf leaf))) leaf))))) (seq leaf leaf)))
theorem F.digest_through.lift : LiftOk Tryd.prog 45 (ap2 F.digest_through) :=
  lift2 (g := evFn Tryd.prog tnil tnil 45 Tryd.f45 F.digest_through.plan) (evFn_sound tnil_ok tnil_ok Tryd.func45 (by kernel_rfl)) (fun x0 x1 => by kernel_rfl)

/-- granary/digest.CRC -/
noncomputable def F.digest_CRC (a0 : Value) : M Value :=
  bindO (lenL a0) fun x1 =>
  M.bind (loopM (fun l2 =>
    bindO (binV BinOp.lss (getL l2 1) x1) fun x3 =>
    condM x3 (
      bindO (idxA 1 a0 (getL l2 1)) fun x4 =>
      M.bind (rdM (ld1 x4)) fun x5 =>
      M.bind (F.digest_through (getL l2 0) x5) fun x6 =>
      bindO (binV BinOp.add (getL l2 1) (Value.int IntKind.i64 1)) fun x7 =>
      M.ret (Out.norm [x6, x7])) (
      M.ret (Out.exit 0 [(getL l2 0), (getL l2 1)]))) [(Value.int IntKind.u32 4294967295), (Value.int IntKind.i64 0)]) fun o9 =>
  outK o9 (fun _ => M.fail) (fun k10 l8 =>
    bif Nat.beq k10 0 then (
      bindO (cplV (getL l8 0)) fun x12 =>
      bindO (cvtI IntKind.i64 x12) fun x13 =>
      M.ret x13) else
    M.fail) (fun r11 => M.ret r11)
def F.digest_CRC.plan : Plan := (seq leaf (seq leaf (seq (seq leaf (body (loop [3, 8] [3, 5, 8, 9, 10, 11, 12, 13, 14, 15] [0] (seq leaf (seq (cond leaf leaf) (seq (body (seq leaf leaf)) leaf)))))) (seq leaf leaf))))
theorem F.digest_CRC.lift : LiftOk Tryd.prog 22 (ap1 F.digest_CRC) :=
  lift1 (g := evFn Tryd.prog (tcons 45 (ap2 F.digest_through) tnil) tnil 22 Tryd.f22 F.digest_CRC.plan) (evFn_sound (tcons_ok F.digest_through.lift tnil_ok) tnil_ok Tryd.func22 (by kernel_rfl)) (fun x0 => by kernel_rfl)

/-- granary/paper.PrintNote -/
noncomputable def F.paper_PrintNote (a0 : Value) : M Value :=
  M.bind (newM 23 (Value.cells a0)) fun x1 =>
  bindO (fieldA 0 x1) fun x2 =>
  M.bind (rdM (ld1 x2)) fun x3 =>
  bindO (binV BinOp.lss x3 (Value.int IntKind.i64 1)) fun x4 =>
  M.bind (guardM x4 false (optM (fieldA 0 x1))) fun x5 =>
  M.bind (guardM x4 false (rdM (ld1 x5))) fun x6 =>
  M.bind (guardM x4 false (optM (binV BinOp.gtr x6 (Value.int IntKind.i64 4)))) fun x7 =>
  bindO (pickV x4 (Value.bool true) x7) fun x8 =>
  M.bind (guardM x8 false (optM (fieldA 1 x1))) fun x9 =>
  M.bind (guardM x8 false (rdM (ld1 x9))) fun x10 =>
  M.bind (guardM x8 false (optM (binV BinOp.lss x10 (Value.int IntKind.i64 0)))) fun x11 =>
  bindO (pickV x8 (Value.bool true) x11) fun x12 =>
  M.bind (guardM x12 false (optM (fieldA 1 x1))) fun x13 =>
  M.bind (guardM x12 false (rdM (ld1 x13))) fun x14 =>
  M.bind (guardM x12 false (optM (binV BinOp.gtr x14 (Value.int IntKind.i64 9007199254740992)))) fun x15 =>
  bindO (pickV x12 (Value.bool true) x15) fun x16 =>
  M.bind (guardM x16 false (optM (fieldA 2 x1))) fun x17 =>
  M.bind (guardM x16 false (rdM (ld1 x17))) fun x18 =>
  M.bind (guardM x16 false (optM (binV BinOp.lss x18 (Value.int IntKind.i64 0)))) fun x19 =>
  bindO (pickV x16 (Value.bool true) x19) fun x20 =>
  M.bind (guardM x20 false (optM (fieldA 2 x1))) fun x21 =>
  M.bind (guardM x20 false (rdM (ld1 x21))) fun x22 =>
  M.bind (guardM x20 false (optM (binV BinOp.gtr x22 (Value.int IntKind.i64 9007199254740992)))) fun x23 =>
  bindO (pickV x20 (Value.bool true) x23) fun x24 =>
  M.bind (guardM x24 false (optM (fieldA 3 x1))) fun x25 =>
  M.bind (guardM x24 false (rdM (ld1 x25))) fun x26 =>
  M.bind (guardM x24 false (F.paper_isSum x26)) fun x27 =>
  M.bind (guardM x24 false (optM (notV x27))) fun x28 =>
  bindO (pickV x24 (Value.bool true) x28) fun x29 =>
  condM x29 (
    M.ret (Value.tuple #[(Value.string (ByteArray.mk #[])), (Value.int IntKind.i64 42)])) (
    drewM <|
    getM fun W30 =>
    bindO (fieldA 0 x1) fun x31 =>
    M.bind (rdM (ld1 x31)) fun x32 =>
    M.bind (F.strconv_Itoa x32) fun x33 =>
    getM fun W34 =>
    bindO (fieldA 1 x1) fun x35 =>
    M.bind (rdM (ld1 x35)) fun x36 =>
    M.bind (F.strconv_Itoa x36) fun x37 =>
    getM fun W38 =>
    bindO (fieldA 2 x1) fun x39 =>
    M.bind (rdM (ld1 x39)) fun x40 =>
    M.bind (F.strconv_Itoa x40) fun x41 =>
    getM fun _ =>
    bindO (fieldA 3 x1) fun x43 =>
    M.bind (rdM (ld1 x43)) fun x44 =>
    M.bind (F.paper_hex8 x44) fun x45 =>
    getM fun _ =>
    M.bind (bslM 9 5 (Builtin.zeroCells #[(Value.string ByteArray.empty)] 5) [(0, 1, x33), (1, 1, x37), (2, 1, x41), (3, 1, x45), (4, 1, (Value.string (ByteArray.mk #[])))]) fun x47 =>
    getM fun _ =>
    M.bind (F.strings_Join x47 (Value.string (ByteArray.mk #[32]))) fun x49 =>
    getM fun _ =>
    reqM (ld1 x35 W30 = some x36) <|
    reqM (ld1 x39 W30 = some x40) <|
    reqM (ld1 x39 W34 = some x40) <|
    reqM (ld1 x43 W30 = some x44) <|
    reqM (ld1 x43 W34 = some x44) <|
    reqM (ld1 x43 W38 = some x44) <|
    M.bind (bslM 9 1 (Builtin.zeroCells #[(Value.string ByteArray.empty)] 1) [(0, 1, x49)]) fun x51 =>
    M.bind (F.digest_CRC x51) fun x52 =>
    M.bind (F.paper_hex8 x52) fun x53 =>
    bindO (binV BinOp.add x49 x53) fun x54 =>
    bindO (binV BinOp.add x54 (Value.string (ByteArray.mk #[10]))) fun x55 =>
    M.ret (Value.tuple #[x55, (Value.int IntKind.i64 0)]))
def F.paper_PrintNote.plan : Plan := (seq leaf (seq (seq leaf (cond (seq leaf leaf) leaf)) (seq leaf (seq leaf leaf))))
theorem F.paper_PrintNote.lift : LiftOk Tryd.prog 6 (ap1 F.paper_PrintNote) :=
  lift1 (g := evFn Tryd.prog (tcons 18 (ap1 F.paper_isSum) (tcons 19 (ap2 F.strings_Join) (tcons 20 (ap1 F.strconv_Itoa) (tcons 21 (ap1 F.paper_hex8) (tcons 22 (ap1 F.digest_CRC) tnil))))) tnil 6 Tryd.f6 F.paper_PrintNote.plan) (evFn_sound (tcons_ok F.paper_isSum.lift (tcons_ok F.strings_Join.lift (tcons_ok F.strconv_Itoa.lift (tcons_ok F.paper_hex8.lift (tcons_ok F.digest_CRC.lift tnil_ok))))) tnil_ok Tryd.func6 (by kernel_rfl)) (fun x0 => by kernel_rfl)

/-- granary/granaryref4.in -/
noncomputable def F.granaryref4_in (a0 a1 a2 : Value) : M Value :=
  bindO (binV BinOp.geq a0 a1) fun x1 =>
  M.bind (guardM x1 true (M.ret a0)) fun x2 =>
  M.bind (guardM x1 true (M.ret a2)) fun x3 =>
  M.bind (guardM x1 true (optM (binV BinOp.leq x2 x3))) fun x4 =>
  bindO (pickV x1 x4 (Value.bool false)) fun x5 =>
  M.ret x5
def F.granaryref4_in.plan : Plan := (seq leaf (seq leaf leaf))
theorem F.granaryref4_in.lift : LiftOk Tryd.prog 23 (ap3 F.granaryref4_in) :=
  lift3 (g := evFn Tryd.prog tnil tnil 23 Tryd.f23 F.granaryref4_in.plan) (evFn_sound tnil_ok tnil_ok Tryd.func23 (by kernel_rfl)) (fun x0 x1 x2 => by kernel_rfl)

/-- granary/granaryref4.eight -/
noncomputable def F.granaryref4_eight (a0 : Value) : M Value :=
  M.bind (loopM (fun l1 =>
    bindO (binV BinOp.geq (getL l1 1) (Value.int IntKind.i64 0)) fun x2 =>
    condM x2 (
      M.bind (loopM (fun l3 =>
        bindO (binV BinOp.lss (getL l3 1) (getL l1 1)) fun x4 =>
        condM x4 (
          bindO (binV BinOp.mul (Value.int IntKind.i64 16) (getL l3 0)) fun x5 =>
          bindO (binV BinOp.add (getL l3 1) (Value.int IntKind.i64 1)) fun x6 =>
          M.ret (Out.norm [x5, x6])) (
          M.ret (Out.exit 2 [(getL l3 0), (getL l3 1)]))) [(Value.int IntKind.i64 1), (Value.int IntKind.i64 0)]) fun o8 =>
      outK o8 (fun _ => M.fail) (fun k9 l7 =>
        bif Nat.beq k9 2 then (
          bindO (binV BinOp.quo a0 (getL l7 0)) fun x11 =>
          bindO (binV BinOp.rem x11 (Value.int IntKind.i64 16)) fun x12 =>
          bindO (idxS (Value.string (ByteArray.mk #[48, 49, 50, 51, 52, 53, 54, 55, 56, 57, 97, 98, 99, 100, 101, 102])) x12) fun x13 =>
          M.bind (bslM 5 1 (Builtin.zeroCells #[(Value.int IntKind.u8 0)] 1) [(0, 1, x13)]) fun x14 =>
          M.bind (appM 5 1 1 #[(Value.int IntKind.u8 0)] (getL l1 0) x14) fun x15 =>
          bindO (binV BinOp.sub (getL l1 1) (Value.int IntKind.i64 1)) fun x16 =>
          M.ret (Out.norm [x15, x16])) else
        M.fail) (fun r10 => M.ret (Out.ret r10))) (
      M.ret (Out.exit 0 [(getL l1 0), (getL l1 1)]))) [(Value.slice none 0 0), (Value.int IntKind.i64 7)]) fun o18 =>
  outK o18 (fun _ => M.fail) (fun k19 l17 =>
    bif Nat.beq k19 0 then (
      M.bind (rdM (bsR (getL l17 0))) fun x21 =>
      M.ret x21) else
    M.fail) (fun r20 => M.ret r20)
def F.granaryref4_eight.plan : Plan := (seq leaf (seq leaf (seq (seq leaf (body (loop [3, 4] [3, 4, 5, 6, 7, 8, 9, 10, 11, 12, 13, 14, 15, 16, 17, 18, 19, 20, 21, 22, 23, 24, 25] [0] (seq (seq leaf (cond leaf leaf)) (seq (body (seq leaf (seq (seq leaf (body (loop [5, 6] [5, 6, 11, 12, 13, 14, 15, 16, 17] [2] (seq (seq leaf (cond leaf leaf)) (seq (body leaf) leaf))))) leaf))) leaf))))) (seq leaf leaf))))
theorem F.granaryref4_eight.lift : LiftOk Tryd.prog 24 (ap1 F.granaryref4_eight) :=
  lift1 (g := evFn Tryd.prog tnil tnil 24 Tryd.f24 F.granaryref4_eight.plan) (evFn_sound tnil_ok tnil_ok Tryd.func24 (by kernel_rfl)) (fun x0 => by kernel_rfl)

/-- granary/granaryref2.step -/
noncomputable def F.granaryref2_step (a0 : Value) : M Value :=
  bindO (binV BinOp.rem a0 (Value.int IntKind.i64 2)) fun x1 =>
  bindO (binV BinOp.eql x1 (Value.int IntKind.i64 0)) fun x2 =>
  condM x2 (
    bindO (binV BinOp.quo a0 (Value.int IntKind.i64 2)) fun x3 =>
    M.ret x3) (
    bindO (binV BinOp.quo a0 (Value.int IntKind.i64 2)) fun x4 =>
    bindO (binV BinOp.xor x4 (Value.int IntKind.i64 3988292384)) fun x5 =>
    M.ret x5)
def F.granaryref2_step.plan : Plan := (seq leaf (seq (seq leaf (cond (seq leaf leaf) leaf)) (seq leaf leaf)))
theorem F.granaryref2_step.lift : LiftOk Tryd.prog 46 (ap1 F.granaryref2_step) :=
  lift1 (g := evFn Tryd.prog tnil tnil 46 Tryd.f46 F.granaryref2_step.plan) (evFn_sound tnil_ok tnil_ok Tryd.func46 (by kernel_rfl)) (fun x0 => by kernel_rfl)

/-- granary/granaryref2.CRC -/
noncomputable def F.granaryref2_CRC (a0 : Value) : M Value :=
  M.bind (loopM (fun l1 =>
    bindO (lenS a0) fun x2 =>
    bindO (binV BinOp.lss (getL l1 1) x2) fun x3 =>
    condM x3 (
      bindO (idxS a0 (getL l1 1)) fun x4 =>
      bindO (cvtI IntKind.i64 x4) fun x5 =>
      bindO (binV BinOp.xor (getL l1 0) x5) fun x6 =>
      M.bind (loopM (fun l7 =>
        bindO (binV BinOp.lss (getL l7 1) (Value.int IntKind.i64 8)) fun x8 =>
        condM x8 (
          M.bind (F.granaryref2_step (getL l7 0)) fun x9 =>
          bindO (binV BinOp.add (getL l7 1) (Value.int IntKind.i64 1)) fun x10 =>
          M.ret (Out.norm [x9, x10])) (
          M.ret (Out.exit 2 [(getL l7 0), (getL l7 1)]))) [x6, (Value.int IntKind.i64 0)]) fun o12 =>
      outK o12 (fun _ => M.fail) (fun k13 l11 =>
        bif Nat.beq k13 2 then (
          bindO (binV BinOp.add (getL l1 1) (Value.int IntKind.i64 1)) fun x15 =>
          M.ret (Out.norm [(getL l11 0), x15])) else
        M.fail) (fun r14 => M.ret (Out.ret r14))) (
      M.ret (Out.exit 0 [(getL l1 0), (getL l1 1)]))) [(Value.int IntKind.i64 4294967295), (Value.int IntKind.i64 0)]) fun o17 =>
  outK o17 (fun _ => M.fail) (fun k18 l16 =>
    bif Nat.beq k18 0 then (
      bindO (binV BinOp.xor (getL l16 0) (Value.int IntKind.i64 4294967295)) fun x20 =>
      M.ret x20) else
    M.fail) (fun r19 => M.ret r19)
def F.granaryref2_CRC.plan : Plan := (seq leaf (seq leaf (seq (seq leaf (body (loop [3, 4] [3, 4, 5, 6, 7, 8, 9, 10, 11, 12, 13, 14, 15, 16, 17, 18, 19, 20, 21, 22, 23] [0] (seq (seq leaf (cond leaf leaf)) (seq (body (seq leaf (seq leaf (body (loop [3, 5] [3, 5, 18, 19, 20, 21, 22, 23] [2] (seq (seq leaf (cond leaf leaf)) (seq (body leaf) leaf))))))) leaf))))) (seq leaf leaf))))
theorem F.granaryref2_CRC.lift : LiftOk Tryd.prog 25 (ap1 F.granaryref2_CRC) :=
  lift1 (g := evFn Tryd.prog (tcons 46 (ap1 F.granaryref2_step) tnil) tnil 25 Tryd.f25 F.granaryref2_CRC.plan) (evFn_sound (tcons_ok F.granaryref2_step.lift tnil_ok) tnil_ok Tryd.func25 (by kernel_rfl)) (fun x0 => by kernel_rfl)

/-- granary/granaryref4.PrintNote -/
noncomputable def F.granaryref4_PrintNote (a0 : Value) : M Value :=
  M.bind (newM 23 (Value.cells a0)) fun x1 =>
  bindO (fieldA 0 x1) fun x2 =>
  M.bind (rdM (ld1 x2)) fun x3 =>
  M.bind (F.granaryref4_in x3 (Value.int IntKind.i64 1) (Value.int IntKind.i64 4)) fun x4 =>
  bindO (notV x4) fun x5 =>
  M.bind (guardM x5 false (optM (fieldA 1 x1))) fun x6 =>
  M.bind (guardM x5 false (rdM (ld1 x6))) fun x7 =>
  M.bind (guardM x5 false (F.granaryref4_in x7 (Value.int IntKind.i64 0) (Value.int IntKind.i64 9007199254740992))) fun x8 =>
  M.bind (guardM x5 false (optM (notV x8))) fun x9 =>
  bindO (pickV x5 (Value.bool true) x9) fun x10 =>
  M.bind (guardM x10 false (optM (fieldA 2 x1))) fun x11 =>
  M.bind (guardM x10 false (rdM (ld1 x11))) fun x12 =>
  M.bind (guardM x10 false (F.granaryref4_in x12 (Value.int IntKind.i64 0) (Value.int IntKind.i64 9007199254740992))) fun x13 =>
  M.bind (guardM x10 false (optM (notV x13))) fun x14 =>
  bindO (pickV x10 (Value.bool true) x14) fun x15 =>
  M.bind (guardM x15 false (optM (fieldA 3 x1))) fun x16 =>
  M.bind (guardM x15 false (rdM (ld1 x16))) fun x17 =>
  M.bind (guardM x15 false (F.granaryref4_in x17 (Value.int IntKind.i64 0) (Value.int IntKind.i64 4294967295))) fun x18 =>
  M.bind (guardM x15 false (optM (notV x18))) fun x19 =>
  bindO (pickV x15 (Value.bool true) x19) fun x20 =>
  condM x20 (
    M.ret (Value.tuple #[(Value.string (ByteArray.mk #[])), (Value.int IntKind.i64 42)])) (
    drewM <|
    getM fun W21 =>
    bindO (fieldA 0 x1) fun x22 =>
    M.bind (rdM (ld1 x22)) fun x23 =>
    M.bind (F.strconv_Itoa x23) fun x24 =>
    getM fun W25 =>
    bindO (binV BinOp.add x24 (Value.string (ByteArray.mk #[32]))) fun x26 =>
    bindO (fieldA 1 x1) fun x27 =>
    M.bind (rdM (ld1 x27)) fun x28 =>
    M.bind (F.strconv_Itoa x28) fun x29 =>
    getM fun W30 =>
    bindO (binV BinOp.add x26 x29) fun x31 =>
    bindO (binV BinOp.add x31 (Value.string (ByteArray.mk #[32]))) fun x32 =>
    bindO (fieldA 2 x1) fun x33 =>
    M.bind (rdM (ld1 x33)) fun x34 =>
    M.bind (F.strconv_Itoa x34) fun x35 =>
    getM fun _ =>
    bindO (binV BinOp.add x32 x35) fun x37 =>
    bindO (binV BinOp.add x37 (Value.string (ByteArray.mk #[32]))) fun x38 =>
    bindO (fieldA 3 x1) fun x39 =>
    M.bind (rdM (ld1 x39)) fun x40 =>
    M.bind (F.granaryref4_eight x40) fun x41 =>
    getM fun _ =>
    bindO (binV BinOp.add x38 x41) fun x43 =>
    bindO (binV BinOp.add x43 (Value.string (ByteArray.mk #[32]))) fun x44 =>
    reqM (ld1 x27 W21 = some x28) <|
    reqM (ld1 x33 W21 = some x34) <|
    reqM (ld1 x33 W25 = some x34) <|
    reqM (ld1 x39 W21 = some x40) <|
    reqM (ld1 x39 W25 = some x40) <|
    reqM (ld1 x39 W30 = some x40) <|
    M.bind (F.granaryref2_CRC x44) fun x45 =>
    M.bind (F.granaryref4_eight x45) fun x46 =>
    bindO (binV BinOp.add x44 x46) fun x47 =>
    bindO (binV BinOp.add x47 (Value.string (ByteArray.mk #[10]))) fun x48 =>
    M.ret (Value.tuple #[x48, (Value.int IntKind.i64 0)]))
def F.granaryref4_PrintNote.plan : Plan := (seq leaf (seq (seq leaf (cond (seq leaf leaf) leaf)) (seq leaf (seq leaf leaf))))
theorem F.granaryref4_PrintNote.lift : LiftOk Tryd.prog 7 (ap1 F.granaryref4_PrintNote) :=
  lift1 (g := evFn Tryd.prog (tcons 20 (ap1 F.strconv_Itoa) (tcons 23 (ap3 F.granaryref4_in) (tcons 24 (ap1 F.granaryref4_eight) (tcons 25 (ap1 F.granaryref2_CRC) tnil)))) tnil 7 Tryd.f7 F.granaryref4_PrintNote.plan) (evFn_sound (tcons_ok F.strconv_Itoa.lift (tcons_ok F.granaryref4_in.lift (tcons_ok F.granaryref4_eight.lift (tcons_ok F.granaryref2_CRC.lift tnil_ok)))) tnil_ok Tryd.func7 (by kernel_rfl)) (fun x0 => by kernel_rfl)

/-- granary/granarylaw4.num -/
noncomputable def F.granarylaw4_num (a0 : Value) : M Value :=
  M.ret a0
def F.granarylaw4_num.plan : Plan := (seq leaf (seq leaf leaf))
theorem F.granarylaw4_num.lift : LiftOk Tryd.prog 8 (ap1 F.granarylaw4_num) :=
  lift1 (g := evFn Tryd.prog tnil tnil 8 Tryd.f8 F.granarylaw4_num.plan) (evFn_sound tnil_ok tnil_ok Tryd.func8 (by kernel_rfl)) (fun x0 => by kernel_rfl)

/-- internal/bytealg.Cutover -/
noncomputable def F.bytealg_Cutover (a0 : Value) : M Value :=
  bindO (binV BinOp.add a0 (Value.int IntKind.i64 16)) fun x1 =>
  bindO (binV BinOp.quo x1 (Value.int IntKind.i64 8)) fun x2 =>
  M.ret x2
def F.bytealg_Cutover.plan : Plan := (seq leaf (seq leaf leaf))
theorem F.bytealg_Cutover.lift : LiftOk Tryd.prog 89 (ap1 F.bytealg_Cutover) :=
  lift1 (g := evFn Tryd.prog tnil tnil 89 Tryd.f89 F.bytealg_Cutover.plan) (evFn_sound tnil_ok tnil_ok Tryd.func89 (by kernel_rfl)) (fun x0 => by kernel_rfl)

/-- internal/bytealg.hashStr[string] -/
noncomputable def F.bytealg_hashStr_inst (a0 : Value) : M Value :=
  M.bind (loopM (fun l1 =>
    bindO (lenS a0) fun x2 =>
    bindO (binV BinOp.lss (getL l1 1) x2) fun x3 =>
    condM x3 (
      bindO (binV BinOp.mul (getL l1 0) (Value.int IntKind.u32 16777619)) fun x4 =>
      bindO (idxS a0 (getL l1 1)) fun x5 =>
      bindO (cvtI IntKind.u32 x5) fun x6 =>
      bindO (binV BinOp.add x4 x6) fun x7 =>
      bindO (binV BinOp.add (getL l1 1) (Value.int IntKind.i64 1)) fun x8 =>
      M.ret (Out.norm [x7, x8])) (
      M.ret (Out.exit 0 [(getL l1 0), (getL l1 1)]))) [(Value.int IntKind.u32 0), (Value.int IntKind.i64 0)]) fun o10 =>
  outK o10 (fun _ => M.fail) (fun k11 l9 =>
    bif Nat.beq k11 0 then (
      bindO (lenS a0) fun x13 =>
      M.bind (loopM (fun l14 =>
        bindO (binV BinOp.gtr (getL l14 2) (Value.int IntKind.i64 0)) fun x15 =>
        condM x15 (
          M.bind (
            bindO (binV BinOp.and (getL l14 2) (Value.int IntKind.i64 1)) fun x16 =>
            bindO (binV BinOp.neq x16 (Value.int IntKind.i64 0)) fun x17 =>
            condM x17 (
              bindO (binV BinOp.mul (getL l14 0) (getL l14 1)) fun x18 =>
              M.ret (Out.norm [x18])) (
              M.ret (Out.norm [(getL l14 0)]))) fun o20 =>
          outK o20 (fun l19 =>
            bindO (binV BinOp.mul (getL l14 1) (getL l14 1)) fun x23 =>
            bindO (shV BinOp.shr (getL l14 2) (Value.int IntKind.u64 1)) fun x24 =>
            M.ret (Out.norm [(getL l19 0), x23, x24])) (fun _ _ =>
            M.fail) (fun r22 => M.ret (Out.ret r22))) (
          M.ret (Out.exit 2 [(getL l14 0), (getL l14 1), (getL l14 2)]))) [(Value.int IntKind.u32 1), (Value.int IntKind.u32 16777619), x13]) fun o27 =>
      outK o27 (fun _ => M.fail) (fun k28 l26 =>
        bif Nat.beq k28 2 then (
          M.ret (Value.tuple #[(getL l9 0), (getL l26 0)])) else
        M.fail) (fun r29 => M.ret r29)) else
    M.fail) (fun r12 => M.ret r12)
def F.bytealg_hashStr_inst.plan : Plan := (seq leaf (seq leaf (seq (seq leaf (body (loop [4, 5] [4, 5, 9, 10, 11, 12, 13, 14, 15, 16, 17, 18, 19, 20, 21] [0] (seq (seq leaf (cond leaf leaf)) (seq (body leaf) leaf))))) (seq leaf (seq (seq leaf (body (loop [6, 7, 8] [6, 7, 8, 24, 25, 26, 27, 28, 29, 30, 31, 32, 33, 34, 35, 36] [2] (seq (seq leaf (cond leaf leaf)) (seq (body (fork [6] [6, 28, 29, 30, 31, 32, 33] [] (seq leaf (cond leaf leaf)) leaf)) leaf))))) (seq leaf leaf))))))
theorem F.bytealg_hashStr_inst.lift : LiftOk Tryd.prog 102 (ap1 F.bytealg_hashStr_inst) :=
  lift1 (g := evFn Tryd.prog tnil tnil 102 Tryd.f102 F.bytealg_hashStr_inst.plan) (evFn_sound tnil_ok tnil_ok Tryd.func102 (by kernel_rfl)) (fun x0 => by kernel_rfl)

/-- internal/bytealg.IndexRabinKarp[string] -/
noncomputable def F.bytealg_IndexRabinKarp_inst (a0 a1 : Value) : M Value :=
  M.bind (F.bytealg_hashStr_inst a1) fun x1 =>
  bindO (extV 0 x1) fun x2 =>
  bindO (extV 1 x1) fun x3 =>
  bindO (lenS a1) fun x4 =>
  M.bind (loopM (fun l5 =>
    bindO (binV BinOp.lss (getL l5 1) x4) fun x6 =>
    condM x6 (
      bindO (binV BinOp.mul (getL l5 0) (Value.int IntKind.u32 16777619)) fun x7 =>
      bindO (idxS a0 (getL l5 1)) fun x8 =>
      bindO (cvtI IntKind.u32 x8) fun x9 =>
      bindO (binV BinOp.add x7 x9) fun x10 =>
      bindO (binV BinOp.add (getL l5 1) (Value.int IntKind.i64 1)) fun x11 =>
      M.ret (Out.norm [x10, x11])) (
      M.ret (Out.exit 0 [(getL l5 0), (getL l5 1)]))) [(Value.int IntKind.u32 0), (Value.int IntKind.i64 0)]) fun o13 =>
  outK o13 (fun _ => M.fail) (fun k14 l12 =>
    bif Nat.beq k14 0 then (
      bindO (binV BinOp.eql (getL l12 0) x2) fun x16 =>
      M.bind (guardM x16 true (M.ret a0)) fun x17 =>
      M.bind (guardM x16 true (M.ret x4)) fun x18 =>
      M.bind (guardM x16 true (optM (sliceS x17 none (some x18)))) fun x19 =>
      M.bind (guardM x16 true (M.ret a1)) fun x20 =>
      M.bind (guardM x16 true (optM (binV BinOp.eql x19 x20))) fun x21 =>
      bindO (pickV x16 x21 (Value.bool false)) fun x22 =>
      condM x22 (
        M.ret (Value.int IntKind.i64 0)) (
        M.bind (loopM (fun l23 =>
          bindO (lenS a0) fun x24 =>
          bindO (binV BinOp.lss (getL l23 1) x24) fun x25 =>
          condM x25 (
            bindO (binV BinOp.mul (getL l23 0) (Value.int IntKind.u32 16777619)) fun x26 =>
            bindO (idxS a0 (getL l23 1)) fun x27 =>
            bindO (cvtI IntKind.u32 x27) fun x28 =>
            bindO (binV BinOp.add x26 x28) fun x29 =>
            bindO (binV BinOp.sub (getL l23 1) x4) fun x30 =>
            bindO (idxS a0 x30) fun x31 =>
            bindO (cvtI IntKind.u32 x31) fun x32 =>
            bindO (binV BinOp.mul x3 x32) fun x33 =>
            bindO (binV BinOp.sub x29 x33) fun x34 =>
            bindO (binV BinOp.add (getL l23 1) (Value.int IntKind.i64 1)) fun x35 =>
            bindO (binV BinOp.eql x34 x2) fun x36 =>
            M.bind (guardM x36 true (M.ret a0)) fun x37 =>
            M.bind (guardM x36 true (M.ret x35)) fun x38 =>
            M.bind (guardM x36 true (M.ret x4)) fun x39 =>
            M.bind (guardM x36 true (optM (binV BinOp.sub x38 x39))) fun x40 =>
            M.bind (guardM x36 true (M.ret x35)) fun x41 =>
            M.bind (guardM x36 true (optM (sliceS x37 (some x40) (some x41)))) fun x42 =>
            M.bind (guardM x36 true (M.ret a1)) fun x43 =>
            M.bind (guardM x36 true (optM (binV BinOp.eql x42 x43))) fun x44 =>
            bindO (pickV x36 x44 (Value.bool false)) fun x45 =>
            condM x45 (
              bindO (binV BinOp.sub x35 x4) fun x46 =>
              M.ret (Out.ret x46)) (
              M.ret (Out.norm [x34, x35]))) (
            M.ret (Out.exit 2 [(getL l23 0), (getL l23 1)]))) [(getL l12 0), x4]) fun o48 =>
        outK o48 (fun _ => M.fail) (fun k49 _ =>
          bif Nat.beq k49 2 then (
            M.ret (Value.int IntKind.i64 (-1))) else
          M.fail) (fun r50 => M.ret r50))) else
    M.fail) (fun r15 => M.ret r15)
def F.bytealg_IndexRabinKarp_inst.plan : Plan := (seq leaf (seq leaf (seq leaf (seq leaf (seq (seq leaf (body (loop [8, 9] [8, 9, 18, 19, 20, 21, 22, 23, 24, 25, 26, 27, 28, 29] [0] (seq (seq leaf (cond leaf leaf)) (seq (body leaf) leaf))))) (seq (seq leaf (cond (seq leaf leaf) leaf)) (seq (seq leaf (body (loop [8, 10] [4, 8, 10, 41, 42, 43, 44, 45, 46, 47, 48, 49, 50, 51, 52, 53, 54, 55, 56, 57, 58, 59, 60, 61, 62, 63, 64, 65, 66, 67, 68, 69, 70, 71, 72, 73, 74, 75, 76, 77, 78, 79, 80] [2] (seq (seq leaf (cond leaf leaf)) (body (seq leaf (seq leaf (seq leaf (seq leaf (seq leaf (cond (seq leaf leaf) leaf))))))))))) (seq leaf leaf))))))))
theorem F.bytealg_IndexRabinKarp_inst.lift : LiftOk Tryd.prog 90 (ap2 F.bytealg_IndexRabinKarp_inst) :=
  lift2 (g := evFn Tryd.prog (tcons 102 (ap1 F.bytealg_hashStr_inst) tnil) tnil 90 Tryd.f90 F.bytealg_IndexRabinKarp_inst.plan) (evFn_sound (tcons_ok F.bytealg_hashStr_inst.lift tnil_ok) tnil_ok Tryd.func90 (by kernel_rfl)) (fun x0 x1 => by kernel_rfl)

/-- internal/stringslite.Index -/
noncomputable def F.stringslite_Index (a0 a1 : Value) : M Value :=
  bindO (lenS a1) fun x1 =>
  bindO (binV BinOp.eql x1 (Value.int IntKind.i64 0)) fun x2 =>
  M.bind (guardM x2 false (M.ret a1)) fun x3 =>
  M.bind (guardM x2 false (M.ret a0)) fun x4 =>
  M.bind (guardM x2 false (optM (binV BinOp.eql x3 x4))) fun x5 =>
  bindO (pickV x2 (Value.bool true) x5) fun x6 =>
  condM x6 (
    M.ret (Value.int IntKind.i64 0)) (
    bindO (binV BinOp.eql x1 (Value.int IntKind.i64 1)) fun x7 =>
    condM x7 (
      bindO (idxS a1 (Value.int IntKind.i64 0)) fun x8 =>
      M.bind (F.stringslite_IndexByte a0 x8) fun x9 =>
      M.ret x9) (
      bindO (lenS a0) fun x10 =>
      bindO (binV BinOp.geq x1 x10) fun x11 =>
      condM x11 (
        M.ret (Value.int IntKind.i64 (-1))) (
        M.bind (rdM (ld1 (Value.pointer (some { block := 1, off := 0, spot := none })))) fun x12 =>
        bindO (binV BinOp.leq x1 x12) fun x13 =>
        M.bind (guardM x13 true (M.ret a0)) fun x14 =>
        M.bind (guardM x13 true (optM (lenS x14))) fun x15 =>
        M.bind (guardM x13 true (optM (binV BinOp.leq x15 (Value.int IntKind.i64 64)))) fun x16 =>
        bindO (pickV x13 x16 (Value.bool false)) fun x17 =>
        condM x17 (
          M.bind (F.bytealg_IndexString a0 a1) fun x18 =>
          M.ret x18) (
          bindO (idxS a1 (Value.int IntKind.i64 0)) fun x19 =>
          bindO (idxS a1 (Value.int IntKind.i64 1)) fun x20 =>
          bindO (lenS a0) fun x21 =>
          bindO (binV BinOp.sub x21 x1) fun x22 =>
          bindO (binV BinOp.add x22 (Value.int IntKind.i64 1)) fun x23 =>
          M.bind (loopM (fun l24 =>
            bindO (binV BinOp.lss (getL l24 0) x23) fun x25 =>
            condM x25 (
              M.bind (
                bindO (idxS a0 (getL l24 0)) fun x26 =>
                bindO (binV BinOp.neq x26 x19) fun x27 =>
                condM x27 (
                  bindO (binV BinOp.add (getL l24 0) (Value.int IntKind.i64 1)) fun x28 =>
                  bindO (sliceS a0 (some x28) (some x23)) fun x29 =>
                  M.bind (F.stringslite_IndexByte x29 x19) fun x30 =>
                  bindO (binV BinOp.lss x30 (Value.int IntKind.i64 0)) fun x31 =>
                  condM x31 (
                    M.ret (Out.ret (Value.int IntKind.i64 (-1)))) (
                    bindO (binV BinOp.add x30 (Value.int IntKind.i64 1)) fun x32 =>
                    bindO (binV BinOp.add (getL l24 0) x32) fun x33 =>
                    M.ret (Out.norm [x33]))) (
                  M.ret (Out.norm [(getL l24 0)]))) fun o35 =>
              outK o35 (fun l34 =>
                bindO (binV BinOp.add (getL l34 0) (Value.int IntKind.i64 1)) fun x38 =>
                bindO (idxS a0 x38) fun x39 =>
                bindO (binV BinOp.eql x39 x20) fun x40 =>
                M.bind (guardM x40 true (M.ret a0)) fun x41 =>
                M.bind (guardM x40 true (M.ret (getL l34 0))) fun x42 =>
                M.bind (guardM x40 true (M.ret (getL l34 0))) fun x43 =>
                M.bind (guardM x40 true (M.ret x1)) fun x44 =>
                M.bind (guardM x40 true (optM (binV BinOp.add x43 x44))) fun x45 =>
                M.bind (guardM x40 true (optM (sliceS x41 (some x42) (some x45)))) fun x46 =>
                M.bind (guardM x40 true (M.ret a1)) fun x47 =>
                M.bind (guardM x40 true (optM (binV BinOp.eql x46 x47))) fun x48 =>
                bindO (pickV x40 x48 (Value.bool false)) fun x49 =>
                condM x49 (
                  M.ret (Out.ret (getL l34 0))) (
                  bindO (binV BinOp.add (getL l34 0) (Value.int IntKind.i64 1)) fun x50 =>
                  bindO (binV BinOp.add (getL l24 1) (Value.int IntKind.i64 1)) fun x51 =>
                  M.bind (rdM (ld1 (Value.pointer (some { block := 1, off := 0, spot := none })))) fun x52 =>
                  bindO (binV BinOp.leq x1 x52) fun x53 =>
                  M.bind (guardM x53 true (M.ret x51)) fun x54 =>
                  M.bind (guardM x53 true (M.ret x50)) fun x55 =>
                  M.bind (guardM x53 true (F.bytealg_Cutover x55)) fun x56 =>
                  M.bind (guardM x53 true (optM (binV BinOp.gtr x54 x56))) fun x57 =>
                  bindO (pickV x53 x57 (Value.bool false)) fun x58 =>
                  condM x58 (
                    bindO (sliceS a0 (some x50) none) fun x59 =>
                    M.bind (F.bytealg_IndexString x59 a1) fun x60 =>
                    bindO (binV BinOp.geq x60 (Value.int IntKind.i64 0)) fun x61 =>
                    condM x61 (
                      bindO (binV BinOp.add x60 x50) fun x62 =>
                      M.ret (Out.ret x62)) (
                      M.ret (Out.ret (Value.int IntKind.i64 (-1))))) (
                    M.bind (rdM (ld1 (Value.pointer (some { block := 1, off := 0, spot := none })))) fun x63 =>
                    bindO (binV BinOp.gtr x1 x63) fun x64 =>
                    M.bind (guardM x64 true (M.ret x51)) fun x65 =>
                    M.bind (guardM x64 true (M.ret x50)) fun x66 =>
                    M.bind (guardM x64 true (optM (shV BinOp.shr x66 (Value.int IntKind.u64 4)))) fun x67 =>
                    M.bind (guardM x64 true (optM (binV BinOp.add (Value.int IntKind.i64 4) x67))) fun x68 =>
                    M.bind (guardM x64 true (optM (binV BinOp.geq x65 x68))) fun x69 =>
                    bindO (pickV x64 x69 (Value.bool false)) fun x70 =>
                    M.bind (guardM x70 true (M.ret x50)) fun x71 =>
                    M.bind (guardM x70 true (M.ret x23)) fun x72 =>
                    M.bind (guardM x70 true (optM (binV BinOp.lss x71 x72))) fun x73 =>
                    bindO (pickV x70 x73 (Value.bool false)) fun x74 =>
                    condM x74 (
                      bindO (sliceS a0 (some x50) none) fun x75 =>
                      M.bind (F.bytealg_IndexRabinKarp_inst x75 a1) fun x76 =>
                      bindO (binV BinOp.lss x76 (Value.int IntKind.i64 0)) fun x77 =>
                      condM x77 (
                        M.ret (Out.ret (Value.int IntKind.i64 (-1)))) (
                        bindO (binV BinOp.add x50 x76) fun x78 =>
                        M.ret (Out.ret x78))) (
                      M.ret (Out.norm [x50, x51]))))) (fun _ _ =>
                M.fail) (fun r37 => M.ret (Out.ret r37))) (
              M.ret (Out.exit 1 [(getL l24 0), (getL l24 1)]))) [(Value.int IntKind.i64 0), (Value.int IntKind.i64 0)]) fun o81 =>
          outK o81 (fun _ => M.fail) (fun k82 _ =>
            bif Nat.beq k82 1 then (
              M.ret (Value.int IntKind.i64 (-1))) else
            M.fail) (fun r83 => M.ret r83)))))
def F.stringslite_Index.plan : Plan := (seq leaf (seq leaf (seq (body (seq leaf (cond (seq leaf leaf) (seq leaf (cond (seq leaf leaf) (seq leaf (cond (seq leaf leaf) (seq leaf (cond (seq leaf leaf) leaf))))))))) (seq leaf (seq leaf (seq leaf (seq leaf (seq leaf (seq (body (loop [8, 10] [4, 8, 10, 11, 12, 13, 57, 58, 59, 60, 61, 62, 63, 64, 65, 66, 67, 68, 69, 70, 71, 72, 73, 74, 75, 76, 77, 78, 79, 80, 81, 82, 83, 84, 85, 86, 87, 88, 89, 90, 91, 92, 93, 94, 95, 96, 97, 98, 99, 100, 101, 102, 103, 104, 105, 106, 107, 108, 109, 110, 111, 112, 113, 114, 115, 116, 117, 118, 119, 120, 121, 122, 123, 124, 125, 126, 127, 128, 129, 130, 131, 132, 133, 134, 135, 136, 137, 138, 139, 140, 141, 142] [1] (seq (seq leaf (cond leaf leaf)) (body (fork [8] [4, 8, 11, 60, 61, 62, 63, 64, 65, 66, 67, 68, 69, 70, 71, 72, 73, 74, 75, 76, 77] [] (seq leaf (cond (seq leaf (seq (seq leaf (cond (seq leaf leaf) leaf)) leaf)) leaf)) (seq (seq leaf (cond (seq leaf leaf) leaf)) (seq leaf (seq leaf (seq leaf (cond (seq leaf (seq (seq leaf (cond (seq leaf leaf) leaf)) (seq leaf leaf))) (seq leaf (cond (seq leaf (seq (seq leaf (cond (seq leaf leaf) leaf)) (seq leaf leaf))) leaf)))))))))))) (seq leaf leaf))))))))))
theorem F.stringslite_Index.lift : LiftOk Tryd.prog 72 (ap2 F.stringslite_Index) :=
  lift2 (g := evFn Tryd.prog (tcons 87 (ap2 F.stringslite_IndexByte) (tcons 88 (ap2 F.bytealg_IndexString) (tcons 89 (ap1 F.bytealg_Cutover) (tcons 90 (ap2 F.bytealg_IndexRabinKarp_inst) tnil)))) tnil 72 Tryd.f72 F.stringslite_Index.plan) (evFn_sound (tcons_ok F.stringslite_IndexByte.lift (tcons_ok F.bytealg_IndexString.lift (tcons_ok F.bytealg_Cutover.lift (tcons_ok F.bytealg_IndexRabinKarp_inst.lift tnil_ok)))) tnil_ok Tryd.func72 (by kernel_rfl)) (fun x0 x1 => by kernel_rfl)

/-- internal/stringslite.Cut -/
noncomputable def F.stringslite_Cut (a0 a1 : Value) : M Value :=
  M.bind (F.stringslite_Index a0 a1) fun x1 =>
  bindO (binV BinOp.geq x1 (Value.int IntKind.i64 0)) fun x2 =>
  condM x2 (
    drewM <|
    bindO (sliceS a0 none (some x1)) fun x3 =>
    bindO (lenS a1) fun x4 =>
    bindO (binV BinOp.add x1 x4) fun x5 =>
    bindO (sliceS a0 (some x5) none) fun x6 =>
    M.ret (Value.tuple #[x3, x6, (Value.bool true)])) (
    M.ret (Value.tuple #[a0, (Value.string (ByteArray.mk #[])), (Value.bool false)]))
def F.stringslite_Cut.plan : Plan := (seq leaf (seq (seq leaf (seq leaf (cond (seq leaf leaf) leaf))) (seq leaf leaf)))
theorem F.stringslite_Cut.lift : LiftOk Tryd.prog 58 (ap2 F.stringslite_Cut) :=
  lift2 (g := evFn Tryd.prog (tcons 72 (ap2 F.stringslite_Index) tnil) tnil 58 Tryd.f58 F.stringslite_Cut.plan) (evFn_sound (tcons_ok F.stringslite_Index.lift tnil_ok) tnil_ok Tryd.func58 (by kernel_rfl)) (fun x0 x1 => by kernel_rfl)

/-- strings.Cut -/
noncomputable def F.strings_Cut (a0 a1 : Value) : M Value :=
  M.bind (F.stringslite_Cut a0 a1) fun x1 =>
  bindO (extV 0 x1) fun x2 =>
  bindO (extV 1 x1) fun x3 =>
  bindO (extV 2 x1) fun x4 =>
  M.ret (Value.tuple #[x2, x3, x4])
def F.strings_Cut.plan : Plan := (seq leaf (seq leaf leaf))
theorem F.strings_Cut.lift : LiftOk Tryd.prog 37 (ap2 F.strings_Cut) :=
  lift2 (g := evFn Tryd.prog (tcons 58 (ap2 F.stringslite_Cut) tnil) tnil 37 Tryd.f37 F.strings_Cut.plan) (evFn_sound (tcons_ok F.stringslite_Cut.lift tnil_ok) tnil_ok Tryd.func37 (by kernel_rfl)) (fun x0 x1 => by kernel_rfl)

/-- unicode/utf8.decodeRuneInStringSlow -/
noncomputable def F.utf8_decodeRuneInStringSlow (a0 : Value) : M Value :=
  bindO (lenS a0) fun x1 =>
  bindO (binV BinOp.lss x1 (Value.int IntKind.i64 1)) fun x2 =>
  condM x2 (
    M.ret (Value.tuple #[(Value.int IntKind.i32 65533), (Value.int IntKind.i64 0)])) (
    bindO (idxS a0 (Value.int IntKind.i64 0)) fun x3 =>
    bindO (idxR 256 1 (Value.pointer (some { block := 5, off := 0, spot := none })) x3) fun x4 =>
    M.bind (rdM (ld1 x4)) fun x5 =>
    bindO (binV BinOp.geq x5 (Value.int IntKind.u8 240)) fun x6 =>
    condM x6 (
      bindO (cvtI IntKind.i32 x5) fun x7 =>
      bindO (shV BinOp.shl x7 (Value.int IntKind.u64 31)) fun x8 =>
      bindO (shV BinOp.shr x8 (Value.int IntKind.u64 31)) fun x9 =>
      bindO (idxS a0 (Value.int IntKind.i64 0)) fun x10 =>
      bindO (cvtI IntKind.i32 x10) fun x11 =>
      bindO (binV BinOp.andNot x11 x9) fun x12 =>
      bindO (binV BinOp.and (Value.int IntKind.i32 65533) x9) fun x13 =>
      bindO (binV BinOp.or x12 x13) fun x14 =>
      M.ret (Value.tuple #[x14, (Value.int IntKind.i64 1)])) (
      bindO (binV BinOp.and x5 (Value.int IntKind.u8 7)) fun x15 =>
      bindO (cvtI IntKind.i64 x15) fun x16 =>
      bindO (shV BinOp.shr x5 (Value.int IntKind.u64 4)) fun x17 =>
      bindO (idxR 16 2 (Value.pointer (some { block := 6, off := 0, spot := none })) x17) fun x18 =>
      M.bind (rdM (ldA 2 x18)) fun x19 =>
      M.bind (newM 145 #[(Value.int IntKind.u8 0), (Value.int IntKind.u8 0)]) fun x20 =>
      M.bind (stM 2 x20 x19) fun _ =>
      bindO (binV BinOp.lss x1 x16) fun x22 =>
      condM x22 (
        M.ret (Value.tuple #[(Value.int IntKind.i32 65533), (Value.int IntKind.i64 1)])) (
        bindO (idxS a0 (Value.int IntKind.i64 1)) fun x23 =>
        bindO (fieldA 0 x20) fun x24 =>
        M.bind (rdM (ld1 x24)) fun x25 =>
        bindO (binV BinOp.lss x23 x25) fun x26 =>
        M.bind (guardM x26 false (optM (fieldA 1 x20))) fun x27 =>
        M.bind (guardM x26 false (rdM (ld1 x27))) fun x28 =>
        M.bind (guardM x26 false (M.ret x23)) fun x29 =>
        M.bind (guardM x26 false (optM (binV BinOp.lss x28 x29))) fun x30 =>
        bindO (pickV x26 (Value.bool true) x30) fun x31 =>
        condM x31 (
          M.ret (Value.tuple #[(Value.int IntKind.i32 65533), (Value.int IntKind.i64 1)])) (
          bindO (binV BinOp.leq x16 (Value.int IntKind.i64 2)) fun x32 =>
          condM x32 (
            bindO (binV BinOp.and x3 (Value.int IntKind.u8 31)) fun x33 =>
            bindO (cvtI IntKind.i32 x33) fun x34 =>
            bindO (shV BinOp.shl x34 (Value.int IntKind.u64 6)) fun x35 =>
            bindO (binV BinOp.and x23 (Value.int IntKind.u8 63)) fun x36 =>
            bindO (cvtI IntKind.i32 x36) fun x37 =>
            bindO (binV BinOp.or x35 x37) fun x38 =>
            M.ret (Value.tuple #[x38, (Value.int IntKind.i64 2)])) (
            bindO (idxS a0 (Value.int IntKind.i64 2)) fun x39 =>
            bindO (binV BinOp.lss x39 (Value.int IntKind.u8 128)) fun x40 =>
            M.bind (guardM x40 false (M.ret x39)) fun x41 =>
            M.bind (guardM x40 false (optM (binV BinOp.lss (Value.int IntKind.u8 191) x41))) fun x42 =>
            bindO (pickV x40 (Value.bool true) x42) fun x43 =>
            condM x43 (
              M.ret (Value.tuple #[(Value.int IntKind.i32 65533), (Value.int IntKind.i64 1)])) (
              bindO (binV BinOp.leq x16 (Value.int IntKind.i64 3)) fun x44 =>
              condM x44 (
                bindO (binV BinOp.and x3 (Value.int IntKind.u8 15)) fun x45 =>
                bindO (cvtI IntKind.i32 x45) fun x46 =>
                bindO (shV BinOp.shl x46 (Value.int IntKind.u64 12)) fun x47 =>
                bindO (binV BinOp.and x23 (Value.int IntKind.u8 63)) fun x48 =>
                bindO (cvtI IntKind.i32 x48) fun x49 =>
                bindO (shV BinOp.shl x49 (Value.int IntKind.u64 6)) fun x50 =>
                bindO (binV BinOp.or x47 x50) fun x51 =>
                bindO (binV BinOp.and x39 (Value.int IntKind.u8 63)) fun x52 =>
                bindO (cvtI IntKind.i32 x52) fun x53 =>
                bindO (binV BinOp.or x51 x53) fun x54 =>
                M.ret (Value.tuple #[x54, (Value.int IntKind.i64 3)])) (
                bindO (idxS a0 (Value.int IntKind.i64 3)) fun x55 =>
                bindO (binV BinOp.lss x55 (Value.int IntKind.u8 128)) fun x56 =>
                M.bind (guardM x56 false (M.ret x55)) fun x57 =>
                M.bind (guardM x56 false (optM (binV BinOp.lss (Value.int IntKind.u8 191) x57))) fun x58 =>
                bindO (pickV x56 (Value.bool true) x58) fun x59 =>
                condM x59 (
                  M.ret (Value.tuple #[(Value.int IntKind.i32 65533), (Value.int IntKind.i64 1)])) (
                  bindO (binV BinOp.and x3 (Value.int IntKind.u8 7)) fun x60 =>
                  bindO (cvtI IntKind.i32 x60) fun x61 =>
                  bindO (shV BinOp.shl x61 (Value.int IntKind.u64 18)) fun x62 =>
                  bindO (binV BinOp.and x23 (Value.int IntKind.u8 63)) fun x63 =>
                  bindO (cvtI IntKind.i32 x63) fun x64 =>
                  bindO (shV BinOp.shl x64 (Value.int IntKind.u64 12)) fun x65 =>
                  bindO (binV BinOp.or x62 x65) fun x66 =>
                  bindO (binV BinOp.and x39 (Value.int IntKind.u8 63)) fun x67 =>
                  bindO (cvtI IntKind.i32 x67) fun x68 =>
                  bindO (shV BinOp.shl x68 (Value.int IntKind.u64 6)) fun x69 =>
                  bindO (binV BinOp.or x66 x69) fun x70 =>
                  bindO (binV BinOp.and x55 (Value.int IntKind.u8 63)) fun x71 =>
                  bindO (cvtI IntKind.i32 x71) fun x72 =>
                  bindO (binV BinOp.or x70 x72) fun x73 =>
                  M.ret (Value.tuple #[x73, (Value.int IntKind.i64 4)])))))))))
def F.utf8_decodeRuneInStringSlow.plan : Plan := (seq leaf (seq leaf (seq (seq leaf (cond (seq leaf leaf) leaf)) (seq leaf (seq leaf (seq (seq leaf (cond (seq leaf (seq leaf leaf)) leaf)) (seq leaf (seq leaf (seq (seq leaf (cond (seq leaf leaf) leaf)) (seq leaf (seq (seq leaf (cond (seq leaf leaf) leaf)) (seq (seq leaf (cond (seq leaf leaf) leaf)) (seq leaf (seq (seq leaf (cond (seq leaf leaf) leaf)) (seq (seq leaf (cond (seq leaf leaf) leaf)) (seq leaf (seq (seq leaf (cond (seq leaf leaf) leaf)) (seq leaf leaf))))))))))))))))))
theorem F.utf8_decodeRuneInStringSlow.lift : LiftOk Tryd.prog 109 (ap1 F.utf8_decodeRuneInStringSlow) :=
  lift1 (g := evFn Tryd.prog tnil tnil 109 Tryd.f109 F.utf8_decodeRuneInStringSlow.plan) (evFn_sound tnil_ok tnil_ok Tryd.func109 (by kernel_rfl)) (fun x0 => by kernel_rfl)

/-- unicode/utf8.DecodeRuneInString -/
noncomputable def F.utf8_DecodeRuneInString (a0 : Value) : M Value :=
  bindO (binV BinOp.neq a0 (Value.string (ByteArray.mk #[]))) fun x1 =>
  M.bind (guardM x1 true (M.ret a0)) fun x2 =>
  M.bind (guardM x1 true (optM (idxS x2 (Value.int IntKind.i64 0)))) fun x3 =>
  M.bind (guardM x1 true (optM (binV BinOp.lss x3 (Value.int IntKind.u8 128)))) fun x4 =>
  bindO (pickV x1 x4 (Value.bool false)) fun x5 =>
  condM x5 (
    bindO (idxS a0 (Value.int IntKind.i64 0)) fun x6 =>
    bindO (cvtI IntKind.i32 x6) fun x7 =>
    M.ret (Value.tuple #[x7, (Value.int IntKind.i64 1)])) (
    M.bind (F.utf8_decodeRuneInStringSlow a0) fun x8 =>
    bindO (extV 0 x8) fun x9 =>
    bindO (extV 1 x8) fun x10 =>
    M.ret (Value.tuple #[x9, x10]))
def F.utf8_DecodeRuneInString.plan : Plan := (seq leaf (seq (seq leaf (cond (seq leaf leaf) leaf)) leaf))
theorem F.utf8_DecodeRuneInString.lift : LiftOk Tryd.prog 104 (ap1 F.utf8_DecodeRuneInString) :=
  lift1 (g := evFn Tryd.prog (tcons 109 (ap1 F.utf8_decodeRuneInStringSlow) tnil) tnil 104 Tryd.f104 F.utf8_DecodeRuneInString.plan) (evFn_sound (tcons_ok F.utf8_decodeRuneInStringSlow.lift tnil_ok) tnil_ok Tryd.func104 (by kernel_rfl)) (fun x0 => by kernel_rfl)

/-- strings.Index -/
noncomputable def F.strings_Index (a0 a1 : Value) : M Value :=
  M.bind (F.stringslite_Index a0 a1) fun x1 =>
  M.ret x1
def F.strings_Index.plan : Plan := (seq leaf (seq leaf leaf))
theorem F.strings_Index.lift : LiftOk Tryd.prog 93 (ap2 F.strings_Index) :=
  lift2 (g := evFn Tryd.prog (tcons 72 (ap2 F.stringslite_Index) tnil) tnil 93 Tryd.f93 F.strings_Index.plan) (evFn_sound (tcons_ok F.stringslite_Index.lift tnil_ok) tnil_ok Tryd.func93 (by kernel_rfl)) (fun x0 x1 => by kernel_rfl)

/-- granary/paper.number -/
noncomputable def F.paper_number (a0 : Value) : M Value :=
  bindO (binV BinOp.eql a0 (Value.string (ByteArray.mk #[]))) fun x1 =>
  M.bind (guardM x1 false (M.ret a0)) fun x2 =>
  M.bind (guardM x1 false (optM (lenS x2))) fun x3 =>
  M.bind (guardM x1 false (optM (binV BinOp.gtr x3 (Value.int IntKind.i64 16)))) fun x4 =>
  bindO (pickV x1 (Value.bool true) x4) fun x5 =>
  M.bind (guardM x5 false (M.ret a0)) fun x6 =>
  M.bind (guardM x5 false (optM (lenS x6))) fun x7 =>
  M.bind (guardM x5 false (optM (binV BinOp.gtr x7 (Value.int IntKind.i64 1)))) fun x8 =>
  M.bind (guardM x5 false (M.ret x8)) fun x9 =>
  M.bind (guardM x9 true (M.ret a0)) fun x10 =>
  M.bind (guardM x9 true (optM (idxS x10 (Value.int IntKind.i64 0)))) fun x11 =>
  M.bind (guardM x9 true (optM (binV BinOp.eql x11 (Value.int IntKind.u8 48)))) fun x12 =>
  M.bind (guardM x5 false (optM (pickV x9 x12 (Value.bool false)))) fun x13 =>
  bindO (pickV x5 (Value.bool true) x13) fun x14 =>
  condM x14 (
    M.ret (Value.tuple #[(Value.int IntKind.i64 0), (Value.bool false)])) (
    M.bind (sbM 5 a0) fun x15 =>
    bindO (lenL x15) fun x16 =>
    M.bind (loopM (fun l17 =>
      bindO (binV BinOp.lss (getL l17 1) x16) fun x18 =>
      condM x18 (
        bindO (idxA 1 x15 (getL l17 1)) fun x19 =>
        M.bind (rdM (ld1 x19)) fun x20 =>
        bindO (binV BinOp.lss x20 (Value.int IntKind.u8 48)) fun x21 =>
        M.bind (guardM x21 false (M.ret x20)) fun x22 =>
        M.bind (guardM x21 false (optM (binV BinOp.gtr x22 (Value.int IntKind.u8 57)))) fun x23 =>
        bindO (pickV x21 (Value.bool true) x23) fun x24 =>
        condM x24 (
          M.ret (Out.ret (Value.tuple #[(Value.int IntKind.i64 0), (Value.bool false)]))) (
          bindO (binV BinOp.mul (Value.int IntKind.i64 10) (getL l17 0)) fun x25 =>
          bindO (binV BinOp.sub x20 (Value.int IntKind.u8 48)) fun x26 =>
          bindO (cvtI IntKind.i64 x26) fun x27 =>
          bindO (binV BinOp.add x25 x27) fun x28 =>
          bindO (binV BinOp.add (getL l17 1) (Value.int IntKind.i64 1)) fun x29 =>
          M.ret (Out.norm [x28, x29]))) (
        M.ret (Out.exit 0 [(getL l17 0), (getL l17 1)]))) [(Value.int IntKind.i64 0), (Value.int IntKind.i64 0)]) fun o31 =>
    outK o31 (fun _ => M.fail) (fun k32 l30 =>
      bif Nat.beq k32 0 then (
        M.ret (Value.tuple #[(getL l30 0), (Value.bool true)])) else
      M.fail) (fun r33 => M.ret r33))
def F.paper_number.plan : Plan := (seq leaf (seq (seq leaf (cond (seq leaf leaf) leaf)) (seq leaf (seq (seq leaf (body (loop [4, 27] [2, 3, 4, 6, 27, 28, 29, 30, 31, 32, 33, 34, 35, 36, 37, 38, 39, 40, 41, 42, 43] [0] (seq leaf (seq (cond leaf leaf) (seq (body (seq leaf (seq (seq leaf (cond (seq leaf leaf) leaf)) leaf))) leaf)))))) (seq leaf leaf)))))
theorem F.paper_number.lift : LiftOk Tryd.prog 60 (ap1 F.paper_number) :=
  lift1 (g := evFn Tryd.prog tnil tnil 60 Tryd.f60 F.paper_number.plan) (evFn_sound tnil_ok tnil_ok Tryd.func60 (by kernel_rfl)) (fun x0 => by kernel_rfl)

/-- granary/digest.digit -/
noncomputable def F.digest_digit (a0 : Value) : M Value :=
  bindO (binV BinOp.leq (Value.int IntKind.u8 48) a0) fun x1 =>
  M.bind (guardM x1 true (M.ret a0)) fun x2 =>
  M.bind (guardM x1 true (optM (binV BinOp.leq x2 (Value.int IntKind.u8 57)))) fun x3 =>
  bindO (pickV x1 x3 (Value.bool false)) fun x4 =>
  condM x4 (
    bindO (binV BinOp.sub a0 (Value.int IntKind.u8 48)) fun x5 =>
    bindO (cvtI IntKind.i64 x5) fun x6 =>
    M.ret x6) (
    bindO (binV BinOp.leq (Value.int IntKind.u8 97) a0) fun x7 =>
    M.bind (guardM x7 true (M.ret a0)) fun x8 =>
    M.bind (guardM x7 true (optM (binV BinOp.leq x8 (Value.int IntKind.u8 102)))) fun x9 =>
    bindO (pickV x7 x9 (Value.bool false)) fun x10 =>
    condM x10 (
      bindO (binV BinOp.sub a0 (Value.int IntKind.u8 97)) fun x11 =>
      bindO (cvtI IntKind.i64 x11) fun x12 =>
      bindO (binV BinOp.add x12 (Value.int IntKind.i64 10)) fun x13 =>
      M.ret x13) (
      M.ret (Value.int IntKind.i64 (-1))))
def F.digest_digit.plan : Plan := (seq leaf (seq (body (seq leaf (cond (seq leaf leaf) (seq leaf (cond (seq leaf leaf) leaf))))) (seq leaf leaf)))
theorem F.digest_digit.lift : LiftOk Tryd.prog 106 (ap1 F.digest_digit) :=
  lift1 (g := evFn Tryd.prog tnil tnil 106 Tryd.f106 F.digest_digit.plan) (evFn_sound tnil_ok tnil_ok Tryd.func106 (by kernel_rfl)) (fun x0 => by kernel_rfl)

/-- granary/digest.Unhex -/
noncomputable def F.digest_Unhex (a0 : Value) : M Value :=
  bindO (lenS a0) fun x1 =>
  bindO (binV BinOp.rem x1 (Value.int IntKind.i64 2)) fun x2 =>
  bindO (binV BinOp.eql x2 (Value.int IntKind.i64 1)) fun x3 =>
  condM x3 (
    M.ret (Value.tuple #[(Value.string (ByteArray.mk #[])), (Value.int IntKind.i64 20)])) (
    bindO (lenS a0) fun x4 =>
    bindO (binV BinOp.quo x4 (Value.int IntKind.i64 2)) fun x5 =>
    M.bind (mksM 5 1 1 #[(Value.int IntKind.u8 0)] x5 x5) fun x6 =>
    bindO (lenL x6) fun x7 =>
    M.bind (loopM (fun l8 =>
      bindO (binV BinOp.lss (getL l8 0) x7) fun x9 =>
      condM x9 (
        bindO (binV BinOp.mul (Value.int IntKind.i64 2) (getL l8 0)) fun x10 =>
        bindO (binV BinOp.mul (Value.int IntKind.i64 2) (getL l8 0)) fun x11 =>
        bindO (binV BinOp.add x11 (Value.int IntKind.i64 2)) fun x12 =>
        bindO (sliceS a0 (some x10) (some x12)) fun x13 =>
        M.bind (sbM 5 x13) fun x14 =>
        bindO (lenL x14) fun x15 =>
        M.bind (loopM (fun l16 =>
          bindO (binV BinOp.lss (getL l16 0) x15) fun x17 =>
          condM x17 (
            bindO (idxA 1 x14 (getL l16 0)) fun x18 =>
            M.bind (rdM (ld1 x18)) fun x19 =>
            M.bind (F.digest_digit x19) fun x20 =>
            bindO (binV BinOp.lss x20 (Value.int IntKind.i64 0)) fun x21 =>
            condM x21 (
              M.ret (Out.ret (Value.tuple #[(Value.string (ByteArray.mk #[])), (Value.int IntKind.i64 20)]))) (
              bindO (idxA 1 x6 (getL l8 0)) fun x22 =>
              M.bind (rdM (ld1 x22)) fun x23 =>
              bindO (shV BinOp.shl x23 (Value.int IntKind.u64 4)) fun x24 =>
              bindO (cvtI IntKind.u8 x20) fun x25 =>
              bindO (binV BinOp.or x24 x25) fun x26 =>
              bindO (idxA 1 x6 (getL l8 0)) fun x27 =>
              M.bind (stM 1 x27 x26) fun _ =>
              bindO (binV BinOp.add (getL l16 0) (Value.int IntKind.i64 1)) fun x29 =>
              M.ret (Out.norm [x29]))) (
            M.ret (Out.exit 2 [(getL l16 0)]))) [(Value.int IntKind.i64 0)]) fun o31 =>
        outK o31 (fun _ => M.fail) (fun k32 _ =>
          bif Nat.beq k32 2 then (
            bindO (binV BinOp.add (getL l8 0) (Value.int IntKind.i64 1)) fun x34 =>
            M.ret (Out.norm [x34])) else
          M.fail) (fun r33 => M.ret (Out.ret r33))) (
        M.ret (Out.exit 0 [(getL l8 0)]))) [(Value.int IntKind.i64 0)]) fun o36 =>
    outK o36 (fun _ => M.fail) (fun k37 _ =>
      bif Nat.beq k37 0 then (
        M.bind (rdM (bsR x6)) fun x39 =>
        M.ret (Value.tuple #[x39, (Value.int IntKind.i64 0)])) else
      M.fail) (fun r38 => M.ret r38))
def F.digest_Unhex.plan : Plan := (seq leaf (seq (seq leaf (cond (seq leaf leaf) leaf)) (seq leaf (seq (seq leaf (body (loop [19] [2, 3, 5, 7, 8, 19, 20, 21, 22, 23, 24, 25, 26, 27, 28, 29, 30, 31, 32, 33, 34, 35, 36, 37, 38, 39, 40, 41, 42, 43, 44, 45, 46, 47, 48, 49, 50, 51] [0] (seq leaf (seq (cond leaf leaf) (seq (body (seq leaf (seq leaf (body (loop [31] [2, 3, 7, 8, 31, 32, 33, 34, 35, 36, 37, 38, 39, 40, 41, 42, 43, 44, 45, 46, 47, 48, 49, 50] [2] (seq leaf (seq (cond leaf leaf) (seq (body (seq leaf (seq leaf (seq (seq leaf (cond (seq leaf leaf) leaf)) leaf)))) leaf)))))))) leaf)))))) (seq leaf leaf)))))
theorem F.digest_Unhex.lift : LiftOk Tryd.prog 94 (ap1 F.digest_Unhex) :=
  lift1 (g := evFn Tryd.prog (tcons 106 (ap1 F.digest_digit) tnil) tnil 94 Tryd.f94 F.digest_Unhex.plan) (evFn_sound (tcons_ok F.digest_digit.lift tnil_ok) tnil_ok Tryd.func94 (by kernel_rfl)) (fun x0 => by kernel_rfl)

end Go.Proofs.YthlpfhjcdedhgaaDoor
