/-
  THE FUNCTIONAL FORMS of the functions of this seat's translation, and that each function comes to its form: printed by a program of the prover's own (lift.py).
-/
import Derived.Test.YtiggkhmopnhfaaaDoorG1
namespace Go.Proofs.YtiggkhmopnhfaaaDoor
open Go.Lift Go.Lift.Plan
/-- internal/strconv.isPowerOfTwo -/
noncomputable def F.strconv_isPowerOfTwo (a0 : Value) : M Value :=
  bindO (binV BinOp.sub a0 (Value.int IntKind.i64 1)) fun x1 =>
  bindO (binV BinOp.and a0 x1) fun x2 =>
  bindO (binV BinOp.eql x2 (Value.int IntKind.i64 0)) fun x3 =>
  M.ret x3
def F.strconv_isPowerOfTwo.plan : Plan := (seq leaf (seq leaf leaf))
theorem F.strconv_isPowerOfTwo.lift : LiftOk Tryd.prog 101 (ap1 F.strconv_isPowerOfTwo) :=
  lift1 (g := evFn Tryd.prog tnil tnil 101 Tryd.f101 F.strconv_isPowerOfTwo.plan) (evFn_sound tnil_ok tnil_ok Tryd.func101 (by kernel_rfl)) (fun x0 => by kernel_rfl)

/-- math/bits.TrailingZeros32 -/
noncomputable def F.bits_TrailingZeros32 (a0 : Value) : M Value :=
  bindO (binV BinOp.eql a0 (Value.int IntKind.u32 0)) fun x1 =>
  condM x1 (
    M.ret (Value.int IntKind.i64 32)) (
    bindO (negV a0) fun x2 =>
    bindO (binV BinOp.and a0 x2) fun x3 =>
    bindO (binV BinOp.mul x3 (Value.int IntKind.u32 125613361)) fun x4 =>
    bindO (shV BinOp.shr x4 (Value.int IntKind.u64 27)) fun x5 =>
    bindO (idxR 32 1 (Value.pointer (some { block := 2, off := 0, spot := none })) x5) fun x6 =>
    M.bind (rdM (ld1 x6)) fun x7 =>
    bindO (cvtI IntKind.i64 x7) fun x8 =>
    M.ret x8)
def F.bits_TrailingZeros32.plan : Plan := (seq leaf (seq (seq leaf (cond (seq leaf leaf) leaf)) (seq leaf leaf)))
theorem F.bits_TrailingZeros32.lift : LiftOk Tryd.prog 104 (ap1 F.bits_TrailingZeros32) :=
  lift1 (g := evFn Tryd.prog tnil tnil 104 Tryd.f104 F.bits_TrailingZeros32.plan) (evFn_sound tnil_ok tnil_ok Tryd.func104 (by kernel_rfl)) (fun x0 => by kernel_rfl)

/-- math/bits.TrailingZeros64 -/
noncomputable def F.bits_TrailingZeros64 (a0 : Value) : M Value :=
  bindO (binV BinOp.eql a0 (Value.int IntKind.u64 0)) fun x1 =>
  condM x1 (
    M.ret (Value.int IntKind.i64 64)) (
    bindO (negV a0) fun x2 =>
    bindO (binV BinOp.and a0 x2) fun x3 =>
    bindO (binV BinOp.mul x3 (Value.int IntKind.u64 285870213051353865)) fun x4 =>
    bindO (shV BinOp.shr x4 (Value.int IntKind.u64 58)) fun x5 =>
    bindO (idxR 64 1 (Value.pointer (some { block := 3, off := 0, spot := none })) x5) fun x6 =>
    M.bind (rdM (ld1 x6)) fun x7 =>
    bindO (cvtI IntKind.i64 x7) fun x8 =>
    M.ret x8)
def F.bits_TrailingZeros64.plan : Plan := (seq leaf (seq (seq leaf (cond (seq leaf leaf) leaf)) (seq leaf leaf)))
theorem F.bits_TrailingZeros64.lift : LiftOk Tryd.prog 105 (ap1 F.bits_TrailingZeros64) :=
  lift1 (g := evFn Tryd.prog tnil tnil 105 Tryd.f105 F.bits_TrailingZeros64.plan) (evFn_sound tnil_ok tnil_ok Tryd.func105 (by kernel_rfl)) (fun x0 => by kernel_rfl)

/-- math/bits.TrailingZeros -/
noncomputable def F.bits_TrailingZeros (a0 : Value) : M Value :=
  condM (Value.bool false) (
    bindO (cvtI IntKind.u32 a0) fun x1 =>
    M.bind (F.bits_TrailingZeros32 x1) fun x2 =>
    M.ret x2) (
    M.bind (F.bits_TrailingZeros64 a0) fun x3 =>
    M.ret x3)
def F.bits_TrailingZeros.plan : Plan := (seq leaf (seq (cond (seq leaf leaf) leaf) (seq leaf leaf)))
theorem F.bits_TrailingZeros.lift : LiftOk Tryd.prog 102 (ap1 F.bits_TrailingZeros) :=
  lift1 (g := evFn Tryd.prog (tcons 104 (ap1 F.bits_TrailingZeros32) (tcons 105 (ap1 F.bits_TrailingZeros64) tnil)) tnil 102 Tryd.f102 F.bits_TrailingZeros.plan) (evFn_sound (tcons_ok F.bits_TrailingZeros32.lift (tcons_ok F.bits_TrailingZeros64.lift tnil_ok)) tnil_ok Tryd.func102 (by kernel_rfl)) (fun x0 => by kernel_rfl)

/-- internal/strconv.formatBits -/
noncomputable def F.strconv_formatBits (a0 a1 a2 a3 a4 : Value) : M Value :=
  M.bind (
    bindO (binV BinOp.lss a2 (Value.int IntKind.i64 2)) fun x1 =>
    M.bind (guardM x1 false (M.ret a2)) fun x2 =>
    M.bind (guardM x1 false (optM (binV BinOp.eql x2 (Value.int IntKind.i64 10)))) fun x3 =>
    bindO (pickV x1 (Value.bool true) x3) fun x4 =>
    M.bind (guardM x4 false (M.ret a2)) fun x5 =>
    M.bind (guardM x4 false (optM (binV BinOp.gtr x5 (Value.int IntKind.i64 36)))) fun x6 =>
    bindO (pickV x4 (Value.bool true) x6) fun x7 =>
    condM x7 (
      M.bind ((M.fail : M Value)) fun _ =>
      M.ret (Out.norm [])) (
      M.ret (Out.norm []))) fun o10 =>
  outK o10 (fun _ =>
    M.bind (newM 137 #[(Value.int IntKind.u8 0), (Value.int IntKind.u8 0), (Value.int IntKind.u8 0), (Value.int IntKind.u8 0), (Value.int IntKind.u8 0), (Value.int IntKind.u8 0), (Value.int IntKind.u8 0), (Value.int IntKind.u8 0), (Value.int IntKind.u8 0), (Value.int IntKind.u8 0), (Value.int IntKind.u8 0), (Value.int IntKind.u8 0), (Value.int IntKind.u8 0), (Value.int IntKind.u8 0), (Value.int IntKind.u8 0), (Value.int IntKind.u8 0), (Value.int IntKind.u8 0), (Value.int IntKind.u8 0), (Value.int IntKind.u8 0), (Value.int IntKind.u8 0), (Value.int IntKind.u8 0), (Value.int IntKind.u8 0), (Value.int IntKind.u8 0), (Value.int IntKind.u8 0), (Value.int IntKind.u8 0), (Value.int IntKind.u8 0), (Value.int IntKind.u8 0), (Value.int IntKind.u8 0), (Value.int IntKind.u8 0), (Value.int IntKind.u8 0), (Value.int IntKind.u8 0), (Value.int IntKind.u8 0), (Value.int IntKind.u8 0), (Value.int IntKind.u8 0), (Value.int IntKind.u8 0), (Value.int IntKind.u8 0), (Value.int IntKind.u8 0), (Value.int IntKind.u8 0), (Value.int IntKind.u8 0), (Value.int IntKind.u8 0), (Value.int IntKind.u8 0), (Value.int IntKind.u8 0), (Value.int IntKind.u8 0), (Value.int IntKind.u8 0), (Value.int IntKind.u8 0), (Value.int IntKind.u8 0), (Value.int IntKind.u8 0), (Value.int IntKind.u8 0), (Value.int IntKind.u8 0), (Value.int IntKind.u8 0), (Value.int IntKind.u8 0), (Value.int IntKind.u8 0), (Value.int IntKind.u8 0), (Value.int IntKind.u8 0), (Value.int IntKind.u8 0), (Value.int IntKind.u8 0), (Value.int IntKind.u8 0), (Value.int IntKind.u8 0), (Value.int IntKind.u8 0), (Value.int IntKind.u8 0), (Value.int IntKind.u8 0), (Value.int IntKind.u8 0), (Value.int IntKind.u8 0), (Value.int IntKind.u8 0), (Value.int IntKind.u8 0)]) fun x13 =>
    M.bind (
      condM a3 (
        bindO (negV a1) fun x14 =>
        M.ret (Out.norm [x14])) (
        M.ret (Out.norm [a1]))) fun o16 =>
    outK o16 (fun l15 =>
      M.bind (
        M.bind (F.strconv_isPowerOfTwo a2) fun x19 =>
        condM x19 (
          bindO (cvtI IntKind.u64 a2) fun x20 =>
          M.bind (F.bits_TrailingZeros x20) fun x21 =>
          bindO (cvtI IntKind.u64 x21) fun x22 =>
          bindO (cvtI IntKind.u64 a2) fun x23 =>
          bindO (cvtI IntKind.u64 a2) fun x24 =>
          bindO (binV BinOp.sub x24 (Value.int IntKind.u64 1)) fun x25 =>
          M.bind (loopM (fun l26 =>
            bindO (binV BinOp.geq (getL l26 0) x23) fun x27 =>
            condM x27 (
              bindO (binV BinOp.sub (getL l26 1) (Value.int IntKind.i64 1)) fun x28 =>
              bindO (binV BinOp.and (getL l26 0) x25) fun x29 =>
              bindO (idxS (Value.string (ByteArray.mk #[48, 49, 50, 51, 52, 53, 54, 55, 56, 57, 97, 98, 99, 100, 101, 102, 103, 104, 105, 106, 107, 108, 109, 110, 111, 112, 113, 114, 115, 116, 117, 118, 119, 120, 121, 122])) x29) fun x30 =>
              bindO (idxR 65 1 x13 x28) fun x31 =>
              M.bind (stM 1 x31 x30) fun _ =>
              bindO (shV BinOp.shr (getL l26 0) x22) fun x33 =>
              M.ret (Out.norm [x33, x28])) (
              M.ret (Out.exit 0 [(getL l26 0), (getL l26 1)]))) [(getL l15 0), (Value.int IntKind.i64 65)]) fun o35 =>
          outK o35 (fun _ => M.fail) (fun i36 l34 =>
            bif Nat.beq i36 0 then (
              bindO (binV BinOp.sub (getL l34 1) (Value.int IntKind.i64 1)) fun x38 =>
              bindO (idxS (Value.string (ByteArray.mk #[48, 49, 50, 51, 52, 53, 54, 55, 56, 57, 97, 98, 99, 100, 101, 102, 103, 104, 105, 106, 107, 108, 109, 110, 111, 112, 113, 114, 115, 116, 117, 118, 119, 120, 121, 122])) (getL l34 0)) fun x39 =>
              bindO (idxR 65 1 x13 x38) fun x40 =>
              M.bind (stM 1 x40 x39) fun _ =>
              M.ret (Out.norm [x38])) else
            M.fail) (fun r37 => M.ret (Out.ret r37))) (
          bindO (cvtI IntKind.u64 a2) fun x42 =>
          M.bind (loopM (fun l43 =>
            bindO (binV BinOp.geq (getL l43 0) x42) fun x44 =>
            condM x44 (
              bindO (binV BinOp.sub (getL l43 1) (Value.int IntKind.i64 1)) fun x45 =>
              bindO (binV BinOp.quo (getL l43 0) x42) fun x46 =>
              bindO (binV BinOp.mul x46 x42) fun x47 =>
              bindO (binV BinOp.sub (getL l43 0) x47) fun x48 =>
              bindO (idxS (Value.string (ByteArray.mk #[48, 49, 50, 51, 52, 53, 54, 55, 56, 57, 97, 98, 99, 100, 101, 102, 103, 104, 105, 106, 107, 108, 109, 110, 111, 112, 113, 114, 115, 116, 117, 118, 119, 120, 121, 122])) x48) fun x49 =>
              bindO (idxR 65 1 x13 x45) fun x50 =>
              M.bind (stM 1 x50 x49) fun _ =>
              M.ret (Out.norm [x46, x45])) (
              M.ret (Out.exit 2 [(getL l43 0), (getL l43 1)]))) [(getL l15 0), (Value.int IntKind.i64 65)]) fun o53 =>
          outK o53 (fun _ => M.fail) (fun i54 l52 =>
            bif Nat.beq i54 2 then (
              bindO (binV BinOp.sub (getL l52 1) (Value.int IntKind.i64 1)) fun x56 =>
              bindO (idxS (Value.string (ByteArray.mk #[48, 49, 50, 51, 52, 53, 54, 55, 56, 57, 97, 98, 99, 100, 101, 102, 103, 104, 105, 106, 107, 108, 109, 110, 111, 112, 113, 114, 115, 116, 117, 118, 119, 120, 121, 122])) (getL l52 0)) fun x57 =>
              bindO (idxR 65 1 x13 x56) fun x58 =>
              M.bind (stM 1 x58 x57) fun _ =>
              M.ret (Out.norm [x56])) else
            M.fail) (fun r55 => M.ret (Out.ret r55)))) fun o61 =>
      outK o61 (fun l60 =>
        M.bind (
          condM a3 (
            bindO (binV BinOp.sub (getL l60 0) (Value.int IntKind.i64 1)) fun x64 =>
            bindO (idxR 65 1 x13 x64) fun x65 =>
            M.bind (stM 1 x65 (Value.int IntKind.u8 45)) fun _ =>
            M.ret (Out.norm [x64])) (
            M.ret (Out.norm [(getL l60 0)]))) fun o68 =>
        outK o68 (fun l67 =>
          condM a4 (
            bindO (sliceR 65 1 x13 (some (getL l67 0)) none) fun x71 =>
            M.bind (appM 5 1 1 #[(Value.int IntKind.u8 0)] a0 x71) fun x72 =>
            M.ret (Value.tuple #[x72, (Value.string (ByteArray.mk #[]))])) (
            bindO (sliceR 65 1 x13 (some (getL l67 0)) none) fun x73 =>
            M.bind (rdM (bsR x73)) fun x74 =>
            M.ret (Value.tuple #[(Value.slice none 0 0), x74]))) (fun _ _ =>
          M.fail) (fun r70 => M.ret r70)) (fun _ _ =>
        M.fail) (fun r63 => M.ret r63)) (fun _ _ =>
      M.fail) (fun r18 => M.ret r18)) (fun _ _ =>
    M.fail) (fun r12 => M.ret r12)
def F.strconv_formatBits.plan : Plan := (seq leaf (fork [] [19, 20, 21, 22, 23, 24, 25, 26, 27, 28, 29] [] (seq leaf (cond leaf leaf)) (seq leaf (seq leaf (fork [1] [1, 30, 31, 32] [] (seq leaf (cond leaf leaf)) (fork [13] [1, 13, 14, 15, 16, 17, 18, 33, 34, 35, 36, 37, 38, 39, 40, 41, 42, 43, 44, 45, 46, 47, 48, 49, 50, 51, 52, 53, 54, 55, 56, 57, 58, 59, 60, 61, 62, 63, 64, 65, 66, 67, 68, 69, 70, 71, 72, 73, 74, 75, 76, 77, 78, 79, 80, 81, 82, 83, 84, 85, 86, 87, 88] [] (seq leaf (cond (seq leaf (seq leaf (seq leaf (seq (body (loop [1, 13] [1, 13, 44, 45, 46, 47, 48, 49, 50, 51, 52, 53, 54, 55, 56, 57] [0] (seq (seq leaf (cond leaf leaf)) (body (seq leaf (seq leaf leaf)))))) (seq leaf leaf))))) (seq leaf (seq (body (loop [1, 13] [1, 13, 18, 66, 67, 68, 69, 70, 71, 72, 73, 74, 75, 76, 77, 78, 79, 80, 81, 82] [2] (seq (seq leaf (cond leaf leaf)) (body (seq leaf (seq leaf (seq leaf leaf))))))) (seq leaf leaf))))) (fork [13] [13, 89, 90, 91, 92, 93] [] (seq leaf (cond (seq leaf leaf) leaf)) (seq (seq leaf (cond (seq leaf leaf) leaf)) (seq leaf leaf)))))))))
theorem F.strconv_formatBits.lift : LiftOk Tryd.prog 96 (ap5 F.strconv_formatBits) :=
  lift5 (g := evFn Tryd.prog (tcons 101 (ap1 F.strconv_isPowerOfTwo) (tcons 102 (ap1 F.bits_TrailingZeros) tnil)) tnil 96 Tryd.f96 F.strconv_formatBits.plan) (evFn_sound (tcons_ok F.strconv_isPowerOfTwo.lift (tcons_ok F.bits_TrailingZeros.lift tnil_ok)) tnil_ok Tryd.func96 (by kernel_rfl)) (fun x0 x1 x2 x3 x4 => by kernel_rfl)

/-- internal/strconv.FormatInt -/
noncomputable def F.strconv_FormatInt (a0 a1 : Value) : M Value :=
  bindO (binV BinOp.eql a1 (Value.int IntKind.i64 10)) fun x1 =>
  condM x1 (
    bindO (binV BinOp.leq (Value.int IntKind.i64 0) a0) fun x2 =>
    M.bind (guardM x2 true (M.ret a0)) fun x3 =>
    M.bind (guardM x2 true (optM (binV BinOp.lss x3 (Value.int IntKind.i64 100)))) fun x4 =>
    bindO (pickV x2 x4 (Value.bool false)) fun x5 =>
    condM x5 (
      M.bind (F.strconv_small a0) fun x6 =>
      M.ret x6) (
      M.bind (newM 128 #[(Value.int IntKind.u8 0), (Value.int IntKind.u8 0), (Value.int IntKind.u8 0), (Value.int IntKind.u8 0), (Value.int IntKind.u8 0), (Value.int IntKind.u8 0), (Value.int IntKind.u8 0), (Value.int IntKind.u8 0), (Value.int IntKind.u8 0), (Value.int IntKind.u8 0), (Value.int IntKind.u8 0), (Value.int IntKind.u8 0), (Value.int IntKind.u8 0), (Value.int IntKind.u8 0), (Value.int IntKind.u8 0), (Value.int IntKind.u8 0), (Value.int IntKind.u8 0), (Value.int IntKind.u8 0), (Value.int IntKind.u8 0), (Value.int IntKind.u8 0), (Value.int IntKind.u8 0), (Value.int IntKind.u8 0), (Value.int IntKind.u8 0), (Value.int IntKind.u8 0)]) fun x7 =>
      bindO (cvtI IntKind.u64 a0) fun x8 =>
      M.bind (
        bindO (binV BinOp.lss a0 (Value.int IntKind.i64 0)) fun x9 =>
        condM x9 (
          bindO (negV x8) fun x10 =>
          M.ret (Out.norm [x10])) (
          M.ret (Out.norm [x8]))) fun o12 =>
      outK o12 (fun l11 =>
        M.bind (F.strconv_numDigits (getL l11 0)) fun x15 =>
        bindO (binV BinOp.add (Value.int IntKind.i64 1) x15) fun x16 =>
        bindO (sliceR 24 1 x7 (some (Value.int IntKind.i64 1)) (some x16)) fun x17 =>
        M.bind (F.strconv_formatBase10 x17 (getL l11 0)) fun _ =>
        bindO (binV BinOp.lss a0 (Value.int IntKind.i64 0)) fun x19 =>
        condM x19 (
          bindO (idxR 24 1 x7 (Value.int IntKind.i64 0)) fun x20 =>
          M.bind (stM 1 x20 (Value.int IntKind.u8 45)) fun _ =>
          bindO (binV BinOp.add (Value.int IntKind.i64 1) x15) fun x22 =>
          bindO (sliceR 24 1 x7 none (some x22)) fun x23 =>
          M.bind (rdM (bsR x23)) fun x24 =>
          M.ret x24) (
          bindO (binV BinOp.add (Value.int IntKind.i64 1) x15) fun x25 =>
          bindO (sliceR 24 1 x7 (some (Value.int IntKind.i64 1)) (some x25)) fun x26 =>
          M.bind (rdM (bsR x26)) fun x27 =>
          M.ret x27)) (fun _ _ =>
        M.fail) (fun r14 => M.ret r14))) (
    bindO (cvtI IntKind.u64 a0) fun x29 =>
    bindO (binV BinOp.lss a0 (Value.int IntKind.i64 0)) fun x30 =>
    M.bind (F.strconv_formatBits (Value.slice none 0 0) x29 a1 x30 (Value.bool false)) fun x31 =>
    bindO (extV 0 x31) fun _ =>
    bindO (extV 1 x31) fun x33 =>
    M.ret x33)
def F.strconv_FormatInt.plan : Plan := (seq leaf (seq (seq leaf (cond (seq (seq leaf (cond (seq leaf leaf) leaf)) (seq leaf (seq leaf (fork [6] [6, 22, 23, 24, 25] [] (seq leaf (cond leaf leaf)) (seq leaf (seq leaf (seq (seq leaf (cond (seq leaf (seq leaf leaf)) leaf)) (seq leaf leaf)))))))) leaf)) (seq leaf (seq leaf leaf))))
theorem F.strconv_FormatInt.lift : LiftOk Tryd.prog 69 (ap2 F.strconv_FormatInt) :=
  lift2 (g := evFn Tryd.prog (tcons 93 (ap1 F.strconv_small) (tcons 94 (ap1 F.strconv_numDigits) (tcons 95 (ap2 F.strconv_formatBase10) (tcons 96 (ap5 F.strconv_formatBits) tnil)))) tnil 69 Tryd.f69 F.strconv_FormatInt.plan) (evFn_sound (tcons_ok F.strconv_small.lift (tcons_ok F.strconv_numDigits.lift (tcons_ok F.strconv_formatBase10.lift (tcons_ok F.strconv_formatBits.lift tnil_ok)))) tnil_ok Tryd.func69 (by kernel_rfl)) (fun x0 x1 => by kernel_rfl)

/-- internal/strconv.Itoa -/
noncomputable def F.strconv_Itoa_61 (a0 : Value) : M Value :=
  M.bind (F.strconv_FormatInt a0 (Value.int IntKind.i64 10)) fun x1 =>
  M.ret x1
def F.strconv_Itoa_61.plan : Plan := (seq leaf (seq leaf leaf))
theorem F.strconv_Itoa_61.lift : LiftOk Tryd.prog 61 (ap1 F.strconv_Itoa_61) :=
  lift1 (g := evFn Tryd.prog (tcons 69 (ap2 F.strconv_FormatInt) tnil) tnil 61 Tryd.f61 F.strconv_Itoa_61.plan) (evFn_sound (tcons_ok F.strconv_FormatInt.lift tnil_ok) tnil_ok Tryd.func61 (by kernel_rfl)) (fun x0 => by kernel_rfl)

/-- strconv.Itoa -/
noncomputable def F.strconv_Itoa (a0 : Value) : M Value :=
  M.bind (F.strconv_Itoa_61 a0) fun x1 =>
  M.ret x1
def F.strconv_Itoa.plan : Plan := (seq leaf (seq leaf leaf))
theorem F.strconv_Itoa.lift : LiftOk Tryd.prog 45 (ap1 F.strconv_Itoa) :=
  lift1 (g := evFn Tryd.prog (tcons 61 (ap1 F.strconv_Itoa_61) tnil) tnil 45 Tryd.f45 F.strconv_Itoa.plan) (evFn_sound (tcons_ok F.strconv_Itoa_61.lift tnil_ok) tnil_ok Tryd.func45 (by kernel_rfl)) (fun x0 => by kernel_rfl)

/-- granary/granarylaw21.own -/
noncomputable def F.granarylaw21_own (a0 : Value) : M Value :=
  M.bind (newM 78 #[(Value.string ByteArray.empty), (Value.string ByteArray.empty)]) fun x1 =>
  M.bind (F.strconv_Itoa a0) fun x2 =>
  bindO (binV BinOp.add (Value.string (ByteArray.mk #[35])) x2) fun x3 =>
  bindO (buildV #[(Value.string ByteArray.empty), (Value.string ByteArray.empty)] [(0, 1, x3), (1, 1, (Value.string (ByteArray.mk #[35])))]) fun x4 =>
  M.bind (stM 2 x1 x4) fun _ =>
  M.bind (rdM (ldA 2 x1)) fun x6 =>
  M.ret x6
def F.granarylaw21_own.plan : Plan := (seq leaf (seq leaf leaf))
theorem F.granarylaw21_own.lift : LiftOk Tryd.prog 29 (ap1 F.granarylaw21_own) :=
  lift1 (g := evFn Tryd.prog (tcons 45 (ap1 F.strconv_Itoa) tnil) tnil 29 Tryd.f29 F.granarylaw21_own.plan) (evFn_sound (tcons_ok F.strconv_Itoa.lift tnil_ok) tnil_ok Tryd.func29 (by kernel_rfl)) (fun x0 => by kernel_rfl)

/-- granary/granarylaw21.marked -/
noncomputable def F.granarylaw21_marked (a0 a1 a2 a3 : Value) : M Value :=
  M.bind (newM 54 #[(Value.slice none 0 0), (Value.slice none 0 0), (Value.slice none 0 0), (Value.slice none 0 0), (Value.slice none 0 0), (Value.slice none 0 0), (Value.int IntKind.i64 0)]) fun x1 =>
  M.bind (loopM (fun l2 =>
    bindO (lenL a0) fun x3 =>
    bindO (binV BinOp.lss (getL l2 0) x3) fun x4 =>
    condM x4 (
      bindO (buildV #[(Value.int IntKind.i64 0), (Value.int IntKind.i64 0), (Value.int IntKind.i64 0), (Value.int IntKind.i64 0), (Value.int IntKind.i64 0), (Value.int IntKind.i64 0), (Value.int IntKind.i64 0), (Value.int IntKind.i64 0), (Value.int IntKind.i64 0), (Value.string ByteArray.empty), (Value.string ByteArray.empty)] [(0, 1, a3)]) fun x5 =>
      bindO (idxA 11 a0 (getL l2 0)) fun x6 =>
      M.bind (stM 11 x6 x5) fun _ =>
      bindO (binV BinOp.add (getL l2 0) (Value.int IntKind.i64 1)) fun x8 =>
      M.ret (Out.norm [x8])) (
      M.ret (Out.exit 0 [(getL l2 0)]))) [(Value.int IntKind.i64 0)]) fun o10 =>
  outK o10 (fun _ => M.fail) (fun i11 _ =>
    bif Nat.beq i11 0 then (
      M.bind (loopM (fun l13 =>
        bindO (lenL a1) fun x14 =>
        bindO (binV BinOp.lss (getL l13 0) x14) fun x15 =>
        condM x15 (
          M.bind (F.granarylaw21_own a3) fun x16 =>
          bindO (idxA 2 a1 (getL l13 0)) fun x17 =>
          M.bind (stM 2 x17 x16) fun _ =>
          bindO (binV BinOp.add (getL l13 0) (Value.int IntKind.i64 1)) fun x19 =>
          M.ret (Out.norm [x19])) (
          M.ret (Out.exit 2 [(getL l13 0)]))) [(Value.int IntKind.i64 0)]) fun o21 =>
      outK o21 (fun _ => M.fail) (fun i22 _ =>
        bif Nat.beq i22 2 then (
          M.bind (loopM (fun l24 =>
            bindO (lenL a2) fun x25 =>
            bindO (binV BinOp.lss (getL l24 0) x25) fun x26 =>
            condM x26 (
              bindO (idxA 1 a2 (getL l24 0)) fun x27 =>
              M.bind (stM 1 x27 a3) fun _ =>
              bindO (binV BinOp.add (getL l24 0) (Value.int IntKind.i64 1)) fun x29 =>
              M.ret (Out.norm [x29])) (
              M.ret (Out.exit 4 [(getL l24 0)]))) [(Value.int IntKind.i64 0)]) fun o31 =>
          outK o31 (fun _ => M.fail) (fun i32 _ =>
            bif Nat.beq i32 4 then (
              bindO (buildV #[(Value.slice none 0 0), (Value.slice none 0 0), (Value.slice none 0 0), (Value.slice none 0 0), (Value.slice none 0 0), (Value.slice none 0 0), (Value.int IntKind.i64 0)] [(0, 1, a0), (2, 1, a1), (4, 1, a2), (6, 1, a3)]) fun x34 =>
              M.bind (newM 54 #[(Value.slice none 0 0), (Value.slice none 0 0), (Value.slice none 0 0), (Value.slice none 0 0), (Value.slice none 0 0), (Value.slice none 0 0), (Value.int IntKind.i64 0)]) fun x35 =>
              M.bind (stM 7 x35 x34) fun _ =>
              M.bind (newM 82 #[(Value.int IntKind.i64 0), (Value.int IntKind.i64 0), (Value.int IntKind.i64 0), (Value.int IntKind.i64 0), (Value.int IntKind.i64 0), (Value.int IntKind.i64 0), (Value.int IntKind.i64 0), (Value.int IntKind.i64 0), (Value.int IntKind.i64 0), (Value.string ByteArray.empty), (Value.string ByteArray.empty), (Value.int IntKind.i64 0), (Value.int IntKind.i64 0), (Value.int IntKind.i64 0), (Value.int IntKind.i64 0), (Value.int IntKind.i64 0), (Value.int IntKind.i64 0), (Value.int IntKind.i64 0), (Value.int IntKind.i64 0), (Value.int IntKind.i64 0), (Value.string ByteArray.empty), (Value.string ByteArray.empty), (Value.int IntKind.i64 0), (Value.int IntKind.i64 0), (Value.int IntKind.i64 0), (Value.int IntKind.i64 0), (Value.int IntKind.i64 0), (Value.int IntKind.i64 0), (Value.int IntKind.i64 0), (Value.int IntKind.i64 0), (Value.int IntKind.i64 0), (Value.string ByteArray.empty), (Value.string ByteArray.empty), (Value.int IntKind.i64 0), (Value.int IntKind.i64 0), (Value.int IntKind.i64 0), (Value.int IntKind.i64 0), (Value.int IntKind.i64 0), (Value.int IntKind.i64 0), (Value.int IntKind.i64 0), (Value.int IntKind.i64 0), (Value.int IntKind.i64 0), (Value.string ByteArray.empty), (Value.string ByteArray.empty), (Value.int IntKind.i64 0), (Value.int IntKind.i64 0), (Value.int IntKind.i64 0), (Value.int IntKind.i64 0), (Value.int IntKind.i64 0), (Value.int IntKind.i64 0), (Value.int IntKind.i64 0), (Value.int IntKind.i64 0), (Value.int IntKind.i64 0), (Value.string ByteArray.empty), (Value.string ByteArray.empty), (Value.int IntKind.i64 0), (Value.int IntKind.i64 0), (Value.int IntKind.i64 0), (Value.int IntKind.i64 0), (Value.int IntKind.i64 0), (Value.int IntKind.i64 0), (Value.int IntKind.i64 0), (Value.int IntKind.i64 0), (Value.int IntKind.i64 0), (Value.string ByteArray.empty), (Value.string ByteArray.empty), (Value.int IntKind.i64 0), (Value.int IntKind.i64 0), (Value.int IntKind.i64 0), (Value.int IntKind.i64 0), (Value.int IntKind.i64 0), (Value.int IntKind.i64 0), (Value.int IntKind.i64 0), (Value.int IntKind.i64 0), (Value.int IntKind.i64 0), (Value.string ByteArray.empty), (Value.string ByteArray.empty), (Value.int IntKind.i64 0), (Value.int IntKind.i64 0), (Value.int IntKind.i64 0), (Value.int IntKind.i64 0), (Value.int IntKind.i64 0), (Value.int IntKind.i64 0), (Value.int IntKind.i64 0), (Value.int IntKind.i64 0), (Value.int IntKind.i64 0), (Value.string ByteArray.empty), (Value.string ByteArray.empty), (Value.int IntKind.i64 0), (Value.int IntKind.i64 0), (Value.int IntKind.i64 0), (Value.int IntKind.i64 0), (Value.int IntKind.i64 0), (Value.int IntKind.i64 0), (Value.int IntKind.i64 0), (Value.int IntKind.i64 0), (Value.int IntKind.i64 0), (Value.string ByteArray.empty), (Value.string ByteArray.empty), (Value.int IntKind.i64 0), (Value.int IntKind.i64 0), (Value.int IntKind.i64 0), (Value.int IntKind.i64 0), (Value.int IntKind.i64 0), (Value.int IntKind.i64 0), (Value.int IntKind.i64 0), (Value.int IntKind.i64 0), (Value.int IntKind.i64 0), (Value.string ByteArray.empty), (Value.string ByteArray.empty), (Value.int IntKind.i64 0), (Value.int IntKind.i64 0), (Value.int IntKind.i64 0), (Value.int IntKind.i64 0), (Value.int IntKind.i64 0), (Value.int IntKind.i64 0), (Value.int IntKind.i64 0), (Value.int IntKind.i64 0), (Value.int IntKind.i64 0), (Value.string ByteArray.empty), (Value.string ByteArray.empty), (Value.int IntKind.i64 0), (Value.int IntKind.i64 0), (Value.int IntKind.i64 0), (Value.int IntKind.i64 0), (Value.int IntKind.i64 0), (Value.int IntKind.i64 0), (Value.int IntKind.i64 0), (Value.int IntKind.i64 0), (Value.int IntKind.i64 0), (Value.string ByteArray.empty), (Value.string ByteArray.empty), (Value.int IntKind.i64 0), (Value.int IntKind.i64 0), (Value.int IntKind.i64 0), (Value.int IntKind.i64 0), (Value.int IntKind.i64 0), (Value.int IntKind.i64 0), (Value.int IntKind.i64 0), (Value.int IntKind.i64 0), (Value.int IntKind.i64 0), (Value.string ByteArray.empty), (Value.string ByteArray.empty), (Value.int IntKind.i64 0), (Value.int IntKind.i64 0), (Value.int IntKind.i64 0), (Value.int IntKind.i64 0), (Value.int IntKind.i64 0), (Value.int IntKind.i64 0), (Value.int IntKind.i64 0), (Value.int IntKind.i64 0), (Value.int IntKind.i64 0), (Value.string ByteArray.empty), (Value.string ByteArray.empty), (Value.int IntKind.i64 0), (Value.int IntKind.i64 0), (Value.int IntKind.i64 0), (Value.int IntKind.i64 0), (Value.int IntKind.i64 0), (Value.int IntKind.i64 0), (Value.int IntKind.i64 0), (Value.int IntKind.i64 0), (Value.int IntKind.i64 0), (Value.string ByteArray.empty), (Value.string ByteArray.empty), (Value.int IntKind.i64 0), (Value.int IntKind.i64 0), (Value.int IntKind.i64 0), (Value.int IntKind.i64 0), (Value.int IntKind.i64 0), (Value.int IntKind.i64 0), (Value.int IntKind.i64 0), (Value.int IntKind.i64 0), (Value.int IntKind.i64 0), (Value.string ByteArray.empty), (Value.string ByteArray.empty), (Value.int IntKind.i64 0), (Value.int IntKind.i64 0), (Value.int IntKind.i64 0), (Value.int IntKind.i64 0), (Value.int IntKind.i64 0), (Value.int IntKind.i64 0), (Value.int IntKind.i64 0), (Value.int IntKind.i64 0), (Value.int IntKind.i64 0), (Value.string ByteArray.empty), (Value.string ByteArray.empty), (Value.int IntKind.i64 0), (Value.int IntKind.i64 0), (Value.int IntKind.i64 0), (Value.int IntKind.i64 0), (Value.int IntKind.i64 0), (Value.int IntKind.i64 0), (Value.int IntKind.i64 0), (Value.int IntKind.i64 0), (Value.int IntKind.i64 0), (Value.string ByteArray.empty), (Value.string ByteArray.empty), (Value.int IntKind.i64 0), (Value.int IntKind.i64 0), (Value.int IntKind.i64 0), (Value.int IntKind.i64 0), (Value.int IntKind.i64 0), (Value.int IntKind.i64 0), (Value.int IntKind.i64 0), (Value.int IntKind.i64 0), (Value.int IntKind.i64 0), (Value.string ByteArray.empty), (Value.string ByteArray.empty), (Value.int IntKind.i64 0), (Value.int IntKind.i64 0), (Value.int IntKind.i64 0), (Value.int IntKind.i64 0), (Value.int IntKind.i64 0), (Value.int IntKind.i64 0), (Value.int IntKind.i64 0), (Value.int IntKind.i64 0), (Value.int IntKind.i64 0), (Value.string ByteArray.empty), (Value.string ByteArray.empty), (Value.int IntKind.i64 0), (Value.int IntKind.i64 0), (Value.int IntKind.i64 0), (Value.int IntKind.i64 0), (Value.int IntKind.i64 0), (Value.int IntKind.i64 0), (Value.int IntKind.i64 0), (Value.int IntKind.i64 0), (Value.int IntKind.i64 0), (Value.string ByteArray.empty), (Value.string ByteArray.empty), (Value.int IntKind.i64 0), (Value.int IntKind.i64 0), (Value.int IntKind.i64 0), (Value.int IntKind.i64 0), (Value.int IntKind.i64 0), (Value.int IntKind.i64 0), (Value.int IntKind.i64 0), (Value.int IntKind.i64 0), (Value.int IntKind.i64 0), (Value.string ByteArray.empty), (Value.string ByteArray.empty), (Value.int IntKind.i64 0), (Value.int IntKind.i64 0), (Value.int IntKind.i64 0), (Value.int IntKind.i64 0), (Value.int IntKind.i64 0), (Value.int IntKind.i64 0), (Value.int IntKind.i64 0), (Value.int IntKind.i64 0), (Value.int IntKind.i64 0), (Value.string ByteArray.empty), (Value.string ByteArray.empty), (Value.int IntKind.i64 0), (Value.int IntKind.i64 0), (Value.int IntKind.i64 0), (Value.int IntKind.i64 0), (Value.int IntKind.i64 0), (Value.int IntKind.i64 0), (Value.int IntKind.i64 0), (Value.int IntKind.i64 0), (Value.int IntKind.i64 0), (Value.string ByteArray.empty), (Value.string ByteArray.empty), (Value.int IntKind.i64 0), (Value.int IntKind.i64 0), (Value.int IntKind.i64 0), (Value.int IntKind.i64 0), (Value.int IntKind.i64 0), (Value.int IntKind.i64 0), (Value.int IntKind.i64 0), (Value.int IntKind.i64 0), (Value.int IntKind.i64 0), (Value.string ByteArray.empty), (Value.string ByteArray.empty), (Value.int IntKind.i64 0), (Value.int IntKind.i64 0), (Value.int IntKind.i64 0), (Value.int IntKind.i64 0), (Value.int IntKind.i64 0), (Value.int IntKind.i64 0), (Value.int IntKind.i64 0), (Value.int IntKind.i64 0), (Value.int IntKind.i64 0), (Value.string ByteArray.empty), (Value.string ByteArray.empty), (Value.int IntKind.i64 0), (Value.int IntKind.i64 0), (Value.int IntKind.i64 0), (Value.int IntKind.i64 0), (Value.int IntKind.i64 0), (Value.int IntKind.i64 0), (Value.int IntKind.i64 0), (Value.int IntKind.i64 0), (Value.int IntKind.i64 0), (Value.string ByteArray.empty), (Value.string ByteArray.empty), (Value.int IntKind.i64 0), (Value.int IntKind.i64 0), (Value.int IntKind.i64 0), (Value.int IntKind.i64 0), (Value.int IntKind.i64 0), (Value.int IntKind.i64 0), (Value.int IntKind.i64 0), (Value.int IntKind.i64 0), (Value.int IntKind.i64 0), (Value.string ByteArray.empty), (Value.string ByteArray.empty), (Value.int IntKind.i64 0), (Value.int IntKind.i64 0), (Value.int IntKind.i64 0), (Value.int IntKind.i64 0), (Value.int IntKind.i64 0), (Value.int IntKind.i64 0), (Value.int IntKind.i64 0), (Value.int IntKind.i64 0), (Value.int IntKind.i64 0), (Value.string ByteArray.empty), (Value.string ByteArray.empty), (Value.int IntKind.i64 0), (Value.int IntKind.i64 0), (Value.int IntKind.i64 0), (Value.int IntKind.i64 0), (Value.int IntKind.i64 0), (Value.int IntKind.i64 0), (Value.int IntKind.i64 0), (Value.int IntKind.i64 0), (Value.int IntKind.i64 0), (Value.string ByteArray.empty), (Value.string ByteArray.empty), (Value.int IntKind.i64 0), (Value.int IntKind.i64 0), (Value.int IntKind.i64 0), (Value.int IntKind.i64 0), (Value.int IntKind.i64 0), (Value.int IntKind.i64 0), (Value.int IntKind.i64 0), (Value.int IntKind.i64 0), (Value.int IntKind.i64 0), (Value.string ByteArray.empty), (Value.string ByteArray.empty), (Value.int IntKind.i64 0), (Value.int IntKind.i64 0), (Value.int IntKind.i64 0), (Value.int IntKind.i64 0), (Value.int IntKind.i64 0), (Value.int IntKind.i64 0), (Value.int IntKind.i64 0), (Value.int IntKind.i64 0), (Value.int IntKind.i64 0), (Value.string ByteArray.empty), (Value.string ByteArray.empty), (Value.int IntKind.i64 0), (Value.int IntKind.i64 0), (Value.int IntKind.i64 0), (Value.int IntKind.i64 0), (Value.int IntKind.i64 0), (Value.int IntKind.i64 0), (Value.int IntKind.i64 0), (Value.int IntKind.i64 0), (Value.int IntKind.i64 0), (Value.string ByteArray.empty), (Value.string ByteArray.empty), (Value.int IntKind.i64 0), (Value.int IntKind.i64 0), (Value.int IntKind.i64 0), (Value.int IntKind.i64 0), (Value.int IntKind.i64 0), (Value.int IntKind.i64 0), (Value.int IntKind.i64 0), (Value.int IntKind.i64 0), (Value.int IntKind.i64 0), (Value.string ByteArray.empty), (Value.string ByteArray.empty), (Value.int IntKind.i64 0), (Value.int IntKind.i64 0), (Value.int IntKind.i64 0), (Value.int IntKind.i64 0), (Value.int IntKind.i64 0), (Value.int IntKind.i64 0), (Value.int IntKind.i64 0), (Value.int IntKind.i64 0), (Value.int IntKind.i64 0), (Value.string ByteArray.empty), (Value.string ByteArray.empty), (Value.int IntKind.i64 0), (Value.int IntKind.i64 0), (Value.int IntKind.i64 0), (Value.int IntKind.i64 0), (Value.int IntKind.i64 0), (Value.int IntKind.i64 0), (Value.int IntKind.i64 0), (Value.int IntKind.i64 0), (Value.int IntKind.i64 0), (Value.string ByteArray.empty), (Value.string ByteArray.empty), (Value.int IntKind.i64 0), (Value.int IntKind.i64 0), (Value.int IntKind.i64 0), (Value.int IntKind.i64 0), (Value.int IntKind.i64 0), (Value.int IntKind.i64 0), (Value.int IntKind.i64 0), (Value.int IntKind.i64 0), (Value.int IntKind.i64 0), (Value.string ByteArray.empty), (Value.string ByteArray.empty), (Value.int IntKind.i64 0), (Value.int IntKind.i64 0), (Value.int IntKind.i64 0), (Value.int IntKind.i64 0), (Value.int IntKind.i64 0), (Value.int IntKind.i64 0), (Value.int IntKind.i64 0), (Value.int IntKind.i64 0), (Value.int IntKind.i64 0), (Value.string ByteArray.empty), (Value.string ByteArray.empty), (Value.int IntKind.i64 0), (Value.int IntKind.i64 0), (Value.int IntKind.i64 0), (Value.int IntKind.i64 0), (Value.int IntKind.i64 0), (Value.int IntKind.i64 0), (Value.int IntKind.i64 0), (Value.int IntKind.i64 0), (Value.int IntKind.i64 0), (Value.string ByteArray.empty), (Value.string ByteArray.empty), (Value.int IntKind.i64 0), (Value.int IntKind.i64 0), (Value.int IntKind.i64 0), (Value.int IntKind.i64 0), (Value.int IntKind.i64 0), (Value.int IntKind.i64 0), (Value.int IntKind.i64 0), (Value.int IntKind.i64 0), (Value.int IntKind.i64 0), (Value.string ByteArray.empty), (Value.string ByteArray.empty), (Value.int IntKind.i64 0), (Value.int IntKind.i64 0), (Value.int IntKind.i64 0), (Value.int IntKind.i64 0), (Value.int IntKind.i64 0), (Value.int IntKind.i64 0), (Value.int IntKind.i64 0), (Value.int IntKind.i64 0), (Value.int IntKind.i64 0), (Value.string ByteArray.empty), (Value.string ByteArray.empty), (Value.int IntKind.i64 0), (Value.int IntKind.i64 0), (Value.int IntKind.i64 0), (Value.int IntKind.i64 0), (Value.int IntKind.i64 0), (Value.int IntKind.i64 0), (Value.int IntKind.i64 0), (Value.int IntKind.i64 0), (Value.int IntKind.i64 0), (Value.string ByteArray.empty), (Value.string ByteArray.empty), (Value.int IntKind.i64 0), (Value.int IntKind.i64 0), (Value.int IntKind.i64 0), (Value.int IntKind.i64 0), (Value.int IntKind.i64 0), (Value.int IntKind.i64 0), (Value.int IntKind.i64 0), (Value.int IntKind.i64 0), (Value.int IntKind.i64 0), (Value.string ByteArray.empty), (Value.string ByteArray.empty), (Value.int IntKind.i64 0), (Value.int IntKind.i64 0), (Value.int IntKind.i64 0), (Value.int IntKind.i64 0), (Value.int IntKind.i64 0), (Value.int IntKind.i64 0), (Value.int IntKind.i64 0), (Value.int IntKind.i64 0), (Value.int IntKind.i64 0), (Value.string ByteArray.empty), (Value.string ByteArray.empty), (Value.int IntKind.i64 0), (Value.int IntKind.i64 0), (Value.int IntKind.i64 0), (Value.int IntKind.i64 0), (Value.int IntKind.i64 0), (Value.int IntKind.i64 0), (Value.int IntKind.i64 0), (Value.int IntKind.i64 0), (Value.int IntKind.i64 0), (Value.string ByteArray.empty), (Value.string ByteArray.empty), (Value.int IntKind.i64 0), (Value.int IntKind.i64 0), (Value.int IntKind.i64 0), (Value.int IntKind.i64 0), (Value.int IntKind.i64 0), (Value.int IntKind.i64 0), (Value.int IntKind.i64 0), (Value.int IntKind.i64 0), (Value.int IntKind.i64 0), (Value.string ByteArray.empty), (Value.string ByteArray.empty), (Value.int IntKind.i64 0), (Value.int IntKind.i64 0), (Value.int IntKind.i64 0), (Value.int IntKind.i64 0), (Value.int IntKind.i64 0), (Value.int IntKind.i64 0), (Value.int IntKind.i64 0), (Value.int IntKind.i64 0), (Value.int IntKind.i64 0), (Value.string ByteArray.empty), (Value.string ByteArray.empty), (Value.int IntKind.i64 0), (Value.int IntKind.i64 0), (Value.int IntKind.i64 0), (Value.int IntKind.i64 0), (Value.int IntKind.i64 0), (Value.int IntKind.i64 0), (Value.int IntKind.i64 0), (Value.int IntKind.i64 0), (Value.int IntKind.i64 0), (Value.string ByteArray.empty), (Value.string ByteArray.empty), (Value.int IntKind.i64 0), (Value.int IntKind.i64 0), (Value.int IntKind.i64 0), (Value.int IntKind.i64 0), (Value.int IntKind.i64 0), (Value.int IntKind.i64 0), (Value.int IntKind.i64 0), (Value.int IntKind.i64 0), (Value.int IntKind.i64 0), (Value.string ByteArray.empty), (Value.string ByteArray.empty), (Value.int IntKind.i64 0), (Value.int IntKind.i64 0), (Value.int IntKind.i64 0), (Value.int IntKind.i64 0), (Value.int IntKind.i64 0), (Value.int IntKind.i64 0), (Value.int IntKind.i64 0), (Value.int IntKind.i64 0), (Value.int IntKind.i64 0), (Value.string ByteArray.empty), (Value.string ByteArray.empty), (Value.int IntKind.i64 0), (Value.int IntKind.i64 0), (Value.int IntKind.i64 0), (Value.int IntKind.i64 0), (Value.int IntKind.i64 0), (Value.int IntKind.i64 0), (Value.int IntKind.i64 0), (Value.int IntKind.i64 0), (Value.int IntKind.i64 0), (Value.string ByteArray.empty), (Value.string ByteArray.empty), (Value.int IntKind.i64 0), (Value.int IntKind.i64 0), (Value.int IntKind.i64 0), (Value.int IntKind.i64 0), (Value.int IntKind.i64 0), (Value.int IntKind.i64 0), (Value.int IntKind.i64 0), (Value.int IntKind.i64 0), (Value.int IntKind.i64 0), (Value.string ByteArray.empty), (Value.string ByteArray.empty), (Value.int IntKind.i64 0), (Value.int IntKind.i64 0), (Value.int IntKind.i64 0), (Value.int IntKind.i64 0), (Value.int IntKind.i64 0), (Value.int IntKind.i64 0), (Value.int IntKind.i64 0), (Value.int IntKind.i64 0), (Value.int IntKind.i64 0), (Value.string ByteArray.empty), (Value.string ByteArray.empty), (Value.int IntKind.i64 0), (Value.int IntKind.i64 0), (Value.int IntKind.i64 0), (Value.int IntKind.i64 0), (Value.int IntKind.i64 0), (Value.int IntKind.i64 0), (Value.int IntKind.i64 0), (Value.int IntKind.i64 0), (Value.int IntKind.i64 0), (Value.string ByteArray.empty), (Value.string ByteArray.empty), (Value.int IntKind.i64 0), (Value.int IntKind.i64 0), (Value.int IntKind.i64 0), (Value.int IntKind.i64 0), (Value.int IntKind.i64 0), (Value.int IntKind.i64 0), (Value.int IntKind.i64 0), (Value.int IntKind.i64 0), (Value.int IntKind.i64 0), (Value.string ByteArray.empty), (Value.string ByteArray.empty), (Value.int IntKind.i64 0), (Value.int IntKind.i64 0), (Value.int IntKind.i64 0), (Value.int IntKind.i64 0), (Value.int IntKind.i64 0), (Value.int IntKind.i64 0), (Value.int IntKind.i64 0), (Value.int IntKind.i64 0), (Value.int IntKind.i64 0), (Value.string ByteArray.empty), (Value.string ByteArray.empty), (Value.int IntKind.i64 0), (Value.int IntKind.i64 0), (Value.int IntKind.i64 0), (Value.int IntKind.i64 0), (Value.int IntKind.i64 0), (Value.int IntKind.i64 0), (Value.int IntKind.i64 0), (Value.int IntKind.i64 0), (Value.int IntKind.i64 0), (Value.string ByteArray.empty), (Value.string ByteArray.empty), (Value.int IntKind.i64 0), (Value.int IntKind.i64 0), (Value.int IntKind.i64 0), (Value.int IntKind.i64 0), (Value.int IntKind.i64 0), (Value.int IntKind.i64 0), (Value.int IntKind.i64 0), (Value.int IntKind.i64 0), (Value.int IntKind.i64 0), (Value.string ByteArray.empty), (Value.string ByteArray.empty), (Value.int IntKind.i64 0), (Value.int IntKind.i64 0), (Value.int IntKind.i64 0), (Value.int IntKind.i64 0), (Value.int IntKind.i64 0), (Value.int IntKind.i64 0), (Value.int IntKind.i64 0), (Value.int IntKind.i64 0), (Value.int IntKind.i64 0), (Value.string ByteArray.empty), (Value.string ByteArray.empty), (Value.int IntKind.i64 0), (Value.int IntKind.i64 0), (Value.int IntKind.i64 0), (Value.int IntKind.i64 0), (Value.int IntKind.i64 0), (Value.int IntKind.i64 0), (Value.int IntKind.i64 0), (Value.int IntKind.i64 0), (Value.int IntKind.i64 0), (Value.string ByteArray.empty), (Value.string ByteArray.empty), (Value.int IntKind.i64 0), (Value.int IntKind.i64 0), (Value.int IntKind.i64 0), (Value.int IntKind.i64 0), (Value.int IntKind.i64 0), (Value.int IntKind.i64 0), (Value.int IntKind.i64 0), (Value.int IntKind.i64 0), (Value.int IntKind.i64 0), (Value.string ByteArray.empty), (Value.string ByteArray.empty), (Value.int IntKind.i64 0), (Value.int IntKind.i64 0), (Value.int IntKind.i64 0), (Value.int IntKind.i64 0), (Value.int IntKind.i64 0), (Value.int IntKind.i64 0), (Value.int IntKind.i64 0), (Value.int IntKind.i64 0), (Value.int IntKind.i64 0), (Value.string ByteArray.empty), (Value.string ByteArray.empty), (Value.int IntKind.i64 0), (Value.int IntKind.i64 0), (Value.int IntKind.i64 0), (Value.int IntKind.i64 0), (Value.int IntKind.i64 0), (Value.int IntKind.i64 0), (Value.int IntKind.i64 0), (Value.int IntKind.i64 0), (Value.int IntKind.i64 0), (Value.string ByteArray.empty), (Value.string ByteArray.empty), (Value.int IntKind.i64 0), (Value.int IntKind.i64 0), (Value.int IntKind.i64 0), (Value.int IntKind.i64 0), (Value.int IntKind.i64 0), (Value.int IntKind.i64 0), (Value.int IntKind.i64 0), (Value.int IntKind.i64 0), (Value.int IntKind.i64 0), (Value.string ByteArray.empty), (Value.string ByteArray.empty)]) fun x37 =>
              M.bind (newM 83 #[(Value.string ByteArray.empty), (Value.string ByteArray.empty), (Value.string ByteArray.empty), (Value.string ByteArray.empty), (Value.string ByteArray.empty), (Value.string ByteArray.empty), (Value.string ByteArray.empty), (Value.string ByteArray.empty), (Value.string ByteArray.empty), (Value.string ByteArray.empty), (Value.string ByteArray.empty), (Value.string ByteArray.empty), (Value.string ByteArray.empty), (Value.string ByteArray.empty), (Value.string ByteArray.empty), (Value.string ByteArray.empty), (Value.string ByteArray.empty), (Value.string ByteArray.empty), (Value.string ByteArray.empty), (Value.string ByteArray.empty), (Value.string ByteArray.empty), (Value.string ByteArray.empty), (Value.string ByteArray.empty), (Value.string ByteArray.empty), (Value.string ByteArray.empty), (Value.string ByteArray.empty), (Value.string ByteArray.empty), (Value.string ByteArray.empty), (Value.string ByteArray.empty), (Value.string ByteArray.empty), (Value.string ByteArray.empty), (Value.string ByteArray.empty), (Value.string ByteArray.empty), (Value.string ByteArray.empty), (Value.string ByteArray.empty), (Value.string ByteArray.empty), (Value.string ByteArray.empty), (Value.string ByteArray.empty), (Value.string ByteArray.empty), (Value.string ByteArray.empty), (Value.string ByteArray.empty), (Value.string ByteArray.empty), (Value.string ByteArray.empty), (Value.string ByteArray.empty), (Value.string ByteArray.empty), (Value.string ByteArray.empty), (Value.string ByteArray.empty), (Value.string ByteArray.empty), (Value.string ByteArray.empty), (Value.string ByteArray.empty), (Value.string ByteArray.empty), (Value.string ByteArray.empty), (Value.string ByteArray.empty), (Value.string ByteArray.empty), (Value.string ByteArray.empty), (Value.string ByteArray.empty), (Value.string ByteArray.empty), (Value.string ByteArray.empty), (Value.string ByteArray.empty), (Value.string ByteArray.empty), (Value.string ByteArray.empty), (Value.string ByteArray.empty), (Value.string ByteArray.empty), (Value.string ByteArray.empty), (Value.string ByteArray.empty), (Value.string ByteArray.empty), (Value.string ByteArray.empty), (Value.string ByteArray.empty), (Value.string ByteArray.empty), (Value.string ByteArray.empty), (Value.string ByteArray.empty), (Value.string ByteArray.empty), (Value.string ByteArray.empty), (Value.string ByteArray.empty), (Value.string ByteArray.empty), (Value.string ByteArray.empty), (Value.string ByteArray.empty), (Value.string ByteArray.empty), (Value.string ByteArray.empty), (Value.string ByteArray.empty), (Value.string ByteArray.empty), (Value.string ByteArray.empty), (Value.string ByteArray.empty), (Value.string ByteArray.empty), (Value.string ByteArray.empty), (Value.string ByteArray.empty), (Value.string ByteArray.empty), (Value.string ByteArray.empty), (Value.string ByteArray.empty), (Value.string ByteArray.empty), (Value.string ByteArray.empty), (Value.string ByteArray.empty), (Value.string ByteArray.empty), (Value.string ByteArray.empty), (Value.string ByteArray.empty), (Value.string ByteArray.empty), (Value.string ByteArray.empty), (Value.string ByteArray.empty), (Value.string ByteArray.empty), (Value.string ByteArray.empty), (Value.string ByteArray.empty), (Value.string ByteArray.empty), (Value.string ByteArray.empty), (Value.string ByteArray.empty), (Value.string ByteArray.empty), (Value.string ByteArray.empty), (Value.string ByteArray.empty), (Value.string ByteArray.empty), (Value.string ByteArray.empty), (Value.string ByteArray.empty), (Value.string ByteArray.empty), (Value.string ByteArray.empty), (Value.string ByteArray.empty), (Value.string ByteArray.empty), (Value.string ByteArray.empty), (Value.string ByteArray.empty), (Value.string ByteArray.empty), (Value.string ByteArray.empty), (Value.string ByteArray.empty), (Value.string ByteArray.empty), (Value.string ByteArray.empty), (Value.string ByteArray.empty), (Value.string ByteArray.empty), (Value.string ByteArray.empty), (Value.string ByteArray.empty), (Value.string ByteArray.empty), (Value.string ByteArray.empty), (Value.string ByteArray.empty)]) fun x38 =>
              M.bind (newM 84 #[(Value.int IntKind.i64 0), (Value.int IntKind.i64 0), (Value.int IntKind.i64 0), (Value.int IntKind.i64 0), (Value.int IntKind.i64 0), (Value.int IntKind.i64 0), (Value.int IntKind.i64 0), (Value.int IntKind.i64 0), (Value.int IntKind.i64 0), (Value.int IntKind.i64 0), (Value.int IntKind.i64 0), (Value.int IntKind.i64 0), (Value.int IntKind.i64 0), (Value.int IntKind.i64 0), (Value.int IntKind.i64 0), (Value.int IntKind.i64 0), (Value.int IntKind.i64 0), (Value.int IntKind.i64 0), (Value.int IntKind.i64 0), (Value.int IntKind.i64 0), (Value.int IntKind.i64 0), (Value.int IntKind.i64 0), (Value.int IntKind.i64 0), (Value.int IntKind.i64 0), (Value.int IntKind.i64 0), (Value.int IntKind.i64 0), (Value.int IntKind.i64 0), (Value.int IntKind.i64 0), (Value.int IntKind.i64 0), (Value.int IntKind.i64 0), (Value.int IntKind.i64 0), (Value.int IntKind.i64 0), (Value.int IntKind.i64 0), (Value.int IntKind.i64 0), (Value.int IntKind.i64 0), (Value.int IntKind.i64 0), (Value.int IntKind.i64 0), (Value.int IntKind.i64 0), (Value.int IntKind.i64 0), (Value.int IntKind.i64 0), (Value.int IntKind.i64 0), (Value.int IntKind.i64 0), (Value.int IntKind.i64 0), (Value.int IntKind.i64 0), (Value.int IntKind.i64 0), (Value.int IntKind.i64 0), (Value.int IntKind.i64 0), (Value.int IntKind.i64 0), (Value.int IntKind.i64 0), (Value.int IntKind.i64 0), (Value.int IntKind.i64 0), (Value.int IntKind.i64 0), (Value.int IntKind.i64 0), (Value.int IntKind.i64 0), (Value.int IntKind.i64 0), (Value.int IntKind.i64 0), (Value.int IntKind.i64 0), (Value.int IntKind.i64 0), (Value.int IntKind.i64 0), (Value.int IntKind.i64 0), (Value.int IntKind.i64 0), (Value.int IntKind.i64 0), (Value.int IntKind.i64 0), (Value.int IntKind.i64 0)]) fun x39 =>
              M.bind (loopM (fun l40 =>
                bindO (binV BinOp.lss (getL l40 0) (Value.int IntKind.i64 64)) fun x41 =>
                condM x41 (
                  bindO (buildV #[(Value.int IntKind.i64 0), (Value.int IntKind.i64 0), (Value.int IntKind.i64 0), (Value.int IntKind.i64 0), (Value.int IntKind.i64 0), (Value.int IntKind.i64 0), (Value.int IntKind.i64 0), (Value.int IntKind.i64 0), (Value.int IntKind.i64 0), (Value.string ByteArray.empty), (Value.string ByteArray.empty)] [(0, 1, a3)]) fun x42 =>
                  bindO (idxR 64 11 x37 (getL l40 0)) fun x43 =>
                  M.bind (stM 11 x43 x42) fun _ =>
                  M.bind (F.granarylaw21_own a3) fun x45 =>
                  bindO (idxR 64 2 x38 (getL l40 0)) fun x46 =>
                  M.bind (stM 2 x46 x45) fun _ =>
                  bindO (idxR 64 1 x39 (getL l40 0)) fun x48 =>
                  M.bind (stM 1 x48 a3) fun _ =>
                  bindO (binV BinOp.add (getL l40 0) (Value.int IntKind.i64 1)) fun x50 =>
                  M.ret (Out.norm [x50])) (
                  M.ret (Out.exit 6 [(getL l40 0)]))) [(Value.int IntKind.i64 0)]) fun o52 =>
              outK o52 (fun _ => M.fail) (fun i53 _ =>
                bif Nat.beq i53 6 then (
                  bindO (sliceR 64 11 x37 none none) fun x55 =>
                  M.bind (appM 36 11 104 #[(Value.int IntKind.i64 0), (Value.int IntKind.i64 0), (Value.int IntKind.i64 0), (Value.int IntKind.i64 0), (Value.int IntKind.i64 0), (Value.int IntKind.i64 0), (Value.int IntKind.i64 0), (Value.int IntKind.i64 0), (Value.int IntKind.i64 0), (Value.string ByteArray.empty), (Value.string ByteArray.empty)] a0 x55) fun x56 =>
                  bindO (fieldA 1 x35) fun x57 =>
                  M.bind (stM 1 x57 x56) fun _ =>
                  bindO (sliceR 64 2 x38 none none) fun x59 =>
                  M.bind (appM 78 2 32 #[(Value.string ByteArray.empty), (Value.string ByteArray.empty)] a1 x59) fun x60 =>
                  bindO (fieldA 3 x35) fun x61 =>
                  M.bind (stM 1 x61 x60) fun _ =>
                  bindO (sliceR 64 1 x39 none none) fun x63 =>
                  M.bind (appM 3 1 8 #[(Value.int IntKind.i64 0)] a2 x63) fun x64 =>
                  bindO (fieldA 5 x35) fun x65 =>
                  M.bind (stM 1 x65 x64) fun _ =>
                  M.bind (rdM (ldA 7 x35)) fun x67 =>
                  M.bind (stM 7 x1 x67) fun _ =>
                  M.bind (rdM (ldA 7 x1)) fun x69 =>
                  M.ret x69) else
                M.fail) (fun r54 => M.ret r54)) else
            M.fail) (fun r33 => M.ret r33)) else
        M.fail) (fun r23 => M.ret r23)) else
    M.fail) (fun r12 => M.ret r12)
def F.granarylaw21_marked.plan : Plan := (seq leaf (seq (seq leaf (body (loop [9] [9, 17, 18, 19, 20, 21, 22, 23, 24, 25, 26, 27] [0] (seq (seq leaf (cond leaf leaf)) (seq (body leaf) leaf))))) (seq (seq leaf (body (loop [10] [10, 28, 29, 30, 31, 32, 33, 34, 35, 36, 37, 38] [2] (seq (seq leaf (cond leaf leaf)) (seq (body leaf) leaf))))) (seq (seq leaf (body (loop [11] [11, 39, 40, 41, 42, 43, 44, 45, 46, 47, 48] [4] (seq (seq leaf (cond leaf leaf)) (seq (body leaf) leaf))))) (seq leaf (seq leaf (seq leaf (seq leaf (seq (seq leaf (body (loop [16] [16, 54, 55, 56, 57, 58, 59, 60, 61, 62, 63, 64, 65, 66, 67, 68] [6] (seq (seq leaf (cond leaf leaf)) (seq (body (seq leaf (seq leaf leaf))) leaf))))) (seq leaf (seq leaf (seq leaf (seq leaf leaf)))))))))))))
theorem F.granarylaw21_marked.lift : LiftOk Tryd.prog 16 (ap4 F.granarylaw21_marked) :=
  lift4 (g := evFn Tryd.prog (tcons 29 (ap1 F.granarylaw21_own) tnil) tnil 16 Tryd.f16 F.granarylaw21_marked.plan) (evFn_sound (tcons_ok F.granarylaw21_own.lift tnil_ok) tnil_ok Tryd.func16 (by kernel_rfl)) (fun x0 x1 x2 x3 => by kernel_rfl)

/-- (granary/granarylaw21.Held).still -/
noncomputable def F.granarylaw21_Held_still (a0 : Value) : M Value :=
  M.bind (newM 54 (Value.cells a0)) fun x1 =>
  M.bind (loopM (fun l2 =>
    bindO (fieldA 0 x1) fun x3 =>
    M.bind (rdM (ld1 x3)) fun x4 =>
    bindO (lenL x4) fun x5 =>
    bindO (binV BinOp.lss (getL l2 1) x5) fun x6 =>
    condM x6 (
      drewM <|
      M.bind (guardM (getL l2 0) true (optM (fieldA 0 x1))) fun x7 =>
      M.bind (guardM (getL l2 0) true (rdM (ld1 x7))) fun x8 =>
      M.bind (guardM (getL l2 0) true (M.ret (getL l2 1))) fun x9 =>
      M.bind (guardM (getL l2 0) true (optM (idxA 11 x8 x9))) fun x10 =>
      M.bind (guardM (getL l2 0) true (rdM (ldA 11 x10))) fun x11 =>
      M.bind (guardM (getL l2 0) true (optM (fieldA 6 x1))) fun x12 =>
      M.bind (guardM (getL l2 0) true (rdM (ld1 x12))) fun x13 =>
      M.bind (guardM (getL l2 0) true (optM (buildV #[(Value.int IntKind.i64 0), (Value.int IntKind.i64 0), (Value.int IntKind.i64 0), (Value.int IntKind.i64 0), (Value.int IntKind.i64 0), (Value.int IntKind.i64 0), (Value.int IntKind.i64 0), (Value.int IntKind.i64 0), (Value.int IntKind.i64 0), (Value.string ByteArray.empty), (Value.string ByteArray.empty)] [(0, 1, x13)]))) fun x14 =>
      M.bind (guardM (getL l2 0) true (optM (eqV (EqSh.offs [(EqK.int, 0), (EqK.int, 1), (EqK.int, 2), (EqK.int, 3), (EqK.int, 4), (EqK.int, 5), (EqK.int, 6), (EqK.int, 7), (EqK.int, 8), (EqK.str, 9), (EqK.str, 10)]) x11 x14))) fun x15 =>
      bindO (pickV (getL l2 0) x15 (Value.bool false)) fun x16 =>
      bindO (binV BinOp.add (getL l2 1) (Value.int IntKind.i64 1)) fun x17 =>
      M.ret (Out.norm [x16, x17])) (
      M.ret (Out.exit 0 [(getL l2 0), (getL l2 1)]))) [(Value.bool true), (Value.int IntKind.i64 0)]) fun o19 =>
  outK o19 (fun _ => M.fail) (fun i20 l18 =>
    bif Nat.beq i20 0 then (
      M.bind (loopM (fun l22 =>
        bindO (fieldA 1 x1) fun x23 =>
        M.bind (rdM (ld1 x23)) fun x24 =>
        bindO (lenL x24) fun x25 =>
        bindO (binV BinOp.lss (getL l22 1) x25) fun x26 =>
        condM x26 (
          drewM <|
          M.bind (guardM (getL l22 0) true (optM (fieldA 1 x1))) fun x27 =>
          M.bind (guardM (getL l22 0) true (rdM (ld1 x27))) fun x28 =>
          M.bind (guardM (getL l22 0) true (M.ret (getL l22 1))) fun x29 =>
          M.bind (guardM (getL l22 0) true (optM (idxA 11 x28 x29))) fun x30 =>
          M.bind (guardM (getL l22 0) true (rdM (ldA 11 x30))) fun x31 =>
          M.bind (guardM (getL l22 0) true (optM (fieldA 6 x1))) fun x32 =>
          M.bind (guardM (getL l22 0) true (rdM (ld1 x32))) fun x33 =>
          M.bind (guardM (getL l22 0) true (optM (buildV #[(Value.int IntKind.i64 0), (Value.int IntKind.i64 0), (Value.int IntKind.i64 0), (Value.int IntKind.i64 0), (Value.int IntKind.i64 0), (Value.int IntKind.i64 0), (Value.int IntKind.i64 0), (Value.int IntKind.i64 0), (Value.int IntKind.i64 0), (Value.string ByteArray.empty), (Value.string ByteArray.empty)] [(0, 1, x33)]))) fun x34 =>
          M.bind (guardM (getL l22 0) true (optM (eqV (EqSh.offs [(EqK.int, 0), (EqK.int, 1), (EqK.int, 2), (EqK.int, 3), (EqK.int, 4), (EqK.int, 5), (EqK.int, 6), (EqK.int, 7), (EqK.int, 8), (EqK.str, 9), (EqK.str, 10)]) x31 x34))) fun x35 =>
          bindO (pickV (getL l22 0) x35 (Value.bool false)) fun x36 =>
          bindO (binV BinOp.add (getL l22 1) (Value.int IntKind.i64 1)) fun x37 =>
          M.ret (Out.norm [x36, x37])) (
          M.ret (Out.exit 2 [(getL l22 0), (getL l22 1)]))) [(getL l18 0), (Value.int IntKind.i64 0)]) fun o39 =>
      outK o39 (fun _ => M.fail) (fun i40 l38 =>
        bif Nat.beq i40 2 then (
          M.bind (loopM (fun l42 =>
            bindO (fieldA 2 x1) fun x43 =>
            M.bind (rdM (ld1 x43)) fun x44 =>
            bindO (lenL x44) fun x45 =>
            bindO (binV BinOp.lss (getL l42 1) x45) fun x46 =>
            condM x46 (
              drewM <|
              getM fun _ =>
              M.bind (guardM (getL l42 0) true (optM (fieldA 2 x1))) fun x48 =>
              M.bind (guardM (getL l42 0) true (rdM (ld1 x48))) fun x49 =>
              M.bind (guardM (getL l42 0) true (M.ret (getL l42 1))) fun x50 =>
              M.bind (guardM (getL l42 0) true (optM (idxA 2 x49 x50))) fun x51 =>
              M.bind (guardM (getL l42 0) true (rdM (ldA 2 x51))) fun x52 =>
              M.bind (guardM (getL l42 0) true (optM (fieldA 6 x1))) fun x53 =>
              M.bind (guardM (getL l42 0) true (rdM (ld1 x53))) fun x54 =>
              M.bind (guardM (getL l42 0) true (F.granarylaw21_own x54)) fun x55 =>
              getM fun W56 =>
              M.bind (guardM (getL l42 0) true (optM (eqV (EqSh.offs [(EqK.str, 0), (EqK.str, 1)]) x52 x55))) fun x57 =>
              bindO (pickV (getL l42 0) x57 (Value.bool false)) fun x58 =>
              reqM ((getL l42 0) = Value.bool true → ld1 x48 W56 = some x49) <|
              reqM ((getL l42 0) = Value.bool true → ldA 2 x51 W56 = some x52) <|
              bindO (binV BinOp.add (getL l42 1) (Value.int IntKind.i64 1)) fun x59 =>
              M.ret (Out.norm [x58, x59])) (
              M.ret (Out.exit 4 [(getL l42 0), (getL l42 1)]))) [(getL l38 0), (Value.int IntKind.i64 0)]) fun o61 =>
          outK o61 (fun _ => M.fail) (fun i62 l60 =>
            bif Nat.beq i62 4 then (
              M.bind (loopM (fun l64 =>
                bindO (fieldA 3 x1) fun x65 =>
                M.bind (rdM (ld1 x65)) fun x66 =>
                bindO (lenL x66) fun x67 =>
                bindO (binV BinOp.lss (getL l64 1) x67) fun x68 =>
                condM x68 (
                  drewM <|
                  getM fun _ =>
                  M.bind (guardM (getL l64 0) true (optM (fieldA 3 x1))) fun x70 =>
                  M.bind (guardM (getL l64 0) true (rdM (ld1 x70))) fun x71 =>
                  M.bind (guardM (getL l64 0) true (M.ret (getL l64 1))) fun x72 =>
                  M.bind (guardM (getL l64 0) true (optM (idxA 2 x71 x72))) fun x73 =>
                  M.bind (guardM (getL l64 0) true (rdM (ldA 2 x73))) fun x74 =>
                  M.bind (guardM (getL l64 0) true (optM (fieldA 6 x1))) fun x75 =>
                  M.bind (guardM (getL l64 0) true (rdM (ld1 x75))) fun x76 =>
                  M.bind (guardM (getL l64 0) true (F.granarylaw21_own x76)) fun x77 =>
                  getM fun W78 =>
                  M.bind (guardM (getL l64 0) true (optM (eqV (EqSh.offs [(EqK.str, 0), (EqK.str, 1)]) x74 x77))) fun x79 =>
                  bindO (pickV (getL l64 0) x79 (Value.bool false)) fun x80 =>
                  reqM ((getL l64 0) = Value.bool true → ld1 x70 W78 = some x71) <|
                  reqM ((getL l64 0) = Value.bool true → ldA 2 x73 W78 = some x74) <|
                  bindO (binV BinOp.add (getL l64 1) (Value.int IntKind.i64 1)) fun x81 =>
                  M.ret (Out.norm [x80, x81])) (
                  M.ret (Out.exit 6 [(getL l64 0), (getL l64 1)]))) [(getL l60 0), (Value.int IntKind.i64 0)]) fun o83 =>
              outK o83 (fun _ => M.fail) (fun i84 l82 =>
                bif Nat.beq i84 6 then (
                  M.bind (loopM (fun l86 =>
                    bindO (fieldA 4 x1) fun x87 =>
                    M.bind (rdM (ld1 x87)) fun x88 =>
                    bindO (lenL x88) fun x89 =>
                    bindO (binV BinOp.lss (getL l86 1) x89) fun x90 =>
                    condM x90 (
                      drewM <|
                      M.bind (guardM (getL l86 0) true (optM (fieldA 4 x1))) fun x91 =>
                      M.bind (guardM (getL l86 0) true (rdM (ld1 x91))) fun x92 =>
                      M.bind (guardM (getL l86 0) true (M.ret (getL l86 1))) fun x93 =>
                      M.bind (guardM (getL l86 0) true (optM (idxA 1 x92 x93))) fun x94 =>
                      M.bind (guardM (getL l86 0) true (rdM (ld1 x94))) fun x95 =>
                      M.bind (guardM (getL l86 0) true (optM (fieldA 6 x1))) fun x96 =>
                      M.bind (guardM (getL l86 0) true (rdM (ld1 x96))) fun x97 =>
                      M.bind (guardM (getL l86 0) true (optM (binV BinOp.eql x95 x97))) fun x98 =>
                      bindO (pickV (getL l86 0) x98 (Value.bool false)) fun x99 =>
                      bindO (binV BinOp.add (getL l86 1) (Value.int IntKind.i64 1)) fun x100 =>
                      M.ret (Out.norm [x99, x100])) (
                      M.ret (Out.exit 8 [(getL l86 0), (getL l86 1)]))) [(getL l82 0), (Value.int IntKind.i64 0)]) fun o102 =>
                  outK o102 (fun _ => M.fail) (fun i103 l101 =>
                    bif Nat.beq i103 8 then (
                      M.bind (loopM (fun l105 =>
                        bindO (fieldA 5 x1) fun x106 =>
                        M.bind (rdM (ld1 x106)) fun x107 =>
                        bindO (lenL x107) fun x108 =>
                        bindO (binV BinOp.lss (getL l105 1) x108) fun x109 =>
                        condM x109 (
                          drewM <|
                          M.bind (guardM (getL l105 0) true (optM (fieldA 5 x1))) fun x110 =>
                          M.bind (guardM (getL l105 0) true (rdM (ld1 x110))) fun x111 =>
                          M.bind (guardM (getL l105 0) true (M.ret (getL l105 1))) fun x112 =>
                          M.bind (guardM (getL l105 0) true (optM (idxA 1 x111 x112))) fun x113 =>
                          M.bind (guardM (getL l105 0) true (rdM (ld1 x113))) fun x114 =>
                          M.bind (guardM (getL l105 0) true (optM (fieldA 6 x1))) fun x115 =>
                          M.bind (guardM (getL l105 0) true (rdM (ld1 x115))) fun x116 =>
                          M.bind (guardM (getL l105 0) true (optM (binV BinOp.eql x114 x116))) fun x117 =>
                          bindO (pickV (getL l105 0) x117 (Value.bool false)) fun x118 =>
                          bindO (binV BinOp.add (getL l105 1) (Value.int IntKind.i64 1)) fun x119 =>
                          M.ret (Out.norm [x118, x119])) (
                          M.ret (Out.exit 10 [(getL l105 0), (getL l105 1)]))) [(getL l101 0), (Value.int IntKind.i64 0)]) fun o121 =>
                      outK o121 (fun _ => M.fail) (fun i122 l120 =>
                        bif Nat.beq i122 10 then (
                          M.ret (getL l120 0)) else
                        M.fail) (fun r123 => M.ret r123)) else
                    M.fail) (fun r104 => M.ret r104)) else
                M.fail) (fun r85 => M.ret r85)) else
            M.fail) (fun r63 => M.ret r63)) else
        M.fail) (fun r41 => M.ret r41)) else
    M.fail) (fun r21 => M.ret r21)
def F.granarylaw21_Held_still.plan : Plan := (seq leaf (seq leaf (seq (seq leaf (body (loop [3, 4] [3, 4, 10, 11, 12, 13, 14, 15, 16, 17, 18, 19, 20, 21, 22, 23, 24, 25, 26, 27, 28] [0] (seq (seq leaf (cond leaf leaf)) (seq (body leaf) leaf))))) (seq (seq leaf (body (loop [3, 5] [3, 5, 29, 30, 31, 32, 33, 34, 35, 36, 37, 38, 39, 40, 41, 42, 43, 44, 45, 46, 47] [2] (seq (seq leaf (cond leaf leaf)) (seq (body leaf) leaf))))) (seq (seq leaf (body (loop [3, 6] [3, 6, 48, 49, 50, 51, 52, 53, 54, 55, 56, 57, 58, 59, 60, 61, 62, 63, 64, 65, 66] [4] (seq (seq leaf (cond leaf leaf)) (seq (body leaf) leaf))))) (seq (seq leaf (body (loop [3, 7] [3, 7, 67, 68, 69, 70, 71, 72, 73, 74, 75, 76, 77, 78, 79, 80, 81, 82, 83, 84, 85] [6] (seq (seq leaf (cond leaf leaf)) (seq (body leaf) leaf))))) (seq (seq leaf (body (loop [3, 8] [3, 8, 86, 87, 88, 89, 90, 91, 92, 93, 94, 95, 96, 97, 98, 99, 100, 101, 102, 103] [8] (seq (seq leaf (cond leaf leaf)) (seq (body leaf) leaf))))) (seq (seq leaf (body (loop [3, 9] [3, 9, 104, 105, 106, 107, 108, 109, 110, 111, 112, 113, 114, 115, 116, 117, 118, 119, 120, 121] [10] (seq (seq leaf (cond leaf leaf)) (seq (body leaf) leaf))))) (seq leaf leaf)))))))))
theorem F.granarylaw21_Held_still.lift : LiftOk Tryd.prog 17 (ap1 F.granarylaw21_Held_still) :=
  lift1 (g := evFn Tryd.prog (tcons 29 (ap1 F.granarylaw21_own) tnil) tnil 17 Tryd.f17 F.granarylaw21_Held_still.plan) (evFn_sound (tcons_ok F.granarylaw21_own.lift tnil_ok) tnil_ok Tryd.func17 (by kernel_rfl)) (fun x0 => by kernel_rfl)

/-- granary/granarylaw21.untouched -/
noncomputable def F.granarylaw21_untouched (a0 a1 : Value) : M Value :=
  M.bind (newM 24 (Value.cells a0)) fun x1 =>
  M.bind (newM 32 #[(Value.pointer none), (Value.pointer none), (Value.slice none 0 0), (Value.slice none 0 0), (Value.pointer none), (Value.pointer none), (Value.slice none 0 0), (Value.slice none 0 0)]) fun x2 =>
  bindO (idxR 2 4 x2 (Value.int IntKind.i64 0)) fun x3 =>
  M.bind (rdM (ldA 23 x1)) fun x4 =>
  M.bind (F.granarylaw21_desk_begins x3 x4) fun x5 =>
  bindO (idxR 2 4 x2 (Value.int IntKind.i64 1)) fun x6 =>
  M.bind (rdM (ldA 23 x1)) fun x7 =>
  M.bind (F.granarylaw21_desk_begins x6 x7) fun x8 =>
  bindO (notV x5) fun x9 =>
  M.bind (guardM x9 false (M.ret x8)) fun x10 =>
  M.bind (guardM x9 false (optM (notV x10))) fun x11 =>
  bindO (pickV x9 (Value.bool true) x11) fun x12 =>
  condM x12 (
    M.ret (Value.bool false)) (
    M.bind (loopM (fun l13 =>
      bindO (lenL a1) fun x14 =>
      bindO (binV BinOp.lss (getL l13 1) x14) fun x15 =>
      condM x15 (
        M.bind (loopM (fun l16 =>
          bindO (binV BinOp.lss (getL l16 1) (Value.int IntKind.i64 2)) fun x17 =>
          condM x17 (
            drewM <|
            bindO (idxR 2 4 x2 (getL l16 1)) fun x18 =>
            bindO (idxA 14 a1 (getL l13 1)) fun x19 =>
            M.bind (rdM (ldA 14 x19)) fun x20 =>
            M.bind (F.granarylaw21_desk_left x18 x20) fun x21 =>
            bindO (extV 0 x21) fun x22 =>
            bindO (extV 1 x21) fun x23 =>
            bindO (notV x23) fun x24 =>
            condM x24 (
              M.ret (Out.ret (Value.bool false))) (
              M.bind (appM 71 6 144 #[(Value.slice none 0 0), (Value.slice none 0 0), (Value.slice none 0 0), (Value.slice none 0 0), (Value.slice none 0 0), (Value.slice none 0 0)] (getL l16 0) x22) fun x25 =>
              bindO (binV BinOp.add (getL l16 1) (Value.int IntKind.i64 1)) fun x26 =>
              M.ret (Out.norm [x25, x26]))) (
            M.ret (Out.exit 2 [(getL l16 0), (getL l16 1)]))) [(getL l13 0), (Value.int IntKind.i64 0)]) fun o28 =>
        outK o28 (fun _ => M.fail) (fun i29 l27 =>
          bif Nat.beq i29 2 then (
            M.bind (loopM (fun l31 =>
              bindO (lenL (getL l27 0)) fun x32 =>
              bindO (binV BinOp.lss (getL l31 0) x32) fun x33 =>
              condM x33 (
                bindO (idxA 6 (getL l27 0) (getL l31 0)) fun x34 =>
                M.bind (rdM (ldA 6 x34)) fun x35 =>
                M.bind (F.granarylaw21_Left_same x35) fun x36 =>
                bindO (notV x36) fun x37 =>
                condM x37 (
                  M.ret (Out.ret (Value.bool false))) (
                  bindO (binV BinOp.add (getL l31 0) (Value.int IntKind.i64 1)) fun x38 =>
                  M.ret (Out.norm [x38]))) (
                M.ret (Out.exit 4 [(getL l31 0)]))) [(Value.int IntKind.i64 0)]) fun o40 =>
            outK o40 (fun _ => M.fail) (fun i41 _ =>
              bif Nat.beq i41 4 then (
                bindO (binV BinOp.add (getL l13 1) (Value.int IntKind.i64 1)) fun x43 =>
                M.ret (Out.norm [(getL l27 0), x43])) else
              M.fail) (fun r42 => M.ret (Out.ret r42))) else
          M.fail) (fun r30 => M.ret (Out.ret r30))) (
        M.ret (Out.exit 0 [(getL l13 0), (getL l13 1)]))) [(Value.slice none 0 0), (Value.int IntKind.i64 0)]) fun o45 =>
    outK o45 (fun _ => M.fail) (fun i46 l44 =>
      bif Nat.beq i46 0 then (
        M.bind (loopM (fun l48 =>
          bindO (lenL (getL l44 0)) fun x49 =>
          bindO (binV BinOp.lss (getL l48 1) x49) fun x50 =>
          condM x50 (
            drewM <|
            bindO (idxA 6 (getL l44 0) (getL l48 1)) fun x51 =>
            bindO (fieldA 0 x51) fun x52 =>
            M.bind (rdM (ld1 x52)) fun x53 =>
            bindO (idxA 6 (getL l44 0) (getL l48 1)) fun x54 =>
            bindO (fieldA 2 x54) fun x55 =>
            M.bind (rdM (ld1 x55)) fun x56 =>
            bindO (idxA 6 (getL l44 0) (getL l48 1)) fun x57 =>
            bindO (fieldA 4 x57) fun x58 =>
            M.bind (rdM (ld1 x58)) fun x59 =>
            bindO (binV BinOp.sub (Value.int IntKind.i64 (-1)) (getL l48 1)) fun x60 =>
            M.bind (F.granarylaw21_marked x53 x56 x59 x60) fun x61 =>
            M.bind (bslM 54 1 (Builtin.zeroCells #[(Value.slice none 0 0), (Value.slice none 0 0), (Value.slice none 0 0), (Value.slice none 0 0), (Value.slice none 0 0), (Value.slice none 0 0), (Value.int IntKind.i64 0)] 1) [(0, 7, x61)]) fun x62 =>
            M.bind (appM 54 7 152 #[(Value.slice none 0 0), (Value.slice none 0 0), (Value.slice none 0 0), (Value.slice none 0 0), (Value.slice none 0 0), (Value.slice none 0 0), (Value.int IntKind.i64 0)] (getL l48 0) x62) fun x63 =>
            bindO (binV BinOp.add (getL l48 1) (Value.int IntKind.i64 1)) fun x64 =>
            M.ret (Out.norm [x63, x64])) (
            M.ret (Out.exit 6 [(getL l48 0), (getL l48 1)]))) [(Value.slice none 0 0), (Value.int IntKind.i64 0)]) fun o66 =>
        outK o66 (fun _ => M.fail) (fun i67 l65 =>
          bif Nat.beq i67 6 then (
            bindO (idxR 2 4 x2 (Value.int IntKind.i64 0)) fun x69 =>
            bindO (buildV #[(Value.int IntKind.i64 0), (Value.int IntKind.i64 0), (Value.int IntKind.i64 0), (Value.int IntKind.i64 0), (Value.int IntKind.i64 0), (Value.int IntKind.i64 0), (Value.int IntKind.i64 0), (Value.int IntKind.i64 0), (Value.int IntKind.i64 0), (Value.int IntKind.i64 0), (Value.int IntKind.i64 0), (Value.int IntKind.i64 0), (Value.string ByteArray.empty), (Value.string ByteArray.empty)] [(0, 1, (Value.int IntKind.i64 5))]) fun x70 =>
            M.bind (F.granarylaw21_desk_plays x69 x70) fun x71 =>
            bindO (idxR 2 4 x2 (Value.int IntKind.i64 1)) fun x72 =>
            bindO (buildV #[(Value.int IntKind.i64 0), (Value.int IntKind.i64 0), (Value.int IntKind.i64 0), (Value.int IntKind.i64 0), (Value.int IntKind.i64 0), (Value.int IntKind.i64 0), (Value.int IntKind.i64 0), (Value.int IntKind.i64 0), (Value.int IntKind.i64 0), (Value.int IntKind.i64 0), (Value.int IntKind.i64 0), (Value.int IntKind.i64 0), (Value.string ByteArray.empty), (Value.string ByteArray.empty)] [(0, 1, (Value.int IntKind.i64 5))]) fun x73 =>
            M.bind (F.granarylaw21_desk_plays x72 x73) fun x74 =>
            M.bind (loopM (fun l75 =>
              bindO (lenL (getL l65 0)) fun x76 =>
              bindO (binV BinOp.lss (getL l75 1) x76) fun x77 =>
              condM x77 (
                bindO (idxA 7 (getL l65 0) (getL l75 1)) fun x78 =>
                M.bind (rdM (ldA 7 x78)) fun x79 =>
                M.bind (F.granarylaw21_Held_still x79) fun x80 =>
                M.bind (guardM (getL l75 0) true (M.ret x80)) fun x81 =>
                bindO (pickV (getL l75 0) x81 (Value.bool false)) fun x82 =>
                bindO (binV BinOp.add (getL l75 1) (Value.int IntKind.i64 1)) fun x83 =>
                M.ret (Out.norm [x82, x83])) (
                M.ret (Out.exit 8 [(getL l75 0), (getL l75 1)]))) [x71, (Value.int IntKind.i64 0)]) fun o85 =>
            outK o85 (fun _ => M.fail) (fun i86 l84 =>
              bif Nat.beq i86 8 then (
                M.bind (guardM (getL l84 0) true (M.ret x74)) fun x88 =>
                bindO (pickV (getL l84 0) x88 (Value.bool false)) fun x89 =>
                M.ret x89) else
              M.fail) (fun r87 => M.ret r87)) else
          M.fail) (fun r68 => M.ret r68)) else
      M.fail) (fun r47 => M.ret r47))
def F.granarylaw21_untouched.plan : Plan := (seq leaf (seq leaf (seq leaf (seq leaf (seq (seq leaf (cond (seq leaf leaf) leaf)) (seq leaf (seq (seq leaf (body (loop [8, 9] [4, 6, 8, 9, 10, 11, 12, 13, 30, 31, 32, 33, 34, 35, 36, 37, 38, 39, 40, 41, 42, 43, 44, 45, 46, 47, 48, 49, 50, 51, 52, 53, 54, 55, 56, 57, 58, 59, 60, 61, 62, 63, 64, 65, 66, 67] [0] (seq (seq leaf (cond leaf leaf)) (seq (body (seq (seq leaf (body (loop [8, 10] [4, 8, 10, 11, 12, 36, 37, 38, 39, 40, 41, 42, 43, 44, 45, 46, 47, 48, 49, 50, 51, 52, 53, 54] [2] (seq (seq leaf (cond leaf leaf)) (seq (body (seq leaf (seq (seq leaf (cond (seq leaf leaf) leaf)) leaf))) leaf))))) (seq leaf (body (loop [13] [4, 6, 13, 55, 56, 57, 58, 59, 60, 61, 62, 63, 64, 65, 66, 67] [4] (seq (seq leaf (cond leaf leaf)) (seq (body (seq leaf (seq leaf (cond (seq leaf leaf) leaf)))) leaf))))))) leaf))))) (seq leaf (seq (seq leaf (body (loop [14, 15] [14, 15, 68, 69, 70, 71, 72, 73, 74, 75, 76, 77, 78, 79, 80, 81, 82, 83, 84, 85, 86, 87, 88, 89, 90, 91, 92, 93, 94] [6] (seq (seq leaf (cond leaf leaf)) (seq (body leaf) leaf))))) (seq leaf (seq leaf (seq (seq leaf (body (loop [6, 16] [6, 16, 17, 101, 102, 103, 104, 105, 106, 107, 108, 109, 110, 111, 112, 113, 114, 115] [8] (seq (seq leaf (cond leaf leaf)) (seq (body (seq leaf leaf)) leaf))))) (seq leaf leaf)))))))))))))
theorem F.granarylaw21_untouched.lift : LiftOk Tryd.prog 11 (ap2 F.granarylaw21_untouched) :=
  lift2 (g := evFn Tryd.prog (tcons 8 (ap2 F.granarylaw21_desk_begins) (tcons 10 (ap2 F.granarylaw21_desk_plays) (tcons 16 (ap4 F.granarylaw21_marked) (tcons 17 (ap1 F.granarylaw21_Held_still) (tcons 25 (ap2 F.granarylaw21_desk_left) (tcons 26 (ap1 F.granarylaw21_Left_same) tnil)))))) tnil 11 Tryd.f11 F.granarylaw21_untouched.plan) (evFn_sound (tcons_ok F.granarylaw21_desk_begins.lift (tcons_ok F.granarylaw21_desk_plays.lift (tcons_ok F.granarylaw21_marked.lift (tcons_ok F.granarylaw21_Held_still.lift (tcons_ok F.granarylaw21_desk_left.lift (tcons_ok F.granarylaw21_Left_same.lift tnil_ok)))))) tnil_ok Tryd.func11 (by kernel_rfl)) (fun x0 x1 => by kernel_rfl)

/-- granary/granarylaw21.ExportOwnLists -/
noncomputable def F.granarylaw21_ExportOwnLists (a0 a1 : Value) : M Value :=
  M.bind (newM 24 (Value.cells a0)) fun x1 =>
  bindO (lenL a1) fun x2 =>
  M.bind (F.granaryref21_Beyond x2) fun x3 =>
  condM x3 (
    M.ret (Value.bool true)) (
    M.bind (newM 31 #[(Value.pointer none), (Value.pointer none), (Value.slice none 0 0), (Value.slice none 0 0)]) fun x4 =>
    M.bind (rdM (ldA 23 x1)) fun x5 =>
    M.bind (F.granarylaw21_desk_begins x4 x5) fun x6 =>
    bindO (notV x6) fun x7 =>
    M.bind (guardM x7 false (rdM (ldA 23 x1))) fun x8 =>
    M.bind (guardM x7 false (M.ret a1)) fun x9 =>
    M.bind (guardM x7 false (F.granarylaw21_untouched x8 x9)) fun x10 =>
    M.bind (guardM x7 false (optM (notV x10))) fun x11 =>
    bindO (pickV x7 (Value.bool true) x11) fun x12 =>
    condM x12 (
      M.ret (Value.bool false)) (
      M.bind (loopM (fun l13 =>
        bindO (lenL a1) fun x14 =>
        bindO (binV BinOp.lss (getL l13 1) x14) fun x15 =>
        condM x15 (
          M.bind (
            bindO (idxA 14 a1 (getL l13 1)) fun x16 =>
            bindO (fieldA 0 x16) fun x17 =>
            M.bind (rdM (ld1 x17)) fun x18 =>
            bindO (binV BinOp.eql x18 (Value.int IntKind.i64 5)) fun x19 =>
            condM x19 (
              bindO (fieldA 0 x4) fun x20 =>
              M.bind (rdM (ld1 x20)) fun x21 =>
              M.bind (F.export_Export_Report x21) fun x22 =>
              bindO (extV 0 x22) fun x23 =>
              bindO (extV 1 x22) fun x24 =>
              M.bind (newM 46 #[(Value.int IntKind.i64 0), (Value.int IntKind.i64 0), (Value.slice none 0 0), (Value.slice none 0 0)]) fun x25 =>
              M.bind (stM 4 x25 x23) fun _ =>
              bindO (fieldA 1 x4) fun x27 =>
              M.bind (rdM (ld1 x27)) fun x28 =>
              M.bind (F.granaryref21_Export_Report x28) fun x29 =>
              bindO (extV 0 x29) fun x30 =>
              bindO (extV 1 x29) fun x31 =>
              M.bind (newM 46 #[(Value.int IntKind.i64 0), (Value.int IntKind.i64 0), (Value.slice none 0 0), (Value.slice none 0 0)]) fun x32 =>
              M.bind (stM 4 x32 x30) fun _ =>
              M.bind (rdM (ldA 4 x25)) fun x34 =>
              M.bind (rdM (ldA 4 x32)) fun x35 =>
              M.bind (F.granarylaw21_sameReport x34 x35) fun x36 =>
              bindO (notV x36) fun x37 =>
              M.bind (guardM x37 false (M.ret x24)) fun x38 =>
              M.bind (guardM x37 false (F.granarylaw21_num x38)) fun x39 =>
              M.bind (guardM x37 false (M.ret x31)) fun x40 =>
              M.bind (guardM x37 false (optM (binV BinOp.neq x39 x40))) fun x41 =>
              bindO (pickV x37 (Value.bool true) x41) fun x42 =>
              condM x42 (
                M.ret (Out.ret (Value.bool false))) (
                bindO (fieldA 2 x25) fun x43 =>
                M.bind (rdM (ld1 x43)) fun x44 =>
                bindO (fieldA 3 x25) fun x45 =>
                M.bind (rdM (ld1 x45)) fun x46 =>
                bindO (binV BinOp.sub (Value.int IntKind.i64 (-1)) (getL l13 1)) fun x47 =>
                M.bind (F.granarylaw21_marked (Value.slice none 0 0) x44 x46 x47) fun x48 =>
                M.bind (bslM 54 1 (Builtin.zeroCells #[(Value.slice none 0 0), (Value.slice none 0 0), (Value.slice none 0 0), (Value.slice none 0 0), (Value.slice none 0 0), (Value.slice none 0 0), (Value.int IntKind.i64 0)] 1) [(0, 7, x48)]) fun x49 =>
                M.bind (appM 54 7 152 #[(Value.slice none 0 0), (Value.slice none 0 0), (Value.slice none 0 0), (Value.slice none 0 0), (Value.slice none 0 0), (Value.slice none 0 0), (Value.int IntKind.i64 0)] (getL l13 0) x49) fun x50 =>
                M.ret (Out.norm [x50]))) (
              bindO (idxA 14 a1 (getL l13 1)) fun x51 =>
              M.bind (rdM (ldA 14 x51)) fun x52 =>
              M.bind (F.granarylaw21_desk_plays x4 x52) fun x53 =>
              bindO (notV x53) fun x54 =>
              M.bind (guardM x54 true (M.ret a1)) fun x55 =>
              M.bind (guardM x54 true (M.ret (getL l13 1))) fun x56 =>
              M.bind (guardM x54 true (optM (idxA 14 x55 x56))) fun x57 =>
              M.bind (guardM x54 true (optM (fieldA 0 x57))) fun x58 =>
              M.bind (guardM x54 true (rdM (ld1 x58))) fun x59 =>
              M.bind (guardM x54 true (optM (binV BinOp.neq x59 (Value.int IntKind.i64 4)))) fun x60 =>
              bindO (pickV x54 x60 (Value.bool false)) fun x61 =>
              condM x61 (
                M.ret (Out.ret (Value.bool false))) (
                bindO (fieldA 3 x4) fun x62 =>
                M.bind (rdM (ld1 x62)) fun x63 =>
                bindO (binV BinOp.sub (Value.int IntKind.i64 (-1)) (getL l13 1)) fun x64 =>
                M.bind (F.granarylaw21_marked x63 (Value.slice none 0 0) (Value.slice none 0 0) x64) fun x65 =>
                M.bind (bslM 54 1 (Builtin.zeroCells #[(Value.slice none 0 0), (Value.slice none 0 0), (Value.slice none 0 0), (Value.slice none 0 0), (Value.slice none 0 0), (Value.slice none 0 0), (Value.int IntKind.i64 0)] 1) [(0, 7, x65)]) fun x66 =>
                M.bind (appM 54 7 152 #[(Value.slice none 0 0), (Value.slice none 0 0), (Value.slice none 0 0), (Value.slice none 0 0), (Value.slice none 0 0), (Value.slice none 0 0), (Value.int IntKind.i64 0)] (getL l13 0) x66) fun x67 =>
                M.ret (Out.norm [x67])))) fun o69 =>
          outK o69 (fun l68 =>
            M.bind (loopM (fun l72 =>
              bindO (lenL (getL l68 0)) fun x73 =>
              bindO (binV BinOp.lss (getL l72 0) x73) fun x74 =>
              condM x74 (
                bindO (idxA 7 (getL l68 0) (getL l72 0)) fun x75 =>
                M.bind (rdM (ldA 7 x75)) fun x76 =>
                M.bind (F.granarylaw21_Held_still x76) fun x77 =>
                bindO (notV x77) fun x78 =>
                condM x78 (
                  M.ret (Out.ret (Value.bool false))) (
                  bindO (binV BinOp.add (getL l72 0) (Value.int IntKind.i64 1)) fun x79 =>
                  M.ret (Out.norm [x79]))) (
                M.ret (Out.exit 2 [(getL l72 0)]))) [(Value.int IntKind.i64 0)]) fun o81 =>
            outK o81 (fun _ => M.fail) (fun i82 _ =>
              bif Nat.beq i82 2 then (
                bindO (binV BinOp.add (getL l13 1) (Value.int IntKind.i64 1)) fun x84 =>
                M.ret (Out.norm [(getL l68 0), x84])) else
              M.fail) (fun r83 => M.ret (Out.ret r83))) (fun _ _ =>
            M.fail) (fun r71 => M.ret (Out.ret r71))) (
          M.ret (Out.exit 0 [(getL l13 0), (getL l13 1)]))) [(Value.slice none 0 0), (Value.int IntKind.i64 0)]) fun o87 =>
      outK o87 (fun _ => M.fail) (fun i88 _ =>
        bif Nat.beq i88 0 then (
          bindO (buildV #[(Value.int IntKind.i64 0), (Value.int IntKind.i64 0), (Value.int IntKind.i64 0), (Value.int IntKind.i64 0), (Value.int IntKind.i64 0), (Value.int IntKind.i64 0), (Value.int IntKind.i64 0), (Value.int IntKind.i64 0), (Value.int IntKind.i64 0), (Value.int IntKind.i64 0), (Value.int IntKind.i64 0), (Value.int IntKind.i64 0), (Value.string ByteArray.empty), (Value.string ByteArray.empty)] [(0, 1, (Value.int IntKind.i64 5))]) fun x90 =>
          M.bind (F.granarylaw21_desk_plays x4 x90) fun x91 =>
          M.bind (guardM x91 true (optM (buildV #[(Value.int IntKind.i64 0), (Value.int IntKind.i64 0), (Value.int IntKind.i64 0), (Value.int IntKind.i64 0), (Value.int IntKind.i64 0), (Value.int IntKind.i64 0), (Value.int IntKind.i64 0), (Value.int IntKind.i64 0), (Value.int IntKind.i64 0), (Value.int IntKind.i64 0), (Value.int IntKind.i64 0), (Value.int IntKind.i64 0), (Value.string ByteArray.empty), (Value.string ByteArray.empty)] [(0, 1, (Value.int IntKind.i64 1)), (2, 1, (Value.int IntKind.i64 3))]))) fun x92 =>
          M.bind (guardM x91 true (F.granarylaw21_desk_plays x4 x92)) fun x93 =>
          bindO (pickV x91 x93 (Value.bool false)) fun x94 =>
          M.ret x94) else
        M.fail) (fun r89 => M.ret r89)))
def F.granarylaw21_ExportOwnLists.plan : Plan := (seq leaf (seq (seq leaf (cond (seq leaf leaf) leaf)) (seq leaf (seq leaf (seq (seq leaf (cond (seq leaf leaf) leaf)) (seq leaf (seq (seq leaf (body (loop [7, 8] [4, 6, 7, 8, 9, 10, 11, 12, 13, 27, 28, 29, 30, 31, 32, 33, 34, 35, 36, 37, 38, 39, 40, 41, 42, 43, 44, 45, 46, 47, 48, 49, 50, 51, 52, 53, 54, 55, 56, 57, 58, 59, 60, 61, 62, 63, 64, 65, 66, 67, 68, 69, 70, 71, 72, 73, 74, 75, 76, 77, 78, 79, 80, 81, 82, 83, 84, 85, 86, 87, 88, 89, 90, 91, 92, 93, 94, 95, 96, 97, 98, 99, 100, 101, 102, 103, 104, 105, 106] [0] (seq (seq leaf (cond leaf leaf)) (seq (body (fork [7] [4, 6, 7, 9, 10, 11, 12, 33, 34, 35, 36, 37, 38, 39, 40, 41, 42, 43, 44, 45, 46, 47, 48, 49, 50, 51, 52, 53, 54, 55, 56, 57, 58, 59, 60, 61, 62, 63, 64, 65, 66, 67, 68, 69, 70, 71, 72, 73, 74, 75, 76, 77, 78, 79, 80, 81, 82, 83, 84, 85, 86, 87, 88, 89, 90, 91, 92, 93] [] (seq leaf (cond (seq leaf (seq leaf (seq (seq leaf (cond (seq leaf leaf) leaf)) leaf))) (seq leaf (seq (seq leaf (cond (seq leaf leaf) leaf)) leaf)))) (seq leaf (body (loop [13] [4, 6, 13, 94, 95, 96, 97, 98, 99, 100, 101, 102, 103, 104, 105, 106] [2] (seq (seq leaf (cond leaf leaf)) (seq (body (seq leaf (seq leaf (cond (seq leaf leaf) leaf)))) leaf))))))) leaf))))) (seq leaf leaf))))))))
theorem F.granarylaw21_ExportOwnLists.lift : LiftOk Tryd.prog 6 (ap2 F.granarylaw21_ExportOwnLists) :=
  lift2 (g := evFn Tryd.prog (tcons 7 (ap1 F.granaryref21_Beyond) (tcons 8 (ap2 F.granarylaw21_desk_begins) (tcons 10 (ap2 F.granarylaw21_desk_plays) (tcons 11 (ap2 F.granarylaw21_untouched) (tcons 12 (ap1 F.export_Export_Report) (tcons 13 (ap1 F.granaryref21_Export_Report) (tcons 14 (ap2 F.granarylaw21_sameReport) (tcons 15 (ap1 F.granarylaw21_num) (tcons 16 (ap4 F.granarylaw21_marked) (tcons 17 (ap1 F.granarylaw21_Held_still) tnil)))))))))) tnil 6 Tryd.f6 F.granarylaw21_ExportOwnLists.plan) (evFn_sound (tcons_ok F.granaryref21_Beyond.lift (tcons_ok F.granarylaw21_desk_begins.lift (tcons_ok F.granarylaw21_desk_plays.lift (tcons_ok F.granarylaw21_untouched.lift (tcons_ok F.export_Export_Report.lift (tcons_ok F.granaryref21_Export_Report.lift (tcons_ok F.granarylaw21_sameReport.lift (tcons_ok F.granarylaw21_num.lift (tcons_ok F.granarylaw21_marked.lift (tcons_ok F.granarylaw21_Held_still.lift tnil_ok)))))))))) tnil_ok Tryd.func6 (by kernel_rfl)) (fun x0 x1 => by kernel_rfl)

end Go.Proofs.YtiggkhmopnhfaaaDoor
