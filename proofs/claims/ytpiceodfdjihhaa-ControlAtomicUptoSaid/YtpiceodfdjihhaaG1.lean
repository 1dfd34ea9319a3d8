/-
  THE FUNCTIONAL FORMS of the functions of this seat's translation, and that each function comes to its form: printed by a program of the prover's own (lift.py).
-/
import Derived.Test.YtpiceodfdjihhaaG0
namespace Go.Proofs.Ytpiceodfdjihhaa
open Go.Lift Go.Lift.Plan
/-- granary/granarylaw15.twin -/
noncomputable def F.granarylaw15_twin (a0 : Value) : M Value :=
  M.bind (newM 26 (Value.cells a0)) fun x1 =>
  M.bind (newM 26 #[(Value.string ByteArray.empty), (Value.int IntKind.i64 0), (Value.int IntKind.i64 0), (Value.int IntKind.i64 0), (Value.int IntKind.i64 0), (Value.int IntKind.i64 0), (Value.int IntKind.i64 0), (Value.int IntKind.i64 0), (Value.int IntKind.i64 0), (Value.int IntKind.i64 0), (Value.int IntKind.i64 0), (Value.int IntKind.i64 0), (Value.int IntKind.i64 0), (Value.int IntKind.i64 0), (Value.int IntKind.i64 0), (Value.int IntKind.i64 0), (Value.int IntKind.i64 0), (Value.int IntKind.i64 0), (Value.int IntKind.i64 0), (Value.int IntKind.i64 0), (Value.int IntKind.i64 0), (Value.int IntKind.i64 0), (Value.slice none 0 0)]) fun x2 =>
  M.bind (loopM (fun l3 =>
    bindO (fieldA 22 x1) fun x4 =>
    M.bind (rdM (ld1 x4)) fun x5 =>
    bindO (lenL x5) fun x6 =>
    bindO (binV BinOp.lss (getL l3 1) x6) fun x7 =>
    condM x7 (
      drewM <|
      getM fun _ =>
      bindO (fieldA 22 x1) fun x9 =>
      M.bind (rdM (ld1 x9)) fun x10 =>
      bindO (idxA 2 x10 (getL l3 1)) fun x11 =>
      bindO (fieldA 0 x11) fun x12 =>
      M.bind (rdM (ld1 x12)) fun x13 =>
      bindO (fieldA 22 x1) fun x14 =>
      M.bind (rdM (ld1 x14)) fun x15 =>
      bindO (idxA 2 x15 (getL l3 1)) fun x16 =>
      bindO (fieldA 1 x16) fun x17 =>
      M.bind (rdM (ld1 x17)) fun x18 =>
      M.bind (appM 3 1 8 #[(Value.int IntKind.i64 0)] (Value.slice none 0 0) x18) fun x19 =>
      getM fun W20 =>
      bindO (buildV #[(Value.int IntKind.i64 0), (Value.slice none 0 0)] [(0, 1, x13), (1, 1, x19)]) fun x21 =>
      M.bind (bslM 81 1 (Builtin.zeroCells #[(Value.int IntKind.i64 0), (Value.slice none 0 0)] 1) [(0, 2, x21)]) fun x22 =>
      getM fun _ =>
      M.bind (appM 81 2 32 #[(Value.int IntKind.i64 0), (Value.slice none 0 0)] (getL l3 0) x22) fun x24 =>
      getM fun _ =>
      reqM (ld1 x9 W20 = some x10) <|
      reqM (ld1 x12 W20 = some x13) <|
      bindO (binV BinOp.add (getL l3 1) (Value.int IntKind.i64 1)) fun x26 =>
      M.ret (Out.norm [x24, x26])) (
      M.ret (Out.exit 0 [(getL l3 0), (getL l3 1)]))) [(Value.slice none 0 0), (Value.int IntKind.i64 0)]) fun o28 =>
  outK o28 (fun _ => M.fail) (fun i29 l27 =>
    bif Nat.beq i29 0 then (
      M.bind (rdM (ldA 23 x1)) fun x31 =>
      M.bind (newM 26 #[(Value.string ByteArray.empty), (Value.int IntKind.i64 0), (Value.int IntKind.i64 0), (Value.int IntKind.i64 0), (Value.int IntKind.i64 0), (Value.int IntKind.i64 0), (Value.int IntKind.i64 0), (Value.int IntKind.i64 0), (Value.int IntKind.i64 0), (Value.int IntKind.i64 0), (Value.int IntKind.i64 0), (Value.int IntKind.i64 0), (Value.int IntKind.i64 0), (Value.int IntKind.i64 0), (Value.int IntKind.i64 0), (Value.int IntKind.i64 0), (Value.int IntKind.i64 0), (Value.int IntKind.i64 0), (Value.int IntKind.i64 0), (Value.int IntKind.i64 0), (Value.int IntKind.i64 0), (Value.int IntKind.i64 0), (Value.slice none 0 0)]) fun x32 =>
      M.bind (stM 23 x32 x31) fun _ =>
      bindO (fieldA 22 x32) fun x34 =>
      M.bind (stM 1 x34 (getL l27 0)) fun _ =>
      M.bind (rdM (ldA 23 x32)) fun x36 =>
      M.bind (stM 23 x2 x36) fun _ =>
      M.bind (rdM (ldA 23 x2)) fun x38 =>
      M.ret x38) else
    M.fail) (fun r30 => M.ret r30)
def F.granarylaw15_twin.plan : Plan := (seq leaf (seq leaf (seq (seq leaf (body (loop [3, 4] [3, 4, 6, 7, 8, 9, 10, 11, 12, 13, 14, 15, 16, 17, 18, 19, 20, 21, 22, 23, 24, 25, 26, 27, 28, 29] [0] (seq (seq leaf (cond leaf leaf)) (seq (body leaf) leaf))))) (seq leaf (seq leaf (seq leaf leaf))))))
theorem F.granarylaw15_twin.lift : LiftOk Try.prog 10 (ap1 F.granarylaw15_twin) :=
  lift1 (g := evFn Try.prog tnil tnil 10 Try.f10 F.granarylaw15_twin.plan) (evFn_sound tnil_ok tnil_ok Try.func10 (by kernel_rfl)) (fun x0 => by kernel_rfl)

/-- granary/ring.nameOK -/
noncomputable def F.ring_nameOK (a0 : Value) : M Value :=
  bindO (lenS a0) fun x1 =>
  bindO (binV BinOp.lss x1 (Value.int IntKind.i64 1)) fun x2 =>
  M.bind (guardM x2 false (M.ret a0)) fun x3 =>
  M.bind (guardM x2 false (optM (lenS x3))) fun x4 =>
  M.bind (guardM x2 false (optM (binV BinOp.gtr x4 (Value.int IntKind.i64 40)))) fun x5 =>
  bindO (pickV x2 (Value.bool true) x5) fun x6 =>
  condM x6 (
    M.ret (Value.bool false)) (
    M.bind (sbM 5 a0) fun x7 =>
    bindO (lenL x7) fun x8 =>
    M.bind (loopM (fun l9 =>
      bindO (binV BinOp.lss (getL l9 0) x8) fun x10 =>
      condM x10 (
        bindO (idxA 1 x7 (getL l9 0)) fun x11 =>
        M.bind (rdM (ld1 x11)) fun x12 =>
        bindO (binV BinOp.leq (Value.int IntKind.u8 97) x12) fun x13 =>
        M.bind (guardM x13 true (M.ret x12)) fun x14 =>
        M.bind (guardM x13 true (optM (binV BinOp.leq x14 (Value.int IntKind.u8 122)))) fun x15 =>
        bindO (pickV x13 x15 (Value.bool false)) fun x16 =>
        bindO (binV BinOp.leq (Value.int IntKind.u8 48) x12) fun x17 =>
        M.bind (guardM x17 true (M.ret x12)) fun x18 =>
        M.bind (guardM x17 true (optM (binV BinOp.leq x18 (Value.int IntKind.u8 57)))) fun x19 =>
        bindO (pickV x17 x19 (Value.bool false)) fun x20 =>
        M.bind (guardM x20 false (M.ret x12)) fun x21 =>
        M.bind (guardM x20 false (optM (binV BinOp.eql x21 (Value.int IntKind.u8 45)))) fun x22 =>
        bindO (pickV x20 (Value.bool true) x22) fun x23 =>
        bindO (notV x16) fun x24 =>
        M.bind (guardM x24 true (M.ret x23)) fun x25 =>
        M.bind (guardM x24 true (optM (notV x25))) fun x26 =>
        M.bind (guardM x24 true (M.ret x26)) fun x27 =>
        M.bind (guardM x27 false (M.ret (getL l9 0))) fun x28 =>
        M.bind (guardM x27 false (optM (binV BinOp.eql x28 (Value.int IntKind.i64 0)))) fun x29 =>
        M.bind (guardM x24 true (optM (pickV x27 (Value.bool true) x29))) fun x30 =>
        bindO (pickV x24 x30 (Value.bool false)) fun x31 =>
        condM x31 (
          M.ret (Out.ret (Value.bool false))) (
          bindO (binV BinOp.add (getL l9 0) (Value.int IntKind.i64 1)) fun x32 =>
          M.ret (Out.norm [x32]))) (
        M.ret (Out.exit 0 [(getL l9 0)]))) [(Value.int IntKind.i64 0)]) fun o34 =>
    outK o34 (fun _ => M.fail) (fun i35 _ =>
      bif Nat.beq i35 0 then (
        M.ret (Value.bool true)) else
      M.fail) (fun r36 => M.ret r36))
def F.ring_nameOK.plan : Plan := (seq leaf (seq (seq leaf (cond (seq leaf leaf) leaf)) (seq (seq leaf (body (loop [18] [2, 3, 4, 5, 6, 18, 19, 20, 21, 22, 23, 24, 25, 26, 27, 28, 29, 30, 31, 32, 33, 34, 35, 36, 37, 38, 39, 40, 41, 42, 43, 44, 45, 46, 47, 48, 49] [0] (seq leaf (seq (cond leaf leaf) (seq (body (seq leaf (seq leaf (seq leaf (seq leaf (cond (seq leaf leaf) leaf)))))) leaf)))))) (seq leaf leaf))))
theorem F.ring_nameOK.lift : LiftOk Try.prog 54 (ap1 F.ring_nameOK) :=
  lift1 (g := evFn Try.prog tnil tnil 54 Try.f54 F.ring_nameOK.plan) (evFn_sound tnil_ok tnil_ok Try.func54 (by kernel_rfl)) (fun x0 => by kernel_rfl)

/-- granary/ring.settings -/
noncomputable def F.ring_settings : M Value :=
  bindO (buildV #[(Value.string ByteArray.empty), (Value.int IntKind.i64 0), (Value.int IntKind.i64 0), Value.nilFunc] [(0, 1, (Value.string (ByteArray.mk #[114, 101, 112, 108, 105, 99, 97, 115]))), (1, 1, (Value.int IntKind.i64 1)), (2, 1, (Value.int IntKind.i64 16)), (3, 1, (Value.func (Fn.func 61) #[] #[]))]) fun x1 =>
  bindO (buildV #[(Value.string ByteArray.empty), (Value.int IntKind.i64 0), (Value.int IntKind.i64 0), Value.nilFunc] [(0, 1, (Value.string (ByteArray.mk #[119, 105, 100, 116, 104]))), (1, 1, (Value.int IntKind.i64 1)), (2, 1, (Value.int IntKind.i64 16)), (3, 1, (Value.func (Fn.func 62) #[] #[]))]) fun x2 =>
  bindO (buildV #[(Value.string ByteArray.empty), (Value.int IntKind.i64 0), (Value.int IntKind.i64 0), Value.nilFunc] [(0, 1, (Value.string (ByteArray.mk #[99, 104, 117, 110, 107, 115]))), (1, 1, (Value.int IntKind.i64 1)), (2, 1, (Value.int IntKind.i64 16)), (3, 1, (Value.func (Fn.func 63) #[] #[]))]) fun x3 =>
  bindO (buildV #[(Value.string ByteArray.empty), (Value.int IntKind.i64 0), (Value.int IntKind.i64 0), Value.nilFunc] [(0, 1, (Value.string (ByteArray.mk #[114, 101, 116, 97, 105, 110]))), (1, 1, (Value.int IntKind.i64 1)), (2, 1, (Value.int IntKind.i64 8)), (3, 1, (Value.func (Fn.func 64) #[] #[]))]) fun x4 =>
  bindO (buildV #[(Value.string ByteArray.empty), (Value.int IntKind.i64 0), (Value.int IntKind.i64 0), Value.nilFunc] [(0, 1, (Value.string (ByteArray.mk #[98, 108, 111, 99, 107]))), (1, 1, (Value.int IntKind.i64 1)), (2, 1, (Value.int IntKind.i64 4096)), (3, 1, (Value.func (Fn.func 65) #[] #[]))]) fun x5 =>
  bindO (buildV #[(Value.string ByteArray.empty), (Value.int IntKind.i64 0), (Value.int IntKind.i64 0), Value.nilFunc] [(0, 1, (Value.string (ByteArray.mk #[114, 97, 116, 101]))), (1, 1, (Value.int IntKind.i64 1)), (2, 1, (Value.int IntKind.i64 65536)), (3, 1, (Value.func (Fn.func 66) #[] #[]))]) fun x6 =>
  bindO (buildV #[(Value.string ByteArray.empty), (Value.int IntKind.i64 0), (Value.int IntKind.i64 0), Value.nilFunc] [(0, 1, (Value.string (ByteArray.mk #[112, 101, 114]))), (1, 1, (Value.int IntKind.i64 1)), (2, 1, (Value.int IntKind.i64 1024)), (3, 1, (Value.func (Fn.func 67) #[] #[]))]) fun x7 =>
  bindO (buildV #[(Value.string ByteArray.empty), (Value.int IntKind.i64 0), (Value.int IntKind.i64 0), Value.nilFunc] [(0, 1, (Value.string (ByteArray.mk #[98, 117, 114, 115, 116]))), (1, 1, (Value.int IntKind.i64 1)), (2, 1, (Value.int IntKind.i64 65536)), (3, 1, (Value.func (Fn.func 68) #[] #[]))]) fun x8 =>
  bindO (buildV #[(Value.string ByteArray.empty), (Value.int IntKind.i64 0), (Value.int IntKind.i64 0), Value.nilFunc] [(0, 1, (Value.string (ByteArray.mk #[116, 114, 105, 101, 115]))), (1, 1, (Value.int IntKind.i64 1)), (2, 1, (Value.int IntKind.i64 64)), (3, 1, (Value.func (Fn.func 69) #[] #[]))]) fun x9 =>
  bindO (buildV #[(Value.string ByteArray.empty), (Value.int IntKind.i64 0), (Value.int IntKind.i64 0), Value.nilFunc] [(0, 1, (Value.string (ByteArray.mk #[98, 97, 115, 101]))), (1, 1, (Value.int IntKind.i64 1)), (2, 1, (Value.int IntKind.i64 1024)), (3, 1, (Value.func (Fn.func 70) #[] #[]))]) fun x10 =>
  bindO (buildV #[(Value.string ByteArray.empty), (Value.int IntKind.i64 0), (Value.int IntKind.i64 0), Value.nilFunc] [(0, 1, (Value.string (ByteArray.mk #[109, 111, 115, 116]))), (1, 1, (Value.int IntKind.i64 1)), (2, 1, (Value.int IntKind.i64 1024)), (3, 1, (Value.func (Fn.func 71) #[] #[]))]) fun x11 =>
  bindO (buildV #[(Value.string ByteArray.empty), (Value.int IntKind.i64 0), (Value.int IntKind.i64 0), Value.nilFunc] [(0, 1, (Value.string (ByteArray.mk #[113, 117, 111, 116, 97]))), (1, 1, (Value.int IntKind.i64 1)), (2, 1, (Value.int IntKind.i64 1073741824)), (3, 1, (Value.func (Fn.func 72) #[] #[]))]) fun x12 =>
  bindO (buildV #[(Value.string ByteArray.empty), (Value.int IntKind.i64 0), (Value.int IntKind.i64 0), Value.nilFunc] [(0, 1, (Value.string (ByteArray.mk #[114, 111, 111, 109]))), (1, 1, (Value.int IntKind.i64 1)), (2, 1, (Value.int IntKind.i64 1073741824)), (3, 1, (Value.func (Fn.func 73) #[] #[]))]) fun x13 =>
  bindO (buildV #[(Value.string ByteArray.empty), (Value.int IntKind.i64 0), (Value.int IntKind.i64 0), Value.nilFunc] [(0, 1, (Value.string (ByteArray.mk #[100, 101, 112, 111, 116]))), (1, 1, (Value.int IntKind.i64 1)), (2, 1, (Value.int IntKind.i64 1073741824)), (3, 1, (Value.func (Fn.func 74) #[] #[]))]) fun x14 =>
  bindO (buildV #[(Value.string ByteArray.empty), (Value.int IntKind.i64 0), (Value.int IntKind.i64 0), Value.nilFunc] [(0, 1, (Value.string (ByteArray.mk #[114, 101, 115, 101, 110, 100]))), (1, 1, (Value.int IntKind.i64 1)), (2, 1, (Value.int IntKind.i64 1024)), (3, 1, (Value.func (Fn.func 75) #[] #[]))]) fun x15 =>
  bindO (buildV #[(Value.string ByteArray.empty), (Value.int IntKind.i64 0), (Value.int IntKind.i64 0), Value.nilFunc] [(0, 1, (Value.string (ByteArray.mk #[108, 105, 109, 105, 116]))), (1, 1, (Value.int IntKind.i64 1)), (2, 1, (Value.int IntKind.i64 64)), (3, 1, (Value.func (Fn.func 76) #[] #[]))]) fun x16 =>
  bindO (buildV #[(Value.string ByteArray.empty), (Value.int IntKind.i64 0), (Value.int IntKind.i64 0), Value.nilFunc] [(0, 1, (Value.string (ByteArray.mk #[112, 97, 116, 105, 101, 110, 99, 101]))), (1, 1, (Value.int IntKind.i64 1)), (2, 1, (Value.int IntKind.i64 65536)), (3, 1, (Value.func (Fn.func 77) #[] #[]))]) fun x17 =>
  bindO (buildV #[(Value.string ByteArray.empty), (Value.int IntKind.i64 0), (Value.int IntKind.i64 0), Value.nilFunc] [(0, 1, (Value.string (ByteArray.mk #[103, 101, 116, 119, 97, 105, 116]))), (1, 1, (Value.int IntKind.i64 1)), (2, 1, (Value.int IntKind.i64 1024)), (3, 1, (Value.func (Fn.func 78) #[] #[]))]) fun x18 =>
  bindO (buildV #[(Value.string ByteArray.empty), (Value.int IntKind.i64 0), (Value.int IntKind.i64 0), Value.nilFunc] [(0, 1, (Value.string (ByteArray.mk #[115, 116, 114, 105, 107, 101, 115]))), (1, 1, (Value.int IntKind.i64 1)), (2, 1, (Value.int IntKind.i64 64)), (3, 1, (Value.func (Fn.func 79) #[] #[]))]) fun x19 =>
  bindO (buildV #[(Value.string ByteArray.empty), (Value.int IntKind.i64 0), (Value.int IntKind.i64 0), Value.nilFunc] [(0, 1, (Value.string (ByteArray.mk #[98, 97, 110]))), (1, 1, (Value.int IntKind.i64 1)), (2, 1, (Value.int IntKind.i64 1024)), (3, 1, (Value.func (Fn.func 80) #[] #[]))]) fun x20 =>
  bindO (buildV #[(Value.string ByteArray.empty), (Value.int IntKind.i64 0), (Value.int IntKind.i64 0), Value.nilFunc] [(0, 1, (Value.string (ByteArray.mk #[104, 111, 109, 101]))), (1, 1, (Value.int IntKind.i64 0)), (2, 1, (Value.int IntKind.i64 7)), (3, 1, (Value.func (Fn.func 81) #[] #[]))]) fun x21 =>
  M.bind (bslM 130 21 (Builtin.zeroCells #[(Value.string ByteArray.empty), (Value.int IntKind.i64 0), (Value.int IntKind.i64 0), Value.nilFunc] 21) [(0, 4, x1), (4, 4, x2), (8, 4, x3), (12, 4, x4), (16, 4, x5), (20, 4, x6), (24, 4, x7), (28, 4, x8), (32, 4, x9), (36, 4, x10), (40, 4, x11), (44, 4, x12), (48, 4, x13), (52, 4, x14), (56, 4, x15), (60, 4, x16), (64, 4, x17), (68, 4, x18), (72, 4, x19), (76, 4, x20), (80, 4, x21)]) fun x22 =>
  M.ret x22
def F.ring_settings.plan : Plan := (seq leaf (seq leaf leaf))
theorem F.ring_settings.lift : LiftOk Try.prog 55 (ap0 F.ring_settings) :=
  lift0 (g := evFn Try.prog tnil tnil 55 Try.f55 F.ring_settings.plan) (evFn_sound tnil_ok tnil_ok Try.func55 (by kernel_rfl)) (by kernel_rfl)

/-- granary/ring.settings$1 -/
noncomputable def F.ring_settings_1 (a0 : Value) : M Value :=
  bindO (nilChk a0) fun x1 =>
  bindO (fieldA 1 x1) fun x2 =>
  M.ret x2
def F.ring_settings_1.plan : Plan := (seq leaf (seq leaf leaf))
theorem F.ring_settings_1.lift : LiftOk Try.prog 61 (ap1 F.ring_settings_1) :=
  lift1 (g := evFn Try.prog tnil tnil 61 Try.f61 F.ring_settings_1.plan) (evFn_sound tnil_ok tnil_ok Try.func61 (by kernel_rfl)) (fun x0 => by kernel_rfl)

/-- granary/ring.settings$2 -/
noncomputable def F.ring_settings_2 (a0 : Value) : M Value :=
  bindO (nilChk a0) fun x1 =>
  bindO (fieldA 2 x1) fun x2 =>
  M.ret x2
def F.ring_settings_2.plan : Plan := (seq leaf (seq leaf leaf))
theorem F.ring_settings_2.lift : LiftOk Try.prog 62 (ap1 F.ring_settings_2) :=
  lift1 (g := evFn Try.prog tnil tnil 62 Try.f62 F.ring_settings_2.plan) (evFn_sound tnil_ok tnil_ok Try.func62 (by kernel_rfl)) (fun x0 => by kernel_rfl)

/-- granary/ring.settings$3 -/
noncomputable def F.ring_settings_3 (a0 : Value) : M Value :=
  bindO (nilChk a0) fun x1 =>
  bindO (fieldA 3 x1) fun x2 =>
  M.ret x2
def F.ring_settings_3.plan : Plan := (seq leaf (seq leaf leaf))
theorem F.ring_settings_3.lift : LiftOk Try.prog 63 (ap1 F.ring_settings_3) :=
  lift1 (g := evFn Try.prog tnil tnil 63 Try.f63 F.ring_settings_3.plan) (evFn_sound tnil_ok tnil_ok Try.func63 (by kernel_rfl)) (fun x0 => by kernel_rfl)

/-- granary/ring.settings$4 -/
noncomputable def F.ring_settings_4 (a0 : Value) : M Value :=
  bindO (nilChk a0) fun x1 =>
  bindO (fieldA 4 x1) fun x2 =>
  M.ret x2
def F.ring_settings_4.plan : Plan := (seq leaf (seq leaf leaf))
theorem F.ring_settings_4.lift : LiftOk Try.prog 64 (ap1 F.ring_settings_4) :=
  lift1 (g := evFn Try.prog tnil tnil 64 Try.f64 F.ring_settings_4.plan) (evFn_sound tnil_ok tnil_ok Try.func64 (by kernel_rfl)) (fun x0 => by kernel_rfl)

/-- granary/ring.settings$5 -/
noncomputable def F.ring_settings_5 (a0 : Value) : M Value :=
  bindO (nilChk a0) fun x1 =>
  bindO (fieldA 5 x1) fun x2 =>
  M.ret x2
def F.ring_settings_5.plan : Plan := (seq leaf (seq leaf leaf))
theorem F.ring_settings_5.lift : LiftOk Try.prog 65 (ap1 F.ring_settings_5) :=
  lift1 (g := evFn Try.prog tnil tnil 65 Try.f65 F.ring_settings_5.plan) (evFn_sound tnil_ok tnil_ok Try.func65 (by kernel_rfl)) (fun x0 => by kernel_rfl)

/-- granary/ring.settings$6 -/
noncomputable def F.ring_settings_6 (a0 : Value) : M Value :=
  bindO (nilChk a0) fun x1 =>
  bindO (fieldA 6 x1) fun x2 =>
  M.ret x2
def F.ring_settings_6.plan : Plan := (seq leaf (seq leaf leaf))
theorem F.ring_settings_6.lift : LiftOk Try.prog 66 (ap1 F.ring_settings_6) :=
  lift1 (g := evFn Try.prog tnil tnil 66 Try.f66 F.ring_settings_6.plan) (evFn_sound tnil_ok tnil_ok Try.func66 (by kernel_rfl)) (fun x0 => by kernel_rfl)

/-- granary/ring.settings$7 -/
noncomputable def F.ring_settings_7 (a0 : Value) : M Value :=
  bindO (nilChk a0) fun x1 =>
  bindO (fieldA 7 x1) fun x2 =>
  M.ret x2
def F.ring_settings_7.plan : Plan := (seq leaf (seq leaf leaf))
theorem F.ring_settings_7.lift : LiftOk Try.prog 67 (ap1 F.ring_settings_7) :=
  lift1 (g := evFn Try.prog tnil tnil 67 Try.f67 F.ring_settings_7.plan) (evFn_sound tnil_ok tnil_ok Try.func67 (by kernel_rfl)) (fun x0 => by kernel_rfl)

/-- granary/ring.settings$8 -/
noncomputable def F.ring_settings_8 (a0 : Value) : M Value :=
  bindO (nilChk a0) fun x1 =>
  bindO (fieldA 8 x1) fun x2 =>
  M.ret x2
def F.ring_settings_8.plan : Plan := (seq leaf (seq leaf leaf))
theorem F.ring_settings_8.lift : LiftOk Try.prog 68 (ap1 F.ring_settings_8) :=
  lift1 (g := evFn Try.prog tnil tnil 68 Try.f68 F.ring_settings_8.plan) (evFn_sound tnil_ok tnil_ok Try.func68 (by kernel_rfl)) (fun x0 => by kernel_rfl)

/-- granary/ring.settings$9 -/
noncomputable def F.ring_settings_9 (a0 : Value) : M Value :=
  bindO (nilChk a0) fun x1 =>
  bindO (fieldA 9 x1) fun x2 =>
  M.ret x2
def F.ring_settings_9.plan : Plan := (seq leaf (seq leaf leaf))
theorem F.ring_settings_9.lift : LiftOk Try.prog 69 (ap1 F.ring_settings_9) :=
  lift1 (g := evFn Try.prog tnil tnil 69 Try.f69 F.ring_settings_9.plan) (evFn_sound tnil_ok tnil_ok Try.func69 (by kernel_rfl)) (fun x0 => by kernel_rfl)

/-- granary/ring.settings$10 -/
noncomputable def F.ring_settings_10 (a0 : Value) : M Value :=
  bindO (nilChk a0) fun x1 =>
  bindO (fieldA 10 x1) fun x2 =>
  M.ret x2
def F.ring_settings_10.plan : Plan := (seq leaf (seq leaf leaf))
theorem F.ring_settings_10.lift : LiftOk Try.prog 70 (ap1 F.ring_settings_10) :=
  lift1 (g := evFn Try.prog tnil tnil 70 Try.f70 F.ring_settings_10.plan) (evFn_sound tnil_ok tnil_ok Try.func70 (by kernel_rfl)) (fun x0 => by kernel_rfl)

/-- granary/ring.settings$11 -/
noncomputable def F.ring_settings_11 (a0 : Value) : M Value :=
  bindO (nilChk a0) fun x1 =>
  bindO (fieldA 11 x1) fun x2 =>
  M.ret x2
def F.ring_settings_11.plan : Plan := (seq leaf (seq leaf leaf))
theorem F.ring_settings_11.lift : LiftOk Try.prog 71 (ap1 F.ring_settings_11) :=
  lift1 (g := evFn Try.prog tnil tnil 71 Try.f71 F.ring_settings_11.plan) (evFn_sound tnil_ok tnil_ok Try.func71 (by kernel_rfl)) (fun x0 => by kernel_rfl)

/-- granary/ring.settings$12 -/
noncomputable def F.ring_settings_12 (a0 : Value) : M Value :=
  bindO (nilChk a0) fun x1 =>
  bindO (fieldA 12 x1) fun x2 =>
  M.ret x2
def F.ring_settings_12.plan : Plan := (seq leaf (seq leaf leaf))
theorem F.ring_settings_12.lift : LiftOk Try.prog 72 (ap1 F.ring_settings_12) :=
  lift1 (g := evFn Try.prog tnil tnil 72 Try.f72 F.ring_settings_12.plan) (evFn_sound tnil_ok tnil_ok Try.func72 (by kernel_rfl)) (fun x0 => by kernel_rfl)

/-- granary/ring.settings$13 -/
noncomputable def F.ring_settings_13 (a0 : Value) : M Value :=
  bindO (nilChk a0) fun x1 =>
  bindO (fieldA 13 x1) fun x2 =>
  M.ret x2
def F.ring_settings_13.plan : Plan := (seq leaf (seq leaf leaf))
theorem F.ring_settings_13.lift : LiftOk Try.prog 73 (ap1 F.ring_settings_13) :=
  lift1 (g := evFn Try.prog tnil tnil 73 Try.f73 F.ring_settings_13.plan) (evFn_sound tnil_ok tnil_ok Try.func73 (by kernel_rfl)) (fun x0 => by kernel_rfl)

/-- granary/ring.settings$14 -/
noncomputable def F.ring_settings_14 (a0 : Value) : M Value :=
  bindO (nilChk a0) fun x1 =>
  bindO (fieldA 14 x1) fun x2 =>
  M.ret x2
def F.ring_settings_14.plan : Plan := (seq leaf (seq leaf leaf))
theorem F.ring_settings_14.lift : LiftOk Try.prog 74 (ap1 F.ring_settings_14) :=
  lift1 (g := evFn Try.prog tnil tnil 74 Try.f74 F.ring_settings_14.plan) (evFn_sound tnil_ok tnil_ok Try.func74 (by kernel_rfl)) (fun x0 => by kernel_rfl)

/-- granary/ring.settings$15 -/
noncomputable def F.ring_settings_15 (a0 : Value) : M Value :=
  bindO (nilChk a0) fun x1 =>
  bindO (fieldA 15 x1) fun x2 =>
  M.ret x2
def F.ring_settings_15.plan : Plan := (seq leaf (seq leaf leaf))
theorem F.ring_settings_15.lift : LiftOk Try.prog 75 (ap1 F.ring_settings_15) :=
  lift1 (g := evFn Try.prog tnil tnil 75 Try.f75 F.ring_settings_15.plan) (evFn_sound tnil_ok tnil_ok Try.func75 (by kernel_rfl)) (fun x0 => by kernel_rfl)

/-- granary/ring.settings$16 -/
noncomputable def F.ring_settings_16 (a0 : Value) : M Value :=
  bindO (nilChk a0) fun x1 =>
  bindO (fieldA 16 x1) fun x2 =>
  M.ret x2
def F.ring_settings_16.plan : Plan := (seq leaf (seq leaf leaf))
theorem F.ring_settings_16.lift : LiftOk Try.prog 76 (ap1 F.ring_settings_16) :=
  lift1 (g := evFn Try.prog tnil tnil 76 Try.f76 F.ring_settings_16.plan) (evFn_sound tnil_ok tnil_ok Try.func76 (by kernel_rfl)) (fun x0 => by kernel_rfl)

/-- granary/ring.settings$17 -/
noncomputable def F.ring_settings_17 (a0 : Value) : M Value :=
  bindO (nilChk a0) fun x1 =>
  bindO (fieldA 17 x1) fun x2 =>
  M.ret x2
def F.ring_settings_17.plan : Plan := (seq leaf (seq leaf leaf))
theorem F.ring_settings_17.lift : LiftOk Try.prog 77 (ap1 F.ring_settings_17) :=
  lift1 (g := evFn Try.prog tnil tnil 77 Try.f77 F.ring_settings_17.plan) (evFn_sound tnil_ok tnil_ok Try.func77 (by kernel_rfl)) (fun x0 => by kernel_rfl)

/-- granary/ring.settings$18 -/
noncomputable def F.ring_settings_18 (a0 : Value) : M Value :=
  bindO (nilChk a0) fun x1 =>
  bindO (fieldA 18 x1) fun x2 =>
  M.ret x2
def F.ring_settings_18.plan : Plan := (seq leaf (seq leaf leaf))
theorem F.ring_settings_18.lift : LiftOk Try.prog 78 (ap1 F.ring_settings_18) :=
  lift1 (g := evFn Try.prog tnil tnil 78 Try.f78 F.ring_settings_18.plan) (evFn_sound tnil_ok tnil_ok Try.func78 (by kernel_rfl)) (fun x0 => by kernel_rfl)

/-- granary/ring.settings$19 -/
noncomputable def F.ring_settings_19 (a0 : Value) : M Value :=
  bindO (nilChk a0) fun x1 =>
  bindO (fieldA 19 x1) fun x2 =>
  M.ret x2
def F.ring_settings_19.plan : Plan := (seq leaf (seq leaf leaf))
theorem F.ring_settings_19.lift : LiftOk Try.prog 79 (ap1 F.ring_settings_19) :=
  lift1 (g := evFn Try.prog tnil tnil 79 Try.f79 F.ring_settings_19.plan) (evFn_sound tnil_ok tnil_ok Try.func79 (by kernel_rfl)) (fun x0 => by kernel_rfl)

/-- granary/ring.settings$20 -/
noncomputable def F.ring_settings_20 (a0 : Value) : M Value :=
  bindO (nilChk a0) fun x1 =>
  bindO (fieldA 20 x1) fun x2 =>
  M.ret x2
def F.ring_settings_20.plan : Plan := (seq leaf (seq leaf leaf))
theorem F.ring_settings_20.lift : LiftOk Try.prog 80 (ap1 F.ring_settings_20) :=
  lift1 (g := evFn Try.prog tnil tnil 80 Try.f80 F.ring_settings_20.plan) (evFn_sound tnil_ok tnil_ok Try.func80 (by kernel_rfl)) (fun x0 => by kernel_rfl)

/-- granary/ring.settings$21 -/
noncomputable def F.ring_settings_21 (a0 : Value) : M Value :=
  bindO (nilChk a0) fun x1 =>
  bindO (fieldA 21 x1) fun x2 =>
  M.ret x2
def F.ring_settings_21.plan : Plan := (seq leaf (seq leaf leaf))
theorem F.ring_settings_21.lift : LiftOk Try.prog 81 (ap1 F.ring_settings_21) :=
  lift1 (g := evFn Try.prog tnil tnil 81 Try.f81 F.ring_settings_21.plan) (evFn_sound tnil_ok tnil_ok Try.func81 (by kernel_rfl)) (fun x0 => by kernel_rfl)

/-- What function values come to. -/
noncomputable def F.clos : Tab := (tcons 61 (ap1 F.ring_settings_1) (tcons 62 (ap1 F.ring_settings_2) (tcons 63 (ap1 F.ring_settings_3) (tcons 64 (ap1 F.ring_settings_4) (tcons 65 (ap1 F.ring_settings_5) (tcons 66 (ap1 F.ring_settings_6) (tcons 67 (ap1 F.ring_settings_7) (tcons 68 (ap1 F.ring_settings_8) (tcons 69 (ap1 F.ring_settings_9) (tcons 70 (ap1 F.ring_settings_10) (tcons 71 (ap1 F.ring_settings_11) (tcons 72 (ap1 F.ring_settings_12) (tcons 73 (ap1 F.ring_settings_13) (tcons 74 (ap1 F.ring_settings_14) (tcons 75 (ap1 F.ring_settings_15) (tcons 76 (ap1 F.ring_settings_16) (tcons 77 (ap1 F.ring_settings_17) (tcons 78 (ap1 F.ring_settings_18) (tcons 79 (ap1 F.ring_settings_19) (tcons 80 (ap1 F.ring_settings_20) (tcons 81 (ap1 F.ring_settings_21) tnil)))))))))))))))))))))
theorem F.clos_ok : TabOk Try.prog F.clos := (tcons_ok F.ring_settings_1.lift (tcons_ok F.ring_settings_2.lift (tcons_ok F.ring_settings_3.lift (tcons_ok F.ring_settings_4.lift (tcons_ok F.ring_settings_5.lift (tcons_ok F.ring_settings_6.lift (tcons_ok F.ring_settings_7.lift (tcons_ok F.ring_settings_8.lift (tcons_ok F.ring_settings_9.lift (tcons_ok F.ring_settings_10.lift (tcons_ok F.ring_settings_11.lift (tcons_ok F.ring_settings_12.lift (tcons_ok F.ring_settings_13.lift (tcons_ok F.ring_settings_14.lift (tcons_ok F.ring_settings_15.lift (tcons_ok F.ring_settings_16.lift (tcons_ok F.ring_settings_17.lift (tcons_ok F.ring_settings_18.lift (tcons_ok F.ring_settings_19.lift (tcons_ok F.ring_settings_20.lift (tcons_ok F.ring_settings_21.lift tnil_ok)))))))))))))))))))))

/-- granary/ring.within -/
noncomputable def F.ring_within (a0 a1 a2 : Value) : M Value :=
  bindO (binV BinOp.leq a1 a0) fun x1 =>
  M.bind (guardM x1 true (M.ret a0)) fun x2 =>
  M.bind (guardM x1 true (M.ret a2)) fun x3 =>
  M.bind (guardM x1 true (optM (binV BinOp.leq x2 x3))) fun x4 =>
  bindO (pickV x1 x4 (Value.bool false)) fun x5 =>
  M.ret x5
def F.ring_within.plan : Plan := (seq leaf (seq leaf leaf))
theorem F.ring_within.lift : LiftOk Try.prog 56 (ap3 F.ring_within) :=
  lift3 (g := evFn Try.prog tnil tnil 56 Try.f56 F.ring_within.plan) (evFn_sound tnil_ok tnil_ok Try.func56 (by kernel_rfl)) (fun x0 x1 x2 => by kernel_rfl)

/-- cmp.isNaN[int] -/
noncomputable def F.cmp_isNaN_inst (a0 : Value) : M Value :=
  bindO (binV BinOp.neq a0 a0) fun x1 =>
  M.ret x1
def F.cmp_isNaN_inst.plan : Plan := (seq leaf (seq leaf leaf))
theorem F.cmp_isNaN_inst.lift : LiftOk Try.prog 85 (ap1 F.cmp_isNaN_inst) :=
  lift1 (g := evFn Try.prog tnil tnil 85 Try.f85 F.cmp_isNaN_inst.plan) (evFn_sound tnil_ok tnil_ok Try.func85 (by kernel_rfl)) (fun x0 => by kernel_rfl)

/-- cmp.Less[int] -/
noncomputable def F.cmp_Less_inst (a0 a1 : Value) : M Value :=
  M.bind (F.cmp_isNaN_inst a0) fun x1 =>
  M.bind (guardM x1 true (M.ret a1)) fun x2 =>
  M.bind (guardM x1 true (F.cmp_isNaN_inst x2)) fun x3 =>
  M.bind (guardM x1 true (optM (notV x3))) fun x4 =>
  bindO (pickV x1 x4 (Value.bool false)) fun x5 =>
  M.bind (guardM x5 false (M.ret a0)) fun x6 =>
  M.bind (guardM x5 false (M.ret a1)) fun x7 =>
  M.bind (guardM x5 false (optM (binV BinOp.lss x6 x7))) fun x8 =>
  bindO (pickV x5 (Value.bool true) x8) fun x9 =>
  M.ret x9
def F.cmp_Less_inst.plan : Plan := (seq leaf (seq leaf leaf))
theorem F.cmp_Less_inst.lift : LiftOk Try.prog 84 (ap2 F.cmp_Less_inst) :=
  lift2 (g := evFn Try.prog (tcons 85 (ap1 F.cmp_isNaN_inst) tnil) tnil 84 Try.f84 F.cmp_Less_inst.plan) (evFn_sound (tcons_ok F.cmp_isNaN_inst.lift tnil_ok) tnil_ok Try.func84 (by kernel_rfl)) (fun x0 x1 => by kernel_rfl)

/-- slices.IsSorted[[]int,int] -/
noncomputable def F.slices_IsSorted_inst (a0 : Value) : M Value :=
  bindO (lenL a0) fun x1 =>
  bindO (binV BinOp.sub x1 (Value.int IntKind.i64 1)) fun x2 =>
  M.bind (loopM (fun l3 =>
    bindO (binV BinOp.gtr (getL l3 0) (Value.int IntKind.i64 0)) fun x4 =>
    condM x4 (
      drewM <|
      bindO (idxA 1 a0 (getL l3 0)) fun x5 =>
      M.bind (rdM (ld1 x5)) fun x6 =>
      bindO (binV BinOp.sub (getL l3 0) (Value.int IntKind.i64 1)) fun x7 =>
      bindO (idxA 1 a0 x7) fun x8 =>
      M.bind (rdM (ld1 x8)) fun x9 =>
      M.bind (F.cmp_Less_inst x6 x9) fun x10 =>
      condM x10 (
        M.ret (Out.ret (Value.bool false))) (
        bindO (binV BinOp.sub (getL l3 0) (Value.int IntKind.i64 1)) fun x11 =>
        M.ret (Out.norm [x11]))) (
      M.ret (Out.exit 0 [(getL l3 0)]))) [x2]) fun o13 =>
  outK o13 (fun _ => M.fail) (fun i14 _ =>
    bif Nat.beq i14 0 then (
      M.ret (Value.bool true)) else
    M.fail) (fun r15 => M.ret r15)
def F.slices_IsSorted_inst.plan : Plan := (seq leaf (seq (seq leaf (body (loop [3] [2, 3, 7, 8, 9, 10, 11, 12, 13, 14, 15, 16, 17, 18, 19, 20] [0] (seq (seq leaf (cond leaf leaf)) (seq (body (seq leaf (cond (seq leaf leaf) leaf))) leaf))))) (seq leaf leaf)))
theorem F.slices_IsSorted_inst.lift : LiftOk Try.prog 83 (ap1 F.slices_IsSorted_inst) :=
  lift1 (g := evFn Try.prog (tcons 84 (ap2 F.cmp_Less_inst) tnil) tnil 83 Try.f83 F.slices_IsSorted_inst.plan) (evFn_sound (tcons_ok F.cmp_Less_inst.lift tnil_ok) tnil_ok Try.func83 (by kernel_rfl)) (fun x0 => by kernel_rfl)

/-- sort.IntsAreSorted -/
noncomputable def F.sort_IntsAreSorted (a0 : Value) : M Value :=
  M.bind (F.slices_IsSorted_inst a0) fun x1 =>
  M.ret x1
def F.sort_IntsAreSorted.plan : Plan := (seq leaf (seq leaf leaf))
theorem F.sort_IntsAreSorted.lift : LiftOk Try.prog 82 (ap1 F.sort_IntsAreSorted) :=
  lift1 (g := evFn Try.prog (tcons 83 (ap1 F.slices_IsSorted_inst) tnil) tnil 82 Try.f82 F.sort_IntsAreSorted.plan) (evFn_sound (tcons_ok F.slices_IsSorted_inst.lift tnil_ok) tnil_ok Try.func82 (by kernel_rfl)) (fun x0 => by kernel_rfl)

/-- granary/ring.homes -/
noncomputable def F.ring_homes (a0 : Value) : M Value :=
  M.bind (newM 26 (Value.cells a0)) fun x1 =>
  bindO (fieldA 22 x1) fun x2 =>
  M.bind (rdM (ld1 x2)) fun x3 =>
  bindO (lenL x3) fun x4 =>
  M.bind (loopM (fun l5 =>
    bindO (binV BinOp.lss (getL l5 1) x4) fun x6 =>
    condM x6 (
      bindO (idxA 2 x3 (getL l5 1)) fun x7 =>
      M.bind (rdM (ldA 2 x7)) fun x8 =>
      M.bind (newM 81 #[(Value.int IntKind.i64 0), (Value.slice none 0 0)]) fun x9 =>
      M.bind (stM 2 x9 x8) fun _ =>
      bindO (fieldA 1 x9) fun x11 =>
      M.bind (rdM (ld1 x11)) fun x12 =>
      bindO (lenL x12) fun x13 =>
      bindO (binV BinOp.add (getL l5 0) x13) fun x14 =>
      bindO (binV BinOp.add (getL l5 1) (Value.int IntKind.i64 1)) fun x15 =>
      M.ret (Out.norm [x14, x15])) (
      M.ret (Out.exit 0 [(getL l5 0), (getL l5 1)]))) [(Value.int IntKind.i64 0), (Value.int IntKind.i64 0)]) fun o17 =>
  outK o17 (fun _ => M.fail) (fun i18 l16 =>
    bif Nat.beq i18 0 then (
      M.bind (F.ring_within (getL l16 0) (Value.int IntKind.i64 1) (Value.int IntKind.i64 64)) fun x20 =>
      bindO (notV x20) fun x21 =>
      condM x21 (
        M.ret (Value.tuple #[(Value.slice none 0 0), (Value.int IntKind.i64 66)])) (
        M.bind (mksM 3 1 8 #[(Value.int IntKind.i64 0)] (getL l16 0) (getL l16 0)) fun x22 =>
        bindO (lenL x22) fun x23 =>
        M.bind (loopM (fun l24 =>
          bindO (binV BinOp.lss (getL l24 0) x23) fun x25 =>
          condM x25 (
            bindO (idxA 1 x22 (getL l24 0)) fun x26 =>
            M.bind (stM 1 x26 (Value.int IntKind.i64 (-1))) fun _ =>
            bindO (binV BinOp.add (getL l24 0) (Value.int IntKind.i64 1)) fun x28 =>
            M.ret (Out.norm [x28])) (
            M.ret (Out.exit 2 [(getL l24 0)]))) [(Value.int IntKind.i64 0)]) fun o30 =>
        outK o30 (fun _ => M.fail) (fun i31 _ =>
          bif Nat.beq i31 2 then (
            bindO (fieldA 22 x1) fun x33 =>
            M.bind (rdM (ld1 x33)) fun x34 =>
            bindO (lenL x34) fun x35 =>
            M.bind (loopM (fun l36 =>
              bindO (binV BinOp.lss (getL l36 0) x35) fun x37 =>
              condM x37 (
                bindO (idxA 2 x34 (getL l36 0)) fun x38 =>
                M.bind (rdM (ldA 2 x38)) fun x39 =>
                M.bind (newM 81 #[(Value.int IntKind.i64 0), (Value.slice none 0 0)]) fun x40 =>
                M.bind (stM 2 x40 x39) fun _ =>
                bindO (fieldA 1 x40) fun x42 =>
                M.bind (rdM (ld1 x42)) fun x43 =>
                M.bind (F.sort_IntsAreSorted x43) fun x44 =>
                bindO (notV x44) fun x45 =>
                condM x45 (
                  M.ret (Out.ret (Value.tuple #[(Value.slice none 0 0), (Value.int IntKind.i64 66)]))) (
                  bindO (fieldA 1 x40) fun x46 =>
                  M.bind (rdM (ld1 x46)) fun x47 =>
                  bindO (lenL x47) fun x48 =>
                  M.bind (loopM (fun l49 =>
                    bindO (binV BinOp.lss (getL l49 0) x48) fun x50 =>
                    condM x50 (
                      bindO (idxA 1 x47 (getL l49 0)) fun x51 =>
                      M.bind (rdM (ld1 x51)) fun x52 =>
                      bindO (binV BinOp.lss x52 (Value.int IntKind.i64 0)) fun x53 =>
                      M.bind (guardM x53 false (M.ret x52)) fun x54 =>
                      M.bind (guardM x53 false (M.ret (getL l16 0))) fun x55 =>
                      M.bind (guardM x53 false (optM (binV BinOp.geq x54 x55))) fun x56 =>
                      bindO (pickV x53 (Value.bool true) x56) fun x57 =>
                      M.bind (guardM x57 false (M.ret x22)) fun x58 =>
                      M.bind (guardM x57 false (M.ret x52)) fun x59 =>
                      M.bind (guardM x57 false (optM (idxA 1 x58 x59))) fun x60 =>
                      M.bind (guardM x57 false (rdM (ld1 x60))) fun x61 =>
                      M.bind (guardM x57 false (optM (binV BinOp.geq x61 (Value.int IntKind.i64 0)))) fun x62 =>
                      bindO (pickV x57 (Value.bool true) x62) fun x63 =>
                      condM x63 (
                        M.ret (Out.ret (Value.tuple #[(Value.slice none 0 0), (Value.int IntKind.i64 66)]))) (
                        bindO (idxA 1 x22 x52) fun x64 =>
                        M.bind (stM 1 x64 (getL l36 0)) fun _ =>
                        bindO (binV BinOp.add (getL l49 0) (Value.int IntKind.i64 1)) fun x66 =>
                        M.ret (Out.norm [x66]))) (
                      M.ret (Out.exit 6 [(getL l49 0)]))) [(Value.int IntKind.i64 0)]) fun o68 =>
                  outK o68 (fun _ => M.fail) (fun i69 _ =>
                    bif Nat.beq i69 6 then (
                      bindO (binV BinOp.add (getL l36 0) (Value.int IntKind.i64 1)) fun x71 =>
                      M.ret (Out.norm [x71])) else
                    M.fail) (fun r70 => M.ret (Out.ret r70)))) (
                M.ret (Out.exit 4 [(getL l36 0)]))) [(Value.int IntKind.i64 0)]) fun o73 =>
            outK o73 (fun _ => M.fail) (fun i74 _ =>
              bif Nat.beq i74 4 then (
                M.ret (Value.tuple #[x22, (Value.int IntKind.i64 0)])) else
              M.fail) (fun r75 => M.ret r75)) else
          M.fail) (fun r32 => M.ret r32))) else
    M.fail) (fun r19 => M.ret r19)
def F.ring_homes.plan : Plan := (seq leaf (seq leaf (seq (seq leaf (body (loop [4, 16] [4, 6, 16, 17, 18, 19, 20, 21, 22, 23, 24, 25] [0] (seq leaf (seq (cond leaf leaf) (seq (body (seq leaf leaf)) leaf)))))) (seq (seq leaf (cond (seq leaf leaf) leaf)) (seq leaf (seq (seq leaf (body (loop [33] [8, 33, 34, 35, 36, 37, 38, 39] [2] (seq leaf (seq (cond leaf leaf) (seq (body (seq leaf leaf)) leaf)))))) (seq (seq leaf (body (loop [43] [2, 3, 9, 10, 12, 43, 44, 45, 46, 47, 48, 49, 50, 51, 52, 53, 54, 55, 56, 57, 58, 59, 60, 61, 62, 63, 64, 65, 66, 67, 68, 69, 70, 71, 72, 73, 74, 75, 76, 77, 78] [4] (seq leaf (seq (cond leaf leaf) (seq (body (seq leaf (seq (seq leaf (cond (seq leaf leaf) leaf)) (seq leaf (body (loop [55] [2, 3, 12, 55, 56, 57, 58, 59, 60, 61, 62, 63, 64, 65, 66, 67, 68, 69, 70, 71, 72, 73, 74, 75, 76, 77] [6] (seq leaf (seq (cond leaf leaf) (seq (body (seq leaf (seq (seq leaf (cond (seq leaf leaf) leaf)) leaf))) leaf))))))))) leaf)))))) (seq leaf leaf))))))))
theorem F.ring_homes.lift : LiftOk Try.prog 57 (ap1 F.ring_homes) :=
  lift1 (g := evFn Try.prog (tcons 56 (ap3 F.ring_within) (tcons 82 (ap1 F.sort_IntsAreSorted) tnil)) tnil 57 Try.f57 F.ring_homes.plan) (evFn_sound (tcons_ok F.ring_within.lift (tcons_ok F.sort_IntsAreSorted.lift tnil_ok)) tnil_ok Try.func57 (by kernel_rfl)) (fun x0 => by kernel_rfl)

/-- granary/ring.checked -/
noncomputable def F.ring_checked (a0 : Value) : M Value :=
  M.bind (newM 26 (Value.cells a0)) fun x1 =>
  bindO (fieldA 0 x1) fun x2 =>
  M.bind (rdM (ld1 x2)) fun x3 =>
  M.bind (F.ring_nameOK x3) fun x4 =>
  bindO (notV x4) fun x5 =>
  condM x5 (
    M.ret (Value.tuple #[(Value.slice none 0 0), (Value.int IntKind.i64 63)])) (
    M.bind (F.ring_settings) fun x6 =>
    bindO (lenL x6) fun x7 =>
    M.bind (loopM (fun l8 =>
      bindO (binV BinOp.lss (getL l8 0) x7) fun x9 =>
      condM x9 (
        bindO (idxA 4 x6 (getL l8 0)) fun x10 =>
        M.bind (rdM (ldA 4 x10)) fun x11 =>
        M.bind (newM 130 #[(Value.string ByteArray.empty), (Value.int IntKind.i64 0), (Value.int IntKind.i64 0), Value.nilFunc]) fun x12 =>
        M.bind (stM 4 x12 x11) fun _ =>
        drewM <|
        getM fun W14 =>
        bindO (fieldA 3 x12) fun x15 =>
        M.bind (rdM (ld1 x15)) fun x16 =>
        M.bind (callV F.clos x16 [x1]) fun x17 =>
        getM fun _ =>
        bindO (nilChk x17) fun x19 =>
        M.bind (rdM (ld1 x19)) fun x20 =>
        bindO (fieldA 1 x12) fun x21 =>
        M.bind (rdM (ld1 x21)) fun x22 =>
        bindO (fieldA 2 x12) fun x23 =>
        M.bind (rdM (ld1 x23)) fun x24 =>
        M.bind (F.ring_within x20 x22 x24) fun x25 =>
        getM fun _ =>
        bindO (notV x25) fun x27 =>
        reqM (ld1 x21 W14 = some x22) <|
        reqM (ld1 x23 W14 = some x24) <|
        condM x27 (
          M.ret (Out.ret (Value.tuple #[(Value.slice none 0 0), (Value.int IntKind.i64 64)]))) (
          bindO (binV BinOp.add (getL l8 0) (Value.int IntKind.i64 1)) fun x28 =>
          M.ret (Out.norm [x28]))) (
        M.ret (Out.exit 0 [(getL l8 0)]))) [(Value.int IntKind.i64 0)]) fun o30 =>
    outK o30 (fun _ => M.fail) (fun i31 _ =>
      bif Nat.beq i31 0 then (
        bindO (fieldA 8 x1) fun x33 =>
        M.bind (rdM (ld1 x33)) fun x34 =>
        bindO (fieldA 5 x1) fun x35 =>
        M.bind (rdM (ld1 x35)) fun x36 =>
        bindO (binV BinOp.lss x34 x36) fun x37 =>
        M.bind (guardM x37 false (optM (fieldA 11 x1))) fun x38 =>
        M.bind (guardM x37 false (rdM (ld1 x38))) fun x39 =>
        M.bind (guardM x37 false (optM (fieldA 10 x1))) fun x40 =>
        M.bind (guardM x37 false (rdM (ld1 x40))) fun x41 =>
        M.bind (guardM x37 false (optM (binV BinOp.lss x39 x41))) fun x42 =>
        bindO (pickV x37 (Value.bool true) x42) fun x43 =>
        condM x43 (
          M.ret (Value.tuple #[(Value.slice none 0 0), (Value.int IntKind.i64 64)])) (
          bindO (fieldA 22 x1) fun x44 =>
          M.bind (rdM (ld1 x44)) fun x45 =>
          bindO (lenL x45) fun x46 =>
          M.bind (F.ring_within x46 (Value.int IntKind.i64 1) (Value.int IntKind.i64 16)) fun x47 =>
          bindO (notV x47) fun x48 =>
          condM x48 (
            M.ret (Value.tuple #[(Value.slice none 0 0), (Value.int IntKind.i64 65)])) (
            bindO (fieldA 22 x1) fun x49 =>
            M.bind (rdM (ld1 x49)) fun x50 =>
            bindO (lenL x50) fun x51 =>
            M.bind (loopM (fun l52 =>
              bindO (binV BinOp.lss (getL l52 1) x51) fun x53 =>
              condM x53 (
                M.bind (
                  bindO (idxA 2 x50 (getL l52 1)) fun x54 =>
                  M.bind (rdM (ldA 2 x54)) fun x55 =>
                  M.bind (newM 81 #[(Value.int IntKind.i64 0), (Value.slice none 0 0)]) fun x56 =>
                  M.bind (stM 2 x56 x55) fun _ =>
                  bindO (fieldA 0 x56) fun x58 =>
                  M.bind (rdM (ld1 x58)) fun x59 =>
                  M.bind (F.ring_within x59 (Value.int IntKind.i64 0) (Value.int IntKind.i64 7)) fun x60 =>
                  bindO (notV x60) fun x61 =>
                  condM x61 (
                    M.ret (Out.ret (Value.tuple #[(Value.slice none 0 0), (Value.int IntKind.i64 65)]))) (
                    bindO (fieldA 1 x56) fun x62 =>
                    M.bind (rdM (ld1 x62)) fun x63 =>
                    bindO (lenL x63) fun x64 =>
                    bindO (binV BinOp.gtr x64 (Value.int IntKind.i64 0)) fun x65 =>
                    condM x65 (
                      bindO (binV BinOp.add (getL l52 0) (Value.int IntKind.i64 1)) fun x66 =>
                      M.ret (Out.norm [x66])) (
                      M.ret (Out.norm [(getL l52 0)])))) fun o68 =>
                outK o68 (fun l67 =>
                  bindO (binV BinOp.add (getL l52 1) (Value.int IntKind.i64 1)) fun x71 =>
                  M.ret (Out.norm [(getL l67 0), x71])) (fun _ _ =>
                  M.fail) (fun r70 => M.ret (Out.ret r70))) (
                M.ret (Out.exit 2 [(getL l52 0), (getL l52 1)]))) [(Value.int IntKind.i64 0), (Value.int IntKind.i64 0)]) fun o74 =>
            outK o74 (fun _ => M.fail) (fun i75 l73 =>
              bif Nat.beq i75 2 then (
                M.bind (rdM (ldA 23 x1)) fun x77 =>
                M.bind (F.ring_homes x77) fun x78 =>
                bindO (extV 0 x78) fun x79 =>
                bindO (extV 1 x78) fun x80 =>
                bindO (binV BinOp.neq x80 (Value.int IntKind.i64 0)) fun x81 =>
                condM x81 (
                  M.ret (Value.tuple #[(Value.slice none 0 0), x80])) (
                  bindO (fieldA 1 x1) fun x82 =>
                  M.bind (rdM (ld1 x82)) fun x83 =>
                  bindO (binV BinOp.gtr x83 (getL l73 0)) fun x84 =>
                  condM x84 (
                    M.ret (Value.tuple #[(Value.slice none 0 0), (Value.int IntKind.i64 67)])) (
                    bindO (lenL x79) fun x85 =>
                    bindO (fieldA 1 x1) fun x86 =>
                    M.bind (rdM (ld1 x86)) fun x87 =>
                    bindO (binV BinOp.mul x85 x87) fun x88 =>
                    bindO (fieldA 3 x1) fun x89 =>
                    M.bind (rdM (ld1 x89)) fun x90 =>
                    bindO (binV BinOp.mul x88 x90) fun x91 =>
                    bindO (binV BinOp.gtr x91 (Value.int IntKind.i64 512)) fun x92 =>
                    condM x92 (
                      M.ret (Value.tuple #[(Value.slice none 0 0), (Value.int IntKind.i64 3)])) (
                      M.ret (Value.tuple #[x79, (Value.int IntKind.i64 0)]))))) else
              M.fail) (fun r76 => M.ret r76)))) else
      M.fail) (fun r32 => M.ret r32))
def F.ring_checked.plan : Plan := (seq leaf (seq (seq leaf (cond (seq leaf leaf) leaf)) (seq (seq leaf (body (loop [17] [2, 3, 5, 17, 18, 19, 20, 21, 22, 23, 24, 25, 26, 27, 28, 29, 30, 31, 32] [0] (seq leaf (seq (cond leaf leaf) (seq (body (seq leaf (seq leaf (cond (seq leaf leaf) leaf)))) leaf)))))) (seq (seq leaf (cond (seq leaf leaf) leaf)) (seq (seq leaf (cond (seq leaf leaf) leaf)) (seq leaf (seq (seq leaf (body (loop [6, 53] [2, 3, 6, 8, 53, 54, 55, 56, 57, 58, 59, 60, 61, 62, 63, 64, 65, 66, 67] [2] (seq leaf (seq (cond leaf leaf) (fork [6] [2, 3, 6, 8, 55, 56, 57, 58, 59, 60, 61, 62, 63, 64, 65, 66] [] (body (seq leaf (seq (seq leaf (cond (seq leaf leaf) leaf)) (seq leaf (cond leaf leaf))))) leaf)))))) (seq leaf (seq (seq leaf (cond (seq leaf leaf) leaf)) (seq (seq leaf (cond (seq leaf leaf) leaf)) (seq (seq leaf (cond (seq leaf leaf) leaf)) (seq leaf leaf))))))))))))
theorem F.ring_checked.lift : LiftOk Try.prog 48 (ap1 F.ring_checked) :=
  lift1 (g := evFn Try.prog (tcons 54 (ap1 F.ring_nameOK) (tcons 55 (ap0 F.ring_settings) (tcons 56 (ap3 F.ring_within) (tcons 57 (ap1 F.ring_homes) tnil)))) F.clos 48 Try.f48 F.ring_checked.plan) (evFn_sound (tcons_ok F.ring_nameOK.lift (tcons_ok F.ring_settings.lift (tcons_ok F.ring_within.lift (tcons_ok F.ring_homes.lift tnil_ok)))) F.clos_ok Try.func48 (by kernel_rfl)) (fun x0 => by kernel_rfl)

/-- granary/ring.Check -/
noncomputable def F.ring_Check (a0 : Value) : M Value :=
  M.bind (newM 26 (Value.cells a0)) fun x1 =>
  M.bind (rdM (ldA 23 x1)) fun x2 =>
  M.bind (F.ring_checked x2) fun x3 =>
  bindO (extV 0 x3) fun _ =>
  bindO (extV 1 x3) fun x5 =>
  M.ret x5
def F.ring_Check.plan : Plan := (seq leaf (seq leaf (seq leaf leaf)))
theorem F.ring_Check.lift : LiftOk Try.prog 32 (ap1 F.ring_Check) :=
  lift1 (g := evFn Try.prog (tcons 48 (ap1 F.ring_checked) tnil) tnil 32 Try.f32 F.ring_Check.plan) (evFn_sound (tcons_ok F.ring_checked.lift tnil_ok) tnil_ok Try.func32 (by kernel_rfl)) (fun x0 => by kernel_rfl)

/-- granary/control.New -/
noncomputable def F.control_New (a0 : Value) : M Value :=
  M.bind (newM 26 (Value.cells a0)) fun x1 =>
  M.bind (rdM (ldA 23 x1)) fun x2 =>
  M.bind (F.ring_Check x2) fun x3 =>
  bindO (binV BinOp.neq x3 (Value.int IntKind.i64 0)) fun x4 =>
  condM x4 (
    M.ret (Value.tuple #[(Value.pointer none), x3])) (
    bindO (fieldA 22 x1) fun x5 =>
    M.bind (rdM (ld1 x5)) fun x6 =>
    bindO (lenL x6) fun x7 =>
    bindO (fieldA 15 x1) fun x8 =>
    M.bind (rdM (ld1 x8)) fun x9 =>
    bindO (fieldA 16 x1) fun x10 =>
    M.bind (rdM (ld1 x10)) fun x11 =>
    bindO (fieldA 17 x1) fun x12 =>
    M.bind (rdM (ld1 x12)) fun x13 =>
    bindO (buildV #[(Value.int IntKind.i64 0), (Value.int IntKind.i64 0), (Value.int IntKind.i64 0), (Value.int IntKind.i64 0), (Value.int IntKind.i64 0), (Value.int IntKind.i64 0), (Value.int IntKind.i64 0), Value.nilIface, (Value.bool false), (Value.int IntKind.i64 0), (Value.int IntKind.i64 0), (Value.int IntKind.i64 0), (Value.int IntKind.i64 0), (Value.slice none 0 0), (Value.slice none 0 0)] [(0, 1, x7), (1, 1, x9), (2, 1, x11), (3, 1, x13)]) fun x14 =>
    M.bind (newM 78 (Value.cells x14)) fun x15 =>
    M.ret (Value.tuple #[x15, (Value.int IntKind.i64 0)]))
def F.control_New.plan : Plan := (seq leaf (seq (seq leaf (seq leaf (cond (seq leaf leaf) leaf))) (seq leaf leaf)))
theorem F.control_New.lift : LiftOk Try.prog 16 (ap1 F.control_New) :=
  lift1 (g := evFn Try.prog (tcons 32 (ap1 F.ring_Check) tnil) tnil 16 Try.f16 F.control_New.plan) (evFn_sound (tcons_ok F.ring_Check.lift tnil_ok) tnil_ok Try.func16 (by kernel_rfl)) (fun x0 => by kernel_rfl)

/-- granary/control.newLedger -/
noncomputable def F.control_newLedger (a0 : Value) : M Value :=
  M.bind (newM 86 #[(Value.slice none 0 0), (Value.slice none 0 0), (Value.int IntKind.i64 0), (Value.int IntKind.i64 0)]) fun x1 =>
  M.bind (altM (ordO Try.prog (regOps Try.f33 1) 33 1) [
    ([1, 3, 5, 6],
      M.bind (mksM 4 1 1 #[(Value.bool false)] a0 a0) fun x3 =>
      M.bind (mksM 3 1 8 #[(Value.int IntKind.i64 0)] a0 a0) fun x4 =>
      bindO (buildV #[(Value.slice none 0 0), (Value.slice none 0 0), (Value.int IntKind.i64 0), (Value.int IntKind.i64 0)] [(0, 1, x3), (1, 1, x4), (3, 1, (Value.int IntKind.i64 1))]) fun x5 =>
      M.bind (newM 86 #[(Value.slice none 0 0), (Value.slice none 0 0), (Value.int IntKind.i64 0), (Value.int IntKind.i64 0)]) fun x6 =>
      M.bind (stM 4 x6 x5) fun _ =>
      M.ret [x6]),
    ([1, 5, 3, 6],
      M.bind (mksM 4 1 1 #[(Value.bool false)] a0 a0) fun x8 =>
      M.bind (newM 86 #[(Value.slice none 0 0), (Value.slice none 0 0), (Value.int IntKind.i64 0), (Value.int IntKind.i64 0)]) fun x9 =>
      M.bind (mksM 3 1 8 #[(Value.int IntKind.i64 0)] a0 a0) fun x10 =>
      bindO (buildV #[(Value.slice none 0 0), (Value.slice none 0 0), (Value.int IntKind.i64 0), (Value.int IntKind.i64 0)] [(0, 1, x8), (1, 1, x10), (3, 1, (Value.int IntKind.i64 1))]) fun x11 =>
      M.bind (stM 4 x9 x11) fun _ =>
      M.ret [x9]),
    ([3, 1, 5, 6],
      M.bind (mksM 3 1 8 #[(Value.int IntKind.i64 0)] a0 a0) fun x13 =>
      M.bind (mksM 4 1 1 #[(Value.bool false)] a0 a0) fun x14 =>
      bindO (buildV #[(Value.slice none 0 0), (Value.slice none 0 0), (Value.int IntKind.i64 0), (Value.int IntKind.i64 0)] [(0, 1, x14), (1, 1, x13), (3, 1, (Value.int IntKind.i64 1))]) fun x15 =>
      M.bind (newM 86 #[(Value.slice none 0 0), (Value.slice none 0 0), (Value.int IntKind.i64 0), (Value.int IntKind.i64 0)]) fun x16 =>
      M.bind (stM 4 x16 x15) fun _ =>
      M.ret [x16]),
    ([3, 5, 1, 6],
      M.bind (mksM 3 1 8 #[(Value.int IntKind.i64 0)] a0 a0) fun x18 =>
      M.bind (newM 86 #[(Value.slice none 0 0), (Value.slice none 0 0), (Value.int IntKind.i64 0), (Value.int IntKind.i64 0)]) fun x19 =>
      M.bind (mksM 4 1 1 #[(Value.bool false)] a0 a0) fun x20 =>
      bindO (buildV #[(Value.slice none 0 0), (Value.slice none 0 0), (Value.int IntKind.i64 0), (Value.int IntKind.i64 0)] [(0, 1, x20), (1, 1, x18), (3, 1, (Value.int IntKind.i64 1))]) fun x21 =>
      M.bind (stM 4 x19 x21) fun _ =>
      M.ret [x19]),
    ([5, 1, 3, 6],
      M.bind (newM 86 #[(Value.slice none 0 0), (Value.slice none 0 0), (Value.int IntKind.i64 0), (Value.int IntKind.i64 0)]) fun x23 =>
      M.bind (mksM 4 1 1 #[(Value.bool false)] a0 a0) fun x24 =>
      M.bind (mksM 3 1 8 #[(Value.int IntKind.i64 0)] a0 a0) fun x25 =>
      bindO (buildV #[(Value.slice none 0 0), (Value.slice none 0 0), (Value.int IntKind.i64 0), (Value.int IntKind.i64 0)] [(0, 1, x24), (1, 1, x25), (3, 1, (Value.int IntKind.i64 1))]) fun x26 =>
      M.bind (stM 4 x23 x26) fun _ =>
      M.ret [x23]),
    ([5, 3, 1, 6],
      M.bind (newM 86 #[(Value.slice none 0 0), (Value.slice none 0 0), (Value.int IntKind.i64 0), (Value.int IntKind.i64 0)]) fun x28 =>
      M.bind (mksM 3 1 8 #[(Value.int IntKind.i64 0)] a0 a0) fun x29 =>
      M.bind (mksM 4 1 1 #[(Value.bool false)] a0 a0) fun x30 =>
      bindO (buildV #[(Value.slice none 0 0), (Value.slice none 0 0), (Value.int IntKind.i64 0), (Value.int IntKind.i64 0)] [(0, 1, x30), (1, 1, x29), (3, 1, (Value.int IntKind.i64 1))]) fun x31 =>
      M.bind (stM 4 x28 x31) fun _ =>
      M.ret [x28])]) fun l2 =>
  bindO (fieldA 1 (getL l2 0)) fun x33 =>
  M.bind (rdM (ld1 x33)) fun x34 =>
  bindO (lenL x34) fun x35 =>
  M.bind (loopM (fun l36 =>
    bindO (binV BinOp.lss (getL l36 0) x35) fun x37 =>
    condM x37 (
      bindO (fieldA 1 (getL l2 0)) fun x38 =>
      M.bind (rdM (ld1 x38)) fun x39 =>
      bindO (idxA 1 x39 (getL l36 0)) fun x40 =>
      M.bind (stM 1 x40 (Value.int IntKind.i64 (-1))) fun _ =>
      bindO (binV BinOp.add (getL l36 0) (Value.int IntKind.i64 1)) fun x42 =>
      M.ret (Out.norm [x42])) (
      M.ret (Out.exit 0 [(getL l36 0)]))) [(Value.int IntKind.i64 0)]) fun o44 =>
  outK o44 (fun _ => M.fail) (fun i45 _ =>
    bif Nat.beq i45 0 then (
      M.bind (rdM (ldA 4 (getL l2 0))) fun x47 =>
      M.bind (stM 4 x1 x47) fun _ =>
      M.bind (rdM (ldA 4 x1)) fun x49 =>
      M.ret x49) else
    M.fail) (fun r46 => M.ret r46)
def F.control_newLedger.plan : Plan := (seq leaf (seq (alts [3] [3, 5, 6, 7, 8, 9] [[0, 1, 2, 3, 4, 5, 6], [0, 1, 2, 5, 3, 4, 6], [0, 2, 3, 1, 4, 5, 6], [0, 2, 3, 5, 1, 4, 6], [0, 2, 5, 1, 3, 4, 6], [0, 2, 5, 3, 1, 4, 6]]) (seq (seq leaf (body (loop [13] [4, 13, 14, 15, 16, 17, 18, 19, 20] [0] (seq leaf (seq (cond leaf leaf) (seq (body (seq leaf leaf)) leaf)))))) (seq leaf leaf))))
theorem F.control_newLedger.lift : LiftOk Try.prog 33 (ap1 F.control_newLedger) :=
  lift1 (g := evFn Try.prog tnil tnil 33 Try.f33 F.control_newLedger.plan) (evFn_sound tnil_ok tnil_ok Try.func33 (by kernel_rfl)) (fun x0 => by kernel_rfl)

/-- (*granary/control.ledger).book -/
noncomputable def F.control_ledger_book (a0 : Value) : M Value :=
  M.ret a0
def F.control_ledger_book.plan : Plan := (seq leaf (seq leaf leaf))
theorem F.control_ledger_book.lift : LiftOk Try.prog 101 (ap1 F.control_ledger_book) :=
  lift1 (g := evFn Try.prog tnil tnil 101 Try.f101 F.control_ledger_book.plan) (evFn_sound tnil_ok tnil_ok Try.func101 (by kernel_rfl)) (fun x0 => by kernel_rfl)

/-- (*granary/control.ledger).missing -/
noncomputable def F.control_ledger_missing (a0 : Value) : M Value :=
  bindO (nilChk a0) fun x1 =>
  bindO (fieldA 0 x1) fun x2 =>
  M.bind (rdM (ld1 x2)) fun x3 =>
  bindO (lenL x3) fun x4 =>
  M.bind (loopM (fun l5 =>
    bindO (binV BinOp.lss (getL l5 1) x4) fun x6 =>
    condM x6 (
      M.bind (
        bindO (idxA 1 x3 (getL l5 1)) fun x7 =>
        M.bind (rdM (ld1 x7)) fun x8 =>
        bindO (notV x8) fun x9 =>
        condM x9 (
          M.bind (bslM 3 1 (Builtin.zeroCells #[(Value.int IntKind.i64 0)] 1) [(0, 1, (getL l5 1))]) fun x10 =>
          M.bind (appM 3 1 8 #[(Value.int IntKind.i64 0)] (getL l5 0) x10) fun x11 =>
          M.ret (Out.norm [x11])) (
          M.ret (Out.norm [(getL l5 0)]))) fun o13 =>
      outK o13 (fun l12 =>
        bindO (binV BinOp.add (getL l5 1) (Value.int IntKind.i64 1)) fun x16 =>
        M.ret (Out.norm [(getL l12 0), x16])) (fun _ _ =>
        M.fail) (fun r15 => M.ret (Out.ret r15))) (
      M.ret (Out.exit 0 [(getL l5 0), (getL l5 1)]))) [(Value.slice none 0 0), (Value.int IntKind.i64 0)]) fun o19 =>
  outK o19 (fun _ => M.fail) (fun i20 l18 =>
    bif Nat.beq i20 0 then (
      M.ret (getL l18 0)) else
    M.fail) (fun r21 => M.ret r21)
def F.control_ledger_missing.plan : Plan := (seq leaf (seq leaf (seq (seq leaf (body (loop [3, 11] [3, 4, 5, 11, 12, 13, 14, 15, 16, 17, 18, 19, 20, 21, 22] [0] (seq leaf (seq (cond leaf leaf) (fork [3] [3, 4, 5, 13, 14, 15, 16, 17, 18, 19, 20, 21] [] (body (seq leaf (seq leaf (cond leaf leaf)))) leaf)))))) (seq leaf leaf))))
theorem F.control_ledger_missing.lift : LiftOk Try.prog 49 (ap1 F.control_ledger_missing) :=
  lift1 (g := evFn Try.prog tnil tnil 49 Try.f49 F.control_ledger_missing.plan) (evFn_sound tnil_ok tnil_ok Try.func49 (by kernel_rfl)) (fun x0 => by kernel_rfl)

/-- (*granary/control.fetching).message -/
noncomputable def F.control_fetching_message (_a0 a1 : Value) : M Value :=
  M.bind (newM 74 (Value.cells a1)) fun x1 =>
  M.bind (newM 44 #[(Value.int IntKind.i64 0), (Value.int IntKind.i64 0), (Value.int IntKind.i64 0), (Value.int IntKind.i64 0), (Value.int IntKind.i64 0), (Value.int IntKind.i64 0), (Value.int IntKind.i64 0), (Value.int IntKind.i64 0), (Value.int IntKind.i64 0), (Value.string ByteArray.empty), (Value.string ByteArray.empty)]) fun x2 =>
  bindO (fieldA 0 x1) fun x3 =>
  M.bind (rdM (ld1 x3)) fun x4 =>
  bindO (fieldA 2 x1) fun x5 =>
  M.bind (rdM (ld1 x5)) fun x6 =>
  bindO (buildV #[(Value.int IntKind.i64 0), (Value.int IntKind.i64 0), (Value.int IntKind.i64 0), (Value.int IntKind.i64 0), (Value.int IntKind.i64 0), (Value.int IntKind.i64 0), (Value.int IntKind.i64 0), (Value.int IntKind.i64 0), (Value.int IntKind.i64 0), (Value.string ByteArray.empty), (Value.string ByteArray.empty)] [(0, 1, (Value.int IntKind.i64 3)), (4, 1, x4), (6, 1, x6)]) fun x7 =>
  M.bind (stM 11 x2 x7) fun _ =>
  M.bind (rdM (ldA 11 x2)) fun x9 =>
  M.ret x9
def F.control_fetching_message.plan : Plan := (seq leaf (seq leaf leaf))
theorem F.control_fetching_message.lift : LiftOk Try.prog 104 (ap2 F.control_fetching_message) :=
  lift2 (g := evFn Try.prog tnil tnil 104 Try.f104 F.control_fetching_message.plan) (evFn_sound tnil_ok tnil_ok Try.func104 (by kernel_rfl)) (fun x0 x1 => by kernel_rfl)

/-- (*granary/control.swapping).message -/
noncomputable def F.control_swapping_message (_a0 a1 : Value) : M Value :=
  M.bind (newM 74 (Value.cells a1)) fun x1 =>
  M.bind (newM 44 #[(Value.int IntKind.i64 0), (Value.int IntKind.i64 0), (Value.int IntKind.i64 0), (Value.int IntKind.i64 0), (Value.int IntKind.i64 0), (Value.int IntKind.i64 0), (Value.int IntKind.i64 0), (Value.int IntKind.i64 0), (Value.int IntKind.i64 0), (Value.string ByteArray.empty), (Value.string ByteArray.empty)]) fun x2 =>
  bindO (fieldA 0 x1) fun x3 =>
  M.bind (rdM (ld1 x3)) fun x4 =>
  bindO (fieldA 2 x1) fun x5 =>
  M.bind (rdM (ld1 x5)) fun x6 =>
  bindO (buildV #[(Value.int IntKind.i64 0), (Value.int IntKind.i64 0), (Value.int IntKind.i64 0), (Value.int IntKind.i64 0), (Value.int IntKind.i64 0), (Value.int IntKind.i64 0), (Value.int IntKind.i64 0), (Value.int IntKind.i64 0), (Value.int IntKind.i64 0), (Value.string ByteArray.empty), (Value.string ByteArray.empty)] [(0, 1, (Value.int IntKind.i64 5)), (4, 1, x4), (5, 1, (Value.int IntKind.i64 1)), (6, 1, x6)]) fun x7 =>
  M.bind (stM 11 x2 x7) fun _ =>
  M.bind (rdM (ldA 11 x2)) fun x9 =>
  M.ret x9
def F.control_swapping_message.plan : Plan := (seq leaf (seq leaf leaf))
theorem F.control_swapping_message.lift : LiftOk Try.prog 110 (ap2 F.control_swapping_message) :=
  lift2 (g := evFn Try.prog tnil tnil 110 Try.f110 F.control_swapping_message.plan) (evFn_sound tnil_ok tnil_ok Try.func110 (by kernel_rfl)) (fun x0 x1 => by kernel_rfl)

/-- (*granary/control.looking).message -/
noncomputable def F.control_looking_message (_a0 a1 : Value) : M Value :=
  M.bind (newM 74 (Value.cells a1)) fun _ =>
  M.bind (newM 44 #[(Value.int IntKind.i64 0), (Value.int IntKind.i64 0), (Value.int IntKind.i64 0), (Value.int IntKind.i64 0), (Value.int IntKind.i64 0), (Value.int IntKind.i64 0), (Value.int IntKind.i64 0), (Value.int IntKind.i64 0), (Value.int IntKind.i64 0), (Value.string ByteArray.empty), (Value.string ByteArray.empty)]) fun x2 =>
  bindO (buildV #[(Value.int IntKind.i64 0), (Value.int IntKind.i64 0), (Value.int IntKind.i64 0), (Value.int IntKind.i64 0), (Value.int IntKind.i64 0), (Value.int IntKind.i64 0), (Value.int IntKind.i64 0), (Value.int IntKind.i64 0), (Value.int IntKind.i64 0), (Value.string ByteArray.empty), (Value.string ByteArray.empty)] [(0, 1, (Value.int IntKind.i64 9))]) fun x3 =>
  M.bind (stM 11 x2 x3) fun _ =>
  M.bind (rdM (ldA 11 x2)) fun x5 =>
  M.ret x5
def F.control_looking_message.plan : Plan := (seq leaf (seq leaf leaf))
theorem F.control_looking_message.lift : LiftOk Try.prog 116 (ap2 F.control_looking_message) :=
  lift2 (g := evFn Try.prog tnil tnil 116 Try.f116 F.control_looking_message.plan) (evFn_sound tnil_ok tnil_ok Try.func116 (by kernel_rfl)) (fun x0 x1 => by kernel_rfl)

/-- (*granary/control.backing).message -/
noncomputable def F.control_backing_message (_a0 a1 : Value) : M Value :=
  M.bind (newM 74 (Value.cells a1)) fun x1 =>
  M.bind (newM 44 #[(Value.int IntKind.i64 0), (Value.int IntKind.i64 0), (Value.int IntKind.i64 0), (Value.int IntKind.i64 0), (Value.int IntKind.i64 0), (Value.int IntKind.i64 0), (Value.int IntKind.i64 0), (Value.int IntKind.i64 0), (Value.int IntKind.i64 0), (Value.string ByteArray.empty), (Value.string ByteArray.empty)]) fun x2 =>
  bindO (fieldA 0 x1) fun x3 =>
  M.bind (rdM (ld1 x3)) fun x4 =>
  bindO (buildV #[(Value.int IntKind.i64 0), (Value.int IntKind.i64 0), (Value.int IntKind.i64 0), (Value.int IntKind.i64 0), (Value.int IntKind.i64 0), (Value.int IntKind.i64 0), (Value.int IntKind.i64 0), (Value.int IntKind.i64 0), (Value.int IntKind.i64 0), (Value.string ByteArray.empty), (Value.string ByteArray.empty)] [(0, 1, (Value.int IntKind.i64 7)), (4, 1, x4), (5, 1, (Value.int IntKind.i64 2))]) fun x5 =>
  M.bind (stM 11 x2 x5) fun _ =>
  M.bind (rdM (ldA 11 x2)) fun x7 =>
  M.ret x7
def F.control_backing_message.plan : Plan := (seq leaf (seq leaf leaf))
theorem F.control_backing_message.lift : LiftOk Try.prog 122 (ap2 F.control_backing_message) :=
  lift2 (g := evFn Try.prog tnil tnil 122 Try.f122 F.control_backing_message.plan) (evFn_sound tnil_ok tnil_ok Try.func122 (by kernel_rfl)) (fun x0 x1 => by kernel_rfl)

/-- What this function's calls through interface values come to. -/
noncomputable def F.control_Control_send.inv : Tab := (tcons 101 (ap1 F.control_ledger_book) (tcons 104 (ap2 F.control_fetching_message) (tcons 110 (ap2 F.control_swapping_message) (tcons 116 (ap2 F.control_looking_message) (tcons 122 (ap2 F.control_backing_message) tnil)))))
theorem F.control_Control_send.inv_ok : TabOk Try.prog F.control_Control_send.inv := (tcons_ok F.control_ledger_book.lift (tcons_ok F.control_fetching_message.lift (tcons_ok F.control_swapping_message.lift (tcons_ok F.control_looking_message.lift (tcons_ok F.control_backing_message.lift tnil_ok)))))
theorem F.control_Control_send.inv_88_book (v : Value) : invV Try.prog F.control_Control_send.inv "granary/control.book" (.iface 88 v) [] = (match fieldA 0 v with | some p => F.control_ledger_book p | none => M.fail) := by kernel_rfl
theorem F.control_Control_send.inv_88_message (v x0 : Value) : invV Try.prog F.control_Control_send.inv "granary/control.message" (.iface 88 v) [x0] = F.control_fetching_message v x0 := by kernel_rfl
theorem F.control_Control_send.inv_91_book (v : Value) : invV Try.prog F.control_Control_send.inv "granary/control.book" (.iface 91 v) [] = (match fieldA 0 v with | some p => F.control_ledger_book p | none => M.fail) := by kernel_rfl
theorem F.control_Control_send.inv_91_message (v x0 : Value) : invV Try.prog F.control_Control_send.inv "granary/control.message" (.iface 91 v) [x0] = F.control_swapping_message v x0 := by kernel_rfl
theorem F.control_Control_send.inv_93_book (v : Value) : invV Try.prog F.control_Control_send.inv "granary/control.book" (.iface 93 v) [] = (match fieldA 0 v with | some p => F.control_ledger_book p | none => M.fail) := by kernel_rfl
theorem F.control_Control_send.inv_93_message (v x0 : Value) : invV Try.prog F.control_Control_send.inv "granary/control.message" (.iface 93 v) [x0] = F.control_looking_message v x0 := by kernel_rfl
theorem F.control_Control_send.inv_115_book (v : Value) : invV Try.prog F.control_Control_send.inv "granary/control.book" (.iface 115 v) [] = (match fieldA 0 v with | some p => F.control_ledger_book p | none => M.fail) := by kernel_rfl
theorem F.control_Control_send.inv_115_message (v x0 : Value) : invV Try.prog F.control_Control_send.inv "granary/control.message" (.iface 115 v) [x0] = F.control_backing_message v x0 := by kernel_rfl
/-- (*granary/control.Control).send -/
noncomputable def F.control_Control_send (a0 : Value) : M Value :=
  bindO (nilChk a0) fun x1 =>
  bindO (fieldA 7 x1) fun x2 =>
  M.bind (rdM (ld1 x2)) fun x3 =>
  M.bind (invV Try.prog F.control_Control_send.inv "granary/control.book" x3 []) fun x4 =>
  M.bind (F.control_ledger_missing x4) fun x5 =>
  bindO (lenL x5) fun x6 =>
  M.bind (loopM (fun l7 =>
    bindO (binV BinOp.lss (getL l7 1) x6) fun x8 =>
    condM x8 (
      bindO (idxA 1 x5 (getL l7 1)) fun x9 =>
      M.bind (rdM (ld1 x9)) fun x10 =>
      M.bind (altM (ordO Try.prog (regOps Try.f37 5) 37 5) [
        ([10, 11, 12],
          bindO (nilChk a0) fun x12 =>
          bindO (fieldA 7 x12) fun x13 =>
          M.bind (rdM (ld1 x13)) fun x14 =>
          bindO (nilChk a0) fun x15 =>
          bindO (fieldA 4 x15) fun x16 =>
          M.bind (rdM (ldA 3 x16)) fun x17 =>
          bindO (nilChk x14) fun _ =>
          M.bind (invV Try.prog F.control_Control_send.inv "granary/control.message" x14 [x17]) fun x19 =>
          M.bind (newM 44 #[(Value.int IntKind.i64 0), (Value.int IntKind.i64 0), (Value.int IntKind.i64 0), (Value.int IntKind.i64 0), (Value.int IntKind.i64 0), (Value.int IntKind.i64 0), (Value.int IntKind.i64 0), (Value.int IntKind.i64 0), (Value.int IntKind.i64 0), (Value.string ByteArray.empty), (Value.string ByteArray.empty)]) fun x20 =>
          M.bind (stM 11 x20 x19) fun _ =>
          M.ret [x20]),
        ([11, 10, 12],
          getM fun _ =>
          bindO (nilChk a0) fun x23 =>
          bindO (fieldA 7 x23) fun x24 =>
          M.bind (rdM (ld1 x24)) fun x25 =>
          bindO (nilChk a0) fun x26 =>
          bindO (fieldA 4 x26) fun x27 =>
          M.bind (rdM (ldA 3 x27)) fun x28 =>
          bindO (nilChk x25) fun _ =>
          M.bind (newM 44 #[(Value.int IntKind.i64 0), (Value.int IntKind.i64 0), (Value.int IntKind.i64 0), (Value.int IntKind.i64 0), (Value.int IntKind.i64 0), (Value.int IntKind.i64 0), (Value.int IntKind.i64 0), (Value.int IntKind.i64 0), (Value.int IntKind.i64 0), (Value.string ByteArray.empty), (Value.string ByteArray.empty)]) fun x30 =>
          getM fun W31 =>
          M.bind (invV Try.prog F.control_Control_send.inv "granary/control.message" x25 [x28]) fun x32 =>
          getM fun _ =>
          M.bind (stM 11 x30 x32) fun _ =>
          getM fun _ =>
          reqM (ld1 x24 W31 = some x25) <|
          reqM (ldA 3 x27 W31 = some x28) <|
          M.ret [x30])]) fun l11 =>
      drewM <|
      getM fun _ =>
      bindO (nilChk a0) fun x37 =>
      bindO (fieldA 4 x37) fun x38 =>
      bindO (fieldA 0 x38) fun x39 =>
      M.bind (rdM (ld1 x39)) fun x40 =>
      bindO (fieldA 1 (getL l11 0)) fun x41 =>
      M.bind (stM 1 x41 (Value.int IntKind.i64 64)) fun _ =>
      getM fun W43 =>
      bindO (fieldA 2 (getL l11 0)) fun x44 =>
      M.bind (stM 1 x44 x10) fun _ =>
      getM fun W46 =>
      bindO (fieldA 3 (getL l11 0)) fun x47 =>
      M.bind (stM 1 x47 x40) fun _ =>
      getM fun _ =>
      reqM (ld1 x39 W43 = some x40) <|
      reqM (ld1 x39 W46 = some x40) <|
      M.bind (rdM (ldA 11 (getL l11 0))) fun x50 =>
      M.bind (bslM 44 1 (Builtin.zeroCells #[(Value.int IntKind.i64 0), (Value.int IntKind.i64 0), (Value.int IntKind.i64 0), (Value.int IntKind.i64 0), (Value.int IntKind.i64 0), (Value.int IntKind.i64 0), (Value.int IntKind.i64 0), (Value.int IntKind.i64 0), (Value.int IntKind.i64 0), (Value.string ByteArray.empty), (Value.string ByteArray.empty)] 1) [(0, 11, x50)]) fun x51 =>
      M.bind (appM 44 11 104 #[(Value.int IntKind.i64 0), (Value.int IntKind.i64 0), (Value.int IntKind.i64 0), (Value.int IntKind.i64 0), (Value.int IntKind.i64 0), (Value.int IntKind.i64 0), (Value.int IntKind.i64 0), (Value.int IntKind.i64 0), (Value.int IntKind.i64 0), (Value.string ByteArray.empty), (Value.string ByteArray.empty)] (getL l7 0) x51) fun x52 =>
      bindO (binV BinOp.add (getL l7 1) (Value.int IntKind.i64 1)) fun x53 =>
      M.ret (Out.norm [x52, x53])) (
      M.ret (Out.exit 0 [(getL l7 0), (getL l7 1)]))) [(Value.slice none 0 0), (Value.int IntKind.i64 0)]) fun o55 =>
  outK o55 (fun _ => M.fail) (fun i56 l54 =>
    bif Nat.beq i56 0 then (
      M.ret (getL l54 0)) else
    M.fail) (fun r57 => M.ret r57)
def F.control_Control_send.plan : Plan := (seq leaf (seq leaf (seq (seq leaf (body (loop [3, 14] [3, 5, 6, 14, 15, 16, 17, 18, 19, 20, 21, 22, 23, 24, 25, 26, 27, 28, 29, 30, 31, 32, 33, 34, 35, 36, 37, 38, 39, 40, 41, 42] [0] (seq leaf (seq (cond leaf leaf) (seq (body (seq leaf (seq (alts [6] [6, 18, 19, 20, 21, 22, 23, 24, 25, 26, 27, 28] [[0, 1, 2, 3, 4, 5, 6, 7, 8, 9, 10, 11, 12], [0, 1, 2, 3, 4, 5, 6, 7, 8, 9, 11, 10, 12]]) (seq leaf leaf)))) leaf)))))) (seq leaf leaf))))
theorem F.control_Control_send.lift : LiftOk Try.prog 37 (ap1 F.control_Control_send) :=
  lift1 (g := evFn Try.prog (tcons 49 (ap1 F.control_ledger_missing) tnil) F.control_Control_send.inv 37 Try.f37 F.control_Control_send.plan) (evFn_sound (tcons_ok F.control_ledger_missing.lift tnil_ok) F.control_Control_send.inv_ok Try.func37 (by kernel_rfl)) (fun x0 => by kernel_rfl)

/-- (*granary/control.Control).enter -/
noncomputable def F.control_Control_enter (a0 a1 : Value) : M Value :=
  bindO (nilChk a0) fun x1 =>
  bindO (fieldA 7 x1) fun x2 =>
  M.bind (stM 1 x2 a1) fun _ =>
  M.bind (F.control_Control_send a0) fun x4 =>
  M.ret x4
def F.control_Control_enter.plan : Plan := (seq leaf (seq leaf (seq leaf leaf)))
theorem F.control_Control_enter.lift : LiftOk Try.prog 34 (ap2 F.control_Control_enter) :=
  lift2 (g := evFn Try.prog (tcons 37 (ap1 F.control_Control_send) tnil) tnil 34 Try.f34 F.control_Control_enter.plan) (evFn_sound (tcons_ok F.control_Control_send.lift tnil_ok) tnil_ok Try.func34 (by kernel_rfl)) (fun x0 x1 => by kernel_rfl)

/-- (*granary/control.Control).back -/
noncomputable def F.control_Control_back (a0 : Value) : M Value :=
  bindO (nilChk a0) fun x1 =>
  bindO (fieldA 0 x1) fun x2 =>
  M.bind (rdM (ld1 x2)) fun x3 =>
  M.bind (F.control_newLedger x3) fun x4 =>
  bindO (buildV #[(Value.slice none 0 0), (Value.slice none 0 0), (Value.int IntKind.i64 0), (Value.int IntKind.i64 0)] [(0, 4, x4)]) fun x5 =>
  M.bind (newM 116 (Value.cells x5)) fun x6 =>
  M.bind (F.control_Control_enter a0 (Value.iface 115 x6)) fun x7 =>
  M.ret x7
def F.control_Control_back.plan : Plan := (seq leaf (seq leaf leaf))
theorem F.control_Control_back.lift : LiftOk Try.prog 30 (ap1 F.control_Control_back) :=
  lift1 (g := evFn Try.prog (tcons 33 (ap1 F.control_newLedger) (tcons 34 (ap2 F.control_Control_enter) tnil)) tnil 30 Try.f30 F.control_Control_back.plan) (evFn_sound (tcons_ok F.control_newLedger.lift (tcons_ok F.control_Control_enter.lift tnil_ok)) tnil_ok Try.func30 (by kernel_rfl)) (fun x0 => by kernel_rfl)

/-- granary/control.Resume -/
noncomputable def F.control_Resume (a0 a1 a2 a3 a4 : Value) : M Value :=
  M.bind (newM 26 (Value.cells a0)) fun x1 =>
  M.bind (rdM (ldA 23 x1)) fun x2 =>
  M.bind (F.control_New x2) fun x3 =>
  bindO (extV 0 x3) fun x4 =>
  bindO (extV 1 x3) fun x5 =>
  bindO (binV BinOp.neq x5 (Value.int IntKind.i64 0)) fun x6 =>
  condM x6 (
    M.ret (Value.tuple #[(Value.pointer none), (Value.slice none 0 0), x5])) (
    bindO (binV BinOp.lss a1 (Value.int IntKind.i64 0)) fun x7 =>
    M.bind (guardM x7 false (M.ret a1)) fun x8 =>
    M.bind (guardM x7 false (optM (binV BinOp.gtr x8 (Value.int IntKind.i64 9007199254740992)))) fun x9 =>
    bindO (pickV x7 (Value.bool true) x9) fun x10 =>
    M.bind (guardM x10 false (M.ret a4)) fun x11 =>
    M.bind (guardM x10 false (M.ret x11)) fun x12 =>
    M.bind (guardM x12 true (M.ret a1)) fun x13 =>
    M.bind (guardM x12 true (optM (binV BinOp.eql x13 (Value.int IntKind.i64 0)))) fun x14 =>
    M.bind (guardM x10 false (optM (pickV x12 x14 (Value.bool false)))) fun x15 =>
    bindO (pickV x10 (Value.bool true) x15) fun x16 =>
    condM x16 (
      M.ret (Value.tuple #[(Value.pointer none), (Value.slice none 0 0), (Value.int IntKind.i64 1)])) (
      bindO (nilChk x4) fun x17 =>
      bindO (fieldA 4 x17) fun x18 =>
      bindO (fieldA 0 x18) fun x19 =>
      M.bind (stM 1 x19 a1) fun _ =>
      bindO (notV a4) fun x21 =>
      condM x21 (
        M.ret (Value.tuple #[x4, (Value.slice none 0 0), (Value.int IntKind.i64 0)])) (
        bindO (binV BinOp.neq a2 (Value.int IntKind.i64 1)) fun x22 =>
        M.bind (guardM x22 true (M.ret a2)) fun x23 =>
        M.bind (guardM x22 true (optM (binV BinOp.neq x23 (Value.int IntKind.i64 2)))) fun x24 =>
        bindO (pickV x22 x24 (Value.bool false)) fun x25 =>
        condM x25 (
          M.ret (Value.tuple #[(Value.pointer none), (Value.slice none 0 0), (Value.int IntKind.i64 152)])) (
          bindO (binV BinOp.lss a3 (Value.int IntKind.i64 1)) fun x26 =>
          M.bind (guardM x26 false (M.ret a3)) fun x27 =>
          M.bind (guardM x26 false (optM (binV BinOp.gtr x27 (Value.int IntKind.i64 999999)))) fun x28 =>
          bindO (pickV x26 (Value.bool true) x28) fun x29 =>
          condM x29 (
            M.ret (Value.tuple #[(Value.pointer none), (Value.slice none 0 0), (Value.int IntKind.i64 80)])) (
            bindO (nilChk x4) fun x30 =>
            bindO (fieldA 4 x30) fun x31 =>
            bindO (fieldA 1 x31) fun x32 =>
            M.bind (stM 1 x32 a2) fun _ =>
            bindO (nilChk x4) fun x34 =>
            bindO (fieldA 4 x34) fun x35 =>
            bindO (fieldA 2 x35) fun x36 =>
            M.bind (stM 1 x36 a3) fun _ =>
            M.bind (F.control_Control_back x4) fun x38 =>
            M.ret (Value.tuple #[x4, x38, (Value.int IntKind.i64 0)]))))))
def F.control_Resume.plan : Plan := (seq leaf (seq leaf (seq (seq leaf (cond (seq leaf leaf) leaf)) (seq (seq leaf (cond (seq leaf leaf) leaf)) (seq leaf (seq (seq leaf (cond (seq leaf leaf) leaf)) (seq (seq leaf (cond (seq leaf leaf) leaf)) (seq (seq leaf (cond (seq leaf leaf) leaf)) (seq leaf (seq leaf leaf))))))))))
theorem F.control_Resume.lift : LiftOk Try.prog 9 (ap5 F.control_Resume) :=
  lift5 (g := evFn Try.prog (tcons 16 (ap1 F.control_New) (tcons 30 (ap1 F.control_Control_back) tnil)) tnil 9 Try.f9 F.control_Resume.plan) (evFn_sound (tcons_ok F.control_New.lift (tcons_ok F.control_Control_back.lift tnil_ok)) tnil_ok Try.func9 (by kernel_rfl)) (fun x0 x1 x2 x3 x4 => by kernel_rfl)

/-- granary/granarylaw15.num -/
noncomputable def F.granarylaw15_num (a0 : Value) : M Value :=
  M.ret a0
def F.granarylaw15_num.plan : Plan := (seq leaf (seq leaf leaf))
theorem F.granarylaw15_num.lift : LiftOk Try.prog 11 (ap1 F.granarylaw15_num) :=
  lift1 (g := evFn Try.prog tnil tnil 11 Try.f11 F.granarylaw15_num.plan) (evFn_sound tnil_ok tnil_ok Try.func11 (by kernel_rfl)) (fun x0 => by kernel_rfl)

/-- (*granary/control.Control).Busy -/
noncomputable def F.control_Control_Busy (a0 : Value) : M Value :=
  bindO (neV (EqSh.one EqK.ptr) a0 (Value.pointer none)) fun x1 =>
  M.bind (guardM x1 true (M.ret a0)) fun x2 =>
  M.bind (guardM x1 true (optM (nilChk x2))) fun x3 =>
  M.bind (guardM x1 true (optM (fieldA 7 x3))) fun x4 =>
  M.bind (guardM x1 true (rdM (ld1 x4))) fun x5 =>
  M.bind (guardM x1 true (optM (neV (EqSh.one EqK.ifn) x5 Value.nilIface))) fun x6 =>
  bindO (pickV x1 x6 (Value.bool false)) fun x7 =>
  M.ret x7
def F.control_Control_Busy.plan : Plan := (seq leaf (seq leaf leaf))
theorem F.control_Control_Busy.lift : LiftOk Try.prog 12 (ap1 F.control_Control_Busy) :=
  lift1 (g := evFn Try.prog tnil tnil 12 Try.f12 F.control_Control_Busy.plan) (evFn_sound tnil_ok tnil_ok Try.func12 (by kernel_rfl)) (fun x0 => by kernel_rfl)

/-- slices.Clone[[]int,int] -/
noncomputable def F.slices_Clone_inst (a0 : Value) : M Value :=
  bindO (eqV (EqSh.one EqK.sl) a0 (Value.slice none 0 0)) fun x1 =>
  condM x1 (
    M.ret (Value.slice none 0 0)) (
    M.bind (bslM 3 0 (Builtin.zeroCells #[(Value.int IntKind.i64 0)] 0) []) fun x2 =>
    M.bind (appM 3 1 8 #[(Value.int IntKind.i64 0)] x2 a0) fun x3 =>
    M.ret x3)
def F.slices_Clone_inst.plan : Plan := (seq leaf (seq (seq leaf (cond (seq leaf leaf) leaf)) (seq leaf leaf)))
theorem F.slices_Clone_inst.lift : LiftOk Try.prog 31 (ap1 F.slices_Clone_inst) :=
  lift1 (g := evFn Try.prog tnil tnil 31 Try.f31 F.slices_Clone_inst.plan) (evFn_sound tnil_ok tnil_ok Try.func31 (by kernel_rfl)) (fun x0 => by kernel_rfl)

/-- (*granary/control.Control).Report -/
noncomputable def F.control_Control_Report (a0 : Value) : M Value :=
  M.bind (newM 39 #[(Value.int IntKind.i64 0), (Value.int IntKind.i64 0), (Value.int IntKind.i64 0), (Value.int IntKind.i64 0), (Value.slice none 0 0), (Value.slice none 0 0)]) fun x1 =>
  bindO (eqV (EqSh.one EqK.ptr) a0 (Value.pointer none)) fun x2 =>
  condM x2 (
    bindO (buildV #[(Value.int IntKind.i64 0), (Value.int IntKind.i64 0), (Value.int IntKind.i64 0), (Value.int IntKind.i64 0), (Value.slice none 0 0), (Value.slice none 0 0)] []) fun x3 =>
    M.bind (stM 6 x1 x3) fun _ =>
    M.bind (rdM (ldA 6 x1)) fun x5 =>
    M.ret (Value.tuple #[x5, (Value.int IntKind.i64 2)])) (
    bindO (nilChk a0) fun x6 =>
    bindO (fieldA 8 x6) fun x7 =>
    M.bind (rdM (ld1 x7)) fun x8 =>
    bindO (notV x8) fun x9 =>
    condM x9 (
      bindO (buildV #[(Value.int IntKind.i64 0), (Value.int IntKind.i64 0), (Value.int IntKind.i64 0), (Value.int IntKind.i64 0), (Value.slice none 0 0), (Value.slice none 0 0)] []) fun x10 =>
      M.bind (stM 6 x1 x10) fun _ =>
      M.bind (rdM (ldA 6 x1)) fun x12 =>
      M.ret (Value.tuple #[x12, (Value.int IntKind.i64 151)])) (
      bindO (nilChk a0) fun x13 =>
      bindO (fieldA 9 x13) fun x14 =>
      M.bind (rdM (ldA 6 x14)) fun x15 =>
      M.bind (newM 39 #[(Value.int IntKind.i64 0), (Value.int IntKind.i64 0), (Value.int IntKind.i64 0), (Value.int IntKind.i64 0), (Value.slice none 0 0), (Value.slice none 0 0)]) fun x16 =>
      M.bind (stM 6 x16 x15) fun _ =>
      drewM <|
      getM fun W18 =>
      bindO (fieldA 4 x16) fun x19 =>
      M.bind (rdM (ld1 x19)) fun x20 =>
      M.bind (F.slices_Clone_inst x20) fun x21 =>
      getM fun _ =>
      bindO (fieldA 5 x16) fun x23 =>
      M.bind (rdM (ld1 x23)) fun x24 =>
      M.bind (F.slices_Clone_inst x24) fun x25 =>
      getM fun _ =>
      bindO (fieldA 4 x16) fun x27 =>
      M.bind (stM 1 x27 x21) fun _ =>
      getM fun _ =>
      bindO (fieldA 5 x16) fun x30 =>
      M.bind (stM 1 x30 x25) fun _ =>
      getM fun _ =>
      reqM (ld1 x23 W18 = some x24) <|
      M.bind (rdM (ldA 6 x16)) fun x33 =>
      M.bind (stM 6 x1 x33) fun _ =>
      M.bind (rdM (ldA 6 x1)) fun x35 =>
      M.ret (Value.tuple #[x35, (Value.int IntKind.i64 0)])))
def F.control_Control_Report.plan : Plan := (seq leaf (seq (seq leaf (cond (seq leaf leaf) leaf)) (seq (seq leaf (cond (seq leaf leaf) leaf)) (seq leaf (seq leaf (seq leaf leaf))))))
theorem F.control_Control_Report.lift : LiftOk Try.prog 13 (ap1 F.control_Control_Report) :=
  lift1 (g := evFn Try.prog (tcons 31 (ap1 F.slices_Clone_inst) tnil) tnil 13 Try.f13 F.control_Control_Report.plan) (evFn_sound (tcons_ok F.slices_Clone_inst.lift tnil_ok) tnil_ok Try.func13 (by kernel_rfl)) (fun x0 => by kernel_rfl)

/-- (*granary/control.Control).Begin -/
noncomputable def F.control_Control_Begin (a0 a1 a2 : Value) : M Value :=
  bindO (eqV (EqSh.one EqK.ptr) a0 (Value.pointer none)) fun x1 =>
  condM x1 (
    M.ret (Value.tuple #[(Value.slice none 0 0), (Value.int IntKind.i64 2)])) (
    bindO (nilChk a0) fun x2 =>
    bindO (fieldA 7 x2) fun x3 =>
    M.bind (rdM (ld1 x3)) fun x4 =>
    bindO (neV (EqSh.one EqK.ifn) x4 Value.nilIface) fun x5 =>
    condM x5 (
      M.ret (Value.tuple #[(Value.slice none 0 0), (Value.int IntKind.i64 150)])) (
      bindO (nilChk a0) fun x6 =>
      bindO (fieldA 0 x6) fun x7 =>
      M.bind (rdM (ld1 x7)) fun x8 =>
      M.bind (F.control_newLedger x8) fun x9 =>
      M.bind (newM 86 #[(Value.slice none 0 0), (Value.slice none 0 0), (Value.int IntKind.i64 0), (Value.int IntKind.i64 0)]) fun x10 =>
      M.bind (stM 4 x10 x9) fun _ =>
      M.bind (
        bindO (binV BinOp.eql a1 (Value.int IntKind.i64 1)) fun x12 =>
        condM x12 (
          M.bind (rdM (ldA 4 x10)) fun x13 =>
          bindO (buildV #[(Value.slice none 0 0), (Value.slice none 0 0), (Value.int IntKind.i64 0), (Value.int IntKind.i64 0)] [(0, 4, x13)]) fun x14 =>
          M.bind (newM 90 (Value.cells x14)) fun x15 =>
          M.ret (Out.norm [(Value.iface 88 x15)])) (
          bindO (binV BinOp.eql a1 (Value.int IntKind.i64 2)) fun x16 =>
          condM x16 (
            M.bind (rdM (ldA 4 x10)) fun x17 =>
            bindO (buildV #[(Value.slice none 0 0), (Value.slice none 0 0), (Value.int IntKind.i64 0), (Value.int IntKind.i64 0)] [(0, 4, x17)]) fun x18 =>
            M.bind (newM 92 (Value.cells x18)) fun x19 =>
            M.ret (Out.norm [(Value.iface 91 x19)])) (
            bindO (binV BinOp.eql a1 (Value.int IntKind.i64 3)) fun x20 =>
            condM x20 (
              M.bind (rdM (ldA 4 x10)) fun x21 =>
              bindO (buildV #[(Value.slice none 0 0), (Value.slice none 0 0), (Value.int IntKind.i64 0), (Value.int IntKind.i64 0)] [(0, 4, x21)]) fun x22 =>
              M.bind (newM 94 (Value.cells x22)) fun x23 =>
              M.ret (Out.norm [(Value.iface 93 x23)])) (
              M.ret (Out.ret (Value.tuple #[(Value.slice none 0 0), (Value.int IntKind.i64 152)])))))) fun o25 =>
      outK o25 (fun l24 =>
        M.bind (
          bindO (binV BinOp.eql a1 (Value.int IntKind.i64 3)) fun x28 =>
          condM x28 (
            M.ret (Out.norm [(Value.int IntKind.i64 0), (Value.int IntKind.i64 0)])) (
            M.ret (Out.norm [(Value.int IntKind.i64 1), (Value.int IntKind.i64 999999)]))) fun o30 =>
        outK o30 (fun l29 =>
          bindO (binV BinOp.lss a2 (getL l29 0)) fun x33 =>
          M.bind (guardM x33 false (M.ret a2)) fun x34 =>
          M.bind (guardM x33 false (M.ret (getL l29 1))) fun x35 =>
          M.bind (guardM x33 false (optM (binV BinOp.gtr x34 x35))) fun x36 =>
          bindO (pickV x33 (Value.bool true) x36) fun x37 =>
          condM x37 (
            M.ret (Value.tuple #[(Value.slice none 0 0), (Value.int IntKind.i64 80)])) (
            bindO (nilChk a0) fun x38 =>
            bindO (fieldA 4 x38) fun x39 =>
            bindO (fieldA 0 x39) fun x40 =>
            M.bind (rdM (ld1 x40)) fun x41 =>
            bindO (binV BinOp.geq x41 (Value.int IntKind.i64 9007199254740992)) fun x42 =>
            condM x42 (
              M.ret (Value.tuple #[(Value.slice none 0 0), (Value.int IntKind.i64 3)])) (
              bindO (nilChk a0) fun x43 =>
              bindO (fieldA 4 x43) fun x44 =>
              bindO (fieldA 0 x44) fun x45 =>
              M.bind (rdM (ld1 x45)) fun x46 =>
              bindO (binV BinOp.add x46 (Value.int IntKind.i64 1)) fun x47 =>
              bindO (buildV #[(Value.int IntKind.i64 0), (Value.int IntKind.i64 0), (Value.int IntKind.i64 0)] [(0, 1, x47), (1, 1, a1), (2, 1, a2)]) fun x48 =>
              bindO (nilChk a0) fun x49 =>
              bindO (fieldA 4 x49) fun x50 =>
              M.bind (stM 3 x50 x48) fun _ =>
              M.bind (F.control_Control_enter a0 (getL l24 0)) fun x52 =>
              M.ret (Value.tuple #[x52, (Value.int IntKind.i64 0)])))) (fun _ _ =>
          M.fail) (fun r32 => M.ret r32)) (fun _ _ =>
        M.fail) (fun r27 => M.ret r27)))
def F.control_Control_Begin.plan : Plan := (seq leaf (seq (seq leaf (cond (seq leaf leaf) leaf)) (seq (seq leaf (cond (seq leaf leaf) leaf)) (seq leaf (seq leaf (fork [9] [6, 7, 9, 24, 25, 26, 27, 28, 29, 30, 31, 32, 33, 34, 35, 36, 37, 38, 39, 40, 41, 42] [] (seq leaf (body (seq leaf (cond leaf (seq leaf (cond leaf (seq leaf (cond leaf (seq leaf leaf))))))))) (seq leaf (fork [10, 11] [10, 11, 43, 44] [] (seq leaf (cond leaf leaf)) (seq (seq leaf (cond (seq leaf leaf) leaf)) (seq (seq leaf (cond (seq leaf leaf) leaf)) (seq leaf (seq leaf leaf))))))))))))
theorem F.control_Control_Begin.lift : LiftOk Try.prog 17 (ap3 F.control_Control_Begin) :=
  lift3 (g := evFn Try.prog (tcons 33 (ap1 F.control_newLedger) (tcons 34 (ap2 F.control_Control_enter) tnil)) tnil 17 Try.f17 F.control_Control_Begin.plan) (evFn_sound (tcons_ok F.control_newLedger.lift (tcons_ok F.control_Control_enter.lift tnil_ok)) tnil_ok Try.func17 (by kernel_rfl)) (fun x0 x1 x2 => by kernel_rfl)

/-- (*granary/control.fetching).fits -/
noncomputable def F.control_fetching_fits (_a0 a1 a2 : Value) : M Value :=
  M.bind (newM 74 (Value.cells a1)) fun x1 =>
  M.bind (newM 44 (Value.cells a2)) fun x2 =>
  bindO (fieldA 0 x2) fun x3 =>
  M.bind (rdM (ld1 x3)) fun x4 =>
  bindO (binV BinOp.eql x4 (Value.int IntKind.i64 4)) fun x5 =>
  M.bind (guardM x5 true (optM (fieldA 4 x2))) fun x6 =>
  M.bind (guardM x5 true (rdM (ld1 x6))) fun x7 =>
  M.bind (guardM x5 true (optM (fieldA 0 x1))) fun x8 =>
  M.bind (guardM x5 true (rdM (ld1 x8))) fun x9 =>
  M.bind (guardM x5 true (optM (binV BinOp.eql x7 x9))) fun x10 =>
  bindO (pickV x5 x10 (Value.bool false)) fun x11 =>
  M.bind (guardM x11 true (optM (fieldA 6 x2))) fun x12 =>
  M.bind (guardM x11 true (rdM (ld1 x12))) fun x13 =>
  M.bind (guardM x11 true (optM (fieldA 2 x1))) fun x14 =>
  M.bind (guardM x11 true (rdM (ld1 x14))) fun x15 =>
  M.bind (guardM x11 true (optM (binV BinOp.eql x13 x15))) fun x16 =>
  bindO (pickV x11 x16 (Value.bool false)) fun x17 =>
  M.ret x17
def F.control_fetching_fits.plan : Plan := (seq leaf (seq leaf leaf))
theorem F.control_fetching_fits.lift : LiftOk Try.prog 103 (ap3 F.control_fetching_fits) :=
  lift3 (g := evFn Try.prog tnil tnil 103 Try.f103 F.control_fetching_fits.plan) (evFn_sound tnil_ok tnil_ok Try.func103 (by kernel_rfl)) (fun x0 x1 x2 => by kernel_rfl)

/-- (*granary/control.swapping).fits -/
noncomputable def F.control_swapping_fits (_a0 a1 a2 : Value) : M Value :=
  M.bind (newM 74 (Value.cells a1)) fun x1 =>
  M.bind (newM 44 (Value.cells a2)) fun x2 =>
  bindO (fieldA 0 x2) fun x3 =>
  M.bind (rdM (ld1 x3)) fun x4 =>
  bindO (binV BinOp.eql x4 (Value.int IntKind.i64 6)) fun x5 =>
  M.bind (guardM x5 true (optM (fieldA 4 x2))) fun x6 =>
  M.bind (guardM x5 true (rdM (ld1 x6))) fun x7 =>
  M.bind (guardM x5 true (optM (fieldA 0 x1))) fun x8 =>
  M.bind (guardM x5 true (rdM (ld1 x8))) fun x9 =>
  M.bind (guardM x5 true (optM (binV BinOp.eql x7 x9))) fun x10 =>
  bindO (pickV x5 x10 (Value.bool false)) fun x11 =>
  M.bind (guardM x11 true (optM (fieldA 5 x2))) fun x12 =>
  M.bind (guardM x11 true (rdM (ld1 x12))) fun x13 =>
  M.bind (guardM x11 true (optM (binV BinOp.eql x13 (Value.int IntKind.i64 1)))) fun x14 =>
  bindO (pickV x11 x14 (Value.bool false)) fun x15 =>
  M.bind (guardM x15 true (optM (fieldA 8 x2))) fun x16 =>
  M.bind (guardM x15 true (rdM (ld1 x16))) fun x17 =>
  M.bind (guardM x15 true (optM (binV BinOp.neq x17 (Value.int IntKind.i64 0)))) fun x18 =>
  M.bind (guardM x15 true (M.ret x18)) fun x19 =>
  M.bind (guardM x19 false (optM (fieldA 6 x2))) fun x20 =>
  M.bind (guardM x19 false (rdM (ld1 x20))) fun x21 =>
  M.bind (guardM x19 false (optM (fieldA 2 x1))) fun x22 =>
  M.bind (guardM x19 false (rdM (ld1 x22))) fun x23 =>
  M.bind (guardM x19 false (optM (binV BinOp.eql x21 x23))) fun x24 =>
  M.bind (guardM x15 true (optM (pickV x19 (Value.bool true) x24))) fun x25 =>
  bindO (pickV x15 x25 (Value.bool false)) fun x26 =>
  M.ret x26
def F.control_swapping_fits.plan : Plan := (seq leaf (seq leaf leaf))
theorem F.control_swapping_fits.lift : LiftOk Try.prog 108 (ap3 F.control_swapping_fits) :=
  lift3 (g := evFn Try.prog tnil tnil 108 Try.f108 F.control_swapping_fits.plan) (evFn_sound tnil_ok tnil_ok Try.func108 (by kernel_rfl)) (fun x0 x1 x2 => by kernel_rfl)

/-- (*granary/control.looking).fits -/
noncomputable def F.control_looking_fits (_a0 a1 a2 : Value) : M Value :=
  M.bind (newM 74 (Value.cells a1)) fun _ =>
  M.bind (newM 44 (Value.cells a2)) fun x2 =>
  bindO (fieldA 0 x2) fun x3 =>
  M.bind (rdM (ld1 x3)) fun x4 =>
  bindO (binV BinOp.eql x4 (Value.int IntKind.i64 10)) fun x5 =>
  M.ret x5
def F.control_looking_fits.plan : Plan := (seq leaf (seq leaf leaf))
theorem F.control_looking_fits.lift : LiftOk Try.prog 114 (ap3 F.control_looking_fits) :=
  lift3 (g := evFn Try.prog tnil tnil 114 Try.f114 F.control_looking_fits.plan) (evFn_sound tnil_ok tnil_ok Try.func114 (by kernel_rfl)) (fun x0 x1 x2 => by kernel_rfl)

/-- (*granary/control.backing).fits -/
noncomputable def F.control_backing_fits (_a0 a1 a2 : Value) : M Value :=
  M.bind (newM 74 (Value.cells a1)) fun x1 =>
  M.bind (newM 44 (Value.cells a2)) fun x2 =>
  bindO (fieldA 0 x2) fun x3 =>
  M.bind (rdM (ld1 x3)) fun x4 =>
  bindO (binV BinOp.eql x4 (Value.int IntKind.i64 8)) fun x5 =>
  M.bind (guardM x5 true (optM (fieldA 4 x2))) fun x6 =>
  M.bind (guardM x5 true (rdM (ld1 x6))) fun x7 =>
  M.bind (guardM x5 true (optM (fieldA 0 x1))) fun x8 =>
  M.bind (guardM x5 true (rdM (ld1 x8))) fun x9 =>
  M.bind (guardM x5 true (optM (binV BinOp.eql x7 x9))) fun x10 =>
  bindO (pickV x5 x10 (Value.bool false)) fun x11 =>
  M.bind (guardM x11 true (optM (fieldA 5 x2))) fun x12 =>
  M.bind (guardM x11 true (rdM (ld1 x12))) fun x13 =>
  M.bind (guardM x11 true (optM (binV BinOp.eql x13 (Value.int IntKind.i64 2)))) fun x14 =>
  bindO (pickV x11 x14 (Value.bool false)) fun x15 =>
  M.ret x15
def F.control_backing_fits.plan : Plan := (seq leaf (seq leaf leaf))
theorem F.control_backing_fits.lift : LiftOk Try.prog 120 (ap3 F.control_backing_fits) :=
  lift3 (g := evFn Try.prog tnil tnil 120 Try.f120 F.control_backing_fits.plan) (evFn_sound tnil_ok tnil_ok Try.func120 (by kernel_rfl)) (fun x0 x1 x2 => by kernel_rfl)

/-- (*granary/control.fetching).refused -/
noncomputable def F.control_fetching_refused (_a0 a1 : Value) : M Value :=
  M.bind (F.control_Control_back a1) fun x1 =>
  M.ret x1
def F.control_fetching_refused.plan : Plan := (seq leaf (seq leaf leaf))
theorem F.control_fetching_refused.lift : LiftOk Try.prog 105 (ap2 F.control_fetching_refused) :=
  lift2 (g := evFn Try.prog (tcons 30 (ap1 F.control_Control_back) tnil) tnil 105 Try.f105 F.control_fetching_refused.plan) (evFn_sound (tcons_ok F.control_Control_back.lift tnil_ok) tnil_ok Try.func105 (by kernel_rfl)) (fun x0 x1 => by kernel_rfl)

/-- (*granary/control.swapping).refused -/
noncomputable def F.control_swapping_refused (_a0 a1 : Value) : M Value :=
  M.bind (F.control_Control_back a1) fun x1 =>
  M.ret x1
def F.control_swapping_refused.plan : Plan := (seq leaf (seq leaf leaf))
theorem F.control_swapping_refused.lift : LiftOk Try.prog 111 (ap2 F.control_swapping_refused) :=
  lift2 (g := evFn Try.prog (tcons 30 (ap1 F.control_Control_back) tnil) tnil 111 Try.f111 F.control_swapping_refused.plan) (evFn_sound (tcons_ok F.control_Control_back.lift tnil_ok) tnil_ok Try.func111 (by kernel_rfl)) (fun x0 x1 => by kernel_rfl)

/-- (*granary/control.looking).refused -/
noncomputable def F.control_looking_refused (_a0 _a1 : Value) : M Value :=
  M.ret (Value.slice none 0 0)
def F.control_looking_refused.plan : Plan := (seq leaf (seq leaf leaf))
theorem F.control_looking_refused.lift : LiftOk Try.prog 117 (ap2 F.control_looking_refused) :=
  lift2 (g := evFn Try.prog tnil tnil 117 Try.f117 F.control_looking_refused.plan) (evFn_sound tnil_ok tnil_ok Try.func117 (by kernel_rfl)) (fun x0 x1 => by kernel_rfl)

/-- (*granary/control.backing).refused -/
noncomputable def F.control_backing_refused (_a0 _a1 : Value) : M Value :=
  M.ret (Value.slice none 0 0)
def F.control_backing_refused.plan : Plan := (seq leaf (seq leaf leaf))
theorem F.control_backing_refused.lift : LiftOk Try.prog 123 (ap2 F.control_backing_refused) :=
  lift2 (g := evFn Try.prog tnil tnil 123 Try.f123 F.control_backing_refused.plan) (evFn_sound tnil_ok tnil_ok Try.func123 (by kernel_rfl)) (fun x0 x1 => by kernel_rfl)

/-- slices.Index[[]bool,bool] -/
noncomputable def F.slices_Index_inst (a0 a1 : Value) : M Value :=
  bindO (lenL a0) fun x1 =>
  M.bind (loopM (fun l2 =>
    bindO (binV BinOp.lss (getL l2 0) x1) fun x3 =>
    condM x3 (
      bindO (idxA 1 a0 (getL l2 0)) fun x4 =>
      M.bind (rdM (ld1 x4)) fun x5 =>
      bindO (eqV (EqSh.one EqK.bool) a1 x5) fun x6 =>
      condM x6 (
        M.ret (Out.ret (getL l2 0))) (
        bindO (binV BinOp.add (getL l2 0) (Value.int IntKind.i64 1)) fun x7 =>
        M.ret (Out.norm [x7]))) (
      M.ret (Out.exit 0 [(getL l2 0)]))) [(Value.int IntKind.i64 0)]) fun o9 =>
  outK o9 (fun _ => M.fail) (fun i10 _ =>
    bif Nat.beq i10 0 then (
      M.ret (Value.int IntKind.i64 (-1))) else
    M.fail) (fun r11 => M.ret r11)
def F.slices_Index_inst.plan : Plan := (seq leaf (seq (seq leaf (body (loop [8] [4, 5, 8, 9, 10, 11, 12, 13, 14, 15, 16, 17, 18] [0] (seq leaf (seq (cond leaf leaf) (seq (body (seq leaf (seq leaf (cond (seq leaf leaf) leaf)))) leaf)))))) (seq leaf leaf)))
theorem F.slices_Index_inst.lift : LiftOk Try.prog 50 (ap2 F.slices_Index_inst) :=
  lift2 (g := evFn Try.prog tnil tnil 50 Try.f50 F.slices_Index_inst.plan) (evFn_sound tnil_ok tnil_ok Try.func50 (by kernel_rfl)) (fun x0 x1 => by kernel_rfl)

/-- slices.Contains[[]bool,bool] -/
noncomputable def F.slices_Contains_inst (a0 a1 : Value) : M Value :=
  M.bind (F.slices_Index_inst a0 a1) fun x1 =>
  bindO (binV BinOp.geq x1 (Value.int IntKind.i64 0)) fun x2 =>
  M.ret x2
def F.slices_Contains_inst.plan : Plan := (seq leaf (seq leaf leaf))
theorem F.slices_Contains_inst.lift : LiftOk Try.prog 38 (ap2 F.slices_Contains_inst) :=
  lift2 (g := evFn Try.prog (tcons 50 (ap2 F.slices_Index_inst) tnil) tnil 38 Try.f38 F.slices_Contains_inst.plan) (evFn_sound (tcons_ok F.slices_Index_inst.lift tnil_ok) tnil_ok Try.func38 (by kernel_rfl)) (fun x0 x1 => by kernel_rfl)

/-- (*granary/control.fetching).done -/
noncomputable def F.control_fetching_done (_a0 a1 : Value) : M Value :=
  bindO (nilChk a1) fun x1 =>
  bindO (fieldA 0 x1) fun x2 =>
  M.bind (rdM (ld1 x2)) fun x3 =>
  M.bind (F.control_newLedger x3) fun x4 =>
  bindO (buildV #[(Value.slice none 0 0), (Value.slice none 0 0), (Value.int IntKind.i64 0), (Value.int IntKind.i64 0)] [(0, 4, x4)]) fun x5 =>
  M.bind (newM 92 (Value.cells x5)) fun x6 =>
  M.bind (F.control_Control_enter a1 (Value.iface 91 x6)) fun x7 =>
  M.ret x7
def F.control_fetching_done.plan : Plan := (seq leaf (seq leaf leaf))
theorem F.control_fetching_done.lift : LiftOk Try.prog 102 (ap2 F.control_fetching_done) :=
  lift2 (g := evFn Try.prog (tcons 33 (ap1 F.control_newLedger) (tcons 34 (ap2 F.control_Control_enter) tnil)) tnil 102 Try.f102 F.control_fetching_done.plan) (evFn_sound (tcons_ok F.control_newLedger.lift (tcons_ok F.control_Control_enter.lift tnil_ok)) tnil_ok Try.func102 (by kernel_rfl)) (fun x0 x1 => by kernel_rfl)

/-- What this function's calls through interface values come to. -/
noncomputable def F.control_Control_end.inv : Tab := (tcons 101 (ap1 F.control_ledger_book) tnil)
theorem F.control_Control_end.inv_ok : TabOk Try.prog F.control_Control_end.inv := (tcons_ok F.control_ledger_book.lift tnil_ok)
theorem F.control_Control_end.inv_88_book (v : Value) : invV Try.prog F.control_Control_end.inv "granary/control.book" (.iface 88 v) [] = (match fieldA 0 v with | some p => F.control_ledger_book p | none => M.fail) := by kernel_rfl
theorem F.control_Control_end.inv_91_book (v : Value) : invV Try.prog F.control_Control_end.inv "granary/control.book" (.iface 91 v) [] = (match fieldA 0 v with | some p => F.control_ledger_book p | none => M.fail) := by kernel_rfl
theorem F.control_Control_end.inv_93_book (v : Value) : invV Try.prog F.control_Control_end.inv "granary/control.book" (.iface 93 v) [] = (match fieldA 0 v with | some p => F.control_ledger_book p | none => M.fail) := by kernel_rfl
theorem F.control_Control_end.inv_115_book (v : Value) : invV Try.prog F.control_Control_end.inv "granary/control.book" (.iface 115 v) [] = (match fieldA 0 v with | some p => F.control_ledger_book p | none => M.fail) := by kernel_rfl
/-- (*granary/control.Control).end -/
noncomputable def F.control_Control_end (a0 a1 : Value) : M Value :=
  bindO (nilChk a0) fun x1 =>
  bindO (fieldA 7 x1) fun x2 =>
  M.bind (rdM (ld1 x2)) fun x3 =>
  M.bind (invV Try.prog F.control_Control_end.inv "granary/control.book" x3 []) fun x4 =>
  drewM <|
  getM fun _ =>
  bindO (nilChk a0) fun x6 =>
  bindO (fieldA 4 x6) fun x7 =>
  bindO (fieldA 0 x7) fun x8 =>
  M.bind (rdM (ld1 x8)) fun x9 =>
  bindO (nilChk a0) fun x10 =>
  bindO (fieldA 4 x10) fun x11 =>
  bindO (fieldA 1 x11) fun x12 =>
  M.bind (rdM (ld1 x12)) fun x13 =>
  bindO (nilChk a0) fun x14 =>
  bindO (fieldA 4 x14) fun x15 =>
  bindO (fieldA 2 x15) fun x16 =>
  M.bind (rdM (ld1 x16)) fun x17 =>
  bindO (nilChk x4) fun x18 =>
  bindO (fieldA 1 x18) fun x19 =>
  M.bind (rdM (ld1 x19)) fun x20 =>
  M.bind (F.slices_Clone_inst x20) fun x21 =>
  getM fun W22 =>
  M.bind (F.control_ledger_missing x4) fun x23 =>
  getM fun W24 =>
  bindO (buildV #[(Value.int IntKind.i64 0), (Value.int IntKind.i64 0), (Value.int IntKind.i64 0), (Value.int IntKind.i64 0), (Value.slice none 0 0), (Value.slice none 0 0)] [(0, 1, x9), (1, 1, x13), (2, 1, x17), (3, 1, a1), (4, 1, x21), (5, 1, x23)]) fun x25 =>
  bindO (nilChk a0) fun x26 =>
  bindO (fieldA 9 x26) fun x27 =>
  M.bind (stM 6 x27 x25) fun _ =>
  getM fun _ =>
  reqM (ld1 x8 W22 = some x9) <|
  reqM (ld1 x8 W24 = some x9) <|
  reqM (ld1 x12 W22 = some x13) <|
  reqM (ld1 x12 W24 = some x13) <|
  reqM (ld1 x16 W22 = some x17) <|
  reqM (ld1 x16 W24 = some x17) <|
  bindO (nilChk a0) fun x30 =>
  bindO (fieldA 8 x30) fun x31 =>
  M.bind (stM 1 x31 (Value.bool true)) fun _ =>
  bindO (nilChk a0) fun x33 =>
  bindO (fieldA 7 x33) fun x34 =>
  M.bind (stM 1 x34 Value.nilIface) fun _ =>
  M.ret (Value.slice none 0 0)
def F.control_Control_end.plan : Plan := (seq leaf (seq leaf (seq leaf (seq leaf (seq leaf (seq leaf leaf))))))
theorem F.control_Control_end.lift : LiftOk Try.prog 44 (ap2 F.control_Control_end) :=
  lift2 (g := evFn Try.prog (tcons 31 (ap1 F.slices_Clone_inst) (tcons 49 (ap1 F.control_ledger_missing) tnil)) F.control_Control_end.inv 44 Try.f44 F.control_Control_end.plan) (evFn_sound (tcons_ok F.slices_Clone_inst.lift (tcons_ok F.control_ledger_missing.lift tnil_ok)) F.control_Control_end.inv_ok Try.func44 (by kernel_rfl)) (fun x0 x1 => by kernel_rfl)

/-- (*granary/control.swapping).done -/
noncomputable def F.control_swapping_done (_a0 a1 : Value) : M Value :=
  M.bind (F.control_Control_end a1 (Value.int IntKind.i64 1)) fun x1 =>
  M.ret x1
def F.control_swapping_done.plan : Plan := (seq leaf (seq leaf leaf))
theorem F.control_swapping_done.lift : LiftOk Try.prog 107 (ap2 F.control_swapping_done) :=
  lift2 (g := evFn Try.prog (tcons 44 (ap2 F.control_Control_end) tnil) tnil 107 Try.f107 F.control_swapping_done.plan) (evFn_sound (tcons_ok F.control_Control_end.lift tnil_ok) tnil_ok Try.func107 (by kernel_rfl)) (fun x0 x1 => by kernel_rfl)

/-- (*granary/control.looking).done -/
noncomputable def F.control_looking_done (_a0 a1 : Value) : M Value :=
  M.bind (F.control_Control_end a1 (Value.int IntKind.i64 1)) fun x1 =>
  M.ret x1
def F.control_looking_done.plan : Plan := (seq leaf (seq leaf leaf))
theorem F.control_looking_done.lift : LiftOk Try.prog 113 (ap2 F.control_looking_done) :=
  lift2 (g := evFn Try.prog (tcons 44 (ap2 F.control_Control_end) tnil) tnil 113 Try.f113 F.control_looking_done.plan) (evFn_sound (tcons_ok F.control_Control_end.lift tnil_ok) tnil_ok Try.func113 (by kernel_rfl)) (fun x0 x1 => by kernel_rfl)

/-- (*granary/control.backing).done -/
noncomputable def F.control_backing_done (_a0 a1 : Value) : M Value :=
  M.bind (F.control_Control_end a1 (Value.int IntKind.i64 2)) fun x1 =>
  M.ret x1
def F.control_backing_done.plan : Plan := (seq leaf (seq leaf leaf))
theorem F.control_backing_done.lift : LiftOk Try.prog 119 (ap2 F.control_backing_done) :=
  lift2 (g := evFn Try.prog (tcons 44 (ap2 F.control_Control_end) tnil) tnil 119 Try.f119 F.control_backing_done.plan) (evFn_sound (tcons_ok F.control_Control_end.lift tnil_ok) tnil_ok Try.func119 (by kernel_rfl)) (fun x0 x1 => by kernel_rfl)

/-- What this function's calls through interface values come to. -/
noncomputable def F.control_Control_Take.inv : Tab := (tcons 101 (ap1 F.control_ledger_book) (tcons 102 (ap2 F.control_fetching_done) (tcons 103 (ap3 F.control_fetching_fits) (tcons 105 (ap2 F.control_fetching_refused) (tcons 107 (ap2 F.control_swapping_done) (tcons 108 (ap3 F.control_swapping_fits) (tcons 111 (ap2 F.control_swapping_refused) (tcons 113 (ap2 F.control_looking_done) (tcons 114 (ap3 F.control_looking_fits) (tcons 117 (ap2 F.control_looking_refused) (tcons 119 (ap2 F.control_backing_done) (tcons 120 (ap3 F.control_backing_fits) (tcons 123 (ap2 F.control_backing_refused) tnil)))))))))))))
theorem F.control_Control_Take.inv_ok : TabOk Try.prog F.control_Control_Take.inv := (tcons_ok F.control_ledger_book.lift (tcons_ok F.control_fetching_done.lift (tcons_ok F.control_fetching_fits.lift (tcons_ok F.control_fetching_refused.lift (tcons_ok F.control_swapping_done.lift (tcons_ok F.control_swapping_fits.lift (tcons_ok F.control_swapping_refused.lift (tcons_ok F.control_looking_done.lift (tcons_ok F.control_looking_fits.lift (tcons_ok F.control_looking_refused.lift (tcons_ok F.control_backing_done.lift (tcons_ok F.control_backing_fits.lift (tcons_ok F.control_backing_refused.lift tnil_ok)))))))))))))
theorem F.control_Control_Take.inv_88_book (v : Value) : invV Try.prog F.control_Control_Take.inv "granary/control.book" (.iface 88 v) [] = (match fieldA 0 v with | some p => F.control_ledger_book p | none => M.fail) := by kernel_rfl
theorem F.control_Control_Take.inv_88_done (v x0 : Value) : invV Try.prog F.control_Control_Take.inv "granary/control.done" (.iface 88 v) [x0] = F.control_fetching_done v x0 := by kernel_rfl
theorem F.control_Control_Take.inv_88_fits (v x0 x1 : Value) : invV Try.prog F.control_Control_Take.inv "granary/control.fits" (.iface 88 v) [x0, x1] = F.control_fetching_fits v x0 x1 := by kernel_rfl
theorem F.control_Control_Take.inv_88_refused (v x0 : Value) : invV Try.prog F.control_Control_Take.inv "granary/control.refused" (.iface 88 v) [x0] = F.control_fetching_refused v x0 := by kernel_rfl
theorem F.control_Control_Take.inv_91_book (v : Value) : invV Try.prog F.control_Control_Take.inv "granary/control.book" (.iface 91 v) [] = (match fieldA 0 v with | some p => F.control_ledger_book p | none => M.fail) := by kernel_rfl
theorem F.control_Control_Take.inv_91_done (v x0 : Value) : invV Try.prog F.control_Control_Take.inv "granary/control.done" (.iface 91 v) [x0] = F.control_swapping_done v x0 := by kernel_rfl
theorem F.control_Control_Take.inv_91_fits (v x0 x1 : Value) : invV Try.prog F.control_Control_Take.inv "granary/control.fits" (.iface 91 v) [x0, x1] = F.control_swapping_fits v x0 x1 := by kernel_rfl
theorem F.control_Control_Take.inv_91_refused (v x0 : Value) : invV Try.prog F.control_Control_Take.inv "granary/control.refused" (.iface 91 v) [x0] = F.control_swapping_refused v x0 := by kernel_rfl
theorem F.control_Control_Take.inv_93_book (v : Value) : invV Try.prog F.control_Control_Take.inv "granary/control.book" (.iface 93 v) [] = (match fieldA 0 v with | some p => F.control_ledger_book p | none => M.fail) := by kernel_rfl
theorem F.control_Control_Take.inv_93_done (v x0 : Value) : invV Try.prog F.control_Control_Take.inv "granary/control.done" (.iface 93 v) [x0] = F.control_looking_done v x0 := by kernel_rfl
theorem F.control_Control_Take.inv_93_fits (v x0 x1 : Value) : invV Try.prog F.control_Control_Take.inv "granary/control.fits" (.iface 93 v) [x0, x1] = F.control_looking_fits v x0 x1 := by kernel_rfl
theorem F.control_Control_Take.inv_93_refused (v x0 : Value) : invV Try.prog F.control_Control_Take.inv "granary/control.refused" (.iface 93 v) [x0] = F.control_looking_refused v x0 := by kernel_rfl
theorem F.control_Control_Take.inv_115_book (v : Value) : invV Try.prog F.control_Control_Take.inv "granary/control.book" (.iface 115 v) [] = (match fieldA 0 v with | some p => F.control_ledger_book p | none => M.fail) := by kernel_rfl
theorem F.control_Control_Take.inv_115_done (v x0 : Value) : invV Try.prog F.control_Control_Take.inv "granary/control.done" (.iface 115 v) [x0] = F.control_backing_done v x0 := by kernel_rfl
theorem F.control_Control_Take.inv_115_fits (v x0 x1 : Value) : invV Try.prog F.control_Control_Take.inv "granary/control.fits" (.iface 115 v) [x0, x1] = F.control_backing_fits v x0 x1 := by kernel_rfl
theorem F.control_Control_Take.inv_115_refused (v x0 : Value) : invV Try.prog F.control_Control_Take.inv "granary/control.refused" (.iface 115 v) [x0] = F.control_backing_refused v x0 := by kernel_rfl
/-- (*granary/control.Control).Take -/
noncomputable def F.control_Control_Take (a0 a1 : Value) : M Value :=
  M.bind (newM 44 (Value.cells a1)) fun x1 =>
  bindO (eqV (EqSh.one EqK.ptr) a0 (Value.pointer none)) fun x2 =>
  condM x2 (
    M.ret (Value.tuple #[(Value.slice none 0 0), (Value.int IntKind.i64 2)])) (
    drewM <|
    bindO (nilChk a0) fun x3 =>
    bindO (fieldA 7 x3) fun x4 =>
    M.bind (rdM (ld1 x4)) fun x5 =>
    bindO (eqV (EqSh.one EqK.ifn) x5 Value.nilIface) fun x6 =>
    M.bind (guardM x6 false (optM (fieldA 1 x1))) fun x7 =>
    M.bind (guardM x6 false (rdM (ld1 x7))) fun x8 =>
    M.bind (guardM x6 false (optM (binV BinOp.lss x8 (Value.int IntKind.i64 0)))) fun x9 =>
    bindO (pickV x6 (Value.bool true) x9) fun x10 =>
    M.bind (guardM x10 false (optM (fieldA 1 x1))) fun x11 =>
    M.bind (guardM x10 false (rdM (ld1 x11))) fun x12 =>
    M.bind (guardM x10 false (M.ret a0)) fun x13 =>
    M.bind (guardM x10 false (optM (nilChk x13))) fun x14 =>
    M.bind (guardM x10 false (optM (fieldA 0 x14))) fun x15 =>
    M.bind (guardM x10 false (rdM (ld1 x15))) fun x16 =>
    M.bind (guardM x10 false (optM (binV BinOp.geq x12 x16))) fun x17 =>
    bindO (pickV x10 (Value.bool true) x17) fun x18 =>
    M.bind (guardM x18 false (optM (fieldA 3 x1))) fun x19 =>
    M.bind (guardM x18 false (rdM (ld1 x19))) fun x20 =>
    M.bind (guardM x18 false (M.ret a0)) fun x21 =>
    M.bind (guardM x18 false (optM (nilChk x21))) fun x22 =>
    M.bind (guardM x18 false (optM (fieldA 4 x22))) fun x23 =>
    M.bind (guardM x18 false (optM (fieldA 0 x23))) fun x24 =>
    M.bind (guardM x18 false (rdM (ld1 x24))) fun x25 =>
    M.bind (guardM x18 false (optM (binV BinOp.neq x20 x25))) fun x26 =>
    bindO (pickV x18 (Value.bool true) x26) fun x27 =>
    M.bind (guardM x27 false (M.ret a0)) fun x28 =>
    M.bind (guardM x27 false (optM (nilChk x28))) fun x29 =>
    M.bind (guardM x27 false (optM (fieldA 7 x29))) fun x30 =>
    M.bind (guardM x27 false (rdM (ld1 x30))) fun x31 =>
    M.bind (guardM x27 false (M.ret a0)) fun x32 =>
    M.bind (guardM x27 false (optM (nilChk x32))) fun x33 =>
    M.bind (guardM x27 false (optM (fieldA 4 x33))) fun x34 =>
    M.bind (guardM x27 false (rdM (ldA 3 x34))) fun x35 =>
    M.bind (guardM x27 false (rdM (ldA 11 x1))) fun x36 =>
    M.bind (guardM x27 false (optM (nilChk x31))) fun _ =>
    M.bind (guardM x27 false (M.ret x31)) fun x38 =>
    M.bind (guardM x27 false (invV Try.prog F.control_Control_Take.inv "granary/control.fits" x38 [x35, x36])) fun x39 =>
    M.bind (guardM x27 false (optM (notV x39))) fun x40 =>
    bindO (pickV x27 (Value.bool true) x40) fun x41 =>
    condM x41 (
      M.ret (Value.tuple #[(Value.slice none 0 0), (Value.int IntKind.i64 0)])) (
      bindO (nilChk a0) fun x42 =>
      bindO (fieldA 7 x42) fun x43 =>
      M.bind (rdM (ld1 x43)) fun x44 =>
      M.bind (invV Try.prog F.control_Control_Take.inv "granary/control.book" x44 []) fun x45 =>
      drewM <|
      bindO (nilChk x45) fun x46 =>
      bindO (fieldA 0 x46) fun x47 =>
      M.bind (rdM (ld1 x47)) fun x48 =>
      bindO (fieldA 1 x1) fun x49 =>
      M.bind (rdM (ld1 x49)) fun x50 =>
      bindO (idxA 1 x48 x50) fun x51 =>
      M.bind (rdM (ld1 x51)) fun x52 =>
      condM x52 (
        M.ret (Value.tuple #[(Value.slice none 0 0), (Value.int IntKind.i64 0)])) (
        bindO (fieldA 8 x1) fun x53 =>
        M.bind (rdM (ld1 x53)) fun x54 =>
        bindO (binV BinOp.neq x54 (Value.int IntKind.i64 0)) fun x55 =>
        condM x55 (
          bindO (nilChk a0) fun x56 =>
          bindO (fieldA 7 x56) fun x57 =>
          M.bind (rdM (ld1 x57)) fun x58 =>
          M.bind (invV Try.prog F.control_Control_Take.inv "granary/control.refused" x58 [a0]) fun x59 =>
          M.ret (Value.tuple #[x59, (Value.int IntKind.i64 0)])) (
          drewM <|
          bindO (nilChk x45) fun x60 =>
          bindO (fieldA 0 x60) fun x61 =>
          M.bind (rdM (ld1 x61)) fun x62 =>
          bindO (fieldA 1 x1) fun x63 =>
          M.bind (rdM (ld1 x63)) fun x64 =>
          bindO (idxA 1 x62 x64) fun x65 =>
          M.bind (stM 1 x65 (Value.bool true)) fun _ =>
          M.bind (
            bindO (fieldA 0 x1) fun x67 =>
            M.bind (rdM (ld1 x67)) fun x68 =>
            bindO (binV BinOp.neq x68 (Value.int IntKind.i64 4)) fun x69 =>
            condM x69 (
              drewM <|
              bindO (nilChk x45) fun x70 =>
              bindO (fieldA 1 x70) fun x71 =>
              M.bind (rdM (ld1 x71)) fun x72 =>
              bindO (fieldA 1 x1) fun x73 =>
              M.bind (rdM (ld1 x73)) fun x74 =>
              bindO (fieldA 6 x1) fun x75 =>
              M.bind (rdM (ld1 x75)) fun x76 =>
              bindO (idxA 1 x72 x74) fun x77 =>
              M.bind (stM 1 x77 x76) fun _ =>
              M.ret (Out.norm [])) (
              M.ret (Out.norm []))) fun o80 =>
          outK o80 (fun _ =>
            bindO (nilChk x45) fun x83 =>
            bindO (fieldA 0 x83) fun x84 =>
            M.bind (rdM (ld1 x84)) fun x85 =>
            M.bind (F.slices_Contains_inst x85 (Value.bool false)) fun x86 =>
            condM x86 (
              M.ret (Value.tuple #[(Value.slice none 0 0), (Value.int IntKind.i64 0)])) (
              bindO (nilChk a0) fun x87 =>
              bindO (fieldA 7 x87) fun x88 =>
              M.bind (rdM (ld1 x88)) fun x89 =>
              M.bind (invV Try.prog F.control_Control_Take.inv "granary/control.done" x89 [a0]) fun x90 =>
              M.ret (Value.tuple #[x90, (Value.int IntKind.i64 0)]))) (fun _ _ =>
            M.fail) (fun r82 => M.ret r82)))))
def F.control_Control_Take.plan : Plan := (seq leaf (seq (seq leaf (cond (seq leaf leaf) leaf)) (seq (seq leaf (cond (seq leaf leaf) leaf)) (seq leaf (seq (seq leaf (cond (seq leaf leaf) leaf)) (seq (seq leaf (cond (seq leaf leaf) leaf)) (seq leaf (fork [] [82, 83, 84, 85, 86, 87, 88, 89, 90, 91, 92, 93] [] (seq leaf (cond leaf leaf)) (seq (seq leaf (cond (seq leaf leaf) leaf)) (seq leaf leaf))))))))))
theorem F.control_Control_Take.lift : LiftOk Try.prog 20 (ap2 F.control_Control_Take) :=
  lift2 (g := evFn Try.prog (tcons 38 (ap2 F.slices_Contains_inst) tnil) F.control_Control_Take.inv 20 Try.f20 F.control_Control_Take.plan) (evFn_sound (tcons_ok F.slices_Contains_inst.lift tnil_ok) F.control_Control_Take.inv_ok Try.func20 (by kernel_rfl)) (fun x0 x1 => by kernel_rfl)

/-- granary/granarylaw15.answers -/
noncomputable def F.granarylaw15_answers (a0 a1 a2 : Value) : M Value :=
  M.bind (loopM (fun l1 =>
    bindO (lenL a1) fun x2 =>
    bindO (binV BinOp.lss (getL l1 1) x2) fun x3 =>
    condM x3 (
      drewM <|
      getM fun _ =>
      bindO (idxA 11 a1 (getL l1 1)) fun x5 =>
      bindO (fieldA 0 x5) fun x6 =>
      M.bind (rdM (ld1 x6)) fun x7 =>
      bindO (binV BinOp.add x7 (Value.int IntKind.i64 1)) fun x8 =>
      bindO (idxA 11 a1 (getL l1 1)) fun x9 =>
      bindO (fieldA 2 x9) fun x10 =>
      M.bind (rdM (ld1 x10)) fun x11 =>
      bindO (idxA 11 a1 (getL l1 1)) fun x12 =>
      bindO (fieldA 1 x12) fun x13 =>
      M.bind (rdM (ld1 x13)) fun x14 =>
      bindO (idxA 11 a1 (getL l1 1)) fun x15 =>
      bindO (fieldA 3 x15) fun x16 =>
      M.bind (rdM (ld1 x16)) fun x17 =>
      bindO (idxA 11 a1 (getL l1 1)) fun x18 =>
      bindO (fieldA 4 x18) fun x19 =>
      M.bind (rdM (ld1 x19)) fun x20 =>
      bindO (idxA 11 a1 (getL l1 1)) fun x21 =>
      bindO (fieldA 5 x21) fun x22 =>
      M.bind (rdM (ld1 x22)) fun x23 =>
      bindO (buildV #[(Value.int IntKind.i64 0), (Value.int IntKind.i64 0), (Value.int IntKind.i64 0), (Value.int IntKind.i64 0), (Value.int IntKind.i64 0), (Value.int IntKind.i64 0), (Value.int IntKind.i64 0), (Value.int IntKind.i64 0), (Value.int IntKind.i64 0), (Value.string ByteArray.empty), (Value.string ByteArray.empty)] [(0, 1, x8), (1, 1, x11), (2, 1, x14), (3, 1, x17), (4, 1, x20), (5, 1, x23), (6, 1, a2)]) fun x24 =>
      M.bind (newM 44 #[(Value.int IntKind.i64 0), (Value.int IntKind.i64 0), (Value.int IntKind.i64 0), (Value.int IntKind.i64 0), (Value.int IntKind.i64 0), (Value.int IntKind.i64 0), (Value.int IntKind.i64 0), (Value.int IntKind.i64 0), (Value.int IntKind.i64 0), (Value.string ByteArray.empty), (Value.string ByteArray.empty)]) fun x25 =>
      getM fun W26 =>
      M.bind (stM 11 x25 x24) fun _ =>
      getM fun _ =>
      reqM (ld1 x6 W26 = some x7) <|
      reqM (ld1 x10 W26 = some x11) <|
      reqM (ld1 x13 W26 = some x14) <|
      reqM (ld1 x16 W26 = some x17) <|
      reqM (ld1 x19 W26 = some x20) <|
      reqM (ld1 x22 W26 = some x23) <|
      M.bind (
        bindO (idxA 11 a1 (getL l1 1)) fun x29 =>
        bindO (fieldA 0 x29) fun x30 =>
        M.bind (rdM (ld1 x30)) fun x31 =>
        bindO (binV BinOp.eql x31 (Value.int IntKind.i64 3)) fun x32 =>
        M.bind (guardM x32 false (M.ret a1)) fun x33 =>
        M.bind (guardM x32 false (M.ret (getL l1 1))) fun x34 =>
        M.bind (guardM x32 false (optM (idxA 11 x33 x34))) fun x35 =>
        M.bind (guardM x32 false (optM (fieldA 0 x35))) fun x36 =>
        M.bind (guardM x32 false (rdM (ld1 x36))) fun x37 =>
        M.bind (guardM x32 false (optM (binV BinOp.eql x37 (Value.int IntKind.i64 5)))) fun x38 =>
        bindO (pickV x32 (Value.bool true) x38) fun x39 =>
        condM x39 (
          bindO (idxA 11 a1 (getL l1 1)) fun x40 =>
          bindO (fieldA 6 x40) fun x41 =>
          M.bind (rdM (ld1 x41)) fun x42 =>
          bindO (fieldA 6 x25) fun x43 =>
          M.bind (stM 1 x43 x42) fun _ =>
          M.ret (Out.norm [])) (
          M.ret (Out.norm []))) fun o46 =>
      outK o46 (fun _ =>
        M.bind (rdM (ldA 11 x25)) fun x49 =>
        M.bind (F.control_Control_Take a0 x49) fun x50 =>
        bindO (extV 0 x50) fun x51 =>
        bindO (extV 1 x50) fun x52 =>
        M.bind (F.granarylaw15_num x52) fun x53 =>
        bindO (binV BinOp.neq x53 (Value.int IntKind.i64 0)) fun x54 =>
        condM x54 (
          M.ret (Out.ret (Value.tuple #[(Value.slice none 0 0), (Value.bool false)]))) (
          M.bind (appM 44 11 104 #[(Value.int IntKind.i64 0), (Value.int IntKind.i64 0), (Value.int IntKind.i64 0), (Value.int IntKind.i64 0), (Value.int IntKind.i64 0), (Value.int IntKind.i64 0), (Value.int IntKind.i64 0), (Value.int IntKind.i64 0), (Value.int IntKind.i64 0), (Value.string ByteArray.empty), (Value.string ByteArray.empty)] (getL l1 0) x51) fun x55 =>
          bindO (binV BinOp.add (getL l1 1) (Value.int IntKind.i64 1)) fun x56 =>
          M.ret (Out.norm [x55, x56]))) (fun _ _ =>
        M.fail) (fun r48 => M.ret (Out.ret r48))) (
      M.ret (Out.exit 0 [(getL l1 0), (getL l1 1)]))) [(Value.slice none 0 0), (Value.int IntKind.i64 0)]) fun o59 =>
  outK o59 (fun _ => M.fail) (fun i60 l58 =>
    bif Nat.beq i60 0 then (
      M.ret (Value.tuple #[(getL l58 0), (Value.bool true)])) else
    M.fail) (fun r61 => M.ret r61)
def F.granarylaw15_answers.plan : Plan := (seq leaf (seq leaf (seq (seq leaf (body (loop [8, 9] [6, 7, 8, 9, 10, 11, 12, 13, 14, 15, 16, 17, 18, 19, 20, 21, 22, 23, 24, 25, 26, 27, 28, 29, 30, 31, 32, 33, 34, 35, 36, 37, 38, 39, 40, 41, 42, 43, 44, 45, 46, 47, 48, 49, 50, 51, 52, 53, 54, 55, 56, 57, 58, 59, 60, 61, 62, 63, 64, 65, 66, 67, 68, 69, 70, 71, 72, 73, 74, 75, 76, 77, 78, 79, 80, 81, 82, 83] [0] (seq (seq leaf (cond leaf leaf)) (seq (body (seq leaf (fork [] [52, 53, 54, 55, 56, 57, 58, 59, 60, 61, 62, 63, 64, 65, 66, 67, 68, 69, 70, 71] [] (seq leaf (cond leaf leaf)) (seq leaf (seq (seq leaf (cond (seq leaf leaf) leaf)) leaf))))) leaf))))) (seq leaf leaf))))
theorem F.granarylaw15_answers.lift : LiftOk Try.prog 15 (ap3 F.granarylaw15_answers) :=
  lift3 (g := evFn Try.prog (tcons 11 (ap1 F.granarylaw15_num) (tcons 20 (ap2 F.control_Control_Take) tnil)) tnil 15 Try.f15 F.granarylaw15_answers.plan) (evFn_sound (tcons_ok F.granarylaw15_num.lift (tcons_ok F.control_Control_Take.lift tnil_ok)) tnil_ok Try.func15 (by kernel_rfl)) (fun x0 x1 x2 => by kernel_rfl)

/-- granary/granarylaw15.goes -/
noncomputable def F.granarylaw15_goes (a0 a1 a2 a3 a4 a5 : Value) : M Value :=
  M.bind (newM 26 (Value.cells a1)) fun x1 =>
  M.bind (
    bindO (binV BinOp.eql a2 (Value.int IntKind.i64 3)) fun x2 =>
    condM x2 (
      M.ret (Out.norm [(Value.int IntKind.i64 0)])) (
      M.ret (Out.norm [a3]))) fun o4 =>
  outK o4 (fun l3 =>
    M.bind (F.control_Control_Begin a0 a2 (getL l3 0)) fun x7 =>
    bindO (extV 0 x7) fun x8 =>
    bindO (extV 1 x7) fun x9 =>
    M.bind (F.granarylaw15_num x9) fun x10 =>
    bindO (binV BinOp.neq x10 (Value.int IntKind.i64 0)) fun x11 =>
    M.bind (guardM x11 false (M.ret x8)) fun x12 =>
    M.bind (guardM x11 false (optM (lenL x12))) fun x13 =>
    M.bind (guardM x11 false (optM (fieldA 22 x1))) fun x14 =>
    M.bind (guardM x11 false (rdM (ld1 x14))) fun x15 =>
    M.bind (guardM x11 false (optM (lenL x15))) fun x16 =>
    M.bind (guardM x11 false (optM (binV BinOp.neq x13 x16))) fun x17 =>
    bindO (pickV x11 (Value.bool true) x17) fun x18 =>
    M.bind (guardM x18 false (M.ret a0)) fun x19 =>
    M.bind (guardM x18 false (F.control_Control_Busy x19)) fun x20 =>
    M.bind (guardM x18 false (optM (notV x20))) fun x21 =>
    bindO (pickV x18 (Value.bool true) x21) fun x22 =>
    condM x22 (
      M.ret (Value.bool false)) (
      M.bind (
        bindO (binV BinOp.eql a2 (Value.int IntKind.i64 1)) fun x23 =>
        condM x23 (
          M.bind (F.granarylaw15_answers a0 x8 a4) fun x24 =>
          bindO (extV 0 x24) fun x25 =>
          bindO (extV 1 x24) fun x26 =>
          bindO (notV x26) fun x27 =>
          M.bind (guardM x27 false (M.ret x25)) fun x28 =>
          M.bind (guardM x27 false (optM (lenL x28))) fun x29 =>
          M.bind (guardM x27 false (optM (fieldA 22 x1))) fun x30 =>
          M.bind (guardM x27 false (rdM (ld1 x30))) fun x31 =>
          M.bind (guardM x27 false (optM (lenL x31))) fun x32 =>
          M.bind (guardM x27 false (optM (binV BinOp.neq x29 x32))) fun x33 =>
          bindO (pickV x27 (Value.bool true) x33) fun x34 =>
          M.bind (guardM x34 false (M.ret a0)) fun x35 =>
          M.bind (guardM x34 false (F.control_Control_Busy x35)) fun x36 =>
          M.bind (guardM x34 false (optM (notV x36))) fun x37 =>
          bindO (pickV x34 (Value.bool true) x37) fun x38 =>
          condM x38 (
            M.ret (Out.ret (Value.bool false))) (
            M.ret (Out.norm [x25]))) (
          M.ret (Out.norm [x8]))) fun o40 =>
      outK o40 (fun l39 =>
        M.bind (F.granarylaw15_answers a0 (getL l39 0) a4) fun x43 =>
        bindO (extV 0 x43) fun x44 =>
        bindO (extV 1 x43) fun x45 =>
        M.bind (F.control_Control_Report a0) fun x46 =>
        bindO (extV 0 x46) fun x47 =>
        bindO (extV 1 x46) fun x48 =>
        M.bind (newM 39 #[(Value.int IntKind.i64 0), (Value.int IntKind.i64 0), (Value.int IntKind.i64 0), (Value.int IntKind.i64 0), (Value.slice none 0 0), (Value.slice none 0 0)]) fun x49 =>
        M.bind (stM 6 x49 x47) fun _ =>
        bindO (notV x45) fun x51 =>
        M.bind (guardM x51 false (M.ret x44)) fun x52 =>
        M.bind (guardM x51 false (optM (lenL x52))) fun x53 =>
        M.bind (guardM x51 false (optM (binV BinOp.neq x53 (Value.int IntKind.i64 0)))) fun x54 =>
        bindO (pickV x51 (Value.bool true) x54) fun x55 =>
        M.bind (guardM x55 false (M.ret a0)) fun x56 =>
        M.bind (guardM x55 false (F.control_Control_Busy x56)) fun x57 =>
        bindO (pickV x55 (Value.bool true) x57) fun x58 =>
        M.bind (guardM x58 false (M.ret x48)) fun x59 =>
        M.bind (guardM x58 false (F.granarylaw15_num x59)) fun x60 =>
        M.bind (guardM x58 false (optM (binV BinOp.neq x60 (Value.int IntKind.i64 0)))) fun x61 =>
        bindO (pickV x58 (Value.bool true) x61) fun x62 =>
        M.bind (guardM x62 false (optM (fieldA 0 x49))) fun x63 =>
        M.bind (guardM x62 false (rdM (ld1 x63))) fun x64 =>
        M.bind (guardM x62 false (M.ret a5)) fun x65 =>
        M.bind (guardM x62 false (optM (binV BinOp.neq x64 x65))) fun x66 =>
        bindO (pickV x62 (Value.bool true) x66) fun x67 =>
        M.bind (guardM x67 false (optM (fieldA 1 x49))) fun x68 =>
        M.bind (guardM x67 false (rdM (ld1 x68))) fun x69 =>
        M.bind (guardM x67 false (M.ret a2)) fun x70 =>
        M.bind (guardM x67 false (optM (binV BinOp.neq x69 x70))) fun x71 =>
        bindO (pickV x67 (Value.bool true) x71) fun x72 =>
        M.bind (guardM x72 false (optM (fieldA 2 x49))) fun x73 =>
        M.bind (guardM x72 false (rdM (ld1 x73))) fun x74 =>
        M.bind (guardM x72 false (M.ret (getL l3 0))) fun x75 =>
        M.bind (guardM x72 false (optM (binV BinOp.neq x74 x75))) fun x76 =>
        bindO (pickV x72 (Value.bool true) x76) fun x77 =>
        M.bind (guardM x77 false (optM (fieldA 3 x49))) fun x78 =>
        M.bind (guardM x77 false (rdM (ld1 x78))) fun x79 =>
        M.bind (guardM x77 false (optM (binV BinOp.neq x79 (Value.int IntKind.i64 1)))) fun x80 =>
        bindO (pickV x77 (Value.bool true) x80) fun x81 =>
        M.bind (guardM x81 false (optM (fieldA 5 x49))) fun x82 =>
        M.bind (guardM x81 false (rdM (ld1 x82))) fun x83 =>
        M.bind (guardM x81 false (optM (lenL x83))) fun x84 =>
        M.bind (guardM x81 false (optM (binV BinOp.neq x84 (Value.int IntKind.i64 0)))) fun x85 =>
        bindO (pickV x81 (Value.bool true) x85) fun x86 =>
        M.bind (guardM x86 false (optM (fieldA 4 x49))) fun x87 =>
        M.bind (guardM x86 false (rdM (ld1 x87))) fun x88 =>
        M.bind (guardM x86 false (optM (lenL x88))) fun x89 =>
        M.bind (guardM x86 false (optM (fieldA 22 x1))) fun x90 =>
        M.bind (guardM x86 false (rdM (ld1 x90))) fun x91 =>
        M.bind (guardM x86 false (optM (lenL x91))) fun x92 =>
        M.bind (guardM x86 false (optM (binV BinOp.neq x89 x92))) fun x93 =>
        bindO (pickV x86 (Value.bool true) x93) fun x94 =>
        condM x94 (
          M.ret (Value.bool false)) (
          M.bind (loopM (fun l95 =>
            bindO (fieldA 4 x49) fun x96 =>
            M.bind (rdM (ld1 x96)) fun x97 =>
            bindO (lenL x97) fun x98 =>
            bindO (binV BinOp.lss (getL l95 0) x98) fun x99 =>
            condM x99 (
              bindO (binV BinOp.eql a2 (Value.int IntKind.i64 3)) fun x100 =>
              M.bind (guardM x100 true (optM (fieldA 4 x49))) fun x101 =>
              M.bind (guardM x100 true (rdM (ld1 x101))) fun x102 =>
              M.bind (guardM x100 true (M.ret (getL l95 0))) fun x103 =>
              M.bind (guardM x100 true (optM (idxA 1 x102 x103))) fun x104 =>
              M.bind (guardM x100 true (rdM (ld1 x104))) fun x105 =>
              M.bind (guardM x100 true (M.ret a4)) fun x106 =>
              M.bind (guardM x100 true (optM (binV BinOp.neq x105 x106))) fun x107 =>
              bindO (pickV x100 x107 (Value.bool false)) fun x108 =>
              M.bind (guardM x108 false (M.ret a2)) fun x109 =>
              M.bind (guardM x108 false (optM (binV BinOp.neq x109 (Value.int IntKind.i64 3)))) fun x110 =>
              M.bind (guardM x108 false (M.ret x110)) fun x111 =>
              M.bind (guardM x111 true (optM (fieldA 4 x49))) fun x112 =>
              M.bind (guardM x111 true (rdM (ld1 x112))) fun x113 =>
              M.bind (guardM x111 true (M.ret (getL l95 0))) fun x114 =>
              M.bind (guardM x111 true (optM (idxA 1 x113 x114))) fun x115 =>
              M.bind (guardM x111 true (rdM (ld1 x115))) fun x116 =>
              M.bind (guardM x111 true (M.ret (getL l3 0))) fun x117 =>
              M.bind (guardM x111 true (optM (binV BinOp.neq x116 x117))) fun x118 =>
              M.bind (guardM x108 false (optM (pickV x111 x118 (Value.bool false)))) fun x119 =>
              bindO (pickV x108 (Value.bool true) x119) fun x120 =>
              condM x120 (
                M.ret (Out.ret (Value.bool false))) (
                bindO (binV BinOp.add (getL l95 0) (Value.int IntKind.i64 1)) fun x121 =>
                M.ret (Out.norm [x121]))) (
              M.ret (Out.exit 0 [(getL l95 0)]))) [(Value.int IntKind.i64 0)]) fun o123 =>
          outK o123 (fun _ => M.fail) (fun i124 _ =>
            bif Nat.beq i124 0 then (
              M.ret (Value.bool true)) else
            M.fail) (fun r125 => M.ret r125))) (fun _ _ =>
        M.fail) (fun r42 => M.ret r42))) (fun _ _ =>
    M.fail) (fun r6 => M.ret r6)
def F.granarylaw15_goes.plan : Plan := (seq leaf (fork [3] [3, 19, 20] [] (seq leaf (cond leaf leaf)) (seq leaf (seq (seq leaf (cond (seq leaf leaf) leaf)) (seq leaf (fork [13] [12, 13, 15, 44, 45, 46, 47, 48, 49, 50, 51, 52, 53, 54, 55, 56, 57, 58, 59, 60, 61, 62, 63, 64, 65, 66, 67] [] (seq leaf (cond (seq leaf (seq leaf (cond (seq leaf leaf) leaf))) leaf)) (seq leaf (seq leaf (seq (seq leaf (cond (seq leaf leaf) leaf)) (seq (seq leaf (body (loop [18] [12, 18, 134, 135, 136, 137, 138, 139, 140, 141, 142, 143, 144, 145, 146, 147, 148, 149, 150, 151, 152, 153, 154, 155, 156, 157, 158, 159, 160, 161, 162, 163, 164] [0] (seq (seq leaf (cond leaf leaf)) (seq (body (seq leaf (cond (seq leaf leaf) leaf))) leaf))))) (seq leaf leaf)))))))))))
theorem F.granarylaw15_goes.lift : LiftOk Try.prog 14 (ap6 F.granarylaw15_goes) :=
  lift6 (g := evFn Try.prog (tcons 11 (ap1 F.granarylaw15_num) (tcons 12 (ap1 F.control_Control_Busy) (tcons 13 (ap1 F.control_Control_Report) (tcons 15 (ap3 F.granarylaw15_answers) (tcons 17 (ap3 F.control_Control_Begin) tnil))))) tnil 14 Try.f14 F.granarylaw15_goes.plan) (evFn_sound (tcons_ok F.granarylaw15_num.lift (tcons_ok F.control_Control_Busy.lift (tcons_ok F.control_Control_Report.lift (tcons_ok F.granarylaw15_answers.lift (tcons_ok F.control_Control_Begin.lift tnil_ok))))) tnil_ok Try.func14 (by kernel_rfl)) (fun x0 x1 x2 x3 x4 x5 => by kernel_rfl)

end Go.Proofs.Ytpiceodfdjihhaa
