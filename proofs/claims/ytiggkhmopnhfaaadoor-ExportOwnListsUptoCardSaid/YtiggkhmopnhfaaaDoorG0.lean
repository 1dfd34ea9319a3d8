/-
  THE FUNCTIONAL FORMS of the functions of this seat's translation, and that each function comes to its form: printed by a program of the prover's own (lift.py).
-/
import Derived.Test.YtiggkhmopnhfaaaDoorLiftH
import Derived.Test.YtiggkhmopnhfaaaDoorProg
import Derived.KernelRfl
namespace Go.Proofs.YtiggkhmopnhfaaaDoor
open Go.Lift Go.Lift.Plan
/-- granary/granaryref21.Beyond -/
noncomputable def F.granaryref21_Beyond (a0 : Value) : M Value :=
  bindO (binV BinOp.gtr a0 (Value.int IntKind.i64 2147483647)) fun x1 =>
  M.ret x1
def F.granaryref21_Beyond.plan : Plan := (seq leaf (seq leaf leaf))
theorem F.granaryref21_Beyond.lift : LiftOk Tryd.prog 7 (ap1 F.granaryref21_Beyond) :=
  lift1 (g := evFn Tryd.prog tnil tnil 7 Tryd.f7 F.granaryref21_Beyond.plan) (evFn_sound tnil_ok tnil_ok Tryd.func7 (by kernel_rfl)) (fun x0 => by kernel_rfl)

/-- granary/granarylaw21.cluster -/
noncomputable def F.granarylaw21_cluster (a0 : Value) : M Value :=
  M.bind (newM 24 (Value.cells a0)) fun x1 =>
  M.bind (newM 24 #[(Value.string ByteArray.empty), (Value.int IntKind.i64 0), (Value.int IntKind.i64 0), (Value.int IntKind.i64 0), (Value.int IntKind.i64 0), (Value.int IntKind.i64 0), (Value.int IntKind.i64 0), (Value.int IntKind.i64 0), (Value.int IntKind.i64 0), (Value.int IntKind.i64 0), (Value.int IntKind.i64 0), (Value.int IntKind.i64 0), (Value.int IntKind.i64 0), (Value.int IntKind.i64 0), (Value.int IntKind.i64 0), (Value.int IntKind.i64 0), (Value.int IntKind.i64 0), (Value.int IntKind.i64 0), (Value.int IntKind.i64 0), (Value.int IntKind.i64 0), (Value.int IntKind.i64 0), (Value.int IntKind.i64 0), (Value.slice none 0 0)]) fun x2 =>
  M.bind (loopM (fun l3 =>
    bindO (fieldA 22 x1) fun x4 =>
    M.bind (rdM (ld1 x4)) fun x5 =>
    bindO (lenL x5) fun x6 =>
    bindO (binV BinOp.lss (getL l3 1) x6) fun x7 =>
    condM x7 (
      M.bind (loopM (fun l8 =>
        bindO (fieldA 22 x1) fun x9 =>
        M.bind (rdM (ld1 x9)) fun x10 =>
        bindO (idxA 2 x10 (getL l3 1)) fun x11 =>
        bindO (fieldA 1 x11) fun x12 =>
        M.bind (rdM (ld1 x12)) fun x13 =>
        bindO (lenL x13) fun x14 =>
        bindO (binV BinOp.lss (getL l8 1) x14) fun x15 =>
        condM x15 (
          bindO (fieldA 22 x1) fun x16 =>
          M.bind (rdM (ld1 x16)) fun x17 =>
          bindO (idxA 2 x17 (getL l3 1)) fun x18 =>
          bindO (fieldA 1 x18) fun x19 =>
          M.bind (rdM (ld1 x19)) fun x20 =>
          bindO (idxA 1 x20 (getL l8 1)) fun x21 =>
          M.bind (rdM (ld1 x21)) fun x22 =>
          M.bind (bslM 3 1 (Builtin.zeroCells #[(Value.int IntKind.i64 0)] 1) [(0, 1, x22)]) fun x23 =>
          M.bind (appM 3 1 8 #[(Value.int IntKind.i64 0)] (getL l8 0) x23) fun x24 =>
          bindO (binV BinOp.add (getL l8 1) (Value.int IntKind.i64 1)) fun x25 =>
          M.ret (Out.norm [x24, x25])) (
          M.ret (Out.exit 2 [(getL l8 0), (getL l8 1)]))) [(Value.slice none 0 0), (Value.int IntKind.i64 0)]) fun o27 =>
      outK o27 (fun _ => M.fail) (fun i28 l26 =>
        bif Nat.beq i28 2 then (
          bindO (fieldA 22 x1) fun x30 =>
          M.bind (rdM (ld1 x30)) fun x31 =>
          bindO (idxA 2 x31 (getL l3 1)) fun x32 =>
          bindO (fieldA 0 x32) fun x33 =>
          M.bind (rdM (ld1 x33)) fun x34 =>
          bindO (buildV #[(Value.int IntKind.i64 0), (Value.slice none 0 0)] [(0, 1, x34), (1, 1, (getL l26 0))]) fun x35 =>
          M.bind (bslM 64 1 (Builtin.zeroCells #[(Value.int IntKind.i64 0), (Value.slice none 0 0)] 1) [(0, 2, x35)]) fun x36 =>
          M.bind (appM 64 2 32 #[(Value.int IntKind.i64 0), (Value.slice none 0 0)] (getL l3 0) x36) fun x37 =>
          bindO (binV BinOp.add (getL l3 1) (Value.int IntKind.i64 1)) fun x38 =>
          M.ret (Out.norm [x37, x38])) else
        M.fail) (fun r29 => M.ret (Out.ret r29))) (
      M.ret (Out.exit 0 [(getL l3 0), (getL l3 1)]))) [(Value.slice none 0 0), (Value.int IntKind.i64 0)]) fun o40 =>
  outK o40 (fun _ => M.fail) (fun i41 l39 =>
    bif Nat.beq i41 0 then (
      bindO (fieldA 22 x1) fun x43 =>
      M.bind (stM 1 x43 (getL l39 0)) fun _ =>
      M.bind (rdM (ldA 23 x1)) fun x45 =>
      M.bind (stM 23 x2 x45) fun _ =>
      M.bind (rdM (ldA 23 x2)) fun x47 =>
      M.ret x47) else
    M.fail) (fun r42 => M.ret r42)
def F.granarylaw21_cluster.plan : Plan := (seq leaf (seq leaf (seq (seq leaf (body (loop [3, 4] [3, 4, 5, 6, 7, 8, 9, 10, 11, 12, 13, 14, 15, 16, 17, 18, 19, 20, 21, 22, 23, 24, 25, 26, 27, 28, 29, 30, 31, 32, 33, 34, 35, 36, 37, 38, 39, 40, 41, 42, 43, 44, 45, 46, 47] [0] (seq (seq leaf (cond leaf leaf)) (seq (body (seq leaf (seq (seq leaf (body (loop [5, 6] [5, 6, 14, 15, 16, 17, 18, 19, 20, 21, 22, 23, 24, 25, 26, 27, 28, 29, 30, 31, 32, 33, 34, 35, 36] [2] (seq (seq leaf (cond leaf leaf)) (seq (body leaf) leaf))))) leaf))) leaf))))) (seq leaf (seq leaf leaf)))))
theorem F.granarylaw21_cluster.lift : LiftOk Tryd.prog 18 (ap1 F.granarylaw21_cluster) :=
  lift1 (g := evFn Tryd.prog tnil tnil 18 Tryd.f18 F.granarylaw21_cluster.plan) (evFn_sound tnil_ok tnil_ok Tryd.func18 (by kernel_rfl)) (fun x0 => by kernel_rfl)

/-- granary/ring.nameOK -/
noncomputable def F.ring_nameOK (a0 : Value) : M Value :=
  bindO (lenS a0) fun x1 =>
  bindO (binV BinOp.lss x1 (Value.int IntKind.i64 1)) fun x2 =>
  M.bind (guardM x2 false (M.ret a0)) fun x3 =>
  M.bind (guardM x2 false (optM (lenS x3))) fun x4 =>
  M.bind (guardM x2 false (optM (binV BinOp.gtr x4 (Value.int IntKind.i64 40)))) fun x5 =>
  bindO (pickV x2 (Value.bool true) x5) fun x6 =>
  condM x6 (
    M.ret (Value.bool false)) (
    M.bind (sbM 5 a0) fun x7 =>
    bindO (lenL x7) fun x8 =>
    M.bind (loopM (fun l9 =>
      bindO (binV BinOp.lss (getL l9 0) x8) fun x10 =>
      condM x10 (
        bindO (idxA 1 x7 (getL l9 0)) fun x11 =>
        M.bind (rdM (ld1 x11)) fun x12 =>
        bindO (binV BinOp.leq (Value.int IntKind.u8 97) x12) fun x13 =>
        M.bind (guardM x13 true (M.ret x12)) fun x14 =>
        M.bind (guardM x13 true (optM (binV BinOp.leq x14 (Value.int IntKind.u8 122)))) fun x15 =>
        bindO (pickV x13 x15 (Value.bool false)) fun x16 =>
        bindO (binV BinOp.leq (Value.int IntKind.u8 48) x12) fun x17 =>
        M.bind (guardM x17 true (M.ret x12)) fun x18 =>
        M.bind (guardM x17 true (optM (binV BinOp.leq x18 (Value.int IntKind.u8 57)))) fun x19 =>
        bindO (pickV x17 x19 (Value.bool false)) fun x20 =>
        M.bind (guardM x20 false (M.ret x12)) fun x21 =>
        M.bind (guardM x20 false (optM (binV BinOp.eql x21 (Value.int IntKind.u8 45)))) fun x22 =>
        bindO (pickV x20 (Value.bool true) x22) fun x23 =>
        bindO (notV x16) fun x24 =>
        M.bind (guardM x24 true (M.ret x23)) fun x25 =>
        M.bind (guardM x24 true (optM (notV x25))) fun x26 =>
        M.bind (guardM x24 true (M.ret x26)) fun x27 =>
        M.bind (guardM x27 false (M.ret (getL l9 0))) fun x28 =>
        M.bind (guardM x27 false (optM (binV BinOp.eql x28 (Value.int IntKind.i64 0)))) fun x29 =>
        M.bind (guardM x24 true (optM (pickV x27 (Value.bool true) x29))) fun x30 =>
        bindO (pickV x24 x30 (Value.bool false)) fun x31 =>
        condM x31 (
          M.ret (Out.ret (Value.bool false))) (
          bindO (binV BinOp.add (getL l9 0) (Value.int IntKind.i64 1)) fun x32 =>
          M.ret (Out.norm [x32]))) (
        M.ret (Out.exit 0 [(getL l9 0)]))) [(Value.int IntKind.i64 0)]) fun o34 =>
    outK o34 (fun _ => M.fail) (fun i35 _ =>
      bif Nat.beq i35 0 then (
        M.ret (Value.bool true)) else
      M.fail) (fun r36 => M.ret r36))
def F.ring_nameOK.plan : Plan := (seq leaf (seq (seq leaf (cond (seq leaf leaf) leaf)) (seq (seq leaf (body (loop [18] [2, 3, 4, 5, 6, 18, 19, 20, 21, 22, 23, 24, 25, 26, 27, 28, 29, 30, 31, 32, 33, 34, 35, 36, 37, 38, 39, 40, 41, 42, 43, 44, 45, 46, 47, 48, 49] [0] (seq leaf (seq (cond leaf leaf) (seq (body (seq leaf (seq leaf (seq leaf (seq leaf (cond (seq leaf leaf) leaf)))))) leaf)))))) (seq leaf leaf))))
theorem F.ring_nameOK.lift : LiftOk Tryd.prog 62 (ap1 F.ring_nameOK) :=
  lift1 (g := evFn Tryd.prog tnil tnil 62 Tryd.f62 F.ring_nameOK.plan) (evFn_sound tnil_ok tnil_ok Tryd.func62 (by kernel_rfl)) (fun x0 => by kernel_rfl)

/-- granary/ring.settings -/
noncomputable def F.ring_settings : M Value :=
  bindO (buildV #[(Value.string ByteArray.empty), (Value.int IntKind.i64 0), (Value.int IntKind.i64 0), Value.nilFunc] [(0, 1, (Value.string (ByteArray.mk #[114, 101, 112, 108, 105, 99, 97, 115]))), (1, 1, (Value.int IntKind.i64 1)), (2, 1, (Value.int IntKind.i64 16)), (3, 1, (Value.func (Fn.func 70) #[] #[]))]) fun x1 =>
  bindO (buildV #[(Value.string ByteArray.empty), (Value.int IntKind.i64 0), (Value.int IntKind.i64 0), Value.nilFunc] [(0, 1, (Value.string (ByteArray.mk #[119, 105, 100, 116, 104]))), (1, 1, (Value.int IntKind.i64 1)), (2, 1, (Value.int IntKind.i64 16)), (3, 1, (Value.func (Fn.func 71) #[] #[]))]) fun x2 =>
  bindO (buildV #[(Value.string ByteArray.empty), (Value.int IntKind.i64 0), (Value.int IntKind.i64 0), Value.nilFunc] [(0, 1, (Value.string (ByteArray.mk #[99, 104, 117, 110, 107, 115]))), (1, 1, (Value.int IntKind.i64 1)), (2, 1, (Value.int IntKind.i64 16)), (3, 1, (Value.func (Fn.func 72) #[] #[]))]) fun x3 =>
  bindO (buildV #[(Value.string ByteArray.empty), (Value.int IntKind.i64 0), (Value.int IntKind.i64 0), Value.nilFunc] [(0, 1, (Value.string (ByteArray.mk #[114, 101, 116, 97, 105, 110]))), (1, 1, (Value.int IntKind.i64 1)), (2, 1, (Value.int IntKind.i64 8)), (3, 1, (Value.func (Fn.func 73) #[] #[]))]) fun x4 =>
  bindO (buildV #[(Value.string ByteArray.empty), (Value.int IntKind.i64 0), (Value.int IntKind.i64 0), Value.nilFunc] [(0, 1, (Value.string (ByteArray.mk #[98, 108, 111, 99, 107]))), (1, 1, (Value.int IntKind.i64 1)), (2, 1, (Value.int IntKind.i64 4096)), (3, 1, (Value.func (Fn.func 74) #[] #[]))]) fun x5 =>
  bindO (buildV #[(Value.string ByteArray.empty), (Value.int IntKind.i64 0), (Value.int IntKind.i64 0), Value.nilFunc] [(0, 1, (Value.string (ByteArray.mk #[114, 97, 116, 101]))), (1, 1, (Value.int IntKind.i64 1)), (2, 1, (Value.int IntKind.i64 65536)), (3, 1, (Value.func (Fn.func 75) #[] #[]))]) fun x6 =>
  bindO (buildV #[(Value.string ByteArray.empty), (Value.int IntKind.i64 0), (Value.int IntKind.i64 0), Value.nilFunc] [(0, 1, (Value.string (ByteArray.mk #[112, 101, 114]))), (1, 1, (Value.int IntKind.i64 1)), (2, 1, (Value.int IntKind.i64 1024)), (3, 1, (Value.func (Fn.func 76) #[] #[]))]) fun x7 =>
  bindO (buildV #[(Value.string ByteArray.empty), (Value.int IntKind.i64 0), (Value.int IntKind.i64 0), Value.nilFunc] [(0, 1, (Value.string (ByteArray.mk #[98, 117, 114, 115, 116]))), (1, 1, (Value.int IntKind.i64 1)), (2, 1, (Value.int IntKind.i64 65536)), (3, 1, (Value.func (Fn.func 77) #[] #[]))]) fun x8 =>
  bindO (buildV #[(Value.string ByteArray.empty), (Value.int IntKind.i64 0), (Value.int IntKind.i64 0), Value.nilFunc] [(0, 1, (Value.string (ByteArray.mk #[116, 114, 105, 101, 115]))), (1, 1, (Value.int IntKind.i64 1)), (2, 1, (Value.int IntKind.i64 64)), (3, 1, (Value.func (Fn.func 78) #[] #[]))]) fun x9 =>
  bindO (buildV #[(Value.string ByteArray.empty), (Value.int IntKind.i64 0), (Value.int IntKind.i64 0), Value.nilFunc] [(0, 1, (Value.string (ByteArray.mk #[98, 97, 115, 101]))), (1, 1, (Value.int IntKind.i64 1)), (2, 1, (Value.int IntKind.i64 1024)), (3, 1, (Value.func (Fn.func 79) #[] #[]))]) fun x10 =>
  bindO (buildV #[(Value.string ByteArray.empty), (Value.int IntKind.i64 0), (Value.int IntKind.i64 0), Value.nilFunc] [(0, 1, (Value.string (ByteArray.mk #[109, 111, 115, 116]))), (1, 1, (Value.int IntKind.i64 1)), (2, 1, (Value.int IntKind.i64 1024)), (3, 1, (Value.func (Fn.func 80) #[] #[]))]) fun x11 =>
  bindO (buildV #[(Value.string ByteArray.empty), (Value.int IntKind.i64 0), (Value.int IntKind.i64 0), Value.nilFunc] [(0, 1, (Value.string (ByteArray.mk #[113, 117, 111, 116, 97]))), (1, 1, (Value.int IntKind.i64 1)), (2, 1, (Value.int IntKind.i64 1073741824)), (3, 1, (Value.func (Fn.func 81) #[] #[]))]) fun x12 =>
  bindO (buildV #[(Value.string ByteArray.empty), (Value.int IntKind.i64 0), (Value.int IntKind.i64 0), Value.nilFunc] [(0, 1, (Value.string (ByteArray.mk #[114, 111, 111, 109]))), (1, 1, (Value.int IntKind.i64 1)), (2, 1, (Value.int IntKind.i64 1073741824)), (3, 1, (Value.func (Fn.func 82) #[] #[]))]) fun x13 =>
  bindO (buildV #[(Value.string ByteArray.empty), (Value.int IntKind.i64 0), (Value.int IntKind.i64 0), Value.nilFunc] [(0, 1, (Value.string (ByteArray.mk #[100, 101, 112, 111, 116]))), (1, 1, (Value.int IntKind.i64 1)), (2, 1, (Value.int IntKind.i64 1073741824)), (3, 1, (Value.func (Fn.func 83) #[] #[]))]) fun x14 =>
  bindO (buildV #[(Value.string ByteArray.empty), (Value.int IntKind.i64 0), (Value.int IntKind.i64 0), Value.nilFunc] [(0, 1, (Value.string (ByteArray.mk #[114, 101, 115, 101, 110, 100]))), (1, 1, (Value.int IntKind.i64 1)), (2, 1, (Value.int IntKind.i64 1024)), (3, 1, (Value.func (Fn.func 84) #[] #[]))]) fun x15 =>
  bindO (buildV #[(Value.string ByteArray.empty), (Value.int IntKind.i64 0), (Value.int IntKind.i64 0), Value.nilFunc] [(0, 1, (Value.string (ByteArray.mk #[108, 105, 109, 105, 116]))), (1, 1, (Value.int IntKind.i64 1)), (2, 1, (Value.int IntKind.i64 64)), (3, 1, (Value.func (Fn.func 85) #[] #[]))]) fun x16 =>
  bindO (buildV #[(Value.string ByteArray.empty), (Value.int IntKind.i64 0), (Value.int IntKind.i64 0), Value.nilFunc] [(0, 1, (Value.string (ByteArray.mk #[112, 97, 116, 105, 101, 110, 99, 101]))), (1, 1, (Value.int IntKind.i64 1)), (2, 1, (Value.int IntKind.i64 65536)), (3, 1, (Value.func (Fn.func 86) #[] #[]))]) fun x17 =>
  bindO (buildV #[(Value.string ByteArray.empty), (Value.int IntKind.i64 0), (Value.int IntKind.i64 0), Value.nilFunc] [(0, 1, (Value.string (ByteArray.mk #[103, 101, 116, 119, 97, 105, 116]))), (1, 1, (Value.int IntKind.i64 1)), (2, 1, (Value.int IntKind.i64 1024)), (3, 1, (Value.func (Fn.func 87) #[] #[]))]) fun x18 =>
  bindO (buildV #[(Value.string ByteArray.empty), (Value.int IntKind.i64 0), (Value.int IntKind.i64 0), Value.nilFunc] [(0, 1, (Value.string (ByteArray.mk #[115, 116, 114, 105, 107, 101, 115]))), (1, 1, (Value.int IntKind.i64 1)), (2, 1, (Value.int IntKind.i64 64)), (3, 1, (Value.func (Fn.func 88) #[] #[]))]) fun x19 =>
  bindO (buildV #[(Value.string ByteArray.empty), (Value.int IntKind.i64 0), (Value.int IntKind.i64 0), Value.nilFunc] [(0, 1, (Value.string (ByteArray.mk #[98, 97, 110]))), (1, 1, (Value.int IntKind.i64 1)), (2, 1, (Value.int IntKind.i64 1024)), (3, 1, (Value.func (Fn.func 89) #[] #[]))]) fun x20 =>
  bindO (buildV #[(Value.string ByteArray.empty), (Value.int IntKind.i64 0), (Value.int IntKind.i64 0), Value.nilFunc] [(0, 1, (Value.string (ByteArray.mk #[104, 111, 109, 101]))), (1, 1, (Value.int IntKind.i64 0)), (2, 1, (Value.int IntKind.i64 7)), (3, 1, (Value.func (Fn.func 90) #[] #[]))]) fun x21 =>
  M.bind (bslM 119 21 (Builtin.zeroCells #[(Value.string ByteArray.empty), (Value.int IntKind.i64 0), (Value.int IntKind.i64 0), Value.nilFunc] 21) [(0, 4, x1), (4, 4, x2), (8, 4, x3), (12, 4, x4), (16, 4, x5), (20, 4, x6), (24, 4, x7), (28, 4, x8), (32, 4, x9), (36, 4, x10), (40, 4, x11), (44, 4, x12), (48, 4, x13), (52, 4, x14), (56, 4, x15), (60, 4, x16), (64, 4, x17), (68, 4, x18), (72, 4, x19), (76, 4, x20), (80, 4, x21)]) fun x22 =>
  M.ret x22
def F.ring_settings.plan : Plan := (seq leaf (seq leaf leaf))
theorem F.ring_settings.lift : LiftOk Tryd.prog 63 (ap0 F.ring_settings) :=
  lift0 (g := evFn Tryd.prog tnil tnil 63 Tryd.f63 F.ring_settings.plan) (evFn_sound tnil_ok tnil_ok Tryd.func63 (by kernel_rfl)) (by kernel_rfl)

/-- granary/ring.settings$1 -/
noncomputable def F.ring_settings_1 (a0 : Value) : M Value :=
  bindO (nilChk a0) fun x1 =>
  bindO (fieldA 1 x1) fun x2 =>
  M.ret x2
def F.ring_settings_1.plan : Plan := (seq leaf (seq leaf leaf))
theorem F.ring_settings_1.lift : LiftOk Tryd.prog 70 (ap1 F.ring_settings_1) :=
  lift1 (g := evFn Tryd.prog tnil tnil 70 Tryd.f70 F.ring_settings_1.plan) (evFn_sound tnil_ok tnil_ok Tryd.func70 (by kernel_rfl)) (fun x0 => by kernel_rfl)

/-- granary/ring.settings$2 -/
noncomputable def F.ring_settings_2 (a0 : Value) : M Value :=
  bindO (nilChk a0) fun x1 =>
  bindO (fieldA 2 x1) fun x2 =>
  M.ret x2
def F.ring_settings_2.plan : Plan := (seq leaf (seq leaf leaf))
theorem F.ring_settings_2.lift : LiftOk Tryd.prog 71 (ap1 F.ring_settings_2) :=
  lift1 (g := evFn Tryd.prog tnil tnil 71 Tryd.f71 F.ring_settings_2.plan) (evFn_sound tnil_ok tnil_ok Tryd.func71 (by kernel_rfl)) (fun x0 => by kernel_rfl)

/-- granary/ring.settings$3 -/
noncomputable def F.ring_settings_3 (a0 : Value) : M Value :=
  bindO (nilChk a0) fun x1 =>
  bindO (fieldA 3 x1) fun x2 =>
  M.ret x2
def F.ring_settings_3.plan : Plan := (seq leaf (seq leaf leaf))
theorem F.ring_settings_3.lift : LiftOk Tryd.prog 72 (ap1 F.ring_settings_3) :=
  lift1 (g := evFn Tryd.prog tnil tnil 72 Tryd.f72 F.ring_settings_3.plan) (evFn_sound tnil_ok tnil_ok Tryd.func72 (by kernel_rfl)) (fun x0 => by kernel_rfl)

/-- granary/ring.settings$4 -/
noncomputable def F.ring_settings_4 (a0 : Value) : M Value :=
  bindO (nilChk a0) fun x1 =>
  bindO (fieldA 4 x1) fun x2 =>
  M.ret x2
def F.ring_settings_4.plan : Plan := (seq leaf (seq leaf leaf))
theorem F.ring_settings_4.lift : LiftOk Tryd.prog 73 (ap1 F.ring_settings_4) :=
  lift1 (g := evFn Tryd.prog tnil tnil 73 Tryd.f73 F.ring_settings_4.plan) (evFn_sound tnil_ok tnil_ok Tryd.func73 (by kernel_rfl)) (fun x0 => by kernel_rfl)

/-- granary/ring.settings$5 -/
noncomputable def F.ring_settings_5 (a0 : Value) : M Value :=
  bindO (nilChk a0) fun x1 =>
  bindO (fieldA 5 x1) fun x2 =>
  M.ret x2
def F.ring_settings_5.plan : Plan := (seq leaf (seq leaf leaf))
theorem F.ring_settings_5.lift : LiftOk Tryd.prog 74 (ap1 F.ring_settings_5) :=
  lift1 (g := evFn Tryd.prog tnil tnil 74 Tryd.f74 F.ring_settings_5.plan) (evFn_sound tnil_ok tnil_ok Tryd.func74 (by kernel_rfl)) (fun x0 => by kernel_rfl)

/-- granary/ring.settings$6 -/
noncomputable def F.ring_settings_6 (a0 : Value) : M Value :=
  bindO (nilChk a0) fun x1 =>
  bindO (fieldA 6 x1) fun x2 =>
  M.ret x2
def F.ring_settings_6.plan : Plan := (seq leaf (seq leaf leaf))
theorem F.ring_settings_6.lift : LiftOk Tryd.prog 75 (ap1 F.ring_settings_6) :=
  lift1 (g := evFn Tryd.prog tnil tnil 75 Tryd.f75 F.ring_settings_6.plan) (evFn_sound tnil_ok tnil_ok Tryd.func75 (by kernel_rfl)) (fun x0 => by kernel_rfl)

/-- granary/ring.settings$7 -/
noncomputable def F.ring_settings_7 (a0 : Value) : M Value :=
  bindO (nilChk a0) fun x1 =>
  bindO (fieldA 7 x1) fun x2 =>
  M.ret x2
def F.ring_settings_7.plan : Plan := (seq leaf (seq leaf leaf))
theorem F.ring_settings_7.lift : LiftOk Tryd.prog 76 (ap1 F.ring_settings_7) :=
  lift1 (g := evFn Tryd.prog tnil tnil 76 Tryd.f76 F.ring_settings_7.plan) (evFn_sound tnil_ok tnil_ok Tryd.func76 (by kernel_rfl)) (fun x0 => by kernel_rfl)

/-- granary/ring.settings$8 -/
noncomputable def F.ring_settings_8 (a0 : Value) : M Value :=
  bindO (nilChk a0) fun x1 =>
  bindO (fieldA 8 x1) fun x2 =>
  M.ret x2
def F.ring_settings_8.plan : Plan := (seq leaf (seq leaf leaf))
theorem F.ring_settings_8.lift : LiftOk Tryd.prog 77 (ap1 F.ring_settings_8) :=
  lift1 (g := evFn Tryd.prog tnil tnil 77 Tryd.f77 F.ring_settings_8.plan) (evFn_sound tnil_ok tnil_ok Tryd.func77 (by kernel_rfl)) (fun x0 => by kernel_rfl)

/-- granary/ring.settings$9 -/
noncomputable def F.ring_settings_9 (a0 : Value) : M Value :=
  bindO (nilChk a0) fun x1 =>
  bindO (fieldA 9 x1) fun x2 =>
  M.ret x2
def F.ring_settings_9.plan : Plan := (seq leaf (seq leaf leaf))
theorem F.ring_settings_9.lift : LiftOk Tryd.prog 78 (ap1 F.ring_settings_9) :=
  lift1 (g := evFn Tryd.prog tnil tnil 78 Tryd.f78 F.ring_settings_9.plan) (evFn_sound tnil_ok tnil_ok Tryd.func78 (by kernel_rfl)) (fun x0 => by kernel_rfl)

/-- granary/ring.settings$10 -/
noncomputable def F.ring_settings_10 (a0 : Value) : M Value :=
  bindO (nilChk a0) fun x1 =>
  bindO (fieldA 10 x1) fun x2 =>
  M.ret x2
def F.ring_settings_10.plan : Plan := (seq leaf (seq leaf leaf))
theorem F.ring_settings_10.lift : LiftOk Tryd.prog 79 (ap1 F.ring_settings_10) :=
  lift1 (g := evFn Tryd.prog tnil tnil 79 Tryd.f79 F.ring_settings_10.plan) (evFn_sound tnil_ok tnil_ok Tryd.func79 (by kernel_rfl)) (fun x0 => by kernel_rfl)

/-- granary/ring.settings$11 -/
noncomputable def F.ring_settings_11 (a0 : Value) : M Value :=
  bindO (nilChk a0) fun x1 =>
  bindO (fieldA 11 x1) fun x2 =>
  M.ret x2
def F.ring_settings_11.plan : Plan := (seq leaf (seq leaf leaf))
theorem F.ring_settings_11.lift : LiftOk Tryd.prog 80 (ap1 F.ring_settings_11) :=
  lift1 (g := evFn Tryd.prog tnil tnil 80 Tryd.f80 F.ring_settings_11.plan) (evFn_sound tnil_ok tnil_ok Tryd.func80 (by kernel_rfl)) (fun x0 => by kernel_rfl)

/-- granary/ring.settings$12 -/
noncomputable def F.ring_settings_12 (a0 : Value) : M Value :=
  bindO (nilChk a0) fun x1 =>
  bindO (fieldA 12 x1) fun x2 =>
  M.ret x2
def F.ring_settings_12.plan : Plan := (seq leaf (seq leaf leaf))
theorem F.ring_settings_12.lift : LiftOk Tryd.prog 81 (ap1 F.ring_settings_12) :=
  lift1 (g := evFn Tryd.prog tnil tnil 81 Tryd.f81 F.ring_settings_12.plan) (evFn_sound tnil_ok tnil_ok Tryd.func81 (by kernel_rfl)) (fun x0 => by kernel_rfl)

/-- granary/ring.settings$13 -/
noncomputable def F.ring_settings_13 (a0 : Value) : M Value :=
  bindO (nilChk a0) fun x1 =>
  bindO (fieldA 13 x1) fun x2 =>
  M.ret x2
def F.ring_settings_13.plan : Plan := (seq leaf (seq leaf leaf))
theorem F.ring_settings_13.lift : LiftOk Tryd.prog 82 (ap1 F.ring_settings_13) :=
  lift1 (g := evFn Tryd.prog tnil tnil 82 Tryd.f82 F.ring_settings_13.plan) (evFn_sound tnil_ok tnil_ok Tryd.func82 (by kernel_rfl)) (fun x0 => by kernel_rfl)

/-- granary/ring.settings$14 -/
noncomputable def F.ring_settings_14 (a0 : Value) : M Value :=
  bindO (nilChk a0) fun x1 =>
  bindO (fieldA 14 x1) fun x2 =>
  M.ret x2
def F.ring_settings_14.plan : Plan := (seq leaf (seq leaf leaf))
theorem F.ring_settings_14.lift : LiftOk Tryd.prog 83 (ap1 F.ring_settings_14) :=
  lift1 (g := evFn Tryd.prog tnil tnil 83 Tryd.f83 F.ring_settings_14.plan) (evFn_sound tnil_ok tnil_ok Tryd.func83 (by kernel_rfl)) (fun x0 => by kernel_rfl)

/-- granary/ring.settings$15 -/
noncomputable def F.ring_settings_15 (a0 : Value) : M Value :=
  bindO (nilChk a0) fun x1 =>
  bindO (fieldA 15 x1) fun x2 =>
  M.ret x2
def F.ring_settings_15.plan : Plan := (seq leaf (seq leaf leaf))
theorem F.ring_settings_15.lift : LiftOk Tryd.prog 84 (ap1 F.ring_settings_15) :=
  lift1 (g := evFn Tryd.prog tnil tnil 84 Tryd.f84 F.ring_settings_15.plan) (evFn_sound tnil_ok tnil_ok Tryd.func84 (by kernel_rfl)) (fun x0 => by kernel_rfl)

/-- granary/ring.settings$16 -/
noncomputable def F.ring_settings_16 (a0 : Value) : M Value :=
  bindO (nilChk a0) fun x1 =>
  bindO (fieldA 16 x1) fun x2 =>
  M.ret x2
def F.ring_settings_16.plan : Plan := (seq leaf (seq leaf leaf))
theorem F.ring_settings_16.lift : LiftOk Tryd.prog 85 (ap1 F.ring_settings_16) :=
  lift1 (g := evFn Tryd.prog tnil tnil 85 Tryd.f85 F.ring_settings_16.plan) (evFn_sound tnil_ok tnil_ok Tryd.func85 (by kernel_rfl)) (fun x0 => by kernel_rfl)

/-- granary/ring.settings$17 -/
noncomputable def F.ring_settings_17 (a0 : Value) : M Value :=
  bindO (nilChk a0) fun x1 =>
  bindO (fieldA 17 x1) fun x2 =>
  M.ret x2
def F.ring_settings_17.plan : Plan := (seq leaf (seq leaf leaf))
theorem F.ring_settings_17.lift : LiftOk Tryd.prog 86 (ap1 F.ring_settings_17) :=
  lift1 (g := evFn Tryd.prog tnil tnil 86 Tryd.f86 F.ring_settings_17.plan) (evFn_sound tnil_ok tnil_ok Tryd.func86 (by kernel_rfl)) (fun x0 => by kernel_rfl)

/-- granary/ring.settings$18 -/
noncomputable def F.ring_settings_18 (a0 : Value) : M Value :=
  bindO (nilChk a0) fun x1 =>
  bindO (fieldA 18 x1) fun x2 =>
  M.ret x2
def F.ring_settings_18.plan : Plan := (seq leaf (seq leaf leaf))
theorem F.ring_settings_18.lift : LiftOk Tryd.prog 87 (ap1 F.ring_settings_18) :=
  lift1 (g := evFn Tryd.prog tnil tnil 87 Tryd.f87 F.ring_settings_18.plan) (evFn_sound tnil_ok tnil_ok Tryd.func87 (by kernel_rfl)) (fun x0 => by kernel_rfl)

/-- granary/ring.settings$19 -/
noncomputable def F.ring_settings_19 (a0 : Value) : M Value :=
  bindO (nilChk a0) fun x1 =>
  bindO (fieldA 19 x1) fun x2 =>
  M.ret x2
def F.ring_settings_19.plan : Plan := (seq leaf (seq leaf leaf))
theorem F.ring_settings_19.lift : LiftOk Tryd.prog 88 (ap1 F.ring_settings_19) :=
  lift1 (g := evFn Tryd.prog tnil tnil 88 Tryd.f88 F.ring_settings_19.plan) (evFn_sound tnil_ok tnil_ok Tryd.func88 (by kernel_rfl)) (fun x0 => by kernel_rfl)

/-- granary/ring.settings$20 -/
noncomputable def F.ring_settings_20 (a0 : Value) : M Value :=
  bindO (nilChk a0) fun x1 =>
  bindO (fieldA 20 x1) fun x2 =>
  M.ret x2
def F.ring_settings_20.plan : Plan := (seq leaf (seq leaf leaf))
theorem F.ring_settings_20.lift : LiftOk Tryd.prog 89 (ap1 F.ring_settings_20) :=
  lift1 (g := evFn Tryd.prog tnil tnil 89 Tryd.f89 F.ring_settings_20.plan) (evFn_sound tnil_ok tnil_ok Tryd.func89 (by kernel_rfl)) (fun x0 => by kernel_rfl)

/-- granary/ring.settings$21 -/
noncomputable def F.ring_settings_21 (a0 : Value) : M Value :=
  bindO (nilChk a0) fun x1 =>
  bindO (fieldA 21 x1) fun x2 =>
  M.ret x2
def F.ring_settings_21.plan : Plan := (seq leaf (seq leaf leaf))
theorem F.ring_settings_21.lift : LiftOk Tryd.prog 90 (ap1 F.ring_settings_21) :=
  lift1 (g := evFn Tryd.prog tnil tnil 90 Tryd.f90 F.ring_settings_21.plan) (evFn_sound tnil_ok tnil_ok Tryd.func90 (by kernel_rfl)) (fun x0 => by kernel_rfl)

/-- What function values come to. -/
noncomputable def F.clos : Tab := (tcons 70 (ap1 F.ring_settings_1) (tcons 71 (ap1 F.ring_settings_2) (tcons 72 (ap1 F.ring_settings_3) (tcons 73 (ap1 F.ring_settings_4) (tcons 74 (ap1 F.ring_settings_5) (tcons 75 (ap1 F.ring_settings_6) (tcons 76 (ap1 F.ring_settings_7) (tcons 77 (ap1 F.ring_settings_8) (tcons 78 (ap1 F.ring_settings_9) (tcons 79 (ap1 F.ring_settings_10) (tcons 80 (ap1 F.ring_settings_11) (tcons 81 (ap1 F.ring_settings_12) (tcons 82 (ap1 F.ring_settings_13) (tcons 83 (ap1 F.ring_settings_14) (tcons 84 (ap1 F.ring_settings_15) (tcons 85 (ap1 F.ring_settings_16) (tcons 86 (ap1 F.ring_settings_17) (tcons 87 (ap1 F.ring_settings_18) (tcons 88 (ap1 F.ring_settings_19) (tcons 89 (ap1 F.ring_settings_20) (tcons 90 (ap1 F.ring_settings_21) tnil)))))))))))))))))))))
theorem F.clos_ok : TabOk Tryd.prog F.clos := (tcons_ok F.ring_settings_1.lift (tcons_ok F.ring_settings_2.lift (tcons_ok F.ring_settings_3.lift (tcons_ok F.ring_settings_4.lift (tcons_ok F.ring_settings_5.lift (tcons_ok F.ring_settings_6.lift (tcons_ok F.ring_settings_7.lift (tcons_ok F.ring_settings_8.lift (tcons_ok F.ring_settings_9.lift (tcons_ok F.ring_settings_10.lift (tcons_ok F.ring_settings_11.lift (tcons_ok F.ring_settings_12.lift (tcons_ok F.ring_settings_13.lift (tcons_ok F.ring_settings_14.lift (tcons_ok F.ring_settings_15.lift (tcons_ok F.ring_settings_16.lift (tcons_ok F.ring_settings_17.lift (tcons_ok F.ring_settings_18.lift (tcons_ok F.ring_settings_19.lift (tcons_ok F.ring_settings_20.lift (tcons_ok F.ring_settings_21.lift tnil_ok)))))))))))))))))))))

/-- granary/ring.within -/
noncomputable def F.ring_within (a0 a1 a2 : Value) : M Value :=
  bindO (binV BinOp.leq a1 a0) fun x1 =>
  M.bind (guardM x1 true (M.ret a0)) fun x2 =>
  M.bind (guardM x1 true (M.ret a2)) fun x3 =>
  M.bind (guardM x1 true (optM (binV BinOp.leq x2 x3))) fun x4 =>
  bindO (pickV x1 x4 (Value.bool false)) fun x5 =>
  M.ret x5
def F.ring_within.plan : Plan := (seq leaf (seq leaf leaf))
theorem F.ring_within.lift : LiftOk Tryd.prog 47 (ap3 F.ring_within) :=
  lift3 (g := evFn Tryd.prog tnil tnil 47 Tryd.f47 F.ring_within.plan) (evFn_sound tnil_ok tnil_ok Tryd.func47 (by kernel_rfl)) (fun x0 x1 x2 => by kernel_rfl)

/-- cmp.isNaN[int] -/
noncomputable def F.cmp_isNaN_inst (a0 : Value) : M Value :=
  bindO (binV BinOp.neq a0 a0) fun x1 =>
  M.ret x1
def F.cmp_isNaN_inst.plan : Plan := (seq leaf (seq leaf leaf))
theorem F.cmp_isNaN_inst.lift : LiftOk Tryd.prog 106 (ap1 F.cmp_isNaN_inst) :=
  lift1 (g := evFn Tryd.prog tnil tnil 106 Tryd.f106 F.cmp_isNaN_inst.plan) (evFn_sound tnil_ok tnil_ok Tryd.func106 (by kernel_rfl)) (fun x0 => by kernel_rfl)

/-- cmp.Less[int] -/
noncomputable def F.cmp_Less_inst (a0 a1 : Value) : M Value :=
  M.bind (F.cmp_isNaN_inst a0) fun x1 =>
  M.bind (guardM x1 true (M.ret a1)) fun x2 =>
  M.bind (guardM x1 true (F.cmp_isNaN_inst x2)) fun x3 =>
  M.bind (guardM x1 true (optM (notV x3))) fun x4 =>
  bindO (pickV x1 x4 (Value.bool false)) fun x5 =>
  M.bind (guardM x5 false (M.ret a0)) fun x6 =>
  M.bind (guardM x5 false (M.ret a1)) fun x7 =>
  M.bind (guardM x5 false (optM (binV BinOp.lss x6 x7))) fun x8 =>
  bindO (pickV x5 (Value.bool true) x8) fun x9 =>
  M.ret x9
def F.cmp_Less_inst.plan : Plan := (seq leaf (seq leaf leaf))
theorem F.cmp_Less_inst.lift : LiftOk Tryd.prog 103 (ap2 F.cmp_Less_inst) :=
  lift2 (g := evFn Tryd.prog (tcons 106 (ap1 F.cmp_isNaN_inst) tnil) tnil 103 Tryd.f103 F.cmp_Less_inst.plan) (evFn_sound (tcons_ok F.cmp_isNaN_inst.lift tnil_ok) tnil_ok Tryd.func103 (by kernel_rfl)) (fun x0 x1 => by kernel_rfl)

/-- slices.IsSorted[[]int,int] -/
noncomputable def F.slices_IsSorted_inst (a0 : Value) : M Value :=
  bindO (lenL a0) fun x1 =>
  bindO (binV BinOp.sub x1 (Value.int IntKind.i64 1)) fun x2 =>
  M.bind (loopM (fun l3 =>
    bindO (binV BinOp.gtr (getL l3 0) (Value.int IntKind.i64 0)) fun x4 =>
    condM x4 (
      drewM <|
      bindO (idxA 1 a0 (getL l3 0)) fun x5 =>
      M.bind (rdM (ld1 x5)) fun x6 =>
      bindO (binV BinOp.sub (getL l3 0) (Value.int IntKind.i64 1)) fun x7 =>
      bindO (idxA 1 a0 x7) fun x8 =>
      M.bind (rdM (ld1 x8)) fun x9 =>
      M.bind (F.cmp_Less_inst x6 x9) fun x10 =>
      condM x10 (
        M.ret (Out.ret (Value.bool false))) (
        bindO (binV BinOp.sub (getL l3 0) (Value.int IntKind.i64 1)) fun x11 =>
        M.ret (Out.norm [x11]))) (
      M.ret (Out.exit 0 [(getL l3 0)]))) [x2]) fun o13 =>
  outK o13 (fun _ => M.fail) (fun i14 _ =>
    bif Nat.beq i14 0 then (
      M.ret (Value.bool true)) else
    M.fail) (fun r15 => M.ret r15)
def F.slices_IsSorted_inst.plan : Plan := (seq leaf (seq (seq leaf (body (loop [3] [2, 3, 7, 8, 9, 10, 11, 12, 13, 14, 15, 16, 17, 18, 19, 20] [0] (seq (seq leaf (cond leaf leaf)) (seq (body (seq leaf (cond (seq leaf leaf) leaf))) leaf))))) (seq leaf leaf)))
theorem F.slices_IsSorted_inst.lift : LiftOk Tryd.prog 97 (ap1 F.slices_IsSorted_inst) :=
  lift1 (g := evFn Tryd.prog (tcons 103 (ap2 F.cmp_Less_inst) tnil) tnil 97 Tryd.f97 F.slices_IsSorted_inst.plan) (evFn_sound (tcons_ok F.cmp_Less_inst.lift tnil_ok) tnil_ok Tryd.func97 (by kernel_rfl)) (fun x0 => by kernel_rfl)

/-- sort.IntsAreSorted -/
noncomputable def F.sort_IntsAreSorted (a0 : Value) : M Value :=
  M.bind (F.slices_IsSorted_inst a0) fun x1 =>
  M.ret x1
def F.sort_IntsAreSorted.plan : Plan := (seq leaf (seq leaf leaf))
theorem F.sort_IntsAreSorted.lift : LiftOk Tryd.prog 91 (ap1 F.sort_IntsAreSorted) :=
  lift1 (g := evFn Tryd.prog (tcons 97 (ap1 F.slices_IsSorted_inst) tnil) tnil 91 Tryd.f91 F.sort_IntsAreSorted.plan) (evFn_sound (tcons_ok F.slices_IsSorted_inst.lift tnil_ok) tnil_ok Tryd.func91 (by kernel_rfl)) (fun x0 => by kernel_rfl)

/-- granary/ring.homes -/
noncomputable def F.ring_homes (a0 : Value) : M Value :=
  M.bind (newM 24 (Value.cells a0)) fun x1 =>
  bindO (fieldA 22 x1) fun x2 =>
  M.bind (rdM (ld1 x2)) fun x3 =>
  bindO (lenL x3) fun x4 =>
  M.bind (loopM (fun l5 =>
    bindO (binV BinOp.lss (getL l5 1) x4) fun x6 =>
    condM x6 (
      bindO (idxA 2 x3 (getL l5 1)) fun x7 =>
      M.bind (rdM (ldA 2 x7)) fun x8 =>
      M.bind (newM 64 #[(Value.int IntKind.i64 0), (Value.slice none 0 0)]) fun x9 =>
      M.bind (stM 2 x9 x8) fun _ =>
      bindO (fieldA 1 x9) fun x11 =>
      M.bind (rdM (ld1 x11)) fun x12 =>
      bindO (lenL x12) fun x13 =>
      bindO (binV BinOp.add (getL l5 0) x13) fun x14 =>
      bindO (binV BinOp.add (getL l5 1) (Value.int IntKind.i64 1)) fun x15 =>
      M.ret (Out.norm [x14, x15])) (
      M.ret (Out.exit 0 [(getL l5 0), (getL l5 1)]))) [(Value.int IntKind.i64 0), (Value.int IntKind.i64 0)]) fun o17 =>
  outK o17 (fun _ => M.fail) (fun i18 l16 =>
    bif Nat.beq i18 0 then (
      M.bind (F.ring_within (getL l16 0) (Value.int IntKind.i64 1) (Value.int IntKind.i64 64)) fun x20 =>
      bindO (notV x20) fun x21 =>
      condM x21 (
        M.ret (Value.tuple #[(Value.slice none 0 0), (Value.int IntKind.i64 66)])) (
        M.bind (mksM 3 1 8 #[(Value.int IntKind.i64 0)] (getL l16 0) (getL l16 0)) fun x22 =>
        bindO (lenL x22) fun x23 =>
        M.bind (loopM (fun l24 =>
          bindO (binV BinOp.lss (getL l24 0) x23) fun x25 =>
          condM x25 (
            bindO (idxA 1 x22 (getL l24 0)) fun x26 =>
            M.bind (stM 1 x26 (Value.int IntKind.i64 (-1))) fun _ =>
            bindO (binV BinOp.add (getL l24 0) (Value.int IntKind.i64 1)) fun x28 =>
            M.ret (Out.norm [x28])) (
            M.ret (Out.exit 2 [(getL l24 0)]))) [(Value.int IntKind.i64 0)]) fun o30 =>
        outK o30 (fun _ => M.fail) (fun i31 _ =>
          bif Nat.beq i31 2 then (
            bindO (fieldA 22 x1) fun x33 =>
            M.bind (rdM (ld1 x33)) fun x34 =>
            bindO (lenL x34) fun x35 =>
            M.bind (loopM (fun l36 =>
              bindO (binV BinOp.lss (getL l36 0) x35) fun x37 =>
              condM x37 (
                bindO (idxA 2 x34 (getL l36 0)) fun x38 =>
                M.bind (rdM (ldA 2 x38)) fun x39 =>
                M.bind (newM 64 #[(Value.int IntKind.i64 0), (Value.slice none 0 0)]) fun x40 =>
                M.bind (stM 2 x40 x39) fun _ =>
                bindO (fieldA 1 x40) fun x42 =>
                M.bind (rdM (ld1 x42)) fun x43 =>
                M.bind (F.sort_IntsAreSorted x43) fun x44 =>
                bindO (notV x44) fun x45 =>
                condM x45 (
                  M.ret (Out.ret (Value.tuple #[(Value.slice none 0 0), (Value.int IntKind.i64 66)]))) (
                  bindO (fieldA 1 x40) fun x46 =>
                  M.bind (rdM (ld1 x46)) fun x47 =>
                  bindO (lenL x47) fun x48 =>
                  M.bind (loopM (fun l49 =>
                    bindO (binV BinOp.lss (getL l49 0) x48) fun x50 =>
                    condM x50 (
                      bindO (idxA 1 x47 (getL l49 0)) fun x51 =>
                      M.bind (rdM (ld1 x51)) fun x52 =>
                      bindO (binV BinOp.lss x52 (Value.int IntKind.i64 0)) fun x53 =>
                      M.bind (guardM x53 false (M.ret x52)) fun x54 =>
                      M.bind (guardM x53 false (M.ret (getL l16 0))) fun x55 =>
                      M.bind (guardM x53 false (optM (binV BinOp.geq x54 x55))) fun x56 =>
                      bindO (pickV x53 (Value.bool true) x56) fun x57 =>
                      M.bind (guardM x57 false (M.ret x22)) fun x58 =>
                      M.bind (guardM x57 false (M.ret x52)) fun x59 =>
                      M.bind (guardM x57 false (optM (idxA 1 x58 x59))) fun x60 =>
                      M.bind (guardM x57 false (rdM (ld1 x60))) fun x61 =>
                      M.bind (guardM x57 false (optM (binV BinOp.geq x61 (Value.int IntKind.i64 0)))) fun x62 =>
                      bindO (pickV x57 (Value.bool true) x62) fun x63 =>
                      condM x63 (
                        M.ret (Out.ret (Value.tuple #[(Value.slice none 0 0), (Value.int IntKind.i64 66)]))) (
                        bindO (idxA 1 x22 x52) fun x64 =>
                        M.bind (stM 1 x64 (getL l36 0)) fun _ =>
                        bindO (binV BinOp.add (getL l49 0) (Value.int IntKind.i64 1)) fun x66 =>
                        M.ret (Out.norm [x66]))) (
                      M.ret (Out.exit 6 [(getL l49 0)]))) [(Value.int IntKind.i64 0)]) fun o68 =>
                  outK o68 (fun _ => M.fail) (fun i69 _ =>
                    bif Nat.beq i69 6 then (
                      bindO (binV BinOp.add (getL l36 0) (Value.int IntKind.i64 1)) fun x71 =>
                      M.ret (Out.norm [x71])) else
                    M.fail) (fun r70 => M.ret (Out.ret r70)))) (
                M.ret (Out.exit 4 [(getL l36 0)]))) [(Value.int IntKind.i64 0)]) fun o73 =>
            outK o73 (fun _ => M.fail) (fun i74 _ =>
              bif Nat.beq i74 4 then (
                M.ret (Value.tuple #[x22, (Value.int IntKind.i64 0)])) else
              M.fail) (fun r75 => M.ret r75)) else
          M.fail) (fun r32 => M.ret r32))) else
    M.fail) (fun r19 => M.ret r19)
def F.ring_homes.plan : Plan := (seq leaf (seq leaf (seq (seq leaf (body (loop [4, 16] [4, 6, 16, 17, 18, 19, 20, 21, 22, 23, 24, 25] [0] (seq leaf (seq (cond leaf leaf) (seq (body (seq leaf leaf)) leaf)))))) (seq (seq leaf (cond (seq leaf leaf) leaf)) (seq leaf (seq (seq leaf (body (loop [33] [8, 33, 34, 35, 36, 37, 38, 39] [2] (seq leaf (seq (cond leaf leaf) (seq (body (seq leaf leaf)) leaf)))))) (seq (seq leaf (body (loop [43] [2, 3, 9, 10, 12, 43, 44, 45, 46, 47, 48, 49, 50, 51, 52, 53, 54, 55, 56, 57, 58, 59, 60, 61, 62, 63, 64, 65, 66, 67, 68, 69, 70, 71, 72, 73, 74, 75, 76, 77, 78] [4] (seq leaf (seq (cond leaf leaf) (seq (body (seq leaf (seq (seq leaf (cond (seq leaf leaf) leaf)) (seq leaf (body (loop [55] [2, 3, 12, 55, 56, 57, 58, 59, 60, 61, 62, 63, 64, 65, 66, 67, 68, 69, 70, 71, 72, 73, 74, 75, 76, 77] [6] (seq leaf (seq (cond leaf leaf) (seq (body (seq leaf (seq (seq leaf (cond (seq leaf leaf) leaf)) leaf))) leaf))))))))) leaf)))))) (seq leaf leaf))))))))
theorem F.ring_homes.lift : LiftOk Tryd.prog 64 (ap1 F.ring_homes) :=
  lift1 (g := evFn Tryd.prog (tcons 47 (ap3 F.ring_within) (tcons 91 (ap1 F.sort_IntsAreSorted) tnil)) tnil 64 Tryd.f64 F.ring_homes.plan) (evFn_sound (tcons_ok F.ring_within.lift (tcons_ok F.sort_IntsAreSorted.lift tnil_ok)) tnil_ok Tryd.func64 (by kernel_rfl)) (fun x0 => by kernel_rfl)

/-- granary/ring.checked -/
noncomputable def F.ring_checked (a0 : Value) : M Value :=
  M.bind (newM 24 (Value.cells a0)) fun x1 =>
  bindO (fieldA 0 x1) fun x2 =>
  M.bind (rdM (ld1 x2)) fun x3 =>
  M.bind (F.ring_nameOK x3) fun x4 =>
  bindO (notV x4) fun x5 =>
  condM x5 (
    M.ret (Value.tuple #[(Value.slice none 0 0), (Value.int IntKind.i64 63)])) (
    M.bind (F.ring_settings) fun x6 =>
    bindO (lenL x6) fun x7 =>
    M.bind (loopM (fun l8 =>
      bindO (binV BinOp.lss (getL l8 0) x7) fun x9 =>
      condM x9 (
        bindO (idxA 4 x6 (getL l8 0)) fun x10 =>
        M.bind (rdM (ldA 4 x10)) fun x11 =>
        M.bind (newM 119 #[(Value.string ByteArray.empty), (Value.int IntKind.i64 0), (Value.int IntKind.i64 0), Value.nilFunc]) fun x12 =>
        M.bind (stM 4 x12 x11) fun _ =>
        drewM <|
        getM fun W14 =>
        bindO (fieldA 3 x12) fun x15 =>
        M.bind (rdM (ld1 x15)) fun x16 =>
        M.bind (callV F.clos x16 [x1]) fun x17 =>
        getM fun _ =>
        bindO (nilChk x17) fun x19 =>
        M.bind (rdM (ld1 x19)) fun x20 =>
        bindO (fieldA 1 x12) fun x21 =>
        M.bind (rdM (ld1 x21)) fun x22 =>
        bindO (fieldA 2 x12) fun x23 =>
        M.bind (rdM (ld1 x23)) fun x24 =>
        M.bind (F.ring_within x20 x22 x24) fun x25 =>
        getM fun _ =>
        bindO (notV x25) fun x27 =>
        reqM (ld1 x21 W14 = some x22) <|
        reqM (ld1 x23 W14 = some x24) <|
        condM x27 (
          M.ret (Out.ret (Value.tuple #[(Value.slice none 0 0), (Value.int IntKind.i64 64)]))) (
          bindO (binV BinOp.add (getL l8 0) (Value.int IntKind.i64 1)) fun x28 =>
          M.ret (Out.norm [x28]))) (
        M.ret (Out.exit 0 [(getL l8 0)]))) [(Value.int IntKind.i64 0)]) fun o30 =>
    outK o30 (fun _ => M.fail) (fun i31 _ =>
      bif Nat.beq i31 0 then (
        bindO (fieldA 8 x1) fun x33 =>
        M.bind (rdM (ld1 x33)) fun x34 =>
        bindO (fieldA 5 x1) fun x35 =>
        M.bind (rdM (ld1 x35)) fun x36 =>
        bindO (binV BinOp.lss x34 x36) fun x37 =>
        M.bind (guardM x37 false (optM (fieldA 11 x1))) fun x38 =>
        M.bind (guardM x37 false (rdM (ld1 x38))) fun x39 =>
        M.bind (guardM x37 false (optM (fieldA 10 x1))) fun x40 =>
        M.bind (guardM x37 false (rdM (ld1 x40))) fun x41 =>
        M.bind (guardM x37 false (optM (binV BinOp.lss x39 x41))) fun x42 =>
        bindO (pickV x37 (Value.bool true) x42) fun x43 =>
        condM x43 (
          M.ret (Value.tuple #[(Value.slice none 0 0), (Value.int IntKind.i64 64)])) (
          bindO (fieldA 22 x1) fun x44 =>
          M.bind (rdM (ld1 x44)) fun x45 =>
          bindO (lenL x45) fun x46 =>
          M.bind (F.ring_within x46 (Value.int IntKind.i64 1) (Value.int IntKind.i64 16)) fun x47 =>
          bindO (notV x47) fun x48 =>
          condM x48 (
            M.ret (Value.tuple #[(Value.slice none 0 0), (Value.int IntKind.i64 65)])) (
            bindO (fieldA 22 x1) fun x49 =>
            M.bind (rdM (ld1 x49)) fun x50 =>
            bindO (lenL x50) fun x51 =>
            M.bind (loopM (fun l52 =>
              bindO (binV BinOp.lss (getL l52 1) x51) fun x53 =>
              condM x53 (
                M.bind (
                  bindO (idxA 2 x50 (getL l52 1)) fun x54 =>
                  M.bind (rdM (ldA 2 x54)) fun x55 =>
                  M.bind (newM 64 #[(Value.int IntKind.i64 0), (Value.slice none 0 0)]) fun x56 =>
                  M.bind (stM 2 x56 x55) fun _ =>
                  bindO (fieldA 0 x56) fun x58 =>
                  M.bind (rdM (ld1 x58)) fun x59 =>
                  M.bind (F.ring_within x59 (Value.int IntKind.i64 0) (Value.int IntKind.i64 7)) fun x60 =>
                  bindO (notV x60) fun x61 =>
                  condM x61 (
                    M.ret (Out.ret (Value.tuple #[(Value.slice none 0 0), (Value.int IntKind.i64 65)]))) (
                    bindO (fieldA 1 x56) fun x62 =>
                    M.bind (rdM (ld1 x62)) fun x63 =>
                    bindO (lenL x63) fun x64 =>
                    bindO (binV BinOp.gtr x64 (Value.int IntKind.i64 0)) fun x65 =>
                    condM x65 (
                      bindO (binV BinOp.add (getL l52 0) (Value.int IntKind.i64 1)) fun x66 =>
                      M.ret (Out.norm [x66])) (
                      M.ret (Out.norm [(getL l52 0)])))) fun o68 =>
                outK o68 (fun l67 =>
                  bindO (binV BinOp.add (getL l52 1) (Value.int IntKind.i64 1)) fun x71 =>
                  M.ret (Out.norm [(getL l67 0), x71])) (fun _ _ =>
                  M.fail) (fun r70 => M.ret (Out.ret r70))) (
                M.ret (Out.exit 2 [(getL l52 0), (getL l52 1)]))) [(Value.int IntKind.i64 0), (Value.int IntKind.i64 0)]) fun o74 =>
            outK o74 (fun _ => M.fail) (fun i75 l73 =>
              bif Nat.beq i75 2 then (
                M.bind (rdM (ldA 23 x1)) fun x77 =>
                M.bind (F.ring_homes x77) fun x78 =>
                bindO (extV 0 x78) fun x79 =>
                bindO (extV 1 x78) fun x80 =>
                bindO (binV BinOp.neq x80 (Value.int IntKind.i64 0)) fun x81 =>
                condM x81 (
                  M.ret (Value.tuple #[(Value.slice none 0 0), x80])) (
                  bindO (fieldA 1 x1) fun x82 =>
                  M.bind (rdM (ld1 x82)) fun x83 =>
                  bindO (binV BinOp.gtr x83 (getL l73 0)) fun x84 =>
                  condM x84 (
                    M.ret (Value.tuple #[(Value.slice none 0 0), (Value.int IntKind.i64 67)])) (
                    bindO (lenL x79) fun x85 =>
                    bindO (fieldA 1 x1) fun x86 =>
                    M.bind (rdM (ld1 x86)) fun x87 =>
                    bindO (binV BinOp.mul x85 x87) fun x88 =>
                    bindO (fieldA 3 x1) fun x89 =>
                    M.bind (rdM (ld1 x89)) fun x90 =>
                    bindO (binV BinOp.mul x88 x90) fun x91 =>
                    bindO (binV BinOp.gtr x91 (Value.int IntKind.i64 512)) fun x92 =>
                    condM x92 (
                      M.ret (Value.tuple #[(Value.slice none 0 0), (Value.int IntKind.i64 3)])) (
                      M.ret (Value.tuple #[x79, (Value.int IntKind.i64 0)]))))) else
              M.fail) (fun r76 => M.ret r76)))) else
      M.fail) (fun r32 => M.ret r32))
def F.ring_checked.plan : Plan := (seq leaf (seq (seq leaf (cond (seq leaf leaf) leaf)) (seq (seq leaf (body (loop [17] [2, 3, 5, 17, 18, 19, 20, 21, 22, 23, 24, 25, 26, 27, 28, 29, 30, 31, 32] [0] (seq leaf (seq (cond leaf leaf) (seq (body (seq leaf (seq leaf (cond (seq leaf leaf) leaf)))) leaf)))))) (seq (seq leaf (cond (seq leaf leaf) leaf)) (seq (seq leaf (cond (seq leaf leaf) leaf)) (seq leaf (seq (seq leaf (body (loop [6, 53] [2, 3, 6, 8, 53, 54, 55, 56, 57, 58, 59, 60, 61, 62, 63, 64, 65, 66, 67] [2] (seq leaf (seq (cond leaf leaf) (fork [6] [2, 3, 6, 8, 55, 56, 57, 58, 59, 60, 61, 62, 63, 64, 65, 66] [] (body (seq leaf (seq (seq leaf (cond (seq leaf leaf) leaf)) (seq leaf (cond leaf leaf))))) leaf)))))) (seq leaf (seq (seq leaf (cond (seq leaf leaf) leaf)) (seq (seq leaf (cond (seq leaf leaf) leaf)) (seq (seq leaf (cond (seq leaf leaf) leaf)) (seq leaf leaf))))))))))))
theorem F.ring_checked.lift : LiftOk Tryd.prog 46 (ap1 F.ring_checked) :=
  lift1 (g := evFn Tryd.prog (tcons 47 (ap3 F.ring_within) (tcons 62 (ap1 F.ring_nameOK) (tcons 63 (ap0 F.ring_settings) (tcons 64 (ap1 F.ring_homes) tnil)))) F.clos 46 Tryd.f46 F.ring_checked.plan) (evFn_sound (tcons_ok F.ring_within.lift (tcons_ok F.ring_nameOK.lift (tcons_ok F.ring_settings.lift (tcons_ok F.ring_homes.lift tnil_ok)))) F.clos_ok Tryd.func46 (by kernel_rfl)) (fun x0 => by kernel_rfl)

/-- granary/ring.Check -/
noncomputable def F.ring_Check (a0 : Value) : M Value :=
  M.bind (newM 24 (Value.cells a0)) fun x1 =>
  M.bind (rdM (ldA 23 x1)) fun x2 =>
  M.bind (F.ring_checked x2) fun x3 =>
  bindO (extV 0 x3) fun _ =>
  bindO (extV 1 x3) fun x5 =>
  M.ret x5
def F.ring_Check.plan : Plan := (seq leaf (seq leaf (seq leaf leaf)))
theorem F.ring_Check.lift : LiftOk Tryd.prog 30 (ap1 F.ring_Check) :=
  lift1 (g := evFn Tryd.prog (tcons 46 (ap1 F.ring_checked) tnil) tnil 30 Tryd.f30 F.ring_Check.plan) (evFn_sound (tcons_ok F.ring_checked.lift tnil_ok) tnil_ok Tryd.func30 (by kernel_rfl)) (fun x0 => by kernel_rfl)

/-- granary/ring.round -/
noncomputable def F.ring_round (a0 a1 a2 : Value) : M Value :=
  M.bind (loopM (fun l1 =>
    bindO (lenL a0) fun x2 =>
    bindO (binV BinOp.lss (getL l1 1) x2) fun x3 =>
    M.bind (guardM x3 true (M.ret (getL l1 0))) fun x4 =>
    M.bind (guardM x3 true (optM (lenL x4))) fun x5 =>
    M.bind (guardM x3 true (M.ret a2)) fun x6 =>
    M.bind (guardM x3 true (optM (binV BinOp.lss x5 x6))) fun x7 =>
    bindO (pickV x3 x7 (Value.bool false)) fun x8 =>
    condM x8 (
      M.bind (
        bindO (binV BinOp.add a1 (getL l1 1)) fun x9 =>
        bindO (lenL a0) fun x10 =>
        bindO (binV BinOp.rem x9 x10) fun x11 =>
        bindO (lenL (getL l1 0)) fun x12 =>
        M.bind (loopM (fun l13 =>
          bindO (binV BinOp.lss (getL l13 0) x12) fun x14 =>
          condM x14 (
            bindO (idxA 1 (getL l1 0) (getL l13 0)) fun x15 =>
            M.bind (rdM (ld1 x15)) fun x16 =>
            drewM <|
            bindO (idxA 1 a0 x16) fun x17 =>
            M.bind (rdM (ld1 x17)) fun x18 =>
            bindO (idxA 1 a0 x11) fun x19 =>
            M.bind (rdM (ld1 x19)) fun x20 =>
            bindO (binV BinOp.eql x18 x20) fun x21 =>
            condM x21 (
              M.ret (Out.exit 1 [(getL l13 0)])) (
              bindO (binV BinOp.add (getL l13 0) (Value.int IntKind.i64 1)) fun x22 =>
              M.ret (Out.norm [x22]))) (
            M.ret (Out.exit 2 [(getL l13 0)]))) [(Value.int IntKind.i64 0)]) fun o24 =>
        outK o24 (fun _ => M.fail) (fun i25 _ =>
          bif Nat.beq i25 2 then (
            M.bind (bslM 3 1 (Builtin.zeroCells #[(Value.int IntKind.i64 0)] 1) [(0, 1, x11)]) fun x27 =>
            M.bind (appM 3 1 8 #[(Value.int IntKind.i64 0)] (getL l1 0) x27) fun x28 =>
            M.ret (Out.norm [x28])) else
          bif Nat.beq i25 1 then (
            M.ret (Out.norm [(getL l1 0)])) else
          M.fail) (fun r26 => M.ret (Out.ret r26))) fun o30 =>
      outK o30 (fun l29 =>
        bindO (binV BinOp.add (getL l1 1) (Value.int IntKind.i64 1)) fun x33 =>
        M.ret (Out.norm [(getL l29 0), x33])) (fun _ _ =>
        M.fail) (fun r32 => M.ret (Out.ret r32))) (
      M.ret (Out.exit 0 [(getL l1 0), (getL l1 1)]))) [(Value.slice none 0 0), (Value.int IntKind.i64 0)]) fun o36 =>
  outK o36 (fun _ => M.fail) (fun i37 l35 =>
    bif Nat.beq i37 0 then (
      M.ret (getL l35 0)) else
    M.fail) (fun r38 => M.ret r38)
def F.ring_round.plan : Plan := (seq leaf (body (seq leaf (seq leaf (seq (seq leaf (body (loop [7, 8] [7, 8, 9, 11, 12, 13, 14, 15, 16, 17, 18, 19, 20, 21, 22, 23, 24, 25, 26, 27, 28, 29, 30, 31, 32, 33, 34, 35, 36, 37, 38, 39, 40, 41, 42, 43, 44, 45, 46, 47, 48, 49] [0] (seq (seq leaf (cond leaf leaf)) (fork [7] [7, 9, 11, 24, 25, 26, 27, 28, 29, 30, 31, 32, 33, 34, 35, 36, 37, 38, 39, 40, 41, 42, 43, 44, 45, 46, 47, 48, 49] [] (body (seq leaf (seq (seq leaf (body (loop [32] [11, 32, 33, 34, 35, 36, 37, 38, 39, 40, 41, 42, 43, 44, 45] [2, 1] (seq leaf (seq (cond leaf leaf) (seq (body (seq leaf (seq leaf (cond leaf leaf)))) leaf)))))) leaf))) leaf))))) (seq leaf leaf))))))
theorem F.ring_round.lift : LiftOk Tryd.prog 48 (ap3 F.ring_round) :=
  lift3 (g := evFn Tryd.prog tnil tnil 48 Tryd.f48 F.ring_round.plan) (evFn_sound tnil_ok tnil_ok Tryd.func48 (by kernel_rfl)) (fun x0 x1 x2 => by kernel_rfl)

/-- granary/ring.Owners -/
noncomputable def F.ring_Owners (a0 a1 : Value) : M Value :=
  M.bind (newM 24 (Value.cells a0)) fun x1 =>
  M.bind (rdM (ldA 23 x1)) fun x2 =>
  M.bind (F.ring_checked x2) fun x3 =>
  bindO (extV 0 x3) fun x4 =>
  bindO (extV 1 x3) fun x5 =>
  bindO (binV BinOp.neq x5 (Value.int IntKind.i64 0)) fun x6 =>
  condM x6 (
    M.ret (Value.tuple #[(Value.slice none 0 0), x5])) (
    bindO (lenL x4) fun x7 =>
    bindO (binV BinOp.sub x7 (Value.int IntKind.i64 1)) fun x8 =>
    M.bind (F.ring_within a1 (Value.int IntKind.i64 0) x8) fun x9 =>
    bindO (notV x9) fun x10 =>
    condM x10 (
      M.ret (Value.tuple #[(Value.slice none 0 0), (Value.int IntKind.i64 69)])) (
      bindO (fieldA 1 x1) fun x11 =>
      M.bind (rdM (ld1 x11)) fun x12 =>
      M.bind (F.ring_round x4 a1 x12) fun x13 =>
      bindO (lenL x13) fun x14 =>
      M.bind (loopM (fun l15 =>
        bindO (binV BinOp.lss (getL l15 1) x14) fun x16 =>
        condM x16 (
          bindO (idxA 1 x13 (getL l15 1)) fun x17 =>
          M.bind (rdM (ld1 x17)) fun x18 =>
          bindO (idxA 1 x4 x18) fun x19 =>
          M.bind (rdM (ld1 x19)) fun x20 =>
          M.bind (bslM 3 1 (Builtin.zeroCells #[(Value.int IntKind.i64 0)] 1) [(0, 1, x20)]) fun x21 =>
          M.bind (appM 3 1 8 #[(Value.int IntKind.i64 0)] (getL l15 0) x21) fun x22 =>
          bindO (binV BinOp.add (getL l15 1) (Value.int IntKind.i64 1)) fun x23 =>
          M.ret (Out.norm [x22, x23])) (
          M.ret (Out.exit 0 [(getL l15 0), (getL l15 1)]))) [(Value.slice none 0 0), (Value.int IntKind.i64 0)]) fun o25 =>
      outK o25 (fun _ => M.fail) (fun i26 l24 =>
        bif Nat.beq i26 0 then (
          M.ret (Value.tuple #[(getL l24 0), (Value.int IntKind.i64 0)])) else
        M.fail) (fun r27 => M.ret r27)))
def F.ring_Owners.plan : Plan := (seq leaf (seq leaf (seq (seq leaf (cond (seq leaf leaf) leaf)) (seq (seq leaf (cond (seq leaf leaf) leaf)) (seq leaf (seq (seq leaf (body (loop [8, 31] [8, 10, 31, 32, 33, 34, 35, 36, 37, 38, 39, 40, 41, 42] [0] (seq leaf (seq (cond leaf leaf) (seq (body (seq leaf leaf)) leaf)))))) (seq leaf leaf)))))))
theorem F.ring_Owners.lift : LiftOk Tryd.prog 31 (ap2 F.ring_Owners) :=
  lift2 (g := evFn Tryd.prog (tcons 46 (ap1 F.ring_checked) (tcons 47 (ap3 F.ring_within) (tcons 48 (ap3 F.ring_round) tnil))) tnil 31 Tryd.f31 F.ring_Owners.plan) (evFn_sound (tcons_ok F.ring_checked.lift (tcons_ok F.ring_within.lift (tcons_ok F.ring_round.lift tnil_ok))) tnil_ok Tryd.func31 (by kernel_rfl)) (fun x0 x1 => by kernel_rfl)

/-- granary/export.New -/
noncomputable def F.export_New (a0 : Value) : M Value :=
  M.bind (newM 24 (Value.cells a0)) fun x1 =>
  M.bind (rdM (ldA 23 x1)) fun x2 =>
  M.bind (F.ring_Check x2) fun x3 =>
  bindO (binV BinOp.neq x3 (Value.int IntKind.i64 0)) fun x4 =>
  condM x4 (
    M.ret (Value.tuple #[(Value.pointer none), x3])) (
    bindO (fieldA 18 x1) fun x5 =>
    M.bind (rdM (ld1 x5)) fun x6 =>
    bindO (buildV #[(Value.slice none 0 0), (Value.int IntKind.i64 0), (Value.int IntKind.i64 0), (Value.int IntKind.i64 0), (Value.int IntKind.i64 0), (Value.bool false), (Value.int IntKind.i64 0), (Value.slice none 0 0), (Value.slice none 0 0), (Value.int IntKind.i64 0), (Value.slice none 0 0), (Value.slice none 0 0), (Value.bool false), (Value.int IntKind.i64 0), (Value.int IntKind.i64 0), (Value.slice none 0 0), (Value.slice none 0 0)] [(1, 1, x6)]) fun x7 =>
    M.bind (newM 74 (Value.cells x7)) fun x8 =>
    bindO (fieldA 22 x1) fun x9 =>
    M.bind (rdM (ld1 x9)) fun x10 =>
    bindO (lenL x10) fun x11 =>
    M.bind (loopM (fun l12 =>
      bindO (binV BinOp.lss (getL l12 1) x11) fun x13 =>
      condM x13 (
        bindO (idxA 2 x10 (getL l12 1)) fun x14 =>
        M.bind (rdM (ldA 2 x14)) fun x15 =>
        M.bind (newM 64 #[(Value.int IntKind.i64 0), (Value.slice none 0 0)]) fun x16 =>
        M.bind (stM 2 x16 x15) fun _ =>
        bindO (fieldA 1 x16) fun x18 =>
        M.bind (rdM (ld1 x18)) fun x19 =>
        bindO (lenL x19) fun x20 =>
        bindO (binV BinOp.add (getL l12 0) x20) fun x21 =>
        bindO (binV BinOp.add (getL l12 1) (Value.int IntKind.i64 1)) fun x22 =>
        M.ret (Out.norm [x21, x22])) (
        M.ret (Out.exit 0 [(getL l12 0), (getL l12 1)]))) [(Value.int IntKind.i64 0), (Value.int IntKind.i64 0)]) fun o24 =>
    outK o24 (fun _ => M.fail) (fun i25 l23 =>
      bif Nat.beq i25 0 then (
        M.bind (loopM (fun l27 =>
          bindO (binV BinOp.lss (getL l27 0) (getL l23 0)) fun x28 =>
          condM x28 (
            M.bind (rdM (ldA 23 x1)) fun x29 =>
            M.bind (F.ring_Owners x29 (getL l27 0)) fun x30 =>
            bindO (extV 0 x30) fun x31 =>
            bindO (extV 1 x30) fun x32 =>
            bindO (binV BinOp.neq x32 (Value.int IntKind.i64 0)) fun x33 =>
            condM x33 (
              M.ret (Out.ret (Value.tuple #[(Value.pointer none), x32]))) (
              bindO (lenL x31) fun x34 =>
              M.bind (loopM (fun l35 =>
                bindO (binV BinOp.lss (getL l35 2) x34) fun x36 =>
                condM x36 (
                  M.bind (
                    bindO (idxA 1 x31 (getL l35 2)) fun x37 =>
                    M.bind (rdM (ld1 x37)) fun x38 =>
                    drewM <|
                    bindO (fieldA 22 x1) fun x39 =>
                    M.bind (rdM (ld1 x39)) fun x40 =>
                    bindO (idxA 2 x40 x38) fun x41 =>
                    bindO (fieldA 0 x41) fun x42 =>
                    M.bind (rdM (ld1 x42)) fun x43 =>
                    bindO (fieldA 21 x1) fun x44 =>
                    M.bind (rdM (ld1 x44)) fun x45 =>
                    bindO (binV BinOp.eql x43 x45) fun x46 =>
                    condM x46 (
                      M.bind (bslM 3 1 (Builtin.zeroCells #[(Value.int IntKind.i64 0)] 1) [(0, 1, x38)]) fun x47 =>
                      M.bind (appM 3 1 8 #[(Value.int IntKind.i64 0)] (getL l35 0) x47) fun x48 =>
                      M.ret (Out.norm [x48, (getL l35 1)])) (
                      M.bind (bslM 3 1 (Builtin.zeroCells #[(Value.int IntKind.i64 0)] 1) [(0, 1, x38)]) fun x49 =>
                      M.bind (appM 3 1 8 #[(Value.int IntKind.i64 0)] (getL l35 1) x49) fun x50 =>
                      M.ret (Out.norm [(getL l35 0), x50]))) fun o52 =>
                  outK o52 (fun l51 =>
                    bindO (binV BinOp.add (getL l35 2) (Value.int IntKind.i64 1)) fun x55 =>
                    M.ret (Out.norm [(getL l51 0), (getL l51 1), x55])) (fun _ _ =>
                    M.fail) (fun r54 => M.ret (Out.ret r54))) (
                  M.ret (Out.exit 4 [(getL l35 0), (getL l35 1), (getL l35 2)]))) [(Value.slice none 0 0), (Value.slice none 0 0), (Value.int IntKind.i64 0)]) fun o58 =>
              outK o58 (fun _ => M.fail) (fun i59 l57 =>
                bif Nat.beq i59 4 then (
                  drewM <|
                  getM fun _ =>
                  bindO (nilChk x8) fun x62 =>
                  bindO (fieldA 0 x62) fun x63 =>
                  M.bind (rdM (ld1 x63)) fun x64 =>
                  M.bind (appM 3 1 8 #[(Value.int IntKind.i64 0)] (getL l57 0) (getL l57 1)) fun x65 =>
                  getM fun W66 =>
                  M.bind (bslM 44 1 (Builtin.zeroCells #[(Value.slice none 0 0)] 1) [(0, 1, x65)]) fun x67 =>
                  getM fun W68 =>
                  M.bind (appM 44 1 24 #[(Value.slice none 0 0)] x64 x67) fun x69 =>
                  getM fun _ =>
                  bindO (nilChk x8) fun x71 =>
                  bindO (fieldA 0 x71) fun x72 =>
                  M.bind (stM 1 x72 x69) fun _ =>
                  getM fun _ =>
                  reqM (ld1 x63 W66 = some x64) <|
                  reqM (ld1 x63 W68 = some x64) <|
                  bindO (binV BinOp.add (getL l27 0) (Value.int IntKind.i64 1)) fun x75 =>
                  M.ret (Out.norm [x75])) else
                M.fail) (fun r60 => M.ret (Out.ret r60)))) (
            M.ret (Out.exit 2 [(getL l27 0)]))) [(Value.int IntKind.i64 0)]) fun o77 =>
        outK o77 (fun _ => M.fail) (fun i78 _ =>
          bif Nat.beq i78 2 then (
            M.ret (Value.tuple #[x8, (Value.int IntKind.i64 0)])) else
          M.fail) (fun r79 => M.ret r79)) else
      M.fail) (fun r26 => M.ret r26))
def F.export_New.plan : Plan := (seq leaf (seq (seq leaf (seq leaf (cond (seq leaf leaf) leaf))) (seq leaf (seq leaf (seq (seq leaf (body (loop [6, 28] [6, 8, 28, 29, 30, 31, 32, 33, 34, 35, 36, 37] [0] (seq leaf (seq (cond leaf leaf) (seq (body (seq leaf leaf)) leaf)))))) (seq (seq leaf (body (loop [39] [2, 3, 9, 10, 11, 12, 13, 15, 39, 40, 41, 42, 43, 44, 45, 46, 47, 48, 49, 50, 51, 52, 53, 54, 55, 56, 57, 58, 59, 60, 61, 62, 63, 64, 65, 66, 67, 68, 69, 70, 71, 72, 73, 74, 75, 76, 77, 78, 79, 80, 81, 82, 83, 84, 85, 86, 87] [2] (seq leaf (seq (cond leaf leaf) (seq (body (seq leaf (seq leaf (seq (seq leaf (cond (seq leaf leaf) leaf)) (seq leaf (seq (seq leaf (body (loop [12, 13, 53] [12, 13, 15, 53, 54, 55, 56, 57, 58, 59, 60, 61, 62, 63, 64, 65, 66, 67, 68, 69, 70, 71, 72, 73, 74] [4] (seq leaf (seq (cond leaf leaf) (fork [12, 13] [12, 13, 15, 55, 56, 57, 58, 59, 60, 61, 62, 63, 64, 65, 66, 67, 68, 69, 70, 71, 72, 73] [] (body (seq leaf (seq leaf (cond leaf leaf)))) leaf)))))) leaf)))))) leaf)))))) (seq leaf leaf)))))))
theorem F.export_New.lift : LiftOk Tryd.prog 19 (ap1 F.export_New) :=
  lift1 (g := evFn Tryd.prog (tcons 30 (ap1 F.ring_Check) (tcons 31 (ap2 F.ring_Owners) tnil)) tnil 19 Tryd.f19 F.export_New.plan) (evFn_sound (tcons_ok F.ring_Check.lift (tcons_ok F.ring_Owners.lift tnil_ok)) tnil_ok Tryd.func19 (by kernel_rfl)) (fun x0 => by kernel_rfl)

/-- granary/granaryref6.named -/
noncomputable def F.granaryref6_named (a0 : Value) : M Value :=
  bindO (binV BinOp.eql a0 (Value.string (ByteArray.mk #[]))) fun x1 =>
  M.bind (guardM x1 false (M.ret a0)) fun x2 =>
  M.bind (guardM x1 false (optM (lenS x2))) fun x3 =>
  M.bind (guardM x1 false (optM (binV BinOp.gtr x3 (Value.int IntKind.i64 40)))) fun x4 =>
  bindO (pickV x1 (Value.bool true) x4) fun x5 =>
  M.bind (guardM x5 false (M.ret a0)) fun x6 =>
  M.bind (guardM x5 false (optM (idxS x6 (Value.int IntKind.i64 0)))) fun x7 =>
  M.bind (guardM x5 false (optM (binV BinOp.lss x7 (Value.int IntKind.u8 97)))) fun x8 =>
  bindO (pickV x5 (Value.bool true) x8) fun x9 =>
  M.bind (guardM x9 false (M.ret a0)) fun x10 =>
  M.bind (guardM x9 false (optM (idxS x10 (Value.int IntKind.i64 0)))) fun x11 =>
  M.bind (guardM x9 false (optM (binV BinOp.gtr x11 (Value.int IntKind.u8 122)))) fun x12 =>
  bindO (pickV x9 (Value.bool true) x12) fun x13 =>
  condM x13 (
    M.ret (Value.bool false)) (
    M.bind (loopM (fun l14 =>
      bindO (lenS a0) fun x15 =>
      bindO (binV BinOp.lss (getL l14 0) x15) fun x16 =>
      condM x16 (
        bindO (idxS a0 (getL l14 0)) fun x17 =>
        bindO (binV BinOp.geq x17 (Value.int IntKind.u8 97)) fun x18 =>
        M.bind (guardM x18 true (M.ret x17)) fun x19 =>
        M.bind (guardM x18 true (optM (binV BinOp.leq x19 (Value.int IntKind.u8 122)))) fun x20 =>
        bindO (pickV x18 x20 (Value.bool false)) fun x21 =>
        M.bind (guardM x21 false (M.ret x17)) fun x22 =>
        M.bind (guardM x21 false (optM (binV BinOp.geq x22 (Value.int IntKind.u8 48)))) fun x23 =>
        M.bind (guardM x21 false (M.ret x23)) fun x24 =>
        M.bind (guardM x24 true (M.ret x17)) fun x25 =>
        M.bind (guardM x24 true (optM (binV BinOp.leq x25 (Value.int IntKind.u8 57)))) fun x26 =>
        M.bind (guardM x21 false (optM (pickV x24 x26 (Value.bool false)))) fun x27 =>
        bindO (pickV x21 (Value.bool true) x27) fun x28 =>
        M.bind (guardM x28 false (M.ret x17)) fun x29 =>
        M.bind (guardM x28 false (optM (binV BinOp.eql x29 (Value.int IntKind.u8 45)))) fun x30 =>
        bindO (pickV x28 (Value.bool true) x30) fun x31 =>
        bindO (notV x31) fun x32 =>
        condM x32 (
          M.ret (Out.ret (Value.bool false))) (
          bindO (binV BinOp.add (getL l14 0) (Value.int IntKind.i64 1)) fun x33 =>
          M.ret (Out.norm [x33]))) (
        M.ret (Out.exit 0 [(getL l14 0)]))) [(Value.int IntKind.i64 0)]) fun o35 =>
    outK o35 (fun _ => M.fail) (fun i36 _ =>
      bif Nat.beq i36 0 then (
        M.ret (Value.bool true)) else
      M.fail) (fun r37 => M.ret r37))
def F.granaryref6_named.plan : Plan := (seq leaf (seq (seq leaf (cond (seq leaf leaf) leaf)) (seq (seq leaf (body (loop [3] [2, 3, 4, 22, 23, 24, 25, 26, 27, 28, 29, 30, 31, 32, 33, 34, 35, 36, 37, 38, 39, 40, 41, 42, 43, 44, 45, 46, 47, 48, 49] [0] (seq (seq leaf (cond leaf leaf)) (seq (body (seq leaf (seq leaf (cond (seq leaf leaf) leaf)))) leaf))))) (seq leaf leaf))))
theorem F.granaryref6_named.lift : LiftOk Tryd.prog 49 (ap1 F.granaryref6_named) :=
  lift1 (g := evFn Tryd.prog tnil tnil 49 Tryd.f49 F.granaryref6_named.plan) (evFn_sound tnil_ok tnil_ok Tryd.func49 (by kernel_rfl)) (fun x0 => by kernel_rfl)

/-- granary/granaryref6.Values -/
noncomputable def F.granaryref6_Values (a0 : Value) : M Value :=
  M.bind (newM 24 (Value.cells a0)) fun x1 =>
  M.bind (newM 122 #[(Value.int IntKind.i64 0), (Value.int IntKind.i64 0), (Value.int IntKind.i64 0), (Value.int IntKind.i64 0), (Value.int IntKind.i64 0), (Value.int IntKind.i64 0), (Value.int IntKind.i64 0), (Value.int IntKind.i64 0), (Value.int IntKind.i64 0), (Value.int IntKind.i64 0), (Value.int IntKind.i64 0), (Value.int IntKind.i64 0), (Value.int IntKind.i64 0), (Value.int IntKind.i64 0), (Value.int IntKind.i64 0), (Value.int IntKind.i64 0), (Value.int IntKind.i64 0), (Value.int IntKind.i64 0), (Value.int IntKind.i64 0), (Value.int IntKind.i64 0), (Value.int IntKind.i64 0)]) fun x2 =>
  bindO (fieldA 1 x1) fun x3 =>
  M.bind (rdM (ld1 x3)) fun x4 =>
  bindO (fieldA 2 x1) fun x5 =>
  M.bind (rdM (ld1 x5)) fun x6 =>
  bindO (fieldA 3 x1) fun x7 =>
  M.bind (rdM (ld1 x7)) fun x8 =>
  bindO (fieldA 4 x1) fun x9 =>
  M.bind (rdM (ld1 x9)) fun x10 =>
  bindO (fieldA 5 x1) fun x11 =>
  M.bind (rdM (ld1 x11)) fun x12 =>
  bindO (fieldA 6 x1) fun x13 =>
  M.bind (rdM (ld1 x13)) fun x14 =>
  bindO (fieldA 7 x1) fun x15 =>
  M.bind (rdM (ld1 x15)) fun x16 =>
  bindO (fieldA 8 x1) fun x17 =>
  M.bind (rdM (ld1 x17)) fun x18 =>
  bindO (fieldA 9 x1) fun x19 =>
  M.bind (rdM (ld1 x19)) fun x20 =>
  bindO (fieldA 10 x1) fun x21 =>
  M.bind (rdM (ld1 x21)) fun x22 =>
  bindO (fieldA 11 x1) fun x23 =>
  M.bind (rdM (ld1 x23)) fun x24 =>
  bindO (fieldA 12 x1) fun x25 =>
  M.bind (rdM (ld1 x25)) fun x26 =>
  bindO (fieldA 13 x1) fun x27 =>
  M.bind (rdM (ld1 x27)) fun x28 =>
  bindO (fieldA 14 x1) fun x29 =>
  M.bind (rdM (ld1 x29)) fun x30 =>
  bindO (fieldA 15 x1) fun x31 =>
  M.bind (rdM (ld1 x31)) fun x32 =>
  bindO (fieldA 16 x1) fun x33 =>
  M.bind (rdM (ld1 x33)) fun x34 =>
  bindO (fieldA 17 x1) fun x35 =>
  M.bind (rdM (ld1 x35)) fun x36 =>
  bindO (fieldA 18 x1) fun x37 =>
  M.bind (rdM (ld1 x37)) fun x38 =>
  bindO (fieldA 19 x1) fun x39 =>
  M.bind (rdM (ld1 x39)) fun x40 =>
  bindO (fieldA 20 x1) fun x41 =>
  M.bind (rdM (ld1 x41)) fun x42 =>
  bindO (fieldA 21 x1) fun x43 =>
  M.bind (rdM (ld1 x43)) fun x44 =>
  bindO (buildV #[(Value.int IntKind.i64 0), (Value.int IntKind.i64 0), (Value.int IntKind.i64 0), (Value.int IntKind.i64 0), (Value.int IntKind.i64 0), (Value.int IntKind.i64 0), (Value.int IntKind.i64 0), (Value.int IntKind.i64 0), (Value.int IntKind.i64 0), (Value.int IntKind.i64 0), (Value.int IntKind.i64 0), (Value.int IntKind.i64 0), (Value.int IntKind.i64 0), (Value.int IntKind.i64 0), (Value.int IntKind.i64 0), (Value.int IntKind.i64 0), (Value.int IntKind.i64 0), (Value.int IntKind.i64 0), (Value.int IntKind.i64 0), (Value.int IntKind.i64 0), (Value.int IntKind.i64 0)] [(0, 1, x4), (1, 1, x6), (2, 1, x8), (3, 1, x10), (4, 1, x12), (5, 1, x14), (6, 1, x16), (7, 1, x18), (8, 1, x20), (9, 1, x22), (10, 1, x24), (11, 1, x26), (12, 1, x28), (13, 1, x30), (14, 1, x32), (15, 1, x34), (16, 1, x36), (17, 1, x38), (18, 1, x40), (19, 1, x42), (20, 1, x44)]) fun x45 =>
  M.bind (stM 21 x2 x45) fun _ =>
  M.bind (rdM (ldA 21 x2)) fun x47 =>
  M.ret x47
def F.granaryref6_Values.plan : Plan := (seq leaf (seq leaf leaf))
theorem F.granaryref6_Values.lift : LiftOk Tryd.prog 65 (ap1 F.granaryref6_Values) :=
  lift1 (g := evFn Tryd.prog tnil tnil 65 Tryd.f65 F.granaryref6_Values.plan) (evFn_sound tnil_ok tnil_ok Tryd.func65 (by kernel_rfl)) (fun x0 => by kernel_rfl)

/-- granary/granaryref6.set -/
noncomputable def F.granaryref6_set (a0 : Value) : M Value :=
  M.bind (newM 24 (Value.cells a0)) fun x1 =>
  M.bind (rdM (ldA 23 x1)) fun x2 =>
  M.bind (F.granaryref6_Values x2) fun x3 =>
  M.bind (newM 122 #[(Value.int IntKind.i64 0), (Value.int IntKind.i64 0), (Value.int IntKind.i64 0), (Value.int IntKind.i64 0), (Value.int IntKind.i64 0), (Value.int IntKind.i64 0), (Value.int IntKind.i64 0), (Value.int IntKind.i64 0), (Value.int IntKind.i64 0), (Value.int IntKind.i64 0), (Value.int IntKind.i64 0), (Value.int IntKind.i64 0), (Value.int IntKind.i64 0), (Value.int IntKind.i64 0), (Value.int IntKind.i64 0), (Value.int IntKind.i64 0), (Value.int IntKind.i64 0), (Value.int IntKind.i64 0), (Value.int IntKind.i64 0), (Value.int IntKind.i64 0), (Value.int IntKind.i64 0)]) fun x4 =>
  M.bind (stM 21 x4 x3) fun _ =>
  M.bind (loopM (fun l6 =>
    bindO (binV BinOp.lss (getL l6 0) (Value.int IntKind.i64 21)) fun x7 =>
    condM x7 (
      drewM <|
      bindO (idxR 21 1 x4 (getL l6 0)) fun x8 =>
      M.bind (rdM (ld1 x8)) fun x9 =>
      bindO (binV BinOp.lss x9 (Value.int IntKind.i64 0)) fun x10 =>
      M.bind (guardM x10 false (M.ret (getL l6 0))) fun x11 =>
      M.bind (guardM x10 false (optM (idxR 21 1 x4 x11))) fun x12 =>
      M.bind (guardM x10 false (rdM (ld1 x12))) fun x13 =>
      M.bind (guardM x10 false (M.ret (getL l6 0))) fun x14 =>
      M.bind (guardM x10 false (optM (idxR 21 1 (Value.pointer (some { block := 0, off := 0, spot := none })) x14))) fun x15 =>
      M.bind (guardM x10 false (rdM (ld1 x15))) fun x16 =>
      M.bind (guardM x10 false (optM (binV BinOp.gtr x13 x16))) fun x17 =>
      bindO (pickV x10 (Value.bool true) x17) fun x18 =>
      M.bind (guardM x18 false (M.ret (getL l6 0))) fun x19 =>
      M.bind (guardM x18 false (optM (idxR 21 1 x4 x19))) fun x20 =>
      M.bind (guardM x18 false (rdM (ld1 x20))) fun x21 =>
      M.bind (guardM x18 false (optM (binV BinOp.eql x21 (Value.int IntKind.i64 0)))) fun x22 =>
      M.bind (guardM x18 false (M.ret x22)) fun x23 =>
      M.bind (guardM x23 true (M.ret (getL l6 0))) fun x24 =>
      M.bind (guardM x23 true (optM (binV BinOp.lss x24 (Value.int IntKind.i64 20)))) fun x25 =>
      M.bind (guardM x18 false (optM (pickV x23 x25 (Value.bool false)))) fun x26 =>
      bindO (pickV x18 (Value.bool true) x26) fun x27 =>
      condM x27 (
        M.ret (Out.ret (Value.bool false))) (
        bindO (binV BinOp.add (getL l6 0) (Value.int IntKind.i64 1)) fun x28 =>
        M.ret (Out.norm [x28]))) (
      M.ret (Out.exit 0 [(getL l6 0)]))) [(Value.int IntKind.i64 0)]) fun o30 =>
  outK o30 (fun _ => M.fail) (fun i31 _ =>
    bif Nat.beq i31 0 then (
      bindO (fieldA 8 x1) fun x33 =>
      M.bind (rdM (ld1 x33)) fun x34 =>
      bindO (fieldA 5 x1) fun x35 =>
      M.bind (rdM (ld1 x35)) fun x36 =>
      bindO (binV BinOp.geq x34 x36) fun x37 =>
      M.bind (guardM x37 true (optM (fieldA 11 x1))) fun x38 =>
      M.bind (guardM x37 true (rdM (ld1 x38))) fun x39 =>
      M.bind (guardM x37 true (optM (fieldA 10 x1))) fun x40 =>
      M.bind (guardM x37 true (rdM (ld1 x40))) fun x41 =>
      M.bind (guardM x37 true (optM (binV BinOp.geq x39 x41))) fun x42 =>
      bindO (pickV x37 x42 (Value.bool false)) fun x43 =>
      M.ret x43) else
    M.fail) (fun r32 => M.ret r32)
def F.granaryref6_set.plan : Plan := (seq leaf (seq leaf (seq (seq leaf (body (loop [4] [2, 4, 7, 8, 9, 10, 11, 12, 13, 14, 15, 16, 17, 18, 19, 20, 21, 22, 23, 24, 25, 26, 27, 28, 29, 30, 31, 32, 33] [0] (seq (seq leaf (cond leaf leaf)) (seq (body (seq leaf (cond (seq leaf leaf) leaf))) leaf))))) (seq leaf leaf))))
theorem F.granaryref6_set.lift : LiftOk Tryd.prog 50 (ap1 F.granaryref6_set) :=
  lift1 (g := evFn Tryd.prog (tcons 65 (ap1 F.granaryref6_Values) tnil) tnil 50 Tryd.f50 F.granaryref6_set.plan) (evFn_sound (tcons_ok F.granaryref6_Values.lift tnil_ok) tnil_ok Tryd.func50 (by kernel_rfl)) (fun x0 => by kernel_rfl)

/-- granary/granaryref6.Parts -/
noncomputable def F.granaryref6_Parts (a0 : Value) : M Value :=
  M.bind (newM 24 (Value.cells a0)) fun x1 =>
  M.bind (loopM (fun l2 =>
    bindO (fieldA 22 x1) fun x3 =>
    M.bind (rdM (ld1 x3)) fun x4 =>
    bindO (lenL x4) fun x5 =>
    bindO (binV BinOp.lss (getL l2 1) x5) fun x6 =>
    condM x6 (
      bindO (fieldA 22 x1) fun x7 =>
      M.bind (rdM (ld1 x7)) fun x8 =>
      bindO (idxA 2 x8 (getL l2 1)) fun x9 =>
      bindO (fieldA 1 x9) fun x10 =>
      M.bind (rdM (ld1 x10)) fun x11 =>
      bindO (lenL x11) fun x12 =>
      bindO (binV BinOp.add (getL l2 0) x12) fun x13 =>
      bindO (binV BinOp.add (getL l2 1) (Value.int IntKind.i64 1)) fun x14 =>
      M.ret (Out.norm [x13, x14])) (
      M.ret (Out.exit 0 [(getL l2 0), (getL l2 1)]))) [(Value.int IntKind.i64 0), (Value.int IntKind.i64 0)]) fun o16 =>
  outK o16 (fun _ => M.fail) (fun i17 l15 =>
    bif Nat.beq i17 0 then (
      M.ret (getL l15 0)) else
    M.fail) (fun r18 => M.ret r18)
def F.granaryref6_Parts.plan : Plan := (seq leaf (seq leaf (seq (seq leaf (body (loop [3, 4] [3, 4, 5, 6, 7, 8, 9, 10, 11, 12, 13, 14, 15, 16, 17, 18, 19, 20] [0] (seq (seq leaf (cond leaf leaf)) (seq (body leaf) leaf))))) (seq leaf leaf))))
theorem F.granaryref6_Parts.lift : LiftOk Tryd.prog 33 (ap1 F.granaryref6_Parts) :=
  lift1 (g := evFn Tryd.prog tnil tnil 33 Tryd.f33 F.granaryref6_Parts.plan) (evFn_sound tnil_ok tnil_ok Tryd.func33 (by kernel_rfl)) (fun x0 => by kernel_rfl)

/-- granary/granaryref6.times -/
noncomputable def F.granaryref6_times (a0 a1 : Value) : M Value :=
  M.bind (newM 24 (Value.cells a0)) fun x1 =>
  M.bind (loopM (fun l2 =>
    bindO (fieldA 22 x1) fun x3 =>
    M.bind (rdM (ld1 x3)) fun x4 =>
    bindO (lenL x4) fun x5 =>
    bindO (binV BinOp.lss (getL l2 1) x5) fun x6 =>
    condM x6 (
      M.bind (loopM (fun l7 =>
        bindO (fieldA 22 x1) fun x8 =>
        M.bind (rdM (ld1 x8)) fun x9 =>
        bindO (idxA 2 x9 (getL l2 1)) fun x10 =>
        bindO (fieldA 1 x10) fun x11 =>
        M.bind (rdM (ld1 x11)) fun x12 =>
        bindO (lenL x12) fun x13 =>
        bindO (binV BinOp.lss (getL l7 1) x13) fun x14 =>
        condM x14 (
          M.bind (
            bindO (fieldA 22 x1) fun x15 =>
            M.bind (rdM (ld1 x15)) fun x16 =>
            bindO (idxA 2 x16 (getL l2 1)) fun x17 =>
            bindO (fieldA 1 x17) fun x18 =>
            M.bind (rdM (ld1 x18)) fun x19 =>
            bindO (idxA 1 x19 (getL l7 1)) fun x20 =>
            M.bind (rdM (ld1 x20)) fun x21 =>
            bindO (binV BinOp.eql x21 a1) fun x22 =>
            condM x22 (
              bindO (binV BinOp.add (getL l7 0) (Value.int IntKind.i64 1)) fun x23 =>
              M.ret (Out.norm [x23])) (
              M.ret (Out.norm [(getL l7 0)]))) fun o25 =>
          outK o25 (fun l24 =>
            bindO (binV BinOp.add (getL l7 1) (Value.int IntKind.i64 1)) fun x28 =>
            M.ret (Out.norm [(getL l24 0), x28])) (fun _ _ =>
            M.fail) (fun r27 => M.ret (Out.ret r27))) (
          M.ret (Out.exit 2 [(getL l7 0), (getL l7 1)]))) [(getL l2 0), (Value.int IntKind.i64 0)]) fun o31 =>
      outK o31 (fun _ => M.fail) (fun i32 l30 =>
        bif Nat.beq i32 2 then (
          bindO (binV BinOp.add (getL l2 1) (Value.int IntKind.i64 1)) fun x34 =>
          M.ret (Out.norm [(getL l30 0), x34])) else
        M.fail) (fun r33 => M.ret (Out.ret r33))) (
      M.ret (Out.exit 0 [(getL l2 0), (getL l2 1)]))) [(Value.int IntKind.i64 0), (Value.int IntKind.i64 0)]) fun o36 =>
  outK o36 (fun _ => M.fail) (fun i37 l35 =>
    bif Nat.beq i37 0 then (
      M.ret (getL l35 0)) else
    M.fail) (fun r38 => M.ret r38)
def F.granaryref6_times.plan : Plan := (seq leaf (seq leaf (seq (seq leaf (body (loop [5, 6] [5, 6, 7, 8, 9, 10, 11, 12, 13, 14, 15, 16, 17, 18, 19, 20, 21, 22, 23, 24, 25, 26, 27, 28, 29, 30, 31, 32, 33, 34, 35, 36, 37, 38] [0] (seq (seq leaf (cond leaf leaf)) (seq (body (seq leaf (body (loop [5, 7] [5, 7, 15, 16, 17, 18, 19, 20, 21, 22, 23, 24, 25, 26, 27, 28, 29, 30, 31, 32, 33, 34, 35, 36, 37, 38] [2] (seq (seq leaf (cond leaf leaf)) (fork [5] [5, 26, 27, 28, 29, 30, 31, 32, 33, 34, 35, 36, 37, 38] [] (body (seq leaf (cond leaf leaf))) leaf)))))) leaf))))) (seq leaf leaf))))
theorem F.granaryref6_times.lift : LiftOk Tryd.prog 66 (ap2 F.granaryref6_times) :=
  lift2 (g := evFn Tryd.prog tnil tnil 66 Tryd.f66 F.granaryref6_times.plan) (evFn_sound tnil_ok tnil_ok Tryd.func66 (by kernel_rfl)) (fun x0 x1 => by kernel_rfl)

/-- granary/granaryref6.dealt -/
noncomputable def F.granaryref6_dealt (a0 : Value) : M Value :=
  M.bind (newM 24 (Value.cells a0)) fun x1 =>
  M.bind (rdM (ldA 23 x1)) fun x2 =>
  M.bind (F.granaryref6_Parts x2) fun x3 =>
  bindO (binV BinOp.lss x3 (Value.int IntKind.i64 1)) fun x4 =>
  M.bind (guardM x4 false (M.ret x3)) fun x5 =>
  M.bind (guardM x4 false (optM (binV BinOp.gtr x5 (Value.int IntKind.i64 64)))) fun x6 =>
  bindO (pickV x4 (Value.bool true) x6) fun x7 =>
  condM x7 (
    M.ret (Value.bool false)) (
    M.bind (loopM (fun l8 =>
      bindO (binV BinOp.lss (getL l8 0) x3) fun x9 =>
      condM x9 (
        M.bind (rdM (ldA 23 x1)) fun x10 =>
        M.bind (F.granaryref6_times x10 (getL l8 0)) fun x11 =>
        bindO (binV BinOp.neq x11 (Value.int IntKind.i64 1)) fun x12 =>
        condM x12 (
          M.ret (Out.ret (Value.bool false))) (
          bindO (binV BinOp.add (getL l8 0) (Value.int IntKind.i64 1)) fun x13 =>
          M.ret (Out.norm [x13]))) (
        M.ret (Out.exit 0 [(getL l8 0)]))) [(Value.int IntKind.i64 0)]) fun o15 =>
    outK o15 (fun _ => M.fail) (fun i16 _ =>
      bif Nat.beq i16 0 then (
        M.bind (loopM (fun l18 =>
          bindO (fieldA 22 x1) fun x19 =>
          M.bind (rdM (ld1 x19)) fun x20 =>
          bindO (lenL x20) fun x21 =>
          bindO (binV BinOp.lss (getL l18 0) x21) fun x22 =>
          condM x22 (
            bindO (fieldA 22 x1) fun x23 =>
            M.bind (rdM (ld1 x23)) fun x24 =>
            bindO (idxA 2 x24 (getL l18 0)) fun x25 =>
            bindO (fieldA 1 x25) fun x26 =>
            M.bind (rdM (ld1 x26)) fun x27 =>
            M.bind (loopM (fun l28 =>
              bindO (lenL x27) fun x29 =>
              bindO (binV BinOp.lss (getL l28 0) x29) fun x30 =>
              condM x30 (
                drewM <|
                bindO (idxA 1 x27 (getL l28 0)) fun x31 =>
                M.bind (rdM (ld1 x31)) fun x32 =>
                bindO (binV BinOp.sub (getL l28 0) (Value.int IntKind.i64 1)) fun x33 =>
                bindO (idxA 1 x27 x33) fun x34 =>
                M.bind (rdM (ld1 x34)) fun x35 =>
                bindO (binV BinOp.leq x32 x35) fun x36 =>
                condM x36 (
                  M.ret (Out.ret (Value.bool false))) (
                  bindO (binV BinOp.add (getL l28 0) (Value.int IntKind.i64 1)) fun x37 =>
                  M.ret (Out.norm [x37]))) (
                M.ret (Out.exit 4 [(getL l28 0)]))) [(Value.int IntKind.i64 1)]) fun o39 =>
            outK o39 (fun _ => M.fail) (fun i40 _ =>
              bif Nat.beq i40 4 then (
                bindO (binV BinOp.add (getL l18 0) (Value.int IntKind.i64 1)) fun x42 =>
                M.ret (Out.norm [x42])) else
              M.fail) (fun r41 => M.ret (Out.ret r41))) (
            M.ret (Out.exit 2 [(getL l18 0)]))) [(Value.int IntKind.i64 0)]) fun o44 =>
        outK o44 (fun _ => M.fail) (fun i45 _ =>
          bif Nat.beq i45 2 then (
            M.ret (Value.bool true)) else
          M.fail) (fun r46 => M.ret r46)) else
      M.fail) (fun r17 => M.ret r17))
def F.granaryref6_dealt.plan : Plan := (seq leaf (seq leaf (seq (seq leaf (cond (seq leaf leaf) leaf)) (seq (seq leaf (body (loop [4] [2, 4, 16, 17, 18, 19, 20, 21, 22, 23, 24] [0] (seq (seq leaf (cond leaf leaf)) (seq (body (seq leaf (cond (seq leaf leaf) leaf))) leaf))))) (seq (seq leaf (body (loop [5] [2, 5, 6, 7, 25, 26, 27, 28, 29, 30, 31, 32, 33, 34, 35, 36, 37, 38, 39, 40, 41, 42, 43, 44, 45, 46, 47, 48, 49, 50, 51, 52, 53] [2] (seq (seq leaf (cond leaf leaf)) (seq (body (seq leaf (seq leaf (body (loop [7] [2, 7, 38, 39, 40, 41, 42, 43, 44, 45, 46, 47, 48, 49, 50, 51, 52, 53] [4] (seq (seq leaf (cond leaf leaf)) (seq (body (seq leaf (cond (seq leaf leaf) leaf))) leaf))))))) leaf))))) (seq leaf leaf))))))
theorem F.granaryref6_dealt.lift : LiftOk Tryd.prog 51 (ap1 F.granaryref6_dealt) :=
  lift1 (g := evFn Tryd.prog (tcons 33 (ap1 F.granaryref6_Parts) (tcons 66 (ap2 F.granaryref6_times) tnil)) tnil 51 Tryd.f51 F.granaryref6_dealt.plan) (evFn_sound (tcons_ok F.granaryref6_Parts.lift (tcons_ok F.granaryref6_times.lift tnil_ok)) tnil_ok Tryd.func51 (by kernel_rfl)) (fun x0 => by kernel_rfl)

/-- granary/granaryref6.Check -/
noncomputable def F.granaryref6_Check (a0 : Value) : M Value :=
  M.bind (newM 24 (Value.cells a0)) fun x1 =>
  bindO (fieldA 0 x1) fun x2 =>
  M.bind (rdM (ld1 x2)) fun x3 =>
  M.bind (F.granaryref6_named x3) fun x4 =>
  bindO (notV x4) fun x5 =>
  condM x5 (
    M.ret (Value.int IntKind.i64 63)) (
    M.bind (rdM (ldA 23 x1)) fun x6 =>
    M.bind (F.granaryref6_set x6) fun x7 =>
    bindO (notV x7) fun x8 =>
    condM x8 (
      M.ret (Value.int IntKind.i64 64)) (
      bindO (fieldA 22 x1) fun x9 =>
      M.bind (rdM (ld1 x9)) fun x10 =>
      bindO (lenL x10) fun x11 =>
      bindO (binV BinOp.lss x11 (Value.int IntKind.i64 1)) fun x12 =>
      M.bind (guardM x12 false (optM (fieldA 22 x1))) fun x13 =>
      M.bind (guardM x12 false (rdM (ld1 x13))) fun x14 =>
      M.bind (guardM x12 false (optM (lenL x14))) fun x15 =>
      M.bind (guardM x12 false (optM (binV BinOp.gtr x15 (Value.int IntKind.i64 16)))) fun x16 =>
      bindO (pickV x12 (Value.bool true) x16) fun x17 =>
      condM x17 (
        M.ret (Value.int IntKind.i64 65)) (
        M.bind (loopM (fun l18 =>
          bindO (fieldA 22 x1) fun x19 =>
          M.bind (rdM (ld1 x19)) fun x20 =>
          bindO (lenL x20) fun x21 =>
          bindO (binV BinOp.lss (getL l18 1) x21) fun x22 =>
          condM x22 (
            M.bind (
              bindO (fieldA 22 x1) fun x23 =>
              M.bind (rdM (ld1 x23)) fun x24 =>
              bindO (idxA 2 x24 (getL l18 1)) fun x25 =>
              bindO (fieldA 0 x25) fun x26 =>
              M.bind (rdM (ld1 x26)) fun x27 =>
              bindO (binV BinOp.lss x27 (Value.int IntKind.i64 0)) fun x28 =>
              M.bind (guardM x28 false (optM (fieldA 22 x1))) fun x29 =>
              M.bind (guardM x28 false (rdM (ld1 x29))) fun x30 =>
              M.bind (guardM x28 false (M.ret (getL l18 1))) fun x31 =>
              M.bind (guardM x28 false (optM (idxA 2 x30 x31))) fun x32 =>
              M.bind (guardM x28 false (optM (fieldA 0 x32))) fun x33 =>
              M.bind (guardM x28 false (rdM (ld1 x33))) fun x34 =>
              M.bind (guardM x28 false (optM (binV BinOp.geq x34 (Value.int IntKind.i64 8)))) fun x35 =>
              bindO (pickV x28 (Value.bool true) x35) fun x36 =>
              condM x36 (
                M.ret (Out.ret (Value.int IntKind.i64 65))) (
                bindO (fieldA 22 x1) fun x37 =>
                M.bind (rdM (ld1 x37)) fun x38 =>
                bindO (idxA 2 x38 (getL l18 1)) fun x39 =>
                bindO (fieldA 1 x39) fun x40 =>
                M.bind (rdM (ld1 x40)) fun x41 =>
                bindO (lenL x41) fun x42 =>
                bindO (binV BinOp.gtr x42 (Value.int IntKind.i64 0)) fun x43 =>
                condM x43 (
                  bindO (binV BinOp.add (getL l18 0) (Value.int IntKind.i64 1)) fun x44 =>
                  M.ret (Out.norm [x44])) (
                  M.ret (Out.norm [(getL l18 0)])))) fun o46 =>
            outK o46 (fun l45 =>
              bindO (binV BinOp.add (getL l18 1) (Value.int IntKind.i64 1)) fun x49 =>
              M.ret (Out.norm [(getL l45 0), x49])) (fun _ _ =>
              M.fail) (fun r48 => M.ret (Out.ret r48))) (
            M.ret (Out.exit 0 [(getL l18 0), (getL l18 1)]))) [(Value.int IntKind.i64 0), (Value.int IntKind.i64 0)]) fun o52 =>
        outK o52 (fun _ => M.fail) (fun i53 l51 =>
          bif Nat.beq i53 0 then (
            M.bind (rdM (ldA 23 x1)) fun x55 =>
            M.bind (F.granaryref6_dealt x55) fun x56 =>
            bindO (notV x56) fun x57 =>
            condM x57 (
              M.ret (Value.int IntKind.i64 66)) (
              bindO (fieldA 1 x1) fun x58 =>
              M.bind (rdM (ld1 x58)) fun x59 =>
              bindO (binV BinOp.gtr x59 (getL l51 0)) fun x60 =>
              condM x60 (
                M.ret (Value.int IntKind.i64 67)) (
                drewM <|
                getM fun W61 =>
                M.bind (rdM (ldA 23 x1)) fun x62 =>
                M.bind (F.granaryref6_Parts x62) fun x63 =>
                getM fun _ =>
                bindO (fieldA 1 x1) fun x65 =>
                M.bind (rdM (ld1 x65)) fun x66 =>
                bindO (binV BinOp.mul x63 x66) fun x67 =>
                bindO (fieldA 3 x1) fun x68 =>
                M.bind (rdM (ld1 x68)) fun x69 =>
                bindO (binV BinOp.mul x67 x69) fun x70 =>
                bindO (binV BinOp.gtr x70 (Value.int IntKind.i64 512)) fun x71 =>
                reqM (ld1 x65 W61 = some x66) <|
                reqM (ld1 x68 W61 = some x69) <|
                condM x71 (
                  M.ret (Value.int IntKind.i64 3)) (
                  M.ret (Value.int IntKind.i64 0))))) else
          M.fail) (fun r54 => M.ret r54))))
def F.granaryref6_Check.plan : Plan := (seq leaf (seq (seq leaf (cond (seq leaf leaf) leaf)) (seq (seq leaf (cond (seq leaf leaf) leaf)) (seq (seq leaf (cond (seq leaf leaf) leaf)) (seq leaf (seq (seq leaf (body (loop [3, 4] [2, 3, 4, 22, 23, 24, 25, 26, 27, 28, 29, 30, 31, 32, 33, 34, 35, 36, 37, 38, 39, 40, 41, 42, 43, 44, 45, 46, 47, 48, 49, 50, 51, 52, 53, 54] [0] (seq (seq leaf (cond leaf leaf)) (fork [3] [2, 3, 29, 30, 31, 32, 33, 34, 35, 36, 37, 38, 39, 40, 41, 42, 43, 44, 45, 46, 47, 48, 49, 50, 51, 52, 53, 54] [] (body (seq (seq leaf (cond (seq leaf leaf) leaf)) (seq leaf (cond leaf leaf)))) leaf))))) (seq (seq leaf (cond (seq leaf leaf) leaf)) (seq (seq leaf (cond (seq leaf leaf) leaf)) (seq (seq leaf (cond (seq leaf leaf) leaf)) (seq leaf leaf))))))))))
theorem F.granaryref6_Check.lift : LiftOk Tryd.prog 32 (ap1 F.granaryref6_Check) :=
  lift1 (g := evFn Tryd.prog (tcons 33 (ap1 F.granaryref6_Parts) (tcons 49 (ap1 F.granaryref6_named) (tcons 50 (ap1 F.granaryref6_set) (tcons 51 (ap1 F.granaryref6_dealt) tnil)))) tnil 32 Tryd.f32 F.granaryref6_Check.plan) (evFn_sound (tcons_ok F.granaryref6_Parts.lift (tcons_ok F.granaryref6_named.lift (tcons_ok F.granaryref6_set.lift (tcons_ok F.granaryref6_dealt.lift tnil_ok)))) tnil_ok Tryd.func32 (by kernel_rfl)) (fun x0 => by kernel_rfl)

/-- granary/granaryref6.Home -/
noncomputable def F.granaryref6_Home (a0 a1 : Value) : M Value :=
  M.bind (newM 24 (Value.cells a0)) fun x1 =>
  M.bind (loopM (fun l2 =>
    bindO (fieldA 22 x1) fun x3 =>
    M.bind (rdM (ld1 x3)) fun x4 =>
    bindO (lenL x4) fun x5 =>
    bindO (binV BinOp.lss (getL l2 0) x5) fun x6 =>
    condM x6 (
      M.bind (loopM (fun l7 =>
        bindO (fieldA 22 x1) fun x8 =>
        M.bind (rdM (ld1 x8)) fun x9 =>
        bindO (idxA 2 x9 (getL l2 0)) fun x10 =>
        bindO (fieldA 1 x10) fun x11 =>
        M.bind (rdM (ld1 x11)) fun x12 =>
        bindO (lenL x12) fun x13 =>
        bindO (binV BinOp.lss (getL l7 0) x13) fun x14 =>
        condM x14 (
          bindO (fieldA 22 x1) fun x15 =>
          M.bind (rdM (ld1 x15)) fun x16 =>
          bindO (idxA 2 x16 (getL l2 0)) fun x17 =>
          bindO (fieldA 1 x17) fun x18 =>
          M.bind (rdM (ld1 x18)) fun x19 =>
          bindO (idxA 1 x19 (getL l7 0)) fun x20 =>
          M.bind (rdM (ld1 x20)) fun x21 =>
          bindO (binV BinOp.eql x21 a1) fun x22 =>
          condM x22 (
            M.ret (Out.ret (getL l2 0))) (
            bindO (binV BinOp.add (getL l7 0) (Value.int IntKind.i64 1)) fun x23 =>
            M.ret (Out.norm [x23]))) (
          M.ret (Out.exit 2 [(getL l7 0)]))) [(Value.int IntKind.i64 0)]) fun o25 =>
      outK o25 (fun _ => M.fail) (fun i26 _ =>
        bif Nat.beq i26 2 then (
          bindO (binV BinOp.add (getL l2 0) (Value.int IntKind.i64 1)) fun x28 =>
          M.ret (Out.norm [x28])) else
        M.fail) (fun r27 => M.ret (Out.ret r27))) (
      M.ret (Out.exit 0 [(getL l2 0)]))) [(Value.int IntKind.i64 0)]) fun o30 =>
  outK o30 (fun _ => M.fail) (fun i31 _ =>
    bif Nat.beq i31 0 then (
      M.ret (Value.int IntKind.i64 (-1))) else
    M.fail) (fun r32 => M.ret r32)
def F.granaryref6_Home.plan : Plan := (seq leaf (seq (seq leaf (body (loop [5] [4, 5, 6, 7, 8, 9, 10, 11, 12, 13, 14, 15, 16, 17, 18, 19, 20, 21, 22, 23, 24, 25, 26, 27, 28, 29, 30, 31, 32, 33, 34, 35, 36] [0] (seq (seq leaf (cond leaf leaf)) (seq (body (seq leaf (body (loop [6] [4, 6, 14, 15, 16, 17, 18, 19, 20, 21, 22, 23, 24, 25, 26, 27, 28, 29, 30, 31, 32, 33, 34, 35, 36] [2] (seq (seq leaf (cond leaf leaf)) (seq (body (seq leaf (cond (seq leaf leaf) leaf))) leaf)))))) leaf))))) (seq leaf leaf)))
theorem F.granaryref6_Home.lift : LiftOk Tryd.prog 68 (ap2 F.granaryref6_Home) :=
  lift2 (g := evFn Tryd.prog tnil tnil 68 Tryd.f68 F.granaryref6_Home.plan) (evFn_sound tnil_ok tnil_ok Tryd.func68 (by kernel_rfl)) (fun x0 x1 => by kernel_rfl)

/-- granary/granaryref6.walk -/
noncomputable def F.granaryref6_walk (a0 a1 : Value) : M Value :=
  M.bind (newM 24 (Value.cells a0)) fun x1 =>
  M.bind (rdM (ldA 23 x1)) fun x2 =>
  M.bind (F.granaryref6_Parts x2) fun x3 =>
  M.bind (loopM (fun l4 =>
    bindO (binV BinOp.lss (getL l4 1) x3) fun x5 =>
    M.bind (guardM x5 true (M.ret (getL l4 0))) fun x6 =>
    M.bind (guardM x5 true (optM (lenL x6))) fun x7 =>
    M.bind (guardM x5 true (optM (fieldA 1 x1))) fun x8 =>
    M.bind (guardM x5 true (rdM (ld1 x8))) fun x9 =>
    M.bind (guardM x5 true (optM (binV BinOp.lss x7 x9))) fun x10 =>
    bindO (pickV x5 x10 (Value.bool false)) fun x11 =>
    condM x11 (
      M.bind (
        M.bind (loopM (fun l12 =>
          bindO (binV BinOp.lss (getL l12 1) (getL l4 1)) fun x13 =>
          condM x13 (
            M.bind (
              drewM <|
              getM fun W14 =>
              M.bind (rdM (ldA 23 x1)) fun x15 =>
              bindO (binV BinOp.add a1 (getL l12 1)) fun x16 =>
              bindO (binV BinOp.rem x16 x3) fun x17 =>
              M.bind (F.granaryref6_Home x15 x17) fun x18 =>
              getM fun _ =>
              M.bind (rdM (ldA 23 x1)) fun x20 =>
              bindO (binV BinOp.add a1 (getL l4 1)) fun x21 =>
              bindO (binV BinOp.rem x21 x3) fun x22 =>
              M.bind (F.granaryref6_Home x20 x22) fun x23 =>
              getM fun _ =>
              bindO (binV BinOp.eql x18 x23) fun x25 =>
              reqM (ldA 23 x1 W14 = some x20) <|
              condM x25 (
                M.ret (Out.norm [(Value.bool false)])) (
                M.ret (Out.norm [(getL l12 0)]))) fun o27 =>
            outK o27 (fun l26 =>
              bindO (binV BinOp.add (getL l12 1) (Value.int IntKind.i64 1)) fun x30 =>
              M.ret (Out.norm [(getL l26 0), x30])) (fun _ _ =>
              M.fail) (fun r29 => M.ret (Out.ret r29))) (
            M.ret (Out.exit 2 [(getL l12 0), (getL l12 1)]))) [(Value.bool true), (Value.int IntKind.i64 0)]) fun o33 =>
        outK o33 (fun _ => M.fail) (fun i34 l32 =>
          bif Nat.beq i34 2 then (
            condM (getL l32 0) (
              bindO (binV BinOp.add a1 (getL l4 1)) fun x36 =>
              bindO (binV BinOp.rem x36 x3) fun x37 =>
              M.bind (bslM 3 1 (Builtin.zeroCells #[(Value.int IntKind.i64 0)] 1) [(0, 1, x37)]) fun x38 =>
              M.bind (appM 3 1 8 #[(Value.int IntKind.i64 0)] (getL l4 0) x38) fun x39 =>
              M.ret (Out.norm [x39])) (
              M.ret (Out.norm [(getL l4 0)]))) else
          M.fail) (fun r35 => M.ret (Out.ret r35))) fun o41 =>
      outK o41 (fun l40 =>
        bindO (binV BinOp.add (getL l4 1) (Value.int IntKind.i64 1)) fun x44 =>
        M.ret (Out.norm [(getL l40 0), x44])) (fun _ _ =>
        M.fail) (fun r43 => M.ret (Out.ret r43))) (
      M.ret (Out.exit 0 [(getL l4 0), (getL l4 1)]))) [(Value.slice none 0 0), (Value.int IntKind.i64 0)]) fun o47 =>
  outK o47 (fun _ => M.fail) (fun i48 l46 =>
    bif Nat.beq i48 0 then (
      M.ret (getL l46 0)) else
    M.fail) (fun r49 => M.ret r49)
def F.granaryref6_walk.plan : Plan := (seq leaf (seq leaf (seq leaf (seq (seq leaf (body (loop [5, 7] [5, 7, 8, 9, 12, 13, 14, 15, 16, 17, 18, 19, 20, 21, 22, 23, 24, 25, 26, 27, 28, 29, 30, 31, 32, 33, 34, 35, 36, 37, 38, 39, 40, 41, 42, 43, 44, 45, 46, 47, 48, 49, 50, 51, 52] [0] (seq (seq leaf (cond leaf leaf)) (fork [5] [5, 8, 9, 24, 25, 26, 27, 28, 29, 30, 31, 32, 33, 34, 35, 36, 37, 38, 39, 40, 41, 42, 43, 44, 45, 46, 47, 48, 49, 50, 51, 52] [] (body (seq leaf (seq (seq leaf (body (loop [8, 9] [8, 9, 24, 25, 26, 27, 28, 29, 30, 31, 32, 33, 34, 35, 36, 37, 38, 39, 40, 41, 42, 43] [2] (seq (seq leaf (cond leaf leaf)) (fork [8] [8, 29, 30, 31, 32, 33, 34, 35, 36, 37, 38, 39, 40, 41, 42, 43] [] (body (seq leaf (cond leaf leaf))) leaf))))) (seq leaf (cond leaf leaf))))) leaf))))) (seq leaf leaf)))))
theorem F.granaryref6_walk.lift : LiftOk Tryd.prog 92 (ap2 F.granaryref6_walk) :=
  lift2 (g := evFn Tryd.prog (tcons 33 (ap1 F.granaryref6_Parts) (tcons 68 (ap2 F.granaryref6_Home) tnil)) tnil 92 Tryd.f92 F.granaryref6_walk.plan) (evFn_sound (tcons_ok F.granaryref6_Parts.lift (tcons_ok F.granaryref6_Home.lift tnil_ok)) tnil_ok Tryd.func92 (by kernel_rfl)) (fun x0 x1 => by kernel_rfl)

/-- granary/granaryref6.Walk -/
noncomputable def F.granaryref6_Walk (a0 a1 : Value) : M Value :=
  M.bind (newM 24 (Value.cells a0)) fun x1 =>
  M.bind (rdM (ldA 23 x1)) fun x2 =>
  M.bind (F.granaryref6_Check x2) fun x3 =>
  bindO (binV BinOp.neq x3 (Value.int IntKind.i64 0)) fun x4 =>
  condM x4 (
    M.ret (Value.tuple #[(Value.slice none 0 0), x3])) (
    bindO (binV BinOp.lss a1 (Value.int IntKind.i64 0)) fun x5 =>
    M.bind (guardM x5 false (M.ret a1)) fun x6 =>
    M.bind (guardM x5 false (rdM (ldA 23 x1))) fun x7 =>
    M.bind (guardM x5 false (F.granaryref6_Parts x7)) fun x8 =>
    M.bind (guardM x5 false (optM (binV BinOp.geq x6 x8))) fun x9 =>
    bindO (pickV x5 (Value.bool true) x9) fun x10 =>
    condM x10 (
      M.ret (Value.tuple #[(Value.slice none 0 0), (Value.int IntKind.i64 69)])) (
      M.bind (rdM (ldA 23 x1)) fun x11 =>
      M.bind (F.granaryref6_walk x11 a1) fun x12 =>
      M.ret (Value.tuple #[x12, (Value.int IntKind.i64 0)])))
def F.granaryref6_Walk.plan : Plan := (seq leaf (seq leaf (seq (seq leaf (cond (seq leaf leaf) leaf)) (seq (seq leaf (cond (seq leaf leaf) leaf)) (seq leaf leaf)))))
theorem F.granaryref6_Walk.lift : LiftOk Tryd.prog 67 (ap2 F.granaryref6_Walk) :=
  lift2 (g := evFn Tryd.prog (tcons 32 (ap1 F.granaryref6_Check) (tcons 33 (ap1 F.granaryref6_Parts) (tcons 92 (ap2 F.granaryref6_walk) tnil))) tnil 67 Tryd.f67 F.granaryref6_Walk.plan) (evFn_sound (tcons_ok F.granaryref6_Check.lift (tcons_ok F.granaryref6_Parts.lift (tcons_ok F.granaryref6_walk.lift tnil_ok))) tnil_ok Tryd.func67 (by kernel_rfl)) (fun x0 x1 => by kernel_rfl)

/-- granary/granaryref6.Owners -/
noncomputable def F.granaryref6_Owners (a0 a1 : Value) : M Value :=
  M.bind (newM 24 (Value.cells a0)) fun x1 =>
  M.bind (rdM (ldA 23 x1)) fun x2 =>
  M.bind (F.granaryref6_Walk x2 a1) fun x3 =>
  bindO (extV 0 x3) fun x4 =>
  bindO (extV 1 x3) fun x5 =>
  bindO (binV BinOp.neq x5 (Value.int IntKind.i64 0)) fun x6 =>
  condM x6 (
    M.ret (Value.tuple #[(Value.slice none 0 0), x5])) (
    M.bind (loopM (fun l7 =>
      bindO (lenL x4) fun x8 =>
      bindO (binV BinOp.lss (getL l7 1) x8) fun x9 =>
      condM x9 (
        drewM <|
        M.bind (rdM (ldA 23 x1)) fun x10 =>
        bindO (idxA 1 x4 (getL l7 1)) fun x11 =>
        M.bind (rdM (ld1 x11)) fun x12 =>
        M.bind (F.granaryref6_Home x10 x12) fun x13 =>
        M.bind (bslM 3 1 (Builtin.zeroCells #[(Value.int IntKind.i64 0)] 1) [(0, 1, x13)]) fun x14 =>
        M.bind (appM 3 1 8 #[(Value.int IntKind.i64 0)] (getL l7 0) x14) fun x15 =>
        bindO (binV BinOp.add (getL l7 1) (Value.int IntKind.i64 1)) fun x16 =>
        M.ret (Out.norm [x15, x16])) (
        M.ret (Out.exit 0 [(getL l7 0), (getL l7 1)]))) [(Value.slice none 0 0), (Value.int IntKind.i64 0)]) fun o18 =>
    outK o18 (fun _ => M.fail) (fun i19 l17 =>
      bif Nat.beq i19 0 then (
        M.ret (Value.tuple #[(getL l17 0), (Value.int IntKind.i64 0)])) else
      M.fail) (fun r20 => M.ret r20))
def F.granaryref6_Owners.plan : Plan := (seq leaf (seq leaf (seq (seq leaf (cond (seq leaf leaf) leaf)) (seq leaf (seq (seq leaf (body (loop [8, 9] [8, 9, 19, 20, 21, 22, 23, 24, 25, 26, 27, 28, 29, 30, 31, 32, 33] [0] (seq (seq leaf (cond leaf leaf)) (seq (body leaf) leaf))))) (seq leaf leaf))))))
theorem F.granaryref6_Owners.lift : LiftOk Tryd.prog 52 (ap2 F.granaryref6_Owners) :=
  lift2 (g := evFn Tryd.prog (tcons 67 (ap2 F.granaryref6_Walk) (tcons 68 (ap2 F.granaryref6_Home) tnil)) tnil 52 Tryd.f52 F.granaryref6_Owners.plan) (evFn_sound (tcons_ok F.granaryref6_Walk.lift (tcons_ok F.granaryref6_Home.lift tnil_ok)) tnil_ok Tryd.func52 (by kernel_rfl)) (fun x0 x1 => by kernel_rfl)

/-- granary/granaryref21.Row -/
noncomputable def F.granaryref21_Row (a0 a1 : Value) : M Value :=
  M.bind (newM 24 (Value.cells a0)) fun x1 =>
  M.bind (rdM (ldA 23 x1)) fun x2 =>
  M.bind (F.granaryref6_Owners x2 a1) fun x3 =>
  bindO (extV 0 x3) fun x4 =>
  bindO (extV 1 x3) fun _ =>
  M.bind (loopM (fun l6 =>
    bindO (lenL x4) fun x7 =>
    bindO (binV BinOp.lss (getL l6 1) x7) fun x8 =>
    condM x8 (
      M.bind (
        drewM <|
        bindO (fieldA 22 x1) fun x9 =>
        M.bind (rdM (ld1 x9)) fun x10 =>
        bindO (idxA 1 x4 (getL l6 1)) fun x11 =>
        M.bind (rdM (ld1 x11)) fun x12 =>
        bindO (idxA 2 x10 x12) fun x13 =>
        bindO (fieldA 0 x13) fun x14 =>
        M.bind (rdM (ld1 x14)) fun x15 =>
        bindO (fieldA 21 x1) fun x16 =>
        M.bind (rdM (ld1 x16)) fun x17 =>
        bindO (binV BinOp.eql x15 x17) fun x18 =>
        condM x18 (
          bindO (idxA 1 x4 (getL l6 1)) fun x19 =>
          M.bind (rdM (ld1 x19)) fun x20 =>
          M.bind (bslM 3 1 (Builtin.zeroCells #[(Value.int IntKind.i64 0)] 1) [(0, 1, x20)]) fun x21 =>
          M.bind (appM 3 1 8 #[(Value.int IntKind.i64 0)] (getL l6 0) x21) fun x22 =>
          M.ret (Out.norm [x22])) (
          M.ret (Out.norm [(getL l6 0)]))) fun o24 =>
      outK o24 (fun l23 =>
        bindO (binV BinOp.add (getL l6 1) (Value.int IntKind.i64 1)) fun x27 =>
        M.ret (Out.norm [(getL l23 0), x27])) (fun _ _ =>
        M.fail) (fun r26 => M.ret (Out.ret r26))) (
      M.ret (Out.exit 0 [(getL l6 0), (getL l6 1)]))) [(Value.slice none 0 0), (Value.int IntKind.i64 0)]) fun o30 =>
  outK o30 (fun _ => M.fail) (fun i31 l29 =>
    bif Nat.beq i31 0 then (
      M.bind (loopM (fun l33 =>
        bindO (lenL x4) fun x34 =>
        bindO (binV BinOp.lss (getL l33 1) x34) fun x35 =>
        condM x35 (
          M.bind (
            drewM <|
            bindO (fieldA 22 x1) fun x36 =>
            M.bind (rdM (ld1 x36)) fun x37 =>
            bindO (idxA 1 x4 (getL l33 1)) fun x38 =>
            M.bind (rdM (ld1 x38)) fun x39 =>
            bindO (idxA 2 x37 x39) fun x40 =>
            bindO (fieldA 0 x40) fun x41 =>
            M.bind (rdM (ld1 x41)) fun x42 =>
            bindO (fieldA 21 x1) fun x43 =>
            M.bind (rdM (ld1 x43)) fun x44 =>
            bindO (binV BinOp.neq x42 x44) fun x45 =>
            condM x45 (
              bindO (idxA 1 x4 (getL l33 1)) fun x46 =>
              M.bind (rdM (ld1 x46)) fun x47 =>
              M.bind (bslM 3 1 (Builtin.zeroCells #[(Value.int IntKind.i64 0)] 1) [(0, 1, x47)]) fun x48 =>
              M.bind (appM 3 1 8 #[(Value.int IntKind.i64 0)] (getL l33 0) x48) fun x49 =>
              M.ret (Out.norm [x49])) (
              M.ret (Out.norm [(getL l33 0)]))) fun o51 =>
          outK o51 (fun l50 =>
            bindO (binV BinOp.add (getL l33 1) (Value.int IntKind.i64 1)) fun x54 =>
            M.ret (Out.norm [(getL l50 0), x54])) (fun _ _ =>
            M.fail) (fun r53 => M.ret (Out.ret r53))) (
          M.ret (Out.exit 2 [(getL l33 0), (getL l33 1)]))) [(getL l29 0), (Value.int IntKind.i64 0)]) fun o57 =>
      outK o57 (fun _ => M.fail) (fun i58 l56 =>
        bif Nat.beq i58 2 then (
          M.ret (getL l56 0)) else
        M.fail) (fun r59 => M.ret r59)) else
    M.fail) (fun r32 => M.ret r32)
def F.granaryref21_Row.plan : Plan := (seq leaf (seq leaf (seq leaf (seq (seq leaf (body (loop [7, 8] [7, 8, 16, 17, 18, 19, 20, 21, 22, 23, 24, 25, 26, 27, 28, 29, 30, 31, 32, 33, 34, 35, 36, 37, 38, 39, 40] [0] (seq (seq leaf (cond leaf leaf)) (fork [7] [7, 22, 23, 24, 25, 26, 27, 28, 29, 30, 31, 32, 33, 34, 35, 36, 37, 38, 39, 40] [] (body (seq leaf (cond leaf leaf))) leaf))))) (seq (seq leaf (body (loop [7, 9] [7, 9, 41, 42, 43, 44, 45, 46, 47, 48, 49, 50, 51, 52, 53, 54, 55, 56, 57, 58, 59, 60, 61, 62, 63, 64, 65] [2] (seq (seq leaf (cond leaf leaf)) (fork [7] [7, 47, 48, 49, 50, 51, 52, 53, 54, 55, 56, 57, 58, 59, 60, 61, 62, 63, 64, 65] [] (body (seq leaf (cond leaf leaf))) leaf))))) (seq leaf leaf))))))
theorem F.granaryref21_Row.lift : LiftOk Tryd.prog 34 (ap2 F.granaryref21_Row) :=
  lift2 (g := evFn Tryd.prog (tcons 52 (ap2 F.granaryref6_Owners) tnil) tnil 34 Tryd.f34 F.granaryref21_Row.plan) (evFn_sound (tcons_ok F.granaryref6_Owners.lift tnil_ok) tnil_ok Tryd.func34 (by kernel_rfl)) (fun x0 x1 => by kernel_rfl)

/-- granary/granaryref21.New -/
noncomputable def F.granaryref21_New (a0 : Value) : M Value :=
  M.bind (newM 24 (Value.cells a0)) fun x1 =>
  M.bind (rdM (ldA 23 x1)) fun x2 =>
  M.bind (F.granaryref6_Check x2) fun x3 =>
  bindO (binV BinOp.neq x3 (Value.int IntKind.i64 0)) fun x4 =>
  condM x4 (
    M.ret (Value.tuple #[(Value.pointer none), x3])) (
    bindO (fieldA 18 x1) fun x5 =>
    M.bind (rdM (ld1 x5)) fun x6 =>
    bindO (buildV #[(Value.slice none 0 0), (Value.int IntKind.i64 0), (Value.int IntKind.i64 0), (Value.int IntKind.i64 0), (Value.int IntKind.i64 0), (Value.bool false), (Value.bool false), (Value.int IntKind.i64 0), (Value.int IntKind.i64 0), (Value.int IntKind.i64 0), (Value.slice none 0 0), (Value.slice none 0 0), (Value.slice none 0 0), (Value.int IntKind.i64 0), (Value.int IntKind.i64 0), (Value.slice none 0 0), (Value.slice none 0 0)] [(1, 1, x6)]) fun x7 =>
    M.bind (newM 76 (Value.cells x7)) fun x8 =>
    M.bind (loopM (fun l9 =>
      M.bind (rdM (ldA 23 x1)) fun x10 =>
      M.bind (F.granaryref6_Parts x10) fun x11 =>
      bindO (binV BinOp.lss (getL l9 0) x11) fun x12 =>
      condM x12 (
        drewM <|
        getM fun _ =>
        bindO (nilChk x8) fun x14 =>
        bindO (fieldA 0 x14) fun x15 =>
        M.bind (rdM (ld1 x15)) fun x16 =>
        M.bind (rdM (ldA 23 x1)) fun x17 =>
        M.bind (F.granaryref21_Row x17 (getL l9 0)) fun x18 =>
        getM fun W19 =>
        M.bind (bslM 44 1 (Builtin.zeroCells #[(Value.slice none 0 0)] 1) [(0, 1, x18)]) fun x20 =>
        getM fun W21 =>
        M.bind (appM 44 1 24 #[(Value.slice none 0 0)] x16 x20) fun x22 =>
        getM fun _ =>
        bindO (nilChk x8) fun x24 =>
        bindO (fieldA 0 x24) fun x25 =>
        M.bind (stM 1 x25 x22) fun _ =>
        getM fun _ =>
        reqM (ld1 x15 W19 = some x16) <|
        reqM (ld1 x15 W21 = some x16) <|
        bindO (binV BinOp.add (getL l9 0) (Value.int IntKind.i64 1)) fun x28 =>
        M.ret (Out.norm [x28])) (
        M.ret (Out.exit 0 [(getL l9 0)]))) [(Value.int IntKind.i64 0)]) fun o30 =>
    outK o30 (fun _ => M.fail) (fun i31 _ =>
      bif Nat.beq i31 0 then (
        M.ret (Value.tuple #[x8, (Value.int IntKind.i64 0)])) else
      M.fail) (fun r32 => M.ret r32))
def F.granaryref21_New.plan : Plan := (seq leaf (seq leaf (seq (seq leaf (cond (seq leaf leaf) leaf)) (seq leaf (seq (seq leaf (body (loop [6] [6, 16, 17, 18, 19, 20, 21, 22, 23, 24, 25, 26, 27, 28, 29, 30, 31, 32, 33] [0] (seq (seq leaf (cond leaf leaf)) (seq (body leaf) leaf))))) (seq leaf leaf))))))
theorem F.granaryref21_New.lift : LiftOk Tryd.prog 20 (ap1 F.granaryref21_New) :=
  lift1 (g := evFn Tryd.prog (tcons 32 (ap1 F.granaryref6_Check) (tcons 33 (ap1 F.granaryref6_Parts) (tcons 34 (ap2 F.granaryref21_Row) tnil))) tnil 20 Tryd.f20 F.granaryref21_New.plan) (evFn_sound (tcons_ok F.granaryref6_Check.lift (tcons_ok F.granaryref6_Parts.lift (tcons_ok F.granaryref21_Row.lift tnil_ok))) tnil_ok Tryd.func20 (by kernel_rfl)) (fun x0 => by kernel_rfl)

/-- granary/granarylaw21.num -/
noncomputable def F.granarylaw21_num (a0 : Value) : M Value :=
  M.ret a0
def F.granarylaw21_num.plan : Plan := (seq leaf (seq leaf leaf))
theorem F.granarylaw21_num.lift : LiftOk Tryd.prog 15 (ap1 F.granarylaw21_num) :=
  lift1 (g := evFn Tryd.prog tnil tnil 15 Tryd.f15 F.granarylaw21_num.plan) (evFn_sound tnil_ok tnil_ok Tryd.func15 (by kernel_rfl)) (fun x0 => by kernel_rfl)

/-- (*granary/granarylaw21.desk).begins -/
noncomputable def F.granarylaw21_desk_begins (a0 a1 : Value) : M Value :=
  M.bind (newM 24 (Value.cells a1)) fun x1 =>
  M.bind (rdM (ldA 23 x1)) fun x2 =>
  M.bind (F.granarylaw21_cluster x2) fun x3 =>
  M.bind (newM 24 #[(Value.string ByteArray.empty), (Value.int IntKind.i64 0), (Value.int IntKind.i64 0), (Value.int IntKind.i64 0), (Value.int IntKind.i64 0), (Value.int IntKind.i64 0), (Value.int IntKind.i64 0), (Value.int IntKind.i64 0), (Value.int IntKind.i64 0), (Value.int IntKind.i64 0), (Value.int IntKind.i64 0), (Value.int IntKind.i64 0), (Value.int IntKind.i64 0), (Value.int IntKind.i64 0), (Value.int IntKind.i64 0), (Value.int IntKind.i64 0), (Value.int IntKind.i64 0), (Value.int IntKind.i64 0), (Value.int IntKind.i64 0), (Value.int IntKind.i64 0), (Value.int IntKind.i64 0), (Value.int IntKind.i64 0), (Value.slice none 0 0)]) fun x4 =>
  M.bind (stM 23 x4 x3) fun _ =>
  M.bind (rdM (ldA 23 x4)) fun x6 =>
  M.bind (F.export_New x6) fun x7 =>
  bindO (extV 0 x7) fun x8 =>
  bindO (extV 1 x7) fun x9 =>
  M.bind (rdM (ldA 23 x1)) fun x10 =>
  M.bind (F.granaryref21_New x10) fun x11 =>
  bindO (extV 0 x11) fun x12 =>
  bindO (extV 1 x11) fun x13 =>
  M.bind (loopM (fun l14 =>
    bindO (fieldA 22 x4) fun x15 =>
    M.bind (rdM (ld1 x15)) fun x16 =>
    bindO (lenL x16) fun x17 =>
    bindO (binV BinOp.lss (getL l14 0) x17) fun x18 =>
    condM x18 (
      M.bind (loopM (fun l19 =>
        bindO (fieldA 22 x4) fun x20 =>
        M.bind (rdM (ld1 x20)) fun x21 =>
        bindO (idxA 2 x21 (getL l14 0)) fun x22 =>
        bindO (fieldA 1 x22) fun x23 =>
        M.bind (rdM (ld1 x23)) fun x24 =>
        bindO (lenL x24) fun x25 =>
        bindO (binV BinOp.lss (getL l19 0) x25) fun x26 =>
        condM x26 (
          bindO (fieldA 22 x4) fun x27 =>
          M.bind (rdM (ld1 x27)) fun x28 =>
          bindO (idxA 2 x28 (getL l14 0)) fun x29 =>
          bindO (fieldA 1 x29) fun x30 =>
          M.bind (rdM (ld1 x30)) fun x31 =>
          bindO (idxA 1 x31 (getL l19 0)) fun x32 =>
          M.bind (stM 1 x32 (Value.int IntKind.i64 0)) fun _ =>
          bindO (binV BinOp.add (getL l19 0) (Value.int IntKind.i64 1)) fun x34 =>
          M.ret (Out.norm [x34])) (
          M.ret (Out.exit 2 [(getL l19 0)]))) [(Value.int IntKind.i64 0)]) fun o36 =>
      outK o36 (fun _ => M.fail) (fun i37 _ =>
        bif Nat.beq i37 2 then (
          bindO (fieldA 22 x4) fun x39 =>
          M.bind (rdM (ld1 x39)) fun x40 =>
          bindO (buildV #[(Value.int IntKind.i64 0), (Value.slice none 0 0)] []) fun x41 =>
          bindO (idxA 2 x40 (getL l14 0)) fun x42 =>
          M.bind (stM 2 x42 x41) fun _ =>
          bindO (binV BinOp.add (getL l14 0) (Value.int IntKind.i64 1)) fun x44 =>
          M.ret (Out.norm [x44])) else
        M.fail) (fun r38 => M.ret (Out.ret r38))) (
      M.ret (Out.exit 0 [(getL l14 0)]))) [(Value.int IntKind.i64 0)]) fun o46 =>
  outK o46 (fun _ => M.fail) (fun i47 _ =>
    bif Nat.beq i47 0 then (
      bindO (nilChk a0) fun x49 =>
      bindO (fieldA 0 x49) fun x50 =>
      M.bind (stM 1 x50 x8) fun _ =>
      bindO (nilChk a0) fun x52 =>
      bindO (fieldA 1 x52) fun x53 =>
      M.bind (stM 1 x53 x12) fun _ =>
      M.bind (rdM (ldA 23 x4)) fun x55 =>
      M.bind (F.export_New x55) fun x56 =>
      bindO (extV 0 x56) fun x57 =>
      bindO (extV 1 x56) fun x58 =>
      M.bind (rdM (ldA 23 x4)) fun x59 =>
      M.bind (F.granaryref21_New x59) fun x60 =>
      bindO (extV 0 x60) fun x61 =>
      bindO (extV 1 x60) fun x62 =>
      M.bind (F.granarylaw21_num x9) fun x63 =>
      bindO (binV BinOp.eql x63 x13) fun x64 =>
      M.bind (guardM x64 true (M.ret x8)) fun x65 =>
      M.bind (guardM x64 true (optM (eqV (EqSh.one EqK.ptr) x65 (Value.pointer none)))) fun x66 =>
      M.bind (guardM x64 true (M.ret x12)) fun x67 =>
      M.bind (guardM x64 true (optM (eqV (EqSh.one EqK.ptr) x67 (Value.pointer none)))) fun x68 =>
      M.bind (guardM x64 true (optM (eqV (EqSh.one EqK.bool) x66 x68))) fun x69 =>
      bindO (pickV x64 x69 (Value.bool false)) fun x70 =>
      M.bind (guardM x70 true (M.ret x58)) fun x71 =>
      M.bind (guardM x70 true (F.granarylaw21_num x71)) fun x72 =>
      M.bind (guardM x70 true (M.ret x62)) fun x73 =>
      M.bind (guardM x70 true (optM (binV BinOp.eql x72 x73))) fun x74 =>
      bindO (pickV x70 x74 (Value.bool false)) fun x75 =>
      M.bind (guardM x75 true (M.ret x57)) fun x76 =>
      M.bind (guardM x75 true (optM (eqV (EqSh.one EqK.ptr) x76 (Value.pointer none)))) fun x77 =>
      M.bind (guardM x75 true (M.ret x61)) fun x78 =>
      M.bind (guardM x75 true (optM (eqV (EqSh.one EqK.ptr) x78 (Value.pointer none)))) fun x79 =>
      M.bind (guardM x75 true (optM (eqV (EqSh.one EqK.bool) x77 x79))) fun x80 =>
      bindO (pickV x75 x80 (Value.bool false)) fun x81 =>
      M.ret x81) else
    M.fail) (fun r48 => M.ret r48)
def F.granarylaw21_desk_begins.plan : Plan := (seq leaf (seq leaf (seq leaf (seq leaf (seq (seq leaf (body (loop [10] [10, 11, 28, 29, 30, 31, 32, 33, 34, 35, 36, 37, 38, 39, 40, 41, 42, 43, 44, 45, 46, 47, 48, 49, 50, 51, 52, 53, 54, 55, 56, 57, 58] [0] (seq (seq leaf (cond leaf leaf)) (seq (body (seq (seq leaf (body (loop [11] [11, 35, 36, 37, 38, 39, 40, 41, 42, 43, 44, 45, 46, 47, 48, 49, 50, 51, 52, 53] [2] (seq (seq leaf (cond leaf leaf)) (seq (body leaf) leaf))))) leaf)) leaf))))) (seq leaf (seq leaf (seq leaf (seq leaf (seq leaf leaf))))))))))
theorem F.granarylaw21_desk_begins.lift : LiftOk Tryd.prog 8 (ap2 F.granarylaw21_desk_begins) :=
  lift2 (g := evFn Tryd.prog (tcons 15 (ap1 F.granarylaw21_num) (tcons 18 (ap1 F.granarylaw21_cluster) (tcons 19 (ap1 F.export_New) (tcons 20 (ap1 F.granaryref21_New) tnil)))) tnil 8 Tryd.f8 F.granarylaw21_desk_begins.plan) (evFn_sound (tcons_ok F.granarylaw21_num.lift (tcons_ok F.granarylaw21_cluster.lift (tcons_ok F.export_New.lift (tcons_ok F.granaryref21_New.lift tnil_ok)))) tnil_ok Tryd.func8 (by kernel_rfl)) (fun x0 x1 => by kernel_rfl)

/-- granary/granarylaw21.place -/
noncomputable def F.granarylaw21_place (a0 : Value) : M Value :=
  bindO (binV BinOp.rem a0 (Value.int IntKind.i64 2)) fun x1 =>
  bindO (binV BinOp.add x1 (Value.int IntKind.i64 2)) fun x2 =>
  bindO (binV BinOp.rem x2 (Value.int IntKind.i64 2)) fun x3 =>
  M.ret x3
def F.granarylaw21_place.plan : Plan := (seq leaf (seq leaf leaf))
theorem F.granarylaw21_place.lift : LiftOk Tryd.prog 9 (ap1 F.granarylaw21_place) :=
  lift1 (g := evFn Tryd.prog tnil tnil 9 Tryd.f9 F.granarylaw21_place.plan) (evFn_sound tnil_ok tnil_ok Tryd.func9 (by kernel_rfl)) (fun x0 => by kernel_rfl)

/-- (*granary/export.Export).want -/
noncomputable def F.export_Export_want (a0 : Value) : M Value :=
  M.bind (newM 112 #[(Value.int IntKind.i64 0), (Value.int IntKind.i64 0), (Value.int IntKind.i64 0), (Value.int IntKind.i64 0), (Value.int IntKind.i64 0)]) fun x1 =>
  drewM <|
  bindO (nilChk a0) fun x2 =>
  bindO (fieldA 7 x2) fun x3 =>
  M.bind (rdM (ld1 x3)) fun x4 =>
  bindO (idxA 1 x4 (Value.int IntKind.i64 0)) fun x5 =>
  M.bind (rdM (ld1 x5)) fun x6 =>
  bindO (nilChk a0) fun x7 =>
  bindO (fieldA 3 x7) fun x8 =>
  M.bind (rdM (ld1 x8)) fun x9 =>
  bindO (nilChk a0) fun x10 =>
  bindO (fieldA 6 x10) fun x11 =>
  M.bind (rdM (ld1 x11)) fun x12 =>
  bindO (nilChk a0) fun x13 =>
  bindO (fieldA 4 x13) fun x14 =>
  M.bind (rdM (ld1 x14)) fun x15 =>
  bindO (nilChk a0) fun x16 =>
  bindO (fieldA 8 x16) fun x17 =>
  M.bind (rdM (ld1 x17)) fun x18 =>
  bindO (lenL x18) fun x19 =>
  bindO (buildV #[(Value.int IntKind.i64 0), (Value.int IntKind.i64 0), (Value.int IntKind.i64 0), (Value.int IntKind.i64 0), (Value.int IntKind.i64 0)] [(0, 1, x6), (1, 1, x9), (2, 1, x12), (3, 1, x15), (4, 1, x19)]) fun x20 =>
  M.bind (stM 5 x1 x20) fun _ =>
  M.bind (rdM (ldA 5 x1)) fun x22 =>
  M.ret x22
def F.export_Export_want.plan : Plan := (seq leaf (seq leaf leaf))
theorem F.export_Export_want.lift : LiftOk Tryd.prog 55 (ap1 F.export_Export_want) :=
  lift1 (g := evFn Tryd.prog tnil tnil 55 Tryd.f55 F.export_Export_want.plan) (evFn_sound tnil_ok tnil_ok Tryd.func55 (by kernel_rfl)) (fun x0 => by kernel_rfl)

/-- (*granary/export.Export).ask -/
noncomputable def F.export_Export_ask (a0 : Value) : M Value :=
  drewM <|
  bindO (nilChk a0) fun x1 =>
  bindO (fieldA 2 x1) fun x2 =>
  M.bind (rdM (ld1 x2)) fun x3 =>
  bindO (nilChk a0) fun x4 =>
  bindO (fieldA 1 x4) fun x5 =>
  M.bind (rdM (ld1 x5)) fun x6 =>
  bindO (binV BinOp.add x3 x6) fun x7 =>
  bindO (nilChk a0) fun x8 =>
  bindO (fieldA 9 x8) fun x9 =>
  M.bind (stM 1 x9 x7) fun _ =>
  M.bind (F.export_Export_want a0) fun x11 =>
  M.bind (newM 112 #[(Value.int IntKind.i64 0), (Value.int IntKind.i64 0), (Value.int IntKind.i64 0), (Value.int IntKind.i64 0), (Value.int IntKind.i64 0)]) fun x12 =>
  M.bind (stM 5 x12 x11) fun _ =>
  bindO (fieldA 0 x12) fun x14 =>
  M.bind (rdM (ld1 x14)) fun x15 =>
  bindO (fieldA 1 x12) fun x16 =>
  M.bind (rdM (ld1 x16)) fun x17 =>
  bindO (fieldA 2 x12) fun x18 =>
  M.bind (rdM (ld1 x18)) fun x19 =>
  bindO (fieldA 3 x12) fun x20 =>
  M.bind (rdM (ld1 x20)) fun x21 =>
  bindO (fieldA 4 x12) fun x22 =>
  M.bind (rdM (ld1 x22)) fun x23 =>
  bindO (buildV #[(Value.int IntKind.i64 0), (Value.int IntKind.i64 0), (Value.int IntKind.i64 0), (Value.int IntKind.i64 0), (Value.int IntKind.i64 0), (Value.int IntKind.i64 0), (Value.int IntKind.i64 0), (Value.int IntKind.i64 0), (Value.int IntKind.i64 0), (Value.string ByteArray.empty), (Value.string ByteArray.empty)] [(0, 1, (Value.int IntKind.i64 15)), (1, 1, (Value.int IntKind.i64 67)), (2, 1, x15), (3, 1, x17), (5, 1, x19), (6, 1, x21), (7, 1, x23)]) fun x24 =>
  M.bind (bslM 36 1 (Builtin.zeroCells #[(Value.int IntKind.i64 0), (Value.int IntKind.i64 0), (Value.int IntKind.i64 0), (Value.int IntKind.i64 0), (Value.int IntKind.i64 0), (Value.int IntKind.i64 0), (Value.int IntKind.i64 0), (Value.int IntKind.i64 0), (Value.int IntKind.i64 0), (Value.string ByteArray.empty), (Value.string ByteArray.empty)] 1) [(0, 11, x24)]) fun x25 =>
  M.ret x25
def F.export_Export_ask.plan : Plan := (seq leaf (seq leaf (seq leaf (seq leaf leaf))))
theorem F.export_Export_ask.lift : LiftOk Tryd.prog 57 (ap1 F.export_Export_ask) :=
  lift1 (g := evFn Tryd.prog (tcons 55 (ap1 F.export_Export_want) tnil) tnil 57 Tryd.f57 F.export_Export_ask.plan) (evFn_sound (tcons_ok F.export_Export_want.lift tnil_ok) tnil_ok Tryd.func57 (by kernel_rfl)) (fun x0 => by kernel_rfl)

/-- (*granary/export.Export).take -/
noncomputable def F.export_Export_take (a0 a1 : Value) : M Value :=
  bindO (nilChk a0) fun x1 =>
  bindO (fieldA 6 x1) fun x2 =>
  M.bind (stM 1 x2 a1) fun _ =>
  bindO (nilChk a0) fun x4 =>
  bindO (fieldA 8 x4) fun x5 =>
  M.bind (stM 1 x5 (Value.slice none 0 0)) fun _ =>
  bindO (nilChk a0) fun x7 =>
  bindO (fieldA 0 x7) fun x8 =>
  M.bind (rdM (ld1 x8)) fun x9 =>
  bindO (lenL x9) fun x10 =>
  bindO (binV BinOp.eql a1 x10) fun x11 =>
  condM x11 (
    bindO (nilChk a0) fun x12 =>
    bindO (fieldA 5 x12) fun x13 =>
    M.bind (stM 1 x13 (Value.bool false)) fun _ =>
    bindO (nilChk a0) fun x15 =>
    bindO (fieldA 12 x15) fun x16 =>
    M.bind (stM 1 x16 (Value.bool true)) fun _ =>
    drewM <|
    bindO (nilChk a0) fun x18 =>
    bindO (fieldA 3 x18) fun x19 =>
    M.bind (rdM (ld1 x19)) fun x20 =>
    bindO (nilChk a0) fun x21 =>
    bindO (fieldA 4 x21) fun x22 =>
    M.bind (rdM (ld1 x22)) fun x23 =>
    bindO (nilChk a0) fun x24 =>
    bindO (fieldA 10 x24) fun x25 =>
    M.bind (rdM (ld1 x25)) fun x26 =>
    bindO (nilChk a0) fun x27 =>
    bindO (fieldA 11 x27) fun x28 =>
    M.bind (rdM (ld1 x28)) fun x29 =>
    bindO (buildV #[(Value.int IntKind.i64 0), (Value.int IntKind.i64 0), (Value.slice none 0 0), (Value.slice none 0 0)] [(0, 1, x20), (1, 1, x23), (2, 1, x26), (3, 1, x29)]) fun x30 =>
    bindO (nilChk a0) fun x31 =>
    bindO (fieldA 13 x31) fun x32 =>
    M.bind (stM 4 x32 x30) fun _ =>
    M.ret (Value.slice none 0 0)) (
    bindO (nilChk a0) fun x34 =>
    bindO (fieldA 0 x34) fun x35 =>
    M.bind (rdM (ld1 x35)) fun x36 =>
    bindO (idxA 1 x36 a1) fun x37 =>
    M.bind (rdM (ld1 x37)) fun x38 =>
    bindO (nilChk a0) fun x39 =>
    bindO (fieldA 7 x39) fun x40 =>
    M.bind (stM 1 x40 x38) fun _ =>
    M.bind (F.export_Export_ask a0) fun x42 =>
    M.ret x42)
def F.export_Export_take.plan : Plan := (seq leaf (seq leaf (seq (seq leaf (cond (seq leaf (seq leaf (seq leaf leaf))) leaf)) (seq leaf (seq leaf leaf)))))
theorem F.export_Export_take.lift : LiftOk Tryd.prog 53 (ap2 F.export_Export_take) :=
  lift2 (g := evFn Tryd.prog (tcons 57 (ap1 F.export_Export_ask) tnil) tnil 53 Tryd.f53 F.export_Export_take.plan) (evFn_sound (tcons_ok F.export_Export_ask.lift tnil_ok) tnil_ok Tryd.func53 (by kernel_rfl)) (fun x0 x1 => by kernel_rfl)

/-- (*granary/export.Export).Begin -/
noncomputable def F.export_Export_Begin (a0 a1 : Value) : M Value :=
  bindO (eqV (EqSh.one EqK.ptr) a0 (Value.pointer none)) fun x1 =>
  condM x1 (
    M.ret (Value.tuple #[(Value.slice none 0 0), (Value.int IntKind.i64 2)])) (
    bindO (nilChk a0) fun x2 =>
    bindO (fieldA 5 x2) fun x3 =>
    M.bind (rdM (ld1 x3)) fun x4 =>
    condM x4 (
      M.ret (Value.tuple #[(Value.slice none 0 0), (Value.int IntKind.i64 150)])) (
      bindO (binV BinOp.lss a1 (Value.int IntKind.i64 1)) fun x5 =>
      M.bind (guardM x5 false (M.ret a1)) fun x6 =>
      M.bind (guardM x5 false (optM (binV BinOp.gtr x6 (Value.int IntKind.i64 999999)))) fun x7 =>
      bindO (pickV x5 (Value.bool true) x7) fun x8 =>
      condM x8 (
        M.ret (Value.tuple #[(Value.slice none 0 0), (Value.int IntKind.i64 80)])) (
        bindO (nilChk a0) fun x9 =>
        bindO (fieldA 5 x9) fun x10 =>
        M.bind (stM 1 x10 (Value.bool true)) fun _ =>
        bindO (nilChk a0) fun x12 =>
        bindO (fieldA 3 x12) fun x13 =>
        M.bind (rdM (ld1 x13)) fun x14 =>
        bindO (binV BinOp.add x14 (Value.int IntKind.i64 1)) fun x15 =>
        bindO (nilChk a0) fun x16 =>
        bindO (fieldA 3 x16) fun x17 =>
        M.bind (stM 1 x17 x15) fun _ =>
        bindO (nilChk a0) fun x19 =>
        bindO (fieldA 4 x19) fun x20 =>
        M.bind (stM 1 x20 a1) fun _ =>
        bindO (nilChk a0) fun x22 =>
        bindO (fieldA 10 x22) fun x23 =>
        M.bind (stM 1 x23 (Value.slice none 0 0)) fun _ =>
        bindO (nilChk a0) fun x25 =>
        bindO (fieldA 11 x25) fun x26 =>
        M.bind (stM 1 x26 (Value.slice none 0 0)) fun _ =>
        M.bind (F.export_Export_take a0 (Value.int IntKind.i64 0)) fun x28 =>
        M.ret (Value.tuple #[x28, (Value.int IntKind.i64 0)]))))
def F.export_Export_Begin.plan : Plan := (seq leaf (seq (body (seq leaf (cond (seq leaf leaf) (seq leaf (cond (seq leaf leaf) (seq leaf (cond (seq leaf leaf) leaf))))))) (seq leaf (seq leaf (seq leaf (seq leaf leaf))))))
theorem F.export_Export_Begin.lift : LiftOk Tryd.prog 35 (ap2 F.export_Export_Begin) :=
  lift2 (g := evFn Tryd.prog (tcons 53 (ap2 F.export_Export_take) tnil) tnil 35 Tryd.f35 F.export_Export_Begin.plan) (evFn_sound (tcons_ok F.export_Export_take.lift tnil_ok) tnil_ok Tryd.func35 (by kernel_rfl)) (fun x0 x1 => by kernel_rfl)

/-- (*granary/granaryref21.Export).count -/
noncomputable def F.granaryref21_Export_count (a0 : Value) : M Value :=
  M.bind (loopM (fun l1 =>
    bindO (nilChk a0) fun x2 =>
    bindO (fieldA 11 x2) fun x3 =>
    M.bind (rdM (ld1 x3)) fun x4 =>
    bindO (lenL x4) fun x5 =>
    bindO (binV BinOp.lss (getL l1 1) x5) fun x6 =>
    condM x6 (
      M.bind (
        drewM <|
        bindO (nilChk a0) fun x7 =>
        bindO (fieldA 11 x7) fun x8 =>
        M.bind (rdM (ld1 x8)) fun x9 =>
        bindO (idxA 1 x9 (getL l1 1)) fun x10 =>
        M.bind (rdM (ld1 x10)) fun x11 =>
        bindO (nilChk a0) fun x12 =>
        bindO (fieldA 7 x12) fun x13 =>
        M.bind (rdM (ld1 x13)) fun x14 =>
        bindO (binV BinOp.eql x11 x14) fun x15 =>
        condM x15 (
          bindO (binV BinOp.add (getL l1 0) (Value.int IntKind.i64 1)) fun x16 =>
          M.ret (Out.norm [x16])) (
          M.ret (Out.norm [(getL l1 0)]))) fun o18 =>
      outK o18 (fun l17 =>
        bindO (binV BinOp.add (getL l1 1) (Value.int IntKind.i64 1)) fun x21 =>
        M.ret (Out.norm [(getL l17 0), x21])) (fun _ _ =>
        M.fail) (fun r20 => M.ret (Out.ret r20))) (
      M.ret (Out.exit 0 [(getL l1 0), (getL l1 1)]))) [(Value.int IntKind.i64 0), (Value.int IntKind.i64 0)]) fun o24 =>
  outK o24 (fun _ => M.fail) (fun i25 l23 =>
    bif Nat.beq i25 0 then (
      M.ret (getL l23 0)) else
    M.fail) (fun r26 => M.ret r26)
def F.granaryref21_Export_count.plan : Plan := (seq leaf (seq leaf (seq (seq leaf (body (loop [3, 4] [3, 4, 5, 6, 7, 8, 9, 10, 11, 12, 13, 14, 15, 16, 17, 18, 19, 20, 21, 22, 23, 24, 25, 26, 27] [0] (seq (seq leaf (cond leaf leaf)) (fork [3] [3, 14, 15, 16, 17, 18, 19, 20, 21, 22, 23, 24, 25, 26, 27] [] (body (seq leaf (cond leaf leaf))) leaf))))) (seq leaf leaf))))
theorem F.granaryref21_Export_count.lift : LiftOk Tryd.prog 58 (ap1 F.granaryref21_Export_count) :=
  lift1 (g := evFn Tryd.prog tnil tnil 58 Tryd.f58 F.granaryref21_Export_count.plan) (evFn_sound tnil_ok tnil_ok Tryd.func58 (by kernel_rfl)) (fun x0 => by kernel_rfl)

/-- (*granary/granaryref21.Export).question -/
noncomputable def F.granaryref21_Export_question (a0 : Value) : M Value :=
  bindO (nilChk a0) fun x1 =>
  bindO (fieldA 2 x1) fun x2 =>
  M.bind (rdM (ld1 x2)) fun x3 =>
  bindO (nilChk a0) fun x4 =>
  bindO (fieldA 9 x4) fun x5 =>
  M.bind (stM 1 x5 x3) fun _ =>
  drewM <|
  getM fun _ =>
  bindO (nilChk a0) fun x8 =>
  bindO (fieldA 0 x8) fun x9 =>
  M.bind (rdM (ld1 x9)) fun x10 =>
  bindO (nilChk a0) fun x11 =>
  bindO (fieldA 7 x11) fun x12 =>
  M.bind (rdM (ld1 x12)) fun x13 =>
  bindO (idxA 1 x10 x13) fun x14 =>
  M.bind (rdM (ld1 x14)) fun x15 =>
  bindO (nilChk a0) fun x16 =>
  bindO (fieldA 8 x16) fun x17 =>
  M.bind (rdM (ld1 x17)) fun x18 =>
  bindO (idxA 1 x15 x18) fun x19 =>
  M.bind (rdM (ld1 x19)) fun x20 =>
  bindO (nilChk a0) fun x21 =>
  bindO (fieldA 3 x21) fun x22 =>
  M.bind (rdM (ld1 x22)) fun x23 =>
  bindO (nilChk a0) fun x24 =>
  bindO (fieldA 7 x24) fun x25 =>
  M.bind (rdM (ld1 x25)) fun x26 =>
  bindO (nilChk a0) fun x27 =>
  bindO (fieldA 4 x27) fun x28 =>
  M.bind (rdM (ld1 x28)) fun x29 =>
  M.bind (F.granaryref21_Export_count a0) fun x30 =>
  getM fun W31 =>
  bindO (buildV #[(Value.int IntKind.i64 0), (Value.int IntKind.i64 0), (Value.int IntKind.i64 0), (Value.int IntKind.i64 0), (Value.int IntKind.i64 0), (Value.int IntKind.i64 0), (Value.int IntKind.i64 0), (Value.int IntKind.i64 0), (Value.int IntKind.i64 0), (Value.string ByteArray.empty), (Value.string ByteArray.empty)] [(0, 1, (Value.int IntKind.i64 15)), (1, 1, (Value.int IntKind.i64 67)), (2, 1, x20), (3, 1, x23), (5, 1, x26), (6, 1, x29), (7, 1, x30)]) fun x32 =>
  M.bind (bslM 36 1 (Builtin.zeroCells #[(Value.int IntKind.i64 0), (Value.int IntKind.i64 0), (Value.int IntKind.i64 0), (Value.int IntKind.i64 0), (Value.int IntKind.i64 0), (Value.int IntKind.i64 0), (Value.int IntKind.i64 0), (Value.int IntKind.i64 0), (Value.int IntKind.i64 0), (Value.string ByteArray.empty), (Value.string ByteArray.empty)] 1) [(0, 11, x32)]) fun x33 =>
  getM fun _ =>
  M.bind (appM 36 11 104 #[(Value.int IntKind.i64 0), (Value.int IntKind.i64 0), (Value.int IntKind.i64 0), (Value.int IntKind.i64 0), (Value.int IntKind.i64 0), (Value.int IntKind.i64 0), (Value.int IntKind.i64 0), (Value.int IntKind.i64 0), (Value.int IntKind.i64 0), (Value.string ByteArray.empty), (Value.string ByteArray.empty)] (Value.slice none 0 0) x33) fun x35 =>
  getM fun _ =>
  reqM (ld1 x9 W31 = some x10) <|
  reqM (ld1 x12 W31 = some x13) <|
  reqM (ld1 x14 W31 = some x15) <|
  reqM (ld1 x17 W31 = some x18) <|
  reqM (ld1 x19 W31 = some x20) <|
  reqM (ld1 x22 W31 = some x23) <|
  reqM (ld1 x25 W31 = some x26) <|
  reqM (ld1 x28 W31 = some x29) <|
  M.ret x35
def F.granaryref21_Export_question.plan : Plan := (seq leaf (seq leaf (seq leaf (seq leaf (seq leaf leaf)))))
theorem F.granaryref21_Export_question.lift : LiftOk Tryd.prog 54 (ap1 F.granaryref21_Export_question) :=
  lift1 (g := evFn Tryd.prog (tcons 58 (ap1 F.granaryref21_Export_count) tnil) tnil 54 Tryd.f54 F.granaryref21_Export_question.plan) (evFn_sound (tcons_ok F.granaryref21_Export_count.lift tnil_ok) tnil_ok Tryd.func54 (by kernel_rfl)) (fun x0 => by kernel_rfl)

end Go.Proofs.YtiggkhmopnhfaaaDoor
