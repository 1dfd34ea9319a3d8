/-
  THE FUNCTIONAL FORMS of the functions of this seat's translation, and that each function comes to its form: printed by a program of the prover's own (lift.py).
-/
import Derived.Test.YtiggkhmopnhfaaaLiftH
import Derived.Test.YtiggkhmopnhfaaaProg
import Derived.KernelRfl
namespace Go.Proofs.Ytiggkhmopnhfaaa
open Go.Lift Go.Lift.Plan
/-- granary/granaryref21.Beyond -/
noncomputable def F.granaryref21_Beyond (a0 : Value) : M Value :=
  bindO (binV BinOp.gtr a0 (Value.int IntKind.i64 2147483647)) fun x1 =>
  M.ret x1
def F.granaryref21_Beyond.plan : Plan := (seq leaf (seq leaf leaf))
theorem F.granaryref21_Beyond.lift : LiftOk Try.prog 5 (ap1 F.granaryref21_Beyond) :=
  lift1 (g := evFn Try.prog tnil tnil 5 Try.f5 F.granaryref21_Beyond.plan) (evFn_sound tnil_ok tnil_ok Try.func5 (by kernel_rfl)) (fun x0 => by kernel_rfl)

/-- granary/ring.nameOK -/
noncomputable def F.ring_nameOK (a0 : Value) : M Value :=
  bindO (lenS a0) fun x1 =>
  bindO (binV BinOp.lss x1 (Value.int IntKind.i64 1)) fun x2 =>
  M.bind (guardM x2 false (M.ret a0)) fun x3 =>
  M.bind (guardM x2 false (optM (lenS x3))) fun x4 =>
  M.bind (guardM x2 false (optM (binV BinOp.gtr x4 (Value.int IntKind.i64 40)))) fun x5 =>
  bindO (pickV x2 (Value.bool true) x5) fun x6 =>
  condM x6 (
    M.ret (Value.bool false)) (
    M.bind (sbM 5 a0) fun x7 =>
    bindO (lenL x7) fun x8 =>
    M.bind (loopM (fun l9 =>
      bindO (binV BinOp.lss (getL l9 0) x8) fun x10 =>
      condM x10 (
        bindO (idxA 1 x7 (getL l9 0)) fun x11 =>
        M.bind (rdM (ld1 x11)) fun x12 =>
        bindO (binV BinOp.leq (Value.int IntKind.u8 97) x12) fun x13 =>
        M.bind (guardM x13 true (M.ret x12)) fun x14 =>
        M.bind (guardM x13 true (optM (binV BinOp.leq x14 (Value.int IntKind.u8 122)))) fun x15 =>
        bindO (pickV x13 x15 (Value.bool false)) fun x16 =>
        bindO (binV BinOp.leq (Value.int IntKind.u8 48) x12) fun x17 =>
        M.bind (guardM x17 true (M.ret x12)) fun x18 =>
        M.bind (guardM x17 true (optM (binV BinOp.leq x18 (Value.int IntKind.u8 57)))) fun x19 =>
        bindO (pickV x17 x19 (Value.bool false)) fun x20 =>
        M.bind (guardM x20 false (M.ret x12)) fun x21 =>
        M.bind (guardM x20 false (optM (binV BinOp.eql x21 (Value.int IntKind.u8 45)))) fun x22 =>
        bindO (pickV x20 (Value.bool true) x22) fun x23 =>
        bindO (notV x16) fun x24 =>
        M.bind (guardM x24 true (M.ret x23)) fun x25 =>
        M.bind (guardM x24 true (optM (notV x25))) fun x26 =>
        M.bind (guardM x24 true (M.ret x26)) fun x27 =>
        M.bind (guardM x27 false (M.ret (getL l9 0))) fun x28 =>
        M.bind (guardM x27 false (optM (binV BinOp.eql x28 (Value.int IntKind.i64 0)))) fun x29 =>
        M.bind (guardM x24 true (optM (pickV x27 (Value.bool true) x29))) fun x30 =>
        bindO (pickV x24 x30 (Value.bool false)) fun x31 =>
        condM x31 (
          M.ret (Out.ret (Value.bool false))) (
          bindO (binV BinOp.add (getL l9 0) (Value.int IntKind.i64 1)) fun x32 =>
          M.ret (Out.norm [x32]))) (
        M.ret (Out.exit 0 [(getL l9 0)]))) [(Value.int IntKind.i64 0)]) fun o34 =>
    outK o34 (fun _ => M.fail) (fun i35 _ =>
      bif Nat.beq i35 0 then (
        M.ret (Value.bool true)) else
      M.fail) (fun r36 => M.ret r36))
def F.ring_nameOK.plan : Plan := (seq leaf (seq (seq leaf (cond (seq leaf leaf) leaf)) (seq (seq leaf (body (loop [18] [2, 3, 4, 5, 6, 18, 19, 20, 21, 22, 23, 24, 25, 26, 27, 28, 29, 30, 31, 32, 33, 34, 35, 36, 37, 38, 39, 40, 41, 42, 43, 44, 45, 46, 47, 48, 49] [0] (seq leaf (seq (cond leaf leaf) (seq (body (seq leaf (seq leaf (seq leaf (seq leaf (cond (seq leaf leaf) leaf)))))) leaf)))))) (seq leaf leaf))))
theorem F.ring_nameOK.lift : LiftOk Try.prog 33 (ap1 F.ring_nameOK) :=
  lift1 (g := evFn Try.prog tnil tnil 33 Try.f33 F.ring_nameOK.plan) (evFn_sound tnil_ok tnil_ok Try.func33 (by kernel_rfl)) (fun x0 => by kernel_rfl)

/-- granary/ring.settings -/
noncomputable def F.ring_settings : M Value :=
  bindO (buildV #[(Value.string ByteArray.empty), (Value.int IntKind.i64 0), (Value.int IntKind.i64 0), Value.nilFunc] [(0, 1, (Value.string (ByteArray.mk #[114, 101, 112, 108, 105, 99, 97, 115]))), (1, 1, (Value.int IntKind.i64 1)), (2, 1, (Value.int IntKind.i64 16)), (3, 1, (Value.func (Fn.func 38) #[] #[]))]) fun x1 =>
  bindO (buildV #[(Value.string ByteArray.empty), (Value.int IntKind.i64 0), (Value.int IntKind.i64 0), Value.nilFunc] [(0, 1, (Value.string (ByteArray.mk #[119, 105, 100, 116, 104]))), (1, 1, (Value.int IntKind.i64 1)), (2, 1, (Value.int IntKind.i64 16)), (3, 1, (Value.func (Fn.func 39) #[] #[]))]) fun x2 =>
  bindO (buildV #[(Value.string ByteArray.empty), (Value.int IntKind.i64 0), (Value.int IntKind.i64 0), Value.nilFunc] [(0, 1, (Value.string (ByteArray.mk #[99, 104, 117, 110, 107, 115]))), (1, 1, (Value.int IntKind.i64 1)), (2, 1, (Value.int IntKind.i64 16)), (3, 1, (Value.func (Fn.func 40) #[] #[]))]) fun x3 =>
  bindO (buildV #[(Value.string ByteArray.empty), (Value.int IntKind.i64 0), (Value.int IntKind.i64 0), Value.nilFunc] [(0, 1, (Value.string (ByteArray.mk #[114, 101, 116, 97, 105, 110]))), (1, 1, (Value.int IntKind.i64 1)), (2, 1, (Value.int IntKind.i64 8)), (3, 1, (Value.func (Fn.func 41) #[] #[]))]) fun x4 =>
  bindO (buildV #[(Value.string ByteArray.empty), (Value.int IntKind.i64 0), (Value.int IntKind.i64 0), Value.nilFunc] [(0, 1, (Value.string (ByteArray.mk #[98, 108, 111, 99, 107]))), (1, 1, (Value.int IntKind.i64 1)), (2, 1, (Value.int IntKind.i64 4096)), (3, 1, (Value.func (Fn.func 42) #[] #[]))]) fun x5 =>
  bindO (buildV #[(Value.string ByteArray.empty), (Value.int IntKind.i64 0), (Value.int IntKind.i64 0), Value.nilFunc] [(0, 1, (Value.string (ByteArray.mk #[114, 97, 116, 101]))), (1, 1, (Value.int IntKind.i64 1)), (2, 1, (Value.int IntKind.i64 65536)), (3, 1, (Value.func (Fn.func 43) #[] #[]))]) fun x6 =>
  bindO (buildV #[(Value.string ByteArray.empty), (Value.int IntKind.i64 0), (Value.int IntKind.i64 0), Value.nilFunc] [(0, 1, (Value.string (ByteArray.mk #[112, 101, 114]))), (1, 1, (Value.int IntKind.i64 1)), (2, 1, (Value.int IntKind.i64 1024)), (3, 1, (Value.func (Fn.func 44) #[] #[]))]) fun x7 =>
  bindO (buildV #[(Value.string ByteArray.empty), (Value.int IntKind.i64 0), (Value.int IntKind.i64 0), Value.nilFunc] [(0, 1, (Value.string (ByteArray.mk #[98, 117, 114, 115, 116]))), (1, 1, (Value.int IntKind.i64 1)), (2, 1, (Value.int IntKind.i64 65536)), (3, 1, (Value.func (Fn.func 45) #[] #[]))]) fun x8 =>
  bindO (buildV #[(Value.string ByteArray.empty), (Value.int IntKind.i64 0), (Value.int IntKind.i64 0), Value.nilFunc] [(0, 1, (Value.string (ByteArray.mk #[116, 114, 105, 101, 115]))), (1, 1, (Value.int IntKind.i64 1)), (2, 1, (Value.int IntKind.i64 64)), (3, 1, (Value.func (Fn.func 46) #[] #[]))]) fun x9 =>
  bindO (buildV #[(Value.string ByteArray.empty), (Value.int IntKind.i64 0), (Value.int IntKind.i64 0), Value.nilFunc] [(0, 1, (Value.string (ByteArray.mk #[98, 97, 115, 101]))), (1, 1, (Value.int IntKind.i64 1)), (2, 1, (Value.int IntKind.i64 1024)), (3, 1, (Value.func (Fn.func 47) #[] #[]))]) fun x10 =>
  bindO (buildV #[(Value.string ByteArray.empty), (Value.int IntKind.i64 0), (Value.int IntKind.i64 0), Value.nilFunc] [(0, 1, (Value.string (ByteArray.mk #[109, 111, 115, 116]))), (1, 1, (Value.int IntKind.i64 1)), (2, 1, (Value.int IntKind.i64 1024)), (3, 1, (Value.func (Fn.func 48) #[] #[]))]) fun x11 =>
  bindO (buildV #[(Value.string ByteArray.empty), (Value.int IntKind.i64 0), (Value.int IntKind.i64 0), Value.nilFunc] [(0, 1, (Value.string (ByteArray.mk #[113, 117, 111, 116, 97]))), (1, 1, (Value.int IntKind.i64 1)), (2, 1, (Value.int IntKind.i64 1073741824)), (3, 1, (Value.func (Fn.func 49) #[] #[]))]) fun x12 =>
  bindO (buildV #[(Value.string ByteArray.empty), (Value.int IntKind.i64 0), (Value.int IntKind.i64 0), Value.nilFunc] [(0, 1, (Value.string (ByteArray.mk #[114, 111, 111, 109]))), (1, 1, (Value.int IntKind.i64 1)), (2, 1, (Value.int IntKind.i64 1073741824)), (3, 1, (Value.func (Fn.func 50) #[] #[]))]) fun x13 =>
  bindO (buildV #[(Value.string ByteArray.empty), (Value.int IntKind.i64 0), (Value.int IntKind.i64 0), Value.nilFunc] [(0, 1, (Value.string (ByteArray.mk #[100, 101, 112, 111, 116]))), (1, 1, (Value.int IntKind.i64 1)), (2, 1, (Value.int IntKind.i64 1073741824)), (3, 1, (Value.func (Fn.func 51) #[] #[]))]) fun x14 =>
  bindO (buildV #[(Value.string ByteArray.empty), (Value.int IntKind.i64 0), (Value.int IntKind.i64 0), Value.nilFunc] [(0, 1, (Value.string (ByteArray.mk #[114, 101, 115, 101, 110, 100]))), (1, 1, (Value.int IntKind.i64 1)), (2, 1, (Value.int IntKind.i64 1024)), (3, 1, (Value.func (Fn.func 52) #[] #[]))]) fun x15 =>
  bindO (buildV #[(Value.string ByteArray.empty), (Value.int IntKind.i64 0), (Value.int IntKind.i64 0), Value.nilFunc] [(0, 1, (Value.string (ByteArray.mk #[108, 105, 109, 105, 116]))), (1, 1, (Value.int IntKind.i64 1)), (2, 1, (Value.int IntKind.i64 64)), (3, 1, (Value.func (Fn.func 53) #[] #[]))]) fun x16 =>
  bindO (buildV #[(Value.string ByteArray.empty), (Value.int IntKind.i64 0), (Value.int IntKind.i64 0), Value.nilFunc] [(0, 1, (Value.string (ByteArray.mk #[112, 97, 116, 105, 101, 110, 99, 101]))), (1, 1, (Value.int IntKind.i64 1)), (2, 1, (Value.int IntKind.i64 65536)), (3, 1, (Value.func (Fn.func 54) #[] #[]))]) fun x17 =>
  bindO (buildV #[(Value.string ByteArray.empty), (Value.int IntKind.i64 0), (Value.int IntKind.i64 0), Value.nilFunc] [(0, 1, (Value.string (ByteArray.mk #[103, 101, 116, 119, 97, 105, 116]))), (1, 1, (Value.int IntKind.i64 1)), (2, 1, (Value.int IntKind.i64 1024)), (3, 1, (Value.func (Fn.func 55) #[] #[]))]) fun x18 =>
  bindO (buildV #[(Value.string ByteArray.empty), (Value.int IntKind.i64 0), (Value.int IntKind.i64 0), Value.nilFunc] [(0, 1, (Value.string (ByteArray.mk #[115, 116, 114, 105, 107, 101, 115]))), (1, 1, (Value.int IntKind.i64 1)), (2, 1, (Value.int IntKind.i64 64)), (3, 1, (Value.func (Fn.func 56) #[] #[]))]) fun x19 =>
  bindO (buildV #[(Value.string ByteArray.empty), (Value.int IntKind.i64 0), (Value.int IntKind.i64 0), Value.nilFunc] [(0, 1, (Value.string (ByteArray.mk #[98, 97, 110]))), (1, 1, (Value.int IntKind.i64 1)), (2, 1, (Value.int IntKind.i64 1024)), (3, 1, (Value.func (Fn.func 57) #[] #[]))]) fun x20 =>
  bindO (buildV #[(Value.string ByteArray.empty), (Value.int IntKind.i64 0), (Value.int IntKind.i64 0), Value.nilFunc] [(0, 1, (Value.string (ByteArray.mk #[104, 111, 109, 101]))), (1, 1, (Value.int IntKind.i64 0)), (2, 1, (Value.int IntKind.i64 7)), (3, 1, (Value.func (Fn.func 58) #[] #[]))]) fun x21 =>
  M.bind (bslM 90 21 (Builtin.zeroCells #[(Value.string ByteArray.empty), (Value.int IntKind.i64 0), (Value.int IntKind.i64 0), Value.nilFunc] 21) [(0, 4, x1), (4, 4, x2), (8, 4, x3), (12, 4, x4), (16, 4, x5), (20, 4, x6), (24, 4, x7), (28, 4, x8), (32, 4, x9), (36, 4, x10), (40, 4, x11), (44, 4, x12), (48, 4, x13), (52, 4, x14), (56, 4, x15), (60, 4, x16), (64, 4, x17), (68, 4, x18), (72, 4, x19), (76, 4, x20), (80, 4, x21)]) fun x22 =>
  M.ret x22
def F.ring_settings.plan : Plan := (seq leaf (seq leaf leaf))
theorem F.ring_settings.lift : LiftOk Try.prog 34 (ap0 F.ring_settings) :=
  lift0 (g := evFn Try.prog tnil tnil 34 Try.f34 F.ring_settings.plan) (evFn_sound tnil_ok tnil_ok Try.func34 (by kernel_rfl)) (by kernel_rfl)

/-- granary/ring.settings$1 -/
noncomputable def F.ring_settings_1 (a0 : Value) : M Value :=
  bindO (nilChk a0) fun x1 =>
  bindO (fieldA 1 x1) fun x2 =>
  M.ret x2
def F.ring_settings_1.plan : Plan := (seq leaf (seq leaf leaf))
theorem F.ring_settings_1.lift : LiftOk Try.prog 38 (ap1 F.ring_settings_1) :=
  lift1 (g := evFn Try.prog tnil tnil 38 Try.f38 F.ring_settings_1.plan) (evFn_sound tnil_ok tnil_ok Try.func38 (by kernel_rfl)) (fun x0 => by kernel_rfl)

/-- granary/ring.settings$2 -/
noncomputable def F.ring_settings_2 (a0 : Value) : M Value :=
  bindO (nilChk a0) fun x1 =>
  bindO (fieldA 2 x1) fun x2 =>
  M.ret x2
def F.ring_settings_2.plan : Plan := (seq leaf (seq leaf leaf))
theorem F.ring_settings_2.lift : LiftOk Try.prog 39 (ap1 F.ring_settings_2) :=
  lift1 (g := evFn Try.prog tnil tnil 39 Try.f39 F.ring_settings_2.plan) (evFn_sound tnil_ok tnil_ok Try.func39 (by kernel_rfl)) (fun x0 => by kernel_rfl)

/-- granary/ring.settings$3 -/
noncomputable def F.ring_settings_3 (a0 : Value) : M Value :=
  bindO (nilChk a0) fun x1 =>
  bindO (fieldA 3 x1) fun x2 =>
  M.ret x2
def F.ring_settings_3.plan : Plan := (seq leaf (seq leaf leaf))
theorem F.ring_settings_3.lift : LiftOk Try.prog 40 (ap1 F.ring_settings_3) :=
  lift1 (g := evFn Try.prog tnil tnil 40 Try.f40 F.ring_settings_3.plan) (evFn_sound tnil_ok tnil_ok Try.func40 (by kernel_rfl)) (fun x0 => by kernel_rfl)

/-- granary/ring.settings$4 -/
noncomputable def F.ring_settings_4 (a0 : Value) : M Value :=
  bindO (nilChk a0) fun x1 =>
  bindO (fieldA 4 x1) fun x2 =>
  M.ret x2
def F.ring_settings_4.plan : Plan := (seq leaf (seq leaf leaf))
theorem F.ring_settings_4.lift : LiftOk Try.prog 41 (ap1 F.ring_settings_4) :=
  lift1 (g := evFn Try.prog tnil tnil 41 Try.f41 F.ring_settings_4.plan) (evFn_sound tnil_ok tnil_ok Try.func41 (by kernel_rfl)) (fun x0 => by kernel_rfl)

/-- granary/ring.settings$5 -/
noncomputable def F.ring_settings_5 (a0 : Value) : M Value :=
  bindO (nilChk a0) fun x1 =>
  bindO (fieldA 5 x1) fun x2 =>
  M.ret x2
def F.ring_settings_5.plan : Plan := (seq leaf (seq leaf leaf))
theorem F.ring_settings_5.lift : LiftOk Try.prog 42 (ap1 F.ring_settings_5) :=
  lift1 (g := evFn Try.prog tnil tnil 42 Try.f42 F.ring_settings_5.plan) (evFn_sound tnil_ok tnil_ok Try.func42 (by kernel_rfl)) (fun x0 => by kernel_rfl)

/-- granary/ring.settings$6 -/
noncomputable def F.ring_settings_6 (a0 : Value) : M Value :=
  bindO (nilChk a0) fun x1 =>
  bindO (fieldA 6 x1) fun x2 =>
  M.ret x2
def F.ring_settings_6.plan : Plan := (seq leaf (seq leaf leaf))
theorem F.ring_settings_6.lift : LiftOk Try.prog 43 (ap1 F.ring_settings_6) :=
  lift1 (g := evFn Try.prog tnil tnil 43 Try.f43 F.ring_settings_6.plan) (evFn_sound tnil_ok tnil_ok Try.func43 (by kernel_rfl)) (fun x0 => by kernel_rfl)

/-- granary/ring.settings$7 -/
noncomputable def F.ring_settings_7 (a0 : Value) : M Value :=
  bindO (nilChk a0) fun x1 =>
  bindO (fieldA 7 x1) fun x2 =>
  M.ret x2
def F.ring_settings_7.plan : Plan := (seq leaf (seq leaf leaf))
theorem F.ring_settings_7.lift : LiftOk Try.prog 44 (ap1 F.ring_settings_7) :=
  lift1 (g := evFn Try.prog tnil tnil 44 Try.f44 F.ring_settings_7.plan) (evFn_sound tnil_ok tnil_ok Try.func44 (by kernel_rfl)) (fun x0 => by kernel_rfl)

/-- granary/ring.settings$8 -/
noncomputable def F.ring_settings_8 (a0 : Value) : M Value :=
  bindO (nilChk a0) fun x1 =>
  bindO (fieldA 8 x1) fun x2 =>
  M.ret x2
def F.ring_settings_8.plan : Plan := (seq leaf (seq leaf leaf))
theorem F.ring_settings_8.lift : LiftOk Try.prog 45 (ap1 F.ring_settings_8) :=
  lift1 (g := evFn Try.prog tnil tnil 45 Try.f45 F.ring_settings_8.plan) (evFn_sound tnil_ok tnil_ok Try.func45 (by kernel_rfl)) (fun x0 => by kernel_rfl)

/-- granary/ring.settings$9 -/
noncomputable def F.ring_settings_9 (a0 : Value) : M Value :=
  bindO (nilChk a0) fun x1 =>
  bindO (fieldA 9 x1) fun x2 =>
  M.ret x2
def F.ring_settings_9.plan : Plan := (seq leaf (seq leaf leaf))
theorem F.ring_settings_9.lift : LiftOk Try.prog 46 (ap1 F.ring_settings_9) :=
  lift1 (g := evFn Try.prog tnil tnil 46 Try.f46 F.ring_settings_9.plan) (evFn_sound tnil_ok tnil_ok Try.func46 (by kernel_rfl)) (fun x0 => by kernel_rfl)

/-- granary/ring.settings$10 -/
noncomputable def F.ring_settings_10 (a0 : Value) : M Value :=
  bindO (nilChk a0) fun x1 =>
  bindO (fieldA 10 x1) fun x2 =>
  M.ret x2
def F.ring_settings_10.plan : Plan := (seq leaf (seq leaf leaf))
theorem F.ring_settings_10.lift : LiftOk Try.prog 47 (ap1 F.ring_settings_10) :=
  lift1 (g := evFn Try.prog tnil tnil 47 Try.f47 F.ring_settings_10.plan) (evFn_sound tnil_ok tnil_ok Try.func47 (by kernel_rfl)) (fun x0 => by kernel_rfl)

/-- granary/ring.settings$11 -/
noncomputable def F.ring_settings_11 (a0 : Value) : M Value :=
  bindO (nilChk a0) fun x1 =>
  bindO (fieldA 11 x1) fun x2 =>
  M.ret x2
def F.ring_settings_11.plan : Plan := (seq leaf (seq leaf leaf))
theorem F.ring_settings_11.lift : LiftOk Try.prog 48 (ap1 F.ring_settings_11) :=
  lift1 (g := evFn Try.prog tnil tnil 48 Try.f48 F.ring_settings_11.plan) (evFn_sound tnil_ok tnil_ok Try.func48 (by kernel_rfl)) (fun x0 => by kernel_rfl)

/-- granary/ring.settings$12 -/
noncomputable def F.ring_settings_12 (a0 : Value) : M Value :=
  bindO (nilChk a0) fun x1 =>
  bindO (fieldA 12 x1) fun x2 =>
  M.ret x2
def F.ring_settings_12.plan : Plan := (seq leaf (seq leaf leaf))
theorem F.ring_settings_12.lift : LiftOk Try.prog 49 (ap1 F.ring_settings_12) :=
  lift1 (g := evFn Try.prog tnil tnil 49 Try.f49 F.ring_settings_12.plan) (evFn_sound tnil_ok tnil_ok Try.func49 (by kernel_rfl)) (fun x0 => by kernel_rfl)

/-- granary/ring.settings$13 -/
noncomputable def F.ring_settings_13 (a0 : Value) : M Value :=
  bindO (nilChk a0) fun x1 =>
  bindO (fieldA 13 x1) fun x2 =>
  M.ret x2
def F.ring_settings_13.plan : Plan := (seq leaf (seq leaf leaf))
theorem F.ring_settings_13.lift : LiftOk Try.prog 50 (ap1 F.ring_settings_13) :=
  lift1 (g := evFn Try.prog tnil tnil 50 Try.f50 F.ring_settings_13.plan) (evFn_sound tnil_ok tnil_ok Try.func50 (by kernel_rfl)) (fun x0 => by kernel_rfl)

/-- granary/ring.settings$14 -/
noncomputable def F.ring_settings_14 (a0 : Value) : M Value :=
  bindO (nilChk a0) fun x1 =>
  bindO (fieldA 14 x1) fun x2 =>
  M.ret x2
def F.ring_settings_14.plan : Plan := (seq leaf (seq leaf leaf))
theorem F.ring_settings_14.lift : LiftOk Try.prog 51 (ap1 F.ring_settings_14) :=
  lift1 (g := evFn Try.prog tnil tnil 51 Try.f51 F.ring_settings_14.plan) (evFn_sound tnil_ok tnil_ok Try.func51 (by kernel_rfl)) (fun x0 => by kernel_rfl)

/-- granary/ring.settings$15 -/
noncomputable def F.ring_settings_15 (a0 : Value) : M Value :=
  bindO (nilChk a0) fun x1 =>
  bindO (fieldA 15 x1) fun x2 =>
  M.ret x2
def F.ring_settings_15.plan : Plan := (seq leaf (seq leaf leaf))
theorem F.ring_settings_15.lift : LiftOk Try.prog 52 (ap1 F.ring_settings_15) :=
  lift1 (g := evFn Try.prog tnil tnil 52 Try.f52 F.ring_settings_15.plan) (evFn_sound tnil_ok tnil_ok Try.func52 (by kernel_rfl)) (fun x0 => by kernel_rfl)

/-- granary/ring.settings$16 -/
noncomputable def F.ring_settings_16 (a0 : Value) : M Value :=
  bindO (nilChk a0) fun x1 =>
  bindO (fieldA 16 x1) fun x2 =>
  M.ret x2
def F.ring_settings_16.plan : Plan := (seq leaf (seq leaf leaf))
theorem F.ring_settings_16.lift : LiftOk Try.prog 53 (ap1 F.ring_settings_16) :=
  lift1 (g := evFn Try.prog tnil tnil 53 Try.f53 F.ring_settings_16.plan) (evFn_sound tnil_ok tnil_ok Try.func53 (by kernel_rfl)) (fun x0 => by kernel_rfl)

/-- granary/ring.settings$17 -/
noncomputable def F.ring_settings_17 (a0 : Value) : M Value :=
  bindO (nilChk a0) fun x1 =>
  bindO (fieldA 17 x1) fun x2 =>
  M.ret x2
def F.ring_settings_17.plan : Plan := (seq leaf (seq leaf leaf))
theorem F.ring_settings_17.lift : LiftOk Try.prog 54 (ap1 F.ring_settings_17) :=
  lift1 (g := evFn Try.prog tnil tnil 54 Try.f54 F.ring_settings_17.plan) (evFn_sound tnil_ok tnil_ok Try.func54 (by kernel_rfl)) (fun x0 => by kernel_rfl)

/-- granary/ring.settings$18 -/
noncomputable def F.ring_settings_18 (a0 : Value) : M Value :=
  bindO (nilChk a0) fun x1 =>
  bindO (fieldA 18 x1) fun x2 =>
  M.ret x2
def F.ring_settings_18.plan : Plan := (seq leaf (seq leaf leaf))
theorem F.ring_settings_18.lift : LiftOk Try.prog 55 (ap1 F.ring_settings_18) :=
  lift1 (g := evFn Try.prog tnil tnil 55 Try.f55 F.ring_settings_18.plan) (evFn_sound tnil_ok tnil_ok Try.func55 (by kernel_rfl)) (fun x0 => by kernel_rfl)

/-- granary/ring.settings$19 -/
noncomputable def F.ring_settings_19 (a0 : Value) : M Value :=
  bindO (nilChk a0) fun x1 =>
  bindO (fieldA 19 x1) fun x2 =>
  M.ret x2
def F.ring_settings_19.plan : Plan := (seq leaf (seq leaf leaf))
theorem F.ring_settings_19.lift : LiftOk Try.prog 56 (ap1 F.ring_settings_19) :=
  lift1 (g := evFn Try.prog tnil tnil 56 Try.f56 F.ring_settings_19.plan) (evFn_sound tnil_ok tnil_ok Try.func56 (by kernel_rfl)) (fun x0 => by kernel_rfl)

/-- granary/ring.settings$20 -/
noncomputable def F.ring_settings_20 (a0 : Value) : M Value :=
  bindO (nilChk a0) fun x1 =>
  bindO (fieldA 20 x1) fun x2 =>
  M.ret x2
def F.ring_settings_20.plan : Plan := (seq leaf (seq leaf leaf))
theorem F.ring_settings_20.lift : LiftOk Try.prog 57 (ap1 F.ring_settings_20) :=
  lift1 (g := evFn Try.prog tnil tnil 57 Try.f57 F.ring_settings_20.plan) (evFn_sound tnil_ok tnil_ok Try.func57 (by kernel_rfl)) (fun x0 => by kernel_rfl)

/-- granary/ring.settings$21 -/
noncomputable def F.ring_settings_21 (a0 : Value) : M Value :=
  bindO (nilChk a0) fun x1 =>
  bindO (fieldA 21 x1) fun x2 =>
  M.ret x2
def F.ring_settings_21.plan : Plan := (seq leaf (seq leaf leaf))
theorem F.ring_settings_21.lift : LiftOk Try.prog 58 (ap1 F.ring_settings_21) :=
  lift1 (g := evFn Try.prog tnil tnil 58 Try.f58 F.ring_settings_21.plan) (evFn_sound tnil_ok tnil_ok Try.func58 (by kernel_rfl)) (fun x0 => by kernel_rfl)

/-- What function values come to. -/
noncomputable def F.clos : Tab := (tcons 38 (ap1 F.ring_settings_1) (tcons 39 (ap1 F.ring_settings_2) (tcons 40 (ap1 F.ring_settings_3) (tcons 41 (ap1 F.ring_settings_4) (tcons 42 (ap1 F.ring_settings_5) (tcons 43 (ap1 F.ring_settings_6) (tcons 44 (ap1 F.ring_settings_7) (tcons 45 (ap1 F.ring_settings_8) (tcons 46 (ap1 F.ring_settings_9) (tcons 47 (ap1 F.ring_settings_10) (tcons 48 (ap1 F.ring_settings_11) (tcons 49 (ap1 F.ring_settings_12) (tcons 50 (ap1 F.ring_settings_13) (tcons 51 (ap1 F.ring_settings_14) (tcons 52 (ap1 F.ring_settings_15) (tcons 53 (ap1 F.ring_settings_16) (tcons 54 (ap1 F.ring_settings_17) (tcons 55 (ap1 F.ring_settings_18) (tcons 56 (ap1 F.ring_settings_19) (tcons 57 (ap1 F.ring_settings_20) (tcons 58 (ap1 F.ring_settings_21) tnil)))))))))))))))))))))
theorem F.clos_ok : TabOk Try.prog F.clos := (tcons_ok F.ring_settings_1.lift (tcons_ok F.ring_settings_2.lift (tcons_ok F.ring_settings_3.lift (tcons_ok F.ring_settings_4.lift (tcons_ok F.ring_settings_5.lift (tcons_ok F.ring_settings_6.lift (tcons_ok F.ring_settings_7.lift (tcons_ok F.ring_settings_8.lift (tcons_ok F.ring_settings_9.lift (tcons_ok F.ring_settings_10.lift (tcons_ok F.ring_settings_11.lift (tcons_ok F.ring_settings_12.lift (tcons_ok F.ring_settings_13.lift (tcons_ok F.ring_settings_14.lift (tcons_ok F.ring_settings_15.lift (tcons_ok F.ring_settings_16.lift (tcons_ok F.ring_settings_17.lift (tcons_ok F.ring_settings_18.lift (tcons_ok F.ring_settings_19.lift (tcons_ok F.ring_settings_20.lift (tcons_ok F.ring_settings_21.lift tnil_ok)))))))))))))))))))))

/-- granary/ring.within -/
noncomputable def F.ring_within (a0 a1 a2 : Value) : M Value :=
  bindO (binV BinOp.leq a1 a0) fun x1 =>
  M.bind (guardM x1 true (M.ret a0)) fun x2 =>
  M.bind (guardM x1 true (M.ret a2)) fun x3 =>
  M.bind (guardM x1 true (optM (binV BinOp.leq x2 x3))) fun x4 =>
  bindO (pickV x1 x4 (Value.bool false)) fun x5 =>
  M.ret x5
def F.ring_within.plan : Plan := (seq leaf (seq leaf leaf))
theorem F.ring_within.lift : LiftOk Try.prog 35 (ap3 F.ring_within) :=
  lift3 (g := evFn Try.prog tnil tnil 35 Try.f35 F.ring_within.plan) (evFn_sound tnil_ok tnil_ok Try.func35 (by kernel_rfl)) (fun x0 x1 x2 => by kernel_rfl)

/-- cmp.isNaN[int] -/
noncomputable def F.cmp_isNaN_inst (a0 : Value) : M Value :=
  bindO (binV BinOp.neq a0 a0) fun x1 =>
  M.ret x1
def F.cmp_isNaN_inst.plan : Plan := (seq leaf (seq leaf leaf))
theorem F.cmp_isNaN_inst.lift : LiftOk Try.prog 62 (ap1 F.cmp_isNaN_inst) :=
  lift1 (g := evFn Try.prog tnil tnil 62 Try.f62 F.cmp_isNaN_inst.plan) (evFn_sound tnil_ok tnil_ok Try.func62 (by kernel_rfl)) (fun x0 => by kernel_rfl)

/-- cmp.Less[int] -/
noncomputable def F.cmp_Less_inst (a0 a1 : Value) : M Value :=
  M.bind (F.cmp_isNaN_inst a0) fun x1 =>
  M.bind (guardM x1 true (M.ret a1)) fun x2 =>
  M.bind (guardM x1 true (F.cmp_isNaN_inst x2)) fun x3 =>
  M.bind (guardM x1 true (optM (notV x3))) fun x4 =>
  bindO (pickV x1 x4 (Value.bool false)) fun x5 =>
  M.bind (guardM x5 false (M.ret a0)) fun x6 =>
  M.bind (guardM x5 false (M.ret a1)) fun x7 =>
  M.bind (guardM x5 false (optM (binV BinOp.lss x6 x7))) fun x8 =>
  bindO (pickV x5 (Value.bool true) x8) fun x9 =>
  M.ret x9
def F.cmp_Less_inst.plan : Plan := (seq leaf (seq leaf leaf))
theorem F.cmp_Less_inst.lift : LiftOk Try.prog 61 (ap2 F.cmp_Less_inst) :=
  lift2 (g := evFn Try.prog (tcons 62 (ap1 F.cmp_isNaN_inst) tnil) tnil 61 Try.f61 F.cmp_Less_inst.plan) (evFn_sound (tcons_ok F.cmp_isNaN_inst.lift tnil_ok) tnil_ok Try.func61 (by kernel_rfl)) (fun x0 x1 => by kernel_rfl)

/-- slices.IsSorted[[]int,int] -/
noncomputable def F.slices_IsSorted_inst (a0 : Value) : M Value :=
  bindO (lenL a0) fun x1 =>
  bindO (binV BinOp.sub x1 (Value.int IntKind.i64 1)) fun x2 =>
  M.bind (loopM (fun l3 =>
    bindO (binV BinOp.gtr (getL l3 0) (Value.int IntKind.i64 0)) fun x4 =>
    condM x4 (
      drewM <|
      bindO (idxA 1 a0 (getL l3 0)) fun x5 =>
      M.bind (rdM (ld1 x5)) fun x6 =>
      bindO (binV BinOp.sub (getL l3 0) (Value.int IntKind.i64 1)) fun x7 =>
      bindO (idxA 1 a0 x7) fun x8 =>
      M.bind (rdM (ld1 x8)) fun x9 =>
      M.bind (F.cmp_Less_inst x6 x9) fun x10 =>
      condM x10 (
        M.ret (Out.ret (Value.bool false))) (
        bindO (binV BinOp.sub (getL l3 0) (Value.int IntKind.i64 1)) fun x11 =>
        M.ret (Out.norm [x11]))) (
      M.ret (Out.exit 0 [(getL l3 0)]))) [x2]) fun o13 =>
  outK o13 (fun _ => M.fail) (fun i14 _ =>
    bif Nat.beq i14 0 then (
      M.ret (Value.bool true)) else
    M.fail) (fun r15 => M.ret r15)
def F.slices_IsSorted_inst.plan : Plan := (seq leaf (seq (seq leaf (body (loop [3] [2, 3, 7, 8, 9, 10, 11, 12, 13, 14, 15, 16, 17, 18, 19, 20] [0] (seq (seq leaf (cond leaf leaf)) (seq (body (seq leaf (cond (seq leaf leaf) leaf))) leaf))))) (seq leaf leaf)))
theorem F.slices_IsSorted_inst.lift : LiftOk Try.prog 60 (ap1 F.slices_IsSorted_inst) :=
  lift1 (g := evFn Try.prog (tcons 61 (ap2 F.cmp_Less_inst) tnil) tnil 60 Try.f60 F.slices_IsSorted_inst.plan) (evFn_sound (tcons_ok F.cmp_Less_inst.lift tnil_ok) tnil_ok Try.func60 (by kernel_rfl)) (fun x0 => by kernel_rfl)

/-- sort.IntsAreSorted -/
noncomputable def F.sort_IntsAreSorted (a0 : Value) : M Value :=
  M.bind (F.slices_IsSorted_inst a0) fun x1 =>
  M.ret x1
def F.sort_IntsAreSorted.plan : Plan := (seq leaf (seq leaf leaf))
theorem F.sort_IntsAreSorted.lift : LiftOk Try.prog 59 (ap1 F.sort_IntsAreSorted) :=
  lift1 (g := evFn Try.prog (tcons 60 (ap1 F.slices_IsSorted_inst) tnil) tnil 59 Try.f59 F.sort_IntsAreSorted.plan) (evFn_sound (tcons_ok F.slices_IsSorted_inst.lift tnil_ok) tnil_ok Try.func59 (by kernel_rfl)) (fun x0 => by kernel_rfl)

/-- granary/ring.homes -/
noncomputable def F.ring_homes (a0 : Value) : M Value :=
  M.bind (newM 24 (Value.cells a0)) fun x1 =>
  bindO (fieldA 22 x1) fun x2 =>
  M.bind (rdM (ld1 x2)) fun x3 =>
  bindO (lenL x3) fun x4 =>
  M.bind (loopM (fun l5 =>
    bindO (binV BinOp.lss (getL l5 1) x4) fun x6 =>
    condM x6 (
      bindO (idxA 2 x3 (getL l5 1)) fun x7 =>
      M.bind (rdM (ldA 2 x7)) fun x8 =>
      M.bind (newM 73 #[(Value.int IntKind.i64 0), (Value.slice none 0 0)]) fun x9 =>
      M.bind (stM 2 x9 x8) fun _ =>
      bindO (fieldA 1 x9) fun x11 =>
      M.bind (rdM (ld1 x11)) fun x12 =>
      bindO (lenL x12) fun x13 =>
      bindO (binV BinOp.add (getL l5 0) x13) fun x14 =>
      bindO (binV BinOp.add (getL l5 1) (Value.int IntKind.i64 1)) fun x15 =>
      M.ret (Out.norm [x14, x15])) (
      M.ret (Out.exit 0 [(getL l5 0), (getL l5 1)]))) [(Value.int IntKind.i64 0), (Value.int IntKind.i64 0)]) fun o17 =>
  outK o17 (fun _ => M.fail) (fun i18 l16 =>
    bif Nat.beq i18 0 then (
      M.bind (F.ring_within (getL l16 0) (Value.int IntKind.i64 1) (Value.int IntKind.i64 64)) fun x20 =>
      bindO (notV x20) fun x21 =>
      condM x21 (
        M.ret (Value.tuple #[(Value.slice none 0 0), (Value.int IntKind.i64 66)])) (
        M.bind (mksM 3 1 8 #[(Value.int IntKind.i64 0)] (getL l16 0) (getL l16 0)) fun x22 =>
        bindO (lenL x22) fun x23 =>
        M.bind (loopM (fun l24 =>
          bindO (binV BinOp.lss (getL l24 0) x23) fun x25 =>
          condM x25 (
            bindO (idxA 1 x22 (getL l24 0)) fun x26 =>
            M.bind (stM 1 x26 (Value.int IntKind.i64 (-1))) fun _ =>
            bindO (binV BinOp.add (getL l24 0) (Value.int IntKind.i64 1)) fun x28 =>
            M.ret (Out.norm [x28])) (
            M.ret (Out.exit 2 [(getL l24 0)]))) [(Value.int IntKind.i64 0)]) fun o30 =>
        outK o30 (fun _ => M.fail) (fun i31 _ =>
          bif Nat.beq i31 2 then (
            bindO (fieldA 22 x1) fun x33 =>
            M.bind (rdM (ld1 x33)) fun x34 =>
            bindO (lenL x34) fun x35 =>
            M.bind (loopM (fun l36 =>
              bindO (binV BinOp.lss (getL l36 0) x35) fun x37 =>
              condM x37 (
                bindO (idxA 2 x34 (getL l36 0)) fun x38 =>
                M.bind (rdM (ldA 2 x38)) fun x39 =>
                M.bind (newM 73 #[(Value.int IntKind.i64 0), (Value.slice none 0 0)]) fun x40 =>
                M.bind (stM 2 x40 x39) fun _ =>
                bindO (fieldA 1 x40) fun x42 =>
                M.bind (rdM (ld1 x42)) fun x43 =>
                M.bind (F.sort_IntsAreSorted x43) fun x44 =>
                bindO (notV x44) fun x45 =>
                condM x45 (
                  M.ret (Out.ret (Value.tuple #[(Value.slice none 0 0), (Value.int IntKind.i64 66)]))) (
                  bindO (fieldA 1 x40) fun x46 =>
                  M.bind (rdM (ld1 x46)) fun x47 =>
                  bindO (lenL x47) fun x48 =>
                  M.bind (loopM (fun l49 =>
                    bindO (binV BinOp.lss (getL l49 0) x48) fun x50 =>
                    condM x50 (
                      bindO (idxA 1 x47 (getL l49 0)) fun x51 =>
                      M.bind (rdM (ld1 x51)) fun x52 =>
                      bindO (binV BinOp.lss x52 (Value.int IntKind.i64 0)) fun x53 =>
                      M.bind (guardM x53 false (M.ret x52)) fun x54 =>
                      M.bind (guardM x53 false (M.ret (getL l16 0))) fun x55 =>
                      M.bind (guardM x53 false (optM (binV BinOp.geq x54 x55))) fun x56 =>
                      bindO (pickV x53 (Value.bool true) x56) fun x57 =>
                      M.bind (guardM x57 false (M.ret x22)) fun x58 =>
                      M.bind (guardM x57 false (M.ret x52)) fun x59 =>
                      M.bind (guardM x57 false (optM (idxA 1 x58 x59))) fun x60 =>
                      M.bind (guardM x57 false (rdM (ld1 x60))) fun x61 =>
                      M.bind (guardM x57 false (optM (binV BinOp.geq x61 (Value.int IntKind.i64 0)))) fun x62 =>
                      bindO (pickV x57 (Value.bool true) x62) fun x63 =>
                      condM x63 (
                        M.ret (Out.ret (Value.tuple #[(Value.slice none 0 0), (Value.int IntKind.i64 66)]))) (
                        bindO (idxA 1 x22 x52) fun x64 =>
                        M.bind (stM 1 x64 (getL l36 0)) fun _ =>
                        bindO (binV BinOp.add (getL l49 0) (Value.int IntKind.i64 1)) fun x66 =>
                        M.ret (Out.norm [x66]))) (
                      M.ret (Out.exit 6 [(getL l49 0)]))) [(Value.int IntKind.i64 0)]) fun o68 =>
                  outK o68 (fun _ => M.fail) (fun i69 _ =>
                    bif Nat.beq i69 6 then (
                      bindO (binV BinOp.add (getL l36 0) (Value.int IntKind.i64 1)) fun x71 =>
                      M.ret (Out.norm [x71])) else
                    M.fail) (fun r70 => M.ret (Out.ret r70)))) (
                M.ret (Out.exit 4 [(getL l36 0)]))) [(Value.int IntKind.i64 0)]) fun o73 =>
            outK o73 (fun _ => M.fail) (fun i74 _ =>
              bif Nat.beq i74 4 then (
                M.ret (Value.tuple #[x22, (Value.int IntKind.i64 0)])) else
              M.fail) (fun r75 => M.ret r75)) else
          M.fail) (fun r32 => M.ret r32))) else
    M.fail) (fun r19 => M.ret r19)
def F.ring_homes.plan : Plan := (seq leaf (seq leaf (seq (seq leaf (body (loop [4, 16] [4, 6, 16, 17, 18, 19, 20, 21, 22, 23, 24, 25] [0] (seq leaf (seq (cond leaf leaf) (seq (body (seq leaf leaf)) leaf)))))) (seq (seq leaf (cond (seq leaf leaf) leaf)) (seq leaf (seq (seq leaf (body (loop [33] [8, 33, 34, 35, 36, 37, 38, 39] [2] (seq leaf (seq (cond leaf leaf) (seq (body (seq leaf leaf)) leaf)))))) (seq (seq leaf (body (loop [43] [2, 3, 9, 10, 12, 43, 44, 45, 46, 47, 48, 49, 50, 51, 52, 53, 54, 55, 56, 57, 58, 59, 60, 61, 62, 63, 64, 65, 66, 67, 68, 69, 70, 71, 72, 73, 74, 75, 76, 77, 78] [4] (seq leaf (seq (cond leaf leaf) (seq (body (seq leaf (seq (seq leaf (cond (seq leaf leaf) leaf)) (seq leaf (body (loop [55] [2, 3, 12, 55, 56, 57, 58, 59, 60, 61, 62, 63, 64, 65, 66, 67, 68, 69, 70, 71, 72, 73, 74, 75, 76, 77] [6] (seq leaf (seq (cond leaf leaf) (seq (body (seq leaf (seq (seq leaf (cond (seq leaf leaf) leaf)) leaf))) leaf))))))))) leaf)))))) (seq leaf leaf))))))))
theorem F.ring_homes.lift : LiftOk Try.prog 36 (ap1 F.ring_homes) :=
  lift1 (g := evFn Try.prog (tcons 35 (ap3 F.ring_within) (tcons 59 (ap1 F.sort_IntsAreSorted) tnil)) tnil 36 Try.f36 F.ring_homes.plan) (evFn_sound (tcons_ok F.ring_within.lift (tcons_ok F.sort_IntsAreSorted.lift tnil_ok)) tnil_ok Try.func36 (by kernel_rfl)) (fun x0 => by kernel_rfl)

/-- granary/ring.checked -/
noncomputable def F.ring_checked (a0 : Value) : M Value :=
  M.bind (newM 24 (Value.cells a0)) fun x1 =>
  bindO (fieldA 0 x1) fun x2 =>
  M.bind (rdM (ld1 x2)) fun x3 =>
  M.bind (F.ring_nameOK x3) fun x4 =>
  bindO (notV x4) fun x5 =>
  condM x5 (
    M.ret (Value.tuple #[(Value.slice none 0 0), (Value.int IntKind.i64 63)])) (
    M.bind (F.ring_settings) fun x6 =>
    bindO (lenL x6) fun x7 =>
    M.bind (loopM (fun l8 =>
      bindO (binV BinOp.lss (getL l8 0) x7) fun x9 =>
      condM x9 (
        bindO (idxA 4 x6 (getL l8 0)) fun x10 =>
        M.bind (rdM (ldA 4 x10)) fun x11 =>
        M.bind (newM 90 #[(Value.string ByteArray.empty), (Value.int IntKind.i64 0), (Value.int IntKind.i64 0), Value.nilFunc]) fun x12 =>
        M.bind (stM 4 x12 x11) fun _ =>
        drewM <|
        getM fun W14 =>
        bindO (fieldA 3 x12) fun x15 =>
        M.bind (rdM (ld1 x15)) fun x16 =>
        M.bind (callV F.clos x16 [x1]) fun x17 =>
        getM fun _ =>
        bindO (nilChk x17) fun x19 =>
        M.bind (rdM (ld1 x19)) fun x20 =>
        bindO (fieldA 1 x12) fun x21 =>
        M.bind (rdM (ld1 x21)) fun x22 =>
        bindO (fieldA 2 x12) fun x23 =>
        M.bind (rdM (ld1 x23)) fun x24 =>
        M.bind (F.ring_within x20 x22 x24) fun x25 =>
        getM fun _ =>
        bindO (notV x25) fun x27 =>
        reqM (ld1 x21 W14 = some x22) <|
        reqM (ld1 x23 W14 = some x24) <|
        condM x27 (
          M.ret (Out.ret (Value.tuple #[(Value.slice none 0 0), (Value.int IntKind.i64 64)]))) (
          bindO (binV BinOp.add (getL l8 0) (Value.int IntKind.i64 1)) fun x28 =>
          M.ret (Out.norm [x28]))) (
        M.ret (Out.exit 0 [(getL l8 0)]))) [(Value.int IntKind.i64 0)]) fun o30 =>
    outK o30 (fun _ => M.fail) (fun i31 _ =>
      bif Nat.beq i31 0 then (
        bindO (fieldA 8 x1) fun x33 =>
        M.bind (rdM (ld1 x33)) fun x34 =>
        bindO (fieldA 5 x1) fun x35 =>
        M.bind (rdM (ld1 x35)) fun x36 =>
        bindO (binV BinOp.lss x34 x36) fun x37 =>
        M.bind (guardM x37 false (optM (fieldA 11 x1))) fun x38 =>
        M.bind (guardM x37 false (rdM (ld1 x38))) fun x39 =>
        M.bind (guardM x37 false (optM (fieldA 10 x1))) fun x40 =>
        M.bind (guardM x37 false (rdM (ld1 x40))) fun x41 =>
        M.bind (guardM x37 false (optM (binV BinOp.lss x39 x41))) fun x42 =>
        bindO (pickV x37 (Value.bool true) x42) fun x43 =>
        condM x43 (
          M.ret (Value.tuple #[(Value.slice none 0 0), (Value.int IntKind.i64 64)])) (
          bindO (fieldA 22 x1) fun x44 =>
          M.bind (rdM (ld1 x44)) fun x45 =>
          bindO (lenL x45) fun x46 =>
          M.bind (F.ring_within x46 (Value.int IntKind.i64 1) (Value.int IntKind.i64 16)) fun x47 =>
          bindO (notV x47) fun x48 =>
          condM x48 (
            M.ret (Value.tuple #[(Value.slice none 0 0), (Value.int IntKind.i64 65)])) (
            bindO (fieldA 22 x1) fun x49 =>
            M.bind (rdM (ld1 x49)) fun x50 =>
            bindO (lenL x50) fun x51 =>
            M.bind (loopM (fun l52 =>
              bindO (binV BinOp.lss (getL l52 1) x51) fun x53 =>
              condM x53 (
                M.bind (
                  bindO (idxA 2 x50 (getL l52 1)) fun x54 =>
                  M.bind (rdM (ldA 2 x54)) fun x55 =>
                  M.bind (newM 73 #[(Value.int IntKind.i64 0), (Value.slice none 0 0)]) fun x56 =>
                  M.bind (stM 2 x56 x55) fun _ =>
                  bindO (fieldA 0 x56) fun x58 =>
                  M.bind (rdM (ld1 x58)) fun x59 =>
                  M.bind (F.ring_within x59 (Value.int IntKind.i64 0) (Value.int IntKind.i64 7)) fun x60 =>
                  bindO (notV x60) fun x61 =>
                  condM x61 (
                    M.ret (Out.ret (Value.tuple #[(Value.slice none 0 0), (Value.int IntKind.i64 65)]))) (
                    bindO (fieldA 1 x56) fun x62 =>
                    M.bind (rdM (ld1 x62)) fun x63 =>
                    bindO (lenL x63) fun x64 =>
                    bindO (binV BinOp.gtr x64 (Value.int IntKind.i64 0)) fun x65 =>
                    condM x65 (
                      bindO (binV BinOp.add (getL l52 0) (Value.int IntKind.i64 1)) fun x66 =>
                      M.ret (Out.norm [x66])) (
                      M.ret (Out.norm [(getL l52 0)])))) fun o68 =>
                outK o68 (fun l67 =>
                  bindO (binV BinOp.add (getL l52 1) (Value.int IntKind.i64 1)) fun x71 =>
                  M.ret (Out.norm [(getL l67 0), x71])) (fun _ _ =>
                  M.fail) (fun r70 => M.ret (Out.ret r70))) (
                M.ret (Out.exit 2 [(getL l52 0), (getL l52 1)]))) [(Value.int IntKind.i64 0), (Value.int IntKind.i64 0)]) fun o74 =>
            outK o74 (fun _ => M.fail) (fun i75 l73 =>
              bif Nat.beq i75 2 then (
                M.bind (rdM (ldA 23 x1)) fun x77 =>
                M.bind (F.ring_homes x77) fun x78 =>
                bindO (extV 0 x78) fun x79 =>
                bindO (extV 1 x78) fun x80 =>
                bindO (binV BinOp.neq x80 (Value.int IntKind.i64 0)) fun x81 =>
                condM x81 (
                  M.ret (Value.tuple #[(Value.slice none 0 0), x80])) (
                  bindO (fieldA 1 x1) fun x82 =>
                  M.bind (rdM (ld1 x82)) fun x83 =>
                  bindO (binV BinOp.gtr x83 (getL l73 0)) fun x84 =>
                  condM x84 (
                    M.ret (Value.tuple #[(Value.slice none 0 0), (Value.int IntKind.i64 67)])) (
                    bindO (lenL x79) fun x85 =>
                    bindO (fieldA 1 x1) fun x86 =>
                    M.bind (rdM (ld1 x86)) fun x87 =>
                    bindO (binV BinOp.mul x85 x87) fun x88 =>
                    bindO (fieldA 3 x1) fun x89 =>
                    M.bind (rdM (ld1 x89)) fun x90 =>
                    bindO (binV BinOp.mul x88 x90) fun x91 =>
                    bindO (binV BinOp.gtr x91 (Value.int IntKind.i64 512)) fun x92 =>
                    condM x92 (
                      M.ret (Value.tuple #[(Value.slice none 0 0), (Value.int IntKind.i64 3)])) (
                      M.ret (Value.tuple #[x79, (Value.int IntKind.i64 0)]))))) else
              M.fail) (fun r76 => M.ret r76)))) else
      M.fail) (fun r32 => M.ret r32))
def F.ring_checked.plan : Plan := (seq leaf (seq (seq leaf (cond (seq leaf leaf) leaf)) (seq (seq leaf (body (loop [17] [2, 3, 5, 17, 18, 19, 20, 21, 22, 23, 24, 25, 26, 27, 28, 29, 30, 31, 32] [0] (seq leaf (seq (cond leaf leaf) (seq (body (seq leaf (seq leaf (cond (seq leaf leaf) leaf)))) leaf)))))) (seq (seq leaf (cond (seq leaf leaf) leaf)) (seq (seq leaf (cond (seq leaf leaf) leaf)) (seq leaf (seq (seq leaf (body (loop [6, 53] [2, 3, 6, 8, 53, 54, 55, 56, 57, 58, 59, 60, 61, 62, 63, 64, 65, 66, 67] [2] (seq leaf (seq (cond leaf leaf) (fork [6] [2, 3, 6, 8, 55, 56, 57, 58, 59, 60, 61, 62, 63, 64, 65, 66] [] (body (seq leaf (seq (seq leaf (cond (seq leaf leaf) leaf)) (seq leaf (cond leaf leaf))))) leaf)))))) (seq leaf (seq (seq leaf (cond (seq leaf leaf) leaf)) (seq (seq leaf (cond (seq leaf leaf) leaf)) (seq (seq leaf (cond (seq leaf leaf) leaf)) (seq leaf leaf))))))))))))
theorem F.ring_checked.lift : LiftOk Try.prog 23 (ap1 F.ring_checked) :=
  lift1 (g := evFn Try.prog (tcons 33 (ap1 F.ring_nameOK) (tcons 34 (ap0 F.ring_settings) (tcons 35 (ap3 F.ring_within) (tcons 36 (ap1 F.ring_homes) tnil)))) F.clos 23 Try.f23 F.ring_checked.plan) (evFn_sound (tcons_ok F.ring_nameOK.lift (tcons_ok F.ring_settings.lift (tcons_ok F.ring_within.lift (tcons_ok F.ring_homes.lift tnil_ok)))) F.clos_ok Try.func23 (by kernel_rfl)) (fun x0 => by kernel_rfl)

/-- granary/ring.Check -/
noncomputable def F.ring_Check (a0 : Value) : M Value :=
  M.bind (newM 24 (Value.cells a0)) fun x1 =>
  M.bind (rdM (ldA 23 x1)) fun x2 =>
  M.bind (F.ring_checked x2) fun x3 =>
  bindO (extV 0 x3) fun _ =>
  bindO (extV 1 x3) fun x5 =>
  M.ret x5
def F.ring_Check.plan : Plan := (seq leaf (seq leaf (seq leaf leaf)))
theorem F.ring_Check.lift : LiftOk Try.prog 7 (ap1 F.ring_Check) :=
  lift1 (g := evFn Try.prog (tcons 23 (ap1 F.ring_checked) tnil) tnil 7 Try.f7 F.ring_Check.plan) (evFn_sound (tcons_ok F.ring_checked.lift tnil_ok) tnil_ok Try.func7 (by kernel_rfl)) (fun x0 => by kernel_rfl)

/-- granary/granarylaw21.num -/
noncomputable def F.granarylaw21_num (a0 : Value) : M Value :=
  M.ret a0
def F.granarylaw21_num.plan : Plan := (seq leaf (seq leaf leaf))
theorem F.granarylaw21_num.lift : LiftOk Try.prog 6 (ap1 F.granarylaw21_num) :=
  lift1 (g := evFn Try.prog tnil tnil 6 Try.f6 F.granarylaw21_num.plan) (evFn_sound tnil_ok tnil_ok Try.func6 (by kernel_rfl)) (fun x0 => by kernel_rfl)

/-- granary/ring.round -/
noncomputable def F.ring_round (a0 a1 a2 : Value) : M Value :=
  M.bind (loopM (fun l1 =>
    bindO (lenL a0) fun x2 =>
    bindO (binV BinOp.lss (getL l1 1) x2) fun x3 =>
    M.bind (guardM x3 true (M.ret (getL l1 0))) fun x4 =>
    M.bind (guardM x3 true (optM (lenL x4))) fun x5 =>
    M.bind (guardM x3 true (M.ret a2)) fun x6 =>
    M.bind (guardM x3 true (optM (binV BinOp.lss x5 x6))) fun x7 =>
    bindO (pickV x3 x7 (Value.bool false)) fun x8 =>
    condM x8 (
      M.bind (
        bindO (binV BinOp.add a1 (getL l1 1)) fun x9 =>
        bindO (lenL a0) fun x10 =>
        bindO (binV BinOp.rem x9 x10) fun x11 =>
        bindO (lenL (getL l1 0)) fun x12 =>
        M.bind (loopM (fun l13 =>
          bindO (binV BinOp.lss (getL l13 0) x12) fun x14 =>
          condM x14 (
            bindO (idxA 1 (getL l1 0) (getL l13 0)) fun x15 =>
            M.bind (rdM (ld1 x15)) fun x16 =>
            drewM <|
            bindO (idxA 1 a0 x16) fun x17 =>
            M.bind (rdM (ld1 x17)) fun x18 =>
            bindO (idxA 1 a0 x11) fun x19 =>
            M.bind (rdM (ld1 x19)) fun x20 =>
            bindO (binV BinOp.eql x18 x20) fun x21 =>
            condM x21 (
              M.ret (Out.exit 1 [(getL l13 0)])) (
              bindO (binV BinOp.add (getL l13 0) (Value.int IntKind.i64 1)) fun x22 =>
              M.ret (Out.norm [x22]))) (
            M.ret (Out.exit 2 [(getL l13 0)]))) [(Value.int IntKind.i64 0)]) fun o24 =>
        outK o24 (fun _ => M.fail) (fun i25 _ =>
          bif Nat.beq i25 2 then (
            M.bind (bslM 3 1 (Builtin.zeroCells #[(Value.int IntKind.i64 0)] 1) [(0, 1, x11)]) fun x27 =>
            M.bind (appM 3 1 8 #[(Value.int IntKind.i64 0)] (getL l1 0) x27) fun x28 =>
            M.ret (Out.norm [x28])) else
          bif Nat.beq i25 1 then (
            M.ret (Out.norm [(getL l1 0)])) else
          M.fail) (fun r26 => M.ret (Out.ret r26))) fun o30 =>
      outK o30 (fun l29 =>
        bindO (binV BinOp.add (getL l1 1) (Value.int IntKind.i64 1)) fun x33 =>
        M.ret (Out.norm [(getL l29 0), x33])) (fun _ _ =>
        M.fail) (fun r32 => M.ret (Out.ret r32))) (
      M.ret (Out.exit 0 [(getL l1 0), (getL l1 1)]))) [(Value.slice none 0 0), (Value.int IntKind.i64 0)]) fun o36 =>
  outK o36 (fun _ => M.fail) (fun i37 l35 =>
    bif Nat.beq i37 0 then (
      M.ret (getL l35 0)) else
    M.fail) (fun r38 => M.ret r38)
def F.ring_round.plan : Plan := (seq leaf (body (seq leaf (seq leaf (seq (seq leaf (body (loop [7, 8] [7, 8, 9, 11, 12, 13, 14, 15, 16, 17, 18, 19, 20, 21, 22, 23, 24, 25, 26, 27, 28, 29, 30, 31, 32, 33, 34, 35, 36, 37, 38, 39, 40, 41, 42, 43, 44, 45, 46, 47, 48, 49] [0] (seq (seq leaf (cond leaf leaf)) (fork [7] [7, 9, 11, 24, 25, 26, 27, 28, 29, 30, 31, 32, 33, 34, 35, 36, 37, 38, 39, 40, 41, 42, 43, 44, 45, 46, 47, 48, 49] [] (body (seq leaf (seq (seq leaf (body (loop [32] [11, 32, 33, 34, 35, 36, 37, 38, 39, 40, 41, 42, 43, 44, 45] [2, 1] (seq leaf (seq (cond leaf leaf) (seq (body (seq leaf (seq leaf (cond leaf leaf)))) leaf)))))) leaf))) leaf))))) (seq leaf leaf))))))
theorem F.ring_round.lift : LiftOk Try.prog 37 (ap3 F.ring_round) :=
  lift3 (g := evFn Try.prog tnil tnil 37 Try.f37 F.ring_round.plan) (evFn_sound tnil_ok tnil_ok Try.func37 (by kernel_rfl)) (fun x0 x1 x2 => by kernel_rfl)

/-- granary/ring.Owners -/
noncomputable def F.ring_Owners (a0 a1 : Value) : M Value :=
  M.bind (newM 24 (Value.cells a0)) fun x1 =>
  M.bind (rdM (ldA 23 x1)) fun x2 =>
  M.bind (F.ring_checked x2) fun x3 =>
  bindO (extV 0 x3) fun x4 =>
  bindO (extV 1 x3) fun x5 =>
  bindO (binV BinOp.neq x5 (Value.int IntKind.i64 0)) fun x6 =>
  condM x6 (
    M.ret (Value.tuple #[(Value.slice none 0 0), x5])) (
    bindO (lenL x4) fun x7 =>
    bindO (binV BinOp.sub x7 (Value.int IntKind.i64 1)) fun x8 =>
    M.bind (F.ring_within a1 (Value.int IntKind.i64 0) x8) fun x9 =>
    bindO (notV x9) fun x10 =>
    condM x10 (
      M.ret (Value.tuple #[(Value.slice none 0 0), (Value.int IntKind.i64 69)])) (
      bindO (fieldA 1 x1) fun x11 =>
      M.bind (rdM (ld1 x11)) fun x12 =>
      M.bind (F.ring_round x4 a1 x12) fun x13 =>
      bindO (lenL x13) fun x14 =>
      M.bind (loopM (fun l15 =>
        bindO (binV BinOp.lss (getL l15 1) x14) fun x16 =>
        condM x16 (
          bindO (idxA 1 x13 (getL l15 1)) fun x17 =>
          M.bind (rdM (ld1 x17)) fun x18 =>
          bindO (idxA 1 x4 x18) fun x19 =>
          M.bind (rdM (ld1 x19)) fun x20 =>
          M.bind (bslM 3 1 (Builtin.zeroCells #[(Value.int IntKind.i64 0)] 1) [(0, 1, x20)]) fun x21 =>
          M.bind (appM 3 1 8 #[(Value.int IntKind.i64 0)] (getL l15 0) x21) fun x22 =>
          bindO (binV BinOp.add (getL l15 1) (Value.int IntKind.i64 1)) fun x23 =>
          M.ret (Out.norm [x22, x23])) (
          M.ret (Out.exit 0 [(getL l15 0), (getL l15 1)]))) [(Value.slice none 0 0), (Value.int IntKind.i64 0)]) fun o25 =>
      outK o25 (fun _ => M.fail) (fun i26 l24 =>
        bif Nat.beq i26 0 then (
          M.ret (Value.tuple #[(getL l24 0), (Value.int IntKind.i64 0)])) else
        M.fail) (fun r27 => M.ret r27)))
def F.ring_Owners.plan : Plan := (seq leaf (seq leaf (seq (seq leaf (cond (seq leaf leaf) leaf)) (seq (seq leaf (cond (seq leaf leaf) leaf)) (seq leaf (seq (seq leaf (body (loop [8, 31] [8, 10, 31, 32, 33, 34, 35, 36, 37, 38, 39, 40, 41, 42] [0] (seq leaf (seq (cond leaf leaf) (seq (body (seq leaf leaf)) leaf)))))) (seq leaf leaf)))))))
theorem F.ring_Owners.lift : LiftOk Try.prog 24 (ap2 F.ring_Owners) :=
  lift2 (g := evFn Try.prog (tcons 23 (ap1 F.ring_checked) (tcons 35 (ap3 F.ring_within) (tcons 37 (ap3 F.ring_round) tnil))) tnil 24 Try.f24 F.ring_Owners.plan) (evFn_sound (tcons_ok F.ring_checked.lift (tcons_ok F.ring_within.lift (tcons_ok F.ring_round.lift tnil_ok))) tnil_ok Try.func24 (by kernel_rfl)) (fun x0 x1 => by kernel_rfl)

/-- granary/export.New -/
noncomputable def F.export_New (a0 : Value) : M Value :=
  M.bind (newM 24 (Value.cells a0)) fun x1 =>
  M.bind (rdM (ldA 23 x1)) fun x2 =>
  M.bind (F.ring_Check x2) fun x3 =>
  bindO (binV BinOp.neq x3 (Value.int IntKind.i64 0)) fun x4 =>
  condM x4 (
    M.ret (Value.tuple #[(Value.pointer none), x3])) (
    bindO (fieldA 18 x1) fun x5 =>
    M.bind (rdM (ld1 x5)) fun x6 =>
    bindO (buildV #[(Value.slice none 0 0), (Value.int IntKind.i64 0), (Value.int IntKind.i64 0), (Value.int IntKind.i64 0), (Value.int IntKind.i64 0), (Value.bool false), (Value.int IntKind.i64 0), (Value.slice none 0 0), (Value.slice none 0 0), (Value.int IntKind.i64 0), (Value.slice none 0 0), (Value.slice none 0 0), (Value.bool false), (Value.int IntKind.i64 0), (Value.int IntKind.i64 0), (Value.slice none 0 0), (Value.slice none 0 0)] [(1, 1, x6)]) fun x7 =>
    M.bind (newM 71 (Value.cells x7)) fun x8 =>
    bindO (fieldA 22 x1) fun x9 =>
    M.bind (rdM (ld1 x9)) fun x10 =>
    bindO (lenL x10) fun x11 =>
    M.bind (loopM (fun l12 =>
      bindO (binV BinOp.lss (getL l12 1) x11) fun x13 =>
      condM x13 (
        bindO (idxA 2 x10 (getL l12 1)) fun x14 =>
        M.bind (rdM (ldA 2 x14)) fun x15 =>
        M.bind (newM 73 #[(Value.int IntKind.i64 0), (Value.slice none 0 0)]) fun x16 =>
        M.bind (stM 2 x16 x15) fun _ =>
        bindO (fieldA 1 x16) fun x18 =>
        M.bind (rdM (ld1 x18)) fun x19 =>
        bindO (lenL x19) fun x20 =>
        bindO (binV BinOp.add (getL l12 0) x20) fun x21 =>
        bindO (binV BinOp.add (getL l12 1) (Value.int IntKind.i64 1)) fun x22 =>
        M.ret (Out.norm [x21, x22])) (
        M.ret (Out.exit 0 [(getL l12 0), (getL l12 1)]))) [(Value.int IntKind.i64 0), (Value.int IntKind.i64 0)]) fun o24 =>
    outK o24 (fun _ => M.fail) (fun i25 l23 =>
      bif Nat.beq i25 0 then (
        M.bind (loopM (fun l27 =>
          bindO (binV BinOp.lss (getL l27 0) (getL l23 0)) fun x28 =>
          condM x28 (
            M.bind (rdM (ldA 23 x1)) fun x29 =>
            M.bind (F.ring_Owners x29 (getL l27 0)) fun x30 =>
            bindO (extV 0 x30) fun x31 =>
            bindO (extV 1 x30) fun x32 =>
            bindO (binV BinOp.neq x32 (Value.int IntKind.i64 0)) fun x33 =>
            condM x33 (
              M.ret (Out.ret (Value.tuple #[(Value.pointer none), x32]))) (
              bindO (lenL x31) fun x34 =>
              M.bind (loopM (fun l35 =>
                bindO (binV BinOp.lss (getL l35 2) x34) fun x36 =>
                condM x36 (
                  M.bind (
                    bindO (idxA 1 x31 (getL l35 2)) fun x37 =>
                    M.bind (rdM (ld1 x37)) fun x38 =>
                    drewM <|
                    bindO (fieldA 22 x1) fun x39 =>
                    M.bind (rdM (ld1 x39)) fun x40 =>
                    bindO (idxA 2 x40 x38) fun x41 =>
                    bindO (fieldA 0 x41) fun x42 =>
                    M.bind (rdM (ld1 x42)) fun x43 =>
                    bindO (fieldA 21 x1) fun x44 =>
                    M.bind (rdM (ld1 x44)) fun x45 =>
                    bindO (binV BinOp.eql x43 x45) fun x46 =>
                    condM x46 (
                      M.bind (bslM 3 1 (Builtin.zeroCells #[(Value.int IntKind.i64 0)] 1) [(0, 1, x38)]) fun x47 =>
                      M.bind (appM 3 1 8 #[(Value.int IntKind.i64 0)] (getL l35 0) x47) fun x48 =>
                      M.ret (Out.norm [x48, (getL l35 1)])) (
                      M.bind (bslM 3 1 (Builtin.zeroCells #[(Value.int IntKind.i64 0)] 1) [(0, 1, x38)]) fun x49 =>
                      M.bind (appM 3 1 8 #[(Value.int IntKind.i64 0)] (getL l35 1) x49) fun x50 =>
                      M.ret (Out.norm [(getL l35 0), x50]))) fun o52 =>
                  outK o52 (fun l51 =>
                    bindO (binV BinOp.add (getL l35 2) (Value.int IntKind.i64 1)) fun x55 =>
                    M.ret (Out.norm [(getL l51 0), (getL l51 1), x55])) (fun _ _ =>
                    M.fail) (fun r54 => M.ret (Out.ret r54))) (
                  M.ret (Out.exit 4 [(getL l35 0), (getL l35 1), (getL l35 2)]))) [(Value.slice none 0 0), (Value.slice none 0 0), (Value.int IntKind.i64 0)]) fun o58 =>
              outK o58 (fun _ => M.fail) (fun i59 l57 =>
                bif Nat.beq i59 4 then (
                  drewM <|
                  getM fun _ =>
                  bindO (nilChk x8) fun x62 =>
                  bindO (fieldA 0 x62) fun x63 =>
                  M.bind (rdM (ld1 x63)) fun x64 =>
                  M.bind (appM 3 1 8 #[(Value.int IntKind.i64 0)] (getL l57 0) (getL l57 1)) fun x65 =>
                  getM fun W66 =>
                  M.bind (bslM 47 1 (Builtin.zeroCells #[(Value.slice none 0 0)] 1) [(0, 1, x65)]) fun x67 =>
                  getM fun W68 =>
                  M.bind (appM 47 1 24 #[(Value.slice none 0 0)] x64 x67) fun x69 =>
                  getM fun _ =>
                  bindO (nilChk x8) fun x71 =>
                  bindO (fieldA 0 x71) fun x72 =>
                  M.bind (stM 1 x72 x69) fun _ =>
                  getM fun _ =>
                  reqM (ld1 x63 W66 = some x64) <|
                  reqM (ld1 x63 W68 = some x64) <|
                  bindO (binV BinOp.add (getL l27 0) (Value.int IntKind.i64 1)) fun x75 =>
                  M.ret (Out.norm [x75])) else
                M.fail) (fun r60 => M.ret (Out.ret r60)))) (
            M.ret (Out.exit 2 [(getL l27 0)]))) [(Value.int IntKind.i64 0)]) fun o77 =>
        outK o77 (fun _ => M.fail) (fun i78 _ =>
          bif Nat.beq i78 2 then (
            M.ret (Value.tuple #[x8, (Value.int IntKind.i64 0)])) else
          M.fail) (fun r79 => M.ret r79)) else
      M.fail) (fun r26 => M.ret r26))
def F.export_New.plan : Plan := (seq leaf (seq (seq leaf (seq leaf (cond (seq leaf leaf) leaf))) (seq leaf (seq leaf (seq (seq leaf (body (loop [6, 28] [6, 8, 28, 29, 30, 31, 32, 33, 34, 35, 36, 37] [0] (seq leaf (seq (cond leaf leaf) (seq (body (seq leaf leaf)) leaf)))))) (seq (seq leaf (body (loop [39] [2, 3, 9, 10, 11, 12, 13, 15, 39, 40, 41, 42, 43, 44, 45, 46, 47, 48, 49, 50, 51, 52, 53, 54, 55, 56, 57, 58, 59, 60, 61, 62, 63, 64, 65, 66, 67, 68, 69, 70, 71, 72, 73, 74, 75, 76, 77, 78, 79, 80, 81, 82, 83, 84, 85, 86, 87] [2] (seq leaf (seq (cond leaf leaf) (seq (body (seq leaf (seq leaf (seq (seq leaf (cond (seq leaf leaf) leaf)) (seq leaf (seq (seq leaf (body (loop [12, 13, 53] [12, 13, 15, 53, 54, 55, 56, 57, 58, 59, 60, 61, 62, 63, 64, 65, 66, 67, 68, 69, 70, 71, 72, 73, 74] [4] (seq leaf (seq (cond leaf leaf) (fork [12, 13] [12, 13, 15, 55, 56, 57, 58, 59, 60, 61, 62, 63, 64, 65, 66, 67, 68, 69, 70, 71, 72, 73] [] (body (seq leaf (seq leaf (cond leaf leaf)))) leaf)))))) leaf)))))) leaf)))))) (seq leaf leaf)))))))
theorem F.export_New.lift : LiftOk Try.prog 9 (ap1 F.export_New) :=
  lift1 (g := evFn Try.prog (tcons 7 (ap1 F.ring_Check) (tcons 24 (ap2 F.ring_Owners) tnil)) tnil 9 Try.f9 F.export_New.plan) (evFn_sound (tcons_ok F.ring_Check.lift (tcons_ok F.ring_Owners.lift tnil_ok)) tnil_ok Try.func9 (by kernel_rfl)) (fun x0 => by kernel_rfl)

/-- granary/granarylaw21.refused -/
noncomputable def F.granarylaw21_refused (a0 : Value) : M Value :=
  M.bind (newM 24 (Value.cells a0)) fun x1 =>
  M.bind (rdM (ldA 23 x1)) fun x2 =>
  M.bind (F.export_New x2) fun x3 =>
  bindO (extV 0 x3) fun x4 =>
  bindO (extV 1 x3) fun x5 =>
  bindO (eqV (EqSh.one EqK.ptr) x4 (Value.pointer none)) fun x6 =>
  M.bind (guardM x6 true (M.ret x5)) fun x7 =>
  M.bind (guardM x6 true (F.granarylaw21_num x7)) fun x8 =>
  M.bind (guardM x6 true (optM (binV BinOp.neq x8 (Value.int IntKind.i64 0)))) fun x9 =>
  bindO (pickV x6 x9 (Value.bool false)) fun x10 =>
  M.bind (guardM x10 true (M.ret x5)) fun x11 =>
  M.bind (guardM x10 true (rdM (ldA 23 x1))) fun x12 =>
  M.bind (guardM x10 true (F.ring_Check x12)) fun x13 =>
  M.bind (guardM x10 true (optM (binV BinOp.eql x11 x13))) fun x14 =>
  bindO (pickV x10 x14 (Value.bool false)) fun x15 =>
  M.ret x15
def F.granarylaw21_refused.plan : Plan := (seq leaf (seq leaf (seq leaf leaf)))
theorem F.granarylaw21_refused.lift : LiftOk Try.prog 8 (ap1 F.granarylaw21_refused) :=
  lift1 (g := evFn Try.prog (tcons 6 (ap1 F.granarylaw21_num) (tcons 7 (ap1 F.ring_Check) (tcons 9 (ap1 F.export_New) tnil))) tnil 8 Try.f8 F.granarylaw21_refused.plan) (evFn_sound (tcons_ok F.granarylaw21_num.lift (tcons_ok F.ring_Check.lift (tcons_ok F.export_New.lift tnil_ok))) tnil_ok Try.func8 (by kernel_rfl)) (fun x0 => by kernel_rfl)

/-- granary/granarylaw21.cluster -/
noncomputable def F.granarylaw21_cluster (a0 : Value) : M Value :=
  M.bind (newM 24 (Value.cells a0)) fun x1 =>
  M.bind (newM 24 #[(Value.string ByteArray.empty), (Value.int IntKind.i64 0), (Value.int IntKind.i64 0), (Value.int IntKind.i64 0), (Value.int IntKind.i64 0), (Value.int IntKind.i64 0), (Value.int IntKind.i64 0), (Value.int IntKind.i64 0), (Value.int IntKind.i64 0), (Value.int IntKind.i64 0), (Value.int IntKind.i64 0), (Value.int IntKind.i64 0), (Value.int IntKind.i64 0), (Value.int IntKind.i64 0), (Value.int IntKind.i64 0), (Value.int IntKind.i64 0), (Value.int IntKind.i64 0), (Value.int IntKind.i64 0), (Value.int IntKind.i64 0), (Value.int IntKind.i64 0), (Value.int IntKind.i64 0), (Value.int IntKind.i64 0), (Value.slice none 0 0)]) fun x2 =>
  M.bind (loopM (fun l3 =>
    bindO (fieldA 22 x1) fun x4 =>
    M.bind (rdM (ld1 x4)) fun x5 =>
    bindO (lenL x5) fun x6 =>
    bindO (binV BinOp.lss (getL l3 1) x6) fun x7 =>
    condM x7 (
      M.bind (loopM (fun l8 =>
        bindO (fieldA 22 x1) fun x9 =>
        M.bind (rdM (ld1 x9)) fun x10 =>
        bindO (idxA 2 x10 (getL l3 1)) fun x11 =>
        bindO (fieldA 1 x11) fun x12 =>
        M.bind (rdM (ld1 x12)) fun x13 =>
        bindO (lenL x13) fun x14 =>
        bindO (binV BinOp.lss (getL l8 1) x14) fun x15 =>
        condM x15 (
          bindO (fieldA 22 x1) fun x16 =>
          M.bind (rdM (ld1 x16)) fun x17 =>
          bindO (idxA 2 x17 (getL l3 1)) fun x18 =>
          bindO (fieldA 1 x18) fun x19 =>
          M.bind (rdM (ld1 x19)) fun x20 =>
          bindO (idxA 1 x20 (getL l8 1)) fun x21 =>
          M.bind (rdM (ld1 x21)) fun x22 =>
          M.bind (bslM 3 1 (Builtin.zeroCells #[(Value.int IntKind.i64 0)] 1) [(0, 1, x22)]) fun x23 =>
          M.bind (appM 3 1 8 #[(Value.int IntKind.i64 0)] (getL l8 0) x23) fun x24 =>
          bindO (binV BinOp.add (getL l8 1) (Value.int IntKind.i64 1)) fun x25 =>
          M.ret (Out.norm [x24, x25])) (
          M.ret (Out.exit 2 [(getL l8 0), (getL l8 1)]))) [(Value.slice none 0 0), (Value.int IntKind.i64 0)]) fun o27 =>
      outK o27 (fun _ => M.fail) (fun i28 l26 =>
        bif Nat.beq i28 2 then (
          bindO (fieldA 22 x1) fun x30 =>
          M.bind (rdM (ld1 x30)) fun x31 =>
          bindO (idxA 2 x31 (getL l3 1)) fun x32 =>
          bindO (fieldA 0 x32) fun x33 =>
          M.bind (rdM (ld1 x33)) fun x34 =>
          bindO (buildV #[(Value.int IntKind.i64 0), (Value.slice none 0 0)] [(0, 1, x34), (1, 1, (getL l26 0))]) fun x35 =>
          M.bind (bslM 73 1 (Builtin.zeroCells #[(Value.int IntKind.i64 0), (Value.slice none 0 0)] 1) [(0, 2, x35)]) fun x36 =>
          M.bind (appM 73 2 32 #[(Value.int IntKind.i64 0), (Value.slice none 0 0)] (getL l3 0) x36) fun x37 =>
          bindO (binV BinOp.add (getL l3 1) (Value.int IntKind.i64 1)) fun x38 =>
          M.ret (Out.norm [x37, x38])) else
        M.fail) (fun r29 => M.ret (Out.ret r29))) (
      M.ret (Out.exit 0 [(getL l3 0), (getL l3 1)]))) [(Value.slice none 0 0), (Value.int IntKind.i64 0)]) fun o40 =>
  outK o40 (fun _ => M.fail) (fun i41 l39 =>
    bif Nat.beq i41 0 then (
      bindO (fieldA 22 x1) fun x43 =>
      M.bind (stM 1 x43 (getL l39 0)) fun _ =>
      M.bind (rdM (ldA 23 x1)) fun x45 =>
      M.bind (stM 23 x2 x45) fun _ =>
      M.bind (rdM (ldA 23 x2)) fun x47 =>
      M.ret x47) else
    M.fail) (fun r42 => M.ret r42)
def F.granarylaw21_cluster.plan : Plan := (seq leaf (seq leaf (seq (seq leaf (body (loop [3, 4] [3, 4, 5, 6, 7, 8, 9, 10, 11, 12, 13, 14, 15, 16, 17, 18, 19, 20, 21, 22, 23, 24, 25, 26, 27, 28, 29, 30, 31, 32, 33, 34, 35, 36, 37, 38, 39, 40, 41, 42, 43, 44, 45, 46, 47] [0] (seq (seq leaf (cond leaf leaf)) (seq (body (seq leaf (seq (seq leaf (body (loop [5, 6] [5, 6, 14, 15, 16, 17, 18, 19, 20, 21, 22, 23, 24, 25, 26, 27, 28, 29, 30, 31, 32, 33, 34, 35, 36] [2] (seq (seq leaf (cond leaf leaf)) (seq (body leaf) leaf))))) leaf))) leaf))))) (seq leaf (seq leaf leaf)))))
theorem F.granarylaw21_cluster.lift : LiftOk Try.prog 10 (ap1 F.granarylaw21_cluster) :=
  lift1 (g := evFn Try.prog tnil tnil 10 Try.f10 F.granarylaw21_cluster.plan) (evFn_sound tnil_ok tnil_ok Try.func10 (by kernel_rfl)) (fun x0 => by kernel_rfl)

/-- (*granary/export.Export).want -/
noncomputable def F.export_Export_want (a0 : Value) : M Value :=
  M.bind (newM 77 #[(Value.int IntKind.i64 0), (Value.int IntKind.i64 0), (Value.int IntKind.i64 0), (Value.int IntKind.i64 0), (Value.int IntKind.i64 0)]) fun x1 =>
  drewM <|
  bindO (nilChk a0) fun x2 =>
  bindO (fieldA 7 x2) fun x3 =>
  M.bind (rdM (ld1 x3)) fun x4 =>
  bindO (idxA 1 x4 (Value.int IntKind.i64 0)) fun x5 =>
  M.bind (rdM (ld1 x5)) fun x6 =>
  bindO (nilChk a0) fun x7 =>
  bindO (fieldA 3 x7) fun x8 =>
  M.bind (rdM (ld1 x8)) fun x9 =>
  bindO (nilChk a0) fun x10 =>
  bindO (fieldA 6 x10) fun x11 =>
  M.bind (rdM (ld1 x11)) fun x12 =>
  bindO (nilChk a0) fun x13 =>
  bindO (fieldA 4 x13) fun x14 =>
  M.bind (rdM (ld1 x14)) fun x15 =>
  bindO (nilChk a0) fun x16 =>
  bindO (fieldA 8 x16) fun x17 =>
  M.bind (rdM (ld1 x17)) fun x18 =>
  bindO (lenL x18) fun x19 =>
  bindO (buildV #[(Value.int IntKind.i64 0), (Value.int IntKind.i64 0), (Value.int IntKind.i64 0), (Value.int IntKind.i64 0), (Value.int IntKind.i64 0)] [(0, 1, x6), (1, 1, x9), (2, 1, x12), (3, 1, x15), (4, 1, x19)]) fun x20 =>
  M.bind (stM 5 x1 x20) fun _ =>
  M.bind (rdM (ldA 5 x1)) fun x22 =>
  M.ret x22
def F.export_Export_want.plan : Plan := (seq leaf (seq leaf leaf))
theorem F.export_Export_want.lift : LiftOk Try.prog 26 (ap1 F.export_Export_want) :=
  lift1 (g := evFn Try.prog tnil tnil 26 Try.f26 F.export_Export_want.plan) (evFn_sound tnil_ok tnil_ok Try.func26 (by kernel_rfl)) (fun x0 => by kernel_rfl)

/-- (*granary/export.Export).ask -/
noncomputable def F.export_Export_ask (a0 : Value) : M Value :=
  drewM <|
  bindO (nilChk a0) fun x1 =>
  bindO (fieldA 2 x1) fun x2 =>
  M.bind (rdM (ld1 x2)) fun x3 =>
  bindO (nilChk a0) fun x4 =>
  bindO (fieldA 1 x4) fun x5 =>
  M.bind (rdM (ld1 x5)) fun x6 =>
  bindO (binV BinOp.add x3 x6) fun x7 =>
  bindO (nilChk a0) fun x8 =>
  bindO (fieldA 9 x8) fun x9 =>
  M.bind (stM 1 x9 x7) fun _ =>
  M.bind (F.export_Export_want a0) fun x11 =>
  M.bind (newM 77 #[(Value.int IntKind.i64 0), (Value.int IntKind.i64 0), (Value.int IntKind.i64 0), (Value.int IntKind.i64 0), (Value.int IntKind.i64 0)]) fun x12 =>
  M.bind (stM 5 x12 x11) fun _ =>
  bindO (fieldA 0 x12) fun x14 =>
  M.bind (rdM (ld1 x14)) fun x15 =>
  bindO (fieldA 1 x12) fun x16 =>
  M.bind (rdM (ld1 x16)) fun x17 =>
  bindO (fieldA 2 x12) fun x18 =>
  M.bind (rdM (ld1 x18)) fun x19 =>
  bindO (fieldA 3 x12) fun x20 =>
  M.bind (rdM (ld1 x20)) fun x21 =>
  bindO (fieldA 4 x12) fun x22 =>
  M.bind (rdM (ld1 x22)) fun x23 =>
  bindO (buildV #[(Value.int IntKind.i64 0), (Value.int IntKind.i64 0), (Value.int IntKind.i64 0), (Value.int IntKind.i64 0), (Value.int IntKind.i64 0), (Value.int IntKind.i64 0), (Value.int IntKind.i64 0), (Value.int IntKind.i64 0), (Value.int IntKind.i64 0), (Value.string ByteArray.empty), (Value.string ByteArray.empty)] [(0, 1, (Value.int IntKind.i64 15)), (1, 1, (Value.int IntKind.i64 67)), (2, 1, x15), (3, 1, x17), (5, 1, x19), (6, 1, x21), (7, 1, x23)]) fun x24 =>
  M.bind (bslM 36 1 (Builtin.zeroCells #[(Value.int IntKind.i64 0), (Value.int IntKind.i64 0), (Value.int IntKind.i64 0), (Value.int IntKind.i64 0), (Value.int IntKind.i64 0), (Value.int IntKind.i64 0), (Value.int IntKind.i64 0), (Value.int IntKind.i64 0), (Value.int IntKind.i64 0), (Value.string ByteArray.empty), (Value.string ByteArray.empty)] 1) [(0, 11, x24)]) fun x25 =>
  M.ret x25
def F.export_Export_ask.plan : Plan := (seq leaf (seq leaf (seq leaf (seq leaf leaf))))
theorem F.export_Export_ask.lift : LiftOk Try.prog 28 (ap1 F.export_Export_ask) :=
  lift1 (g := evFn Try.prog (tcons 26 (ap1 F.export_Export_want) tnil) tnil 28 Try.f28 F.export_Export_ask.plan) (evFn_sound (tcons_ok F.export_Export_want.lift tnil_ok) tnil_ok Try.func28 (by kernel_rfl)) (fun x0 => by kernel_rfl)

/-- (*granary/export.Export).take -/
noncomputable def F.export_Export_take (a0 a1 : Value) : M Value :=
  bindO (nilChk a0) fun x1 =>
  bindO (fieldA 6 x1) fun x2 =>
  M.bind (stM 1 x2 a1) fun _ =>
  bindO (nilChk a0) fun x4 =>
  bindO (fieldA 8 x4) fun x5 =>
  M.bind (stM 1 x5 (Value.slice none 0 0)) fun _ =>
  bindO (nilChk a0) fun x7 =>
  bindO (fieldA 0 x7) fun x8 =>
  M.bind (rdM (ld1 x8)) fun x9 =>
  bindO (lenL x9) fun x10 =>
  bindO (binV BinOp.eql a1 x10) fun x11 =>
  condM x11 (
    bindO (nilChk a0) fun x12 =>
    bindO (fieldA 5 x12) fun x13 =>
    M.bind (stM 1 x13 (Value.bool false)) fun _ =>
    bindO (nilChk a0) fun x15 =>
    bindO (fieldA 12 x15) fun x16 =>
    M.bind (stM 1 x16 (Value.bool true)) fun _ =>
    drewM <|
    bindO (nilChk a0) fun x18 =>
    bindO (fieldA 3 x18) fun x19 =>
    M.bind (rdM (ld1 x19)) fun x20 =>
    bindO (nilChk a0) fun x21 =>
    bindO (fieldA 4 x21) fun x22 =>
    M.bind (rdM (ld1 x22)) fun x23 =>
    bindO (nilChk a0) fun x24 =>
    bindO (fieldA 10 x24) fun x25 =>
    M.bind (rdM (ld1 x25)) fun x26 =>
    bindO (nilChk a0) fun x27 =>
    bindO (fieldA 11 x27) fun x28 =>
    M.bind (rdM (ld1 x28)) fun x29 =>
    bindO (buildV #[(Value.int IntKind.i64 0), (Value.int IntKind.i64 0), (Value.slice none 0 0), (Value.slice none 0 0)] [(0, 1, x20), (1, 1, x23), (2, 1, x26), (3, 1, x29)]) fun x30 =>
    bindO (nilChk a0) fun x31 =>
    bindO (fieldA 13 x31) fun x32 =>
    M.bind (stM 4 x32 x30) fun _ =>
    M.ret (Value.slice none 0 0)) (
    bindO (nilChk a0) fun x34 =>
    bindO (fieldA 0 x34) fun x35 =>
    M.bind (rdM (ld1 x35)) fun x36 =>
    bindO (idxA 1 x36 a1) fun x37 =>
    M.bind (rdM (ld1 x37)) fun x38 =>
    bindO (nilChk a0) fun x39 =>
    bindO (fieldA 7 x39) fun x40 =>
    M.bind (stM 1 x40 x38) fun _ =>
    M.bind (F.export_Export_ask a0) fun x42 =>
    M.ret x42)
def F.export_Export_take.plan : Plan := (seq leaf (seq leaf (seq (seq leaf (cond (seq leaf (seq leaf (seq leaf leaf))) leaf)) (seq leaf (seq leaf leaf)))))
theorem F.export_Export_take.lift : LiftOk Try.prog 25 (ap2 F.export_Export_take) :=
  lift2 (g := evFn Try.prog (tcons 28 (ap1 F.export_Export_ask) tnil) tnil 25 Try.f25 F.export_Export_take.plan) (evFn_sound (tcons_ok F.export_Export_ask.lift tnil_ok) tnil_ok Try.func25 (by kernel_rfl)) (fun x0 x1 => by kernel_rfl)

/-- (*granary/export.Export).Begin -/
noncomputable def F.export_Export_Begin (a0 a1 : Value) : M Value :=
  bindO (eqV (EqSh.one EqK.ptr) a0 (Value.pointer none)) fun x1 =>
  condM x1 (
    M.ret (Value.tuple #[(Value.slice none 0 0), (Value.int IntKind.i64 2)])) (
    bindO (nilChk a0) fun x2 =>
    bindO (fieldA 5 x2) fun x3 =>
    M.bind (rdM (ld1 x3)) fun x4 =>
    condM x4 (
      M.ret (Value.tuple #[(Value.slice none 0 0), (Value.int IntKind.i64 150)])) (
      bindO (binV BinOp.lss a1 (Value.int IntKind.i64 1)) fun x5 =>
      M.bind (guardM x5 false (M.ret a1)) fun x6 =>
      M.bind (guardM x5 false (optM (binV BinOp.gtr x6 (Value.int IntKind.i64 999999)))) fun x7 =>
      bindO (pickV x5 (Value.bool true) x7) fun x8 =>
      condM x8 (
        M.ret (Value.tuple #[(Value.slice none 0 0), (Value.int IntKind.i64 80)])) (
        bindO (nilChk a0) fun x9 =>
        bindO (fieldA 5 x9) fun x10 =>
        M.bind (stM 1 x10 (Value.bool true)) fun _ =>
        bindO (nilChk a0) fun x12 =>
        bindO (fieldA 3 x12) fun x13 =>
        M.bind (rdM (ld1 x13)) fun x14 =>
        bindO (binV BinOp.add x14 (Value.int IntKind.i64 1)) fun x15 =>
        bindO (nilChk a0) fun x16 =>
        bindO (fieldA 3 x16) fun x17 =>
        M.bind (stM 1 x17 x15) fun _ =>
        bindO (nilChk a0) fun x19 =>
        bindO (fieldA 4 x19) fun x20 =>
        M.bind (stM 1 x20 a1) fun _ =>
        bindO (nilChk a0) fun x22 =>
        bindO (fieldA 10 x22) fun x23 =>
        M.bind (stM 1 x23 (Value.slice none 0 0)) fun _ =>
        bindO (nilChk a0) fun x25 =>
        bindO (fieldA 11 x25) fun x26 =>
        M.bind (stM 1 x26 (Value.slice none 0 0)) fun _ =>
        M.bind (F.export_Export_take a0 (Value.int IntKind.i64 0)) fun x28 =>
        M.ret (Value.tuple #[x28, (Value.int IntKind.i64 0)]))))
def F.export_Export_Begin.plan : Plan := (seq leaf (seq (body (seq leaf (cond (seq leaf leaf) (seq leaf (cond (seq leaf leaf) (seq leaf (cond (seq leaf leaf) leaf))))))) (seq leaf (seq leaf (seq leaf (seq leaf leaf))))))
theorem F.export_Export_Begin.lift : LiftOk Try.prog 11 (ap2 F.export_Export_Begin) :=
  lift2 (g := evFn Try.prog (tcons 25 (ap2 F.export_Export_take) tnil) tnil 11 Try.f11 F.export_Export_Begin.plan) (evFn_sound (tcons_ok F.export_Export_take.lift tnil_ok) tnil_ok Try.func11 (by kernel_rfl)) (fun x0 x1 => by kernel_rfl)

/-- (*granary/export.Export).leave -/
noncomputable def F.export_Export_leave (a0 : Value) : M Value :=
  bindO (nilChk a0) fun x1 =>
  bindO (fieldA 7 x1) fun x2 =>
  M.bind (rdM (ld1 x2)) fun x3 =>
  bindO (sliceV 1 x3 (some (Value.int IntKind.i64 1)) none) fun x4 =>
  bindO (nilChk a0) fun x5 =>
  bindO (fieldA 7 x5) fun x6 =>
  M.bind (stM 1 x6 x4) fun _ =>
  bindO (nilChk a0) fun x8 =>
  bindO (fieldA 7 x8) fun x9 =>
  M.bind (rdM (ld1 x9)) fun x10 =>
  bindO (lenL x10) fun x11 =>
  bindO (binV BinOp.gtr x11 (Value.int IntKind.i64 0)) fun x12 =>
  condM x12 (
    M.bind (F.export_Export_ask a0) fun x13 =>
    M.ret x13) (
    drewM <|
    getM fun _ =>
    bindO (nilChk a0) fun x15 =>
    bindO (fieldA 11 x15) fun x16 =>
    M.bind (rdM (ld1 x16)) fun x17 =>
    bindO (nilChk a0) fun x18 =>
    bindO (fieldA 6 x18) fun x19 =>
    M.bind (rdM (ld1 x19)) fun x20 =>
    M.bind (bslM 3 1 (Builtin.zeroCells #[(Value.int IntKind.i64 0)] 1) [(0, 1, x20)]) fun x21 =>
    getM fun W22 =>
    M.bind (appM 3 1 8 #[(Value.int IntKind.i64 0)] x17 x21) fun x23 =>
    getM fun _ =>
    bindO (nilChk a0) fun x25 =>
    bindO (fieldA 11 x25) fun x26 =>
    M.bind (stM 1 x26 x23) fun _ =>
    getM fun _ =>
    reqM (ld1 x16 W22 = some x17) <|
    bindO (nilChk a0) fun x29 =>
    bindO (fieldA 6 x29) fun x30 =>
    M.bind (rdM (ld1 x30)) fun x31 =>
    bindO (binV BinOp.add x31 (Value.int IntKind.i64 1)) fun x32 =>
    M.bind (F.export_Export_take a0 x32) fun x33 =>
    M.ret x33)
def F.export_Export_leave.plan : Plan := (seq leaf (seq leaf (seq (seq leaf (cond (seq leaf leaf) leaf)) (seq leaf (seq leaf leaf)))))
theorem F.export_Export_leave.lift : LiftOk Try.prog 27 (ap1 F.export_Export_leave) :=
  lift1 (g := evFn Try.prog (tcons 25 (ap2 F.export_Export_take) (tcons 28 (ap1 F.export_Export_ask) tnil)) tnil 27 Try.f27 F.export_Export_leave.plan) (evFn_sound (tcons_ok F.export_Export_take.lift (tcons_ok F.export_Export_ask.lift tnil_ok)) tnil_ok Try.func27 (by kernel_rfl)) (fun x0 => by kernel_rfl)

/-- (*granary/export.Export).Take -/
noncomputable def F.export_Export_Take (a0 a1 : Value) : M Value :=
  M.bind (newM 36 (Value.cells a1)) fun x1 =>
  bindO (eqV (EqSh.one EqK.ptr) a0 (Value.pointer none)) fun x2 =>
  condM x2 (
    M.ret (Value.tuple #[(Value.slice none 0 0), (Value.int IntKind.i64 2)])) (
    drewM <|
    getM fun W3 =>
    bindO (nilChk a0) fun x4 =>
    bindO (fieldA 5 x4) fun x5 =>
    M.bind (rdM (ld1 x5)) fun x6 =>
    bindO (notV x6) fun x7 =>
    M.bind (guardM x7 false (optM (fieldA 0 x1))) fun x8 =>
    M.bind (guardM x7 false (rdM (ld1 x8))) fun x9 =>
    M.bind (guardM x7 false (optM (binV BinOp.neq x9 (Value.int IntKind.i64 16)))) fun x10 =>
    bindO (pickV x7 (Value.bool true) x10) fun x11 =>
    M.bind (guardM x11 false (M.ret a0)) fun x12 =>
    M.bind (guardM x11 false (F.export_Export_want x12)) fun x13 =>
    getM fun _ =>
    M.bind (guardM x11 false (optM (fieldA 1 x1))) fun x15 =>
    M.bind (guardM x11 false (rdM (ld1 x15))) fun x16 =>
    M.bind (guardM x11 false (optM (fieldA 3 x1))) fun x17 =>
    M.bind (guardM x11 false (rdM (ld1 x17))) fun x18 =>
    M.bind (guardM x11 false (optM (fieldA 5 x1))) fun x19 =>
    M.bind (guardM x11 false (rdM (ld1 x19))) fun x20 =>
    M.bind (guardM x11 false (optM (fieldA 6 x1))) fun x21 =>
    M.bind (guardM x11 false (rdM (ld1 x21))) fun x22 =>
    M.bind (guardM x11 false (optM (fieldA 7 x1))) fun x23 =>
    M.bind (guardM x11 false (rdM (ld1 x23))) fun x24 =>
    M.bind (guardM x11 false (optM (buildV #[(Value.int IntKind.i64 0), (Value.int IntKind.i64 0), (Value.int IntKind.i64 0), (Value.int IntKind.i64 0), (Value.int IntKind.i64 0)] [(0, 1, x16), (1, 1, x18), (2, 1, x20), (3, 1, x22), (4, 1, x24)]))) fun x25 =>
    M.bind (guardM x11 false (optM (neV (EqSh.offs [(EqK.int, 0), (EqK.int, 1), (EqK.int, 2), (EqK.int, 3), (EqK.int, 4)]) x13 x25))) fun x26 =>
    bindO (pickV x11 (Value.bool true) x26) fun x27 =>
    reqM (x11 = Value.bool false → ld1 x15 W3 = some x16) <|
    reqM (x11 = Value.bool false → ld1 x17 W3 = some x18) <|
    reqM (x11 = Value.bool false → ld1 x19 W3 = some x20) <|
    reqM (x11 = Value.bool false → ld1 x21 W3 = some x22) <|
    reqM (x11 = Value.bool false → ld1 x23 W3 = some x24) <|
    condM x27 (
      M.ret (Value.tuple #[(Value.slice none 0 0), (Value.int IntKind.i64 0)])) (
      bindO (fieldA 8 x1) fun x28 =>
      M.bind (rdM (ld1 x28)) fun x29 =>
      bindO (binV BinOp.eql x29 (Value.int IntKind.i64 16)) fun x30 =>
      condM x30 (
        drewM <|
        bindO (nilChk a0) fun x31 =>
        bindO (fieldA 10 x31) fun x32 =>
        M.bind (rdM (ld1 x32)) fun x33 =>
        bindO (nilChk a0) fun x34 =>
        bindO (fieldA 8 x34) fun x35 =>
        M.bind (rdM (ld1 x35)) fun x36 =>
        M.bind (appM 81 2 32 #[(Value.string ByteArray.empty), (Value.string ByteArray.empty)] x33 x36) fun x37 =>
        bindO (nilChk a0) fun x38 =>
        bindO (fieldA 10 x38) fun x39 =>
        M.bind (stM 1 x39 x37) fun _ =>
        bindO (nilChk a0) fun x41 =>
        bindO (fieldA 6 x41) fun x42 =>
        M.bind (rdM (ld1 x42)) fun x43 =>
        bindO (binV BinOp.add x43 (Value.int IntKind.i64 1)) fun x44 =>
        M.bind (F.export_Export_take a0 x44) fun x45 =>
        M.ret (Value.tuple #[x45, (Value.int IntKind.i64 0)])) (
        bindO (fieldA 8 x1) fun x46 =>
        M.bind (rdM (ld1 x46)) fun x47 =>
        bindO (binV BinOp.neq x47 (Value.int IntKind.i64 0)) fun x48 =>
        M.bind (guardM x48 false (M.ret a0)) fun x49 =>
        M.bind (guardM x48 false (optM (nilChk x49))) fun x50 =>
        M.bind (guardM x48 false (optM (fieldA 8 x50))) fun x51 =>
        M.bind (guardM x48 false (rdM (ld1 x51))) fun x52 =>
        M.bind (guardM x48 false (optM (lenL x52))) fun x53 =>
        M.bind (guardM x48 false (optM (binV BinOp.eql x53 (Value.int IntKind.i64 512)))) fun x54 =>
        bindO (pickV x48 (Value.bool true) x54) fun x55 =>
        condM x55 (
          M.bind (F.export_Export_leave a0) fun x56 =>
          M.ret (Value.tuple #[x56, (Value.int IntKind.i64 0)])) (
          drewM <|
          getM fun _ =>
          bindO (nilChk a0) fun x58 =>
          bindO (fieldA 8 x58) fun x59 =>
          M.bind (rdM (ld1 x59)) fun x60 =>
          bindO (fieldA 9 x1) fun x61 =>
          M.bind (rdM (ld1 x61)) fun x62 =>
          bindO (fieldA 10 x1) fun x63 =>
          M.bind (rdM (ld1 x63)) fun x64 =>
          bindO (buildV #[(Value.string ByteArray.empty), (Value.string ByteArray.empty)] [(0, 1, x62), (1, 1, x64)]) fun x65 =>
          M.bind (bslM 81 1 (Builtin.zeroCells #[(Value.string ByteArray.empty), (Value.string ByteArray.empty)] 1) [(0, 2, x65)]) fun x66 =>
          getM fun W67 =>
          M.bind (appM 81 2 32 #[(Value.string ByteArray.empty), (Value.string ByteArray.empty)] x60 x66) fun x68 =>
          getM fun _ =>
          bindO (nilChk a0) fun x70 =>
          bindO (fieldA 8 x70) fun x71 =>
          M.bind (stM 1 x71 x68) fun _ =>
          getM fun _ =>
          reqM (ld1 x59 W67 = some x60) <|
          M.bind (F.export_Export_ask a0) fun x74 =>
          M.ret (Value.tuple #[x74, (Value.int IntKind.i64 0)])))))
def F.export_Export_Take.plan : Plan := (seq leaf (seq (seq leaf (cond (seq leaf leaf) leaf)) (seq (seq leaf (cond (seq leaf leaf) leaf)) (seq (seq leaf (cond (seq leaf (seq leaf leaf)) leaf)) (seq (seq leaf (cond (seq leaf leaf) leaf)) (seq leaf (seq leaf leaf)))))))
theorem F.export_Export_Take.lift : LiftOk Try.prog 12 (ap2 F.export_Export_Take) :=
  lift2 (g := evFn Try.prog (tcons 25 (ap2 F.export_Export_take) (tcons 26 (ap1 F.export_Export_want) (tcons 27 (ap1 F.export_Export_leave) (tcons 28 (ap1 F.export_Export_ask) tnil)))) tnil 12 Try.f12 F.export_Export_Take.plan) (evFn_sound (tcons_ok F.export_Export_take.lift (tcons_ok F.export_Export_want.lift (tcons_ok F.export_Export_leave.lift (tcons_ok F.export_Export_ask.lift tnil_ok)))) tnil_ok Try.func12 (by kernel_rfl)) (fun x0 x1 => by kernel_rfl)

/-- (*granary/export.Export).Tick -/
noncomputable def F.export_Export_Tick (a0 : Value) : M Value :=
  bindO (eqV (EqSh.one EqK.ptr) a0 (Value.pointer none)) fun x1 =>
  condM x1 (
    M.ret (Value.tuple #[(Value.slice none 0 0), (Value.int IntKind.i64 2)])) (
    bindO (nilChk a0) fun x2 =>
    bindO (fieldA 2 x2) fun x3 =>
    M.bind (rdM (ld1 x3)) fun x4 =>
    bindO (binV BinOp.add x4 (Value.int IntKind.i64 1)) fun x5 =>
    bindO (nilChk a0) fun x6 =>
    bindO (fieldA 2 x6) fun x7 =>
    M.bind (stM 1 x7 x5) fun _ =>
    drewM <|
    bindO (nilChk a0) fun x9 =>
    bindO (fieldA 5 x9) fun x10 =>
    M.bind (rdM (ld1 x10)) fun x11 =>
    M.bind (guardM x11 true (M.ret a0)) fun x12 =>
    M.bind (guardM x11 true (optM (nilChk x12))) fun x13 =>
    M.bind (guardM x11 true (optM (fieldA 2 x13))) fun x14 =>
    M.bind (guardM x11 true (rdM (ld1 x14))) fun x15 =>
    M.bind (guardM x11 true (M.ret a0)) fun x16 =>
    M.bind (guardM x11 true (optM (nilChk x16))) fun x17 =>
    M.bind (guardM x11 true (optM (fieldA 9 x17))) fun x18 =>
    M.bind (guardM x11 true (rdM (ld1 x18))) fun x19 =>
    M.bind (guardM x11 true (optM (binV BinOp.eql x15 x19))) fun x20 =>
    bindO (pickV x11 x20 (Value.bool false)) fun x21 =>
    condM x21 (
      M.bind (F.export_Export_leave a0) fun x22 =>
      M.ret (Value.tuple #[x22, (Value.int IntKind.i64 0)])) (
      M.ret (Value.tuple #[(Value.slice none 0 0), (Value.int IntKind.i64 0)])))
def F.export_Export_Tick.plan : Plan := (seq leaf (seq (seq leaf (cond (seq leaf leaf) leaf)) (seq leaf (seq (seq leaf (cond (seq leaf leaf) leaf)) (seq leaf leaf)))))
theorem F.export_Export_Tick.lift : LiftOk Try.prog 13 (ap1 F.export_Export_Tick) :=
  lift1 (g := evFn Try.prog (tcons 27 (ap1 F.export_Export_leave) tnil) tnil 13 Try.f13 F.export_Export_Tick.plan) (evFn_sound (tcons_ok F.export_Export_leave.lift tnil_ok) tnil_ok Try.func13 (by kernel_rfl)) (fun x0 => by kernel_rfl)

/-- granary/granarylaw21.parts -/
noncomputable def F.granarylaw21_parts (a0 : Value) : M Value :=
  M.bind (newM 24 (Value.cells a0)) fun x1 =>
  M.bind (loopM (fun l2 =>
    bindO (fieldA 22 x1) fun x3 =>
    M.bind (rdM (ld1 x3)) fun x4 =>
    bindO (lenL x4) fun x5 =>
    bindO (binV BinOp.lss (getL l2 1) x5) fun x6 =>
    condM x6 (
      bindO (fieldA 22 x1) fun x7 =>
      M.bind (rdM (ld1 x7)) fun x8 =>
      bindO (idxA 2 x8 (getL l2 1)) fun x9 =>
      bindO (fieldA 1 x9) fun x10 =>
      M.bind (rdM (ld1 x10)) fun x11 =>
      bindO (lenL x11) fun x12 =>
      bindO (binV BinOp.add (getL l2 0) x12) fun x13 =>
      bindO (binV BinOp.add (getL l2 1) (Value.int IntKind.i64 1)) fun x14 =>
      M.ret (Out.norm [x13, x14])) (
      M.ret (Out.exit 0 [(getL l2 0), (getL l2 1)]))) [(Value.int IntKind.i64 0), (Value.int IntKind.i64 0)]) fun o16 =>
  outK o16 (fun _ => M.fail) (fun i17 l15 =>
    bif Nat.beq i17 0 then (
      M.ret (getL l15 0)) else
    M.fail) (fun r18 => M.ret r18)
def F.granarylaw21_parts.plan : Plan := (seq leaf (seq leaf (seq (seq leaf (body (loop [3, 4] [3, 4, 5, 6, 7, 8, 9, 10, 11, 12, 13, 14, 15, 16, 17, 18, 19, 20] [0] (seq (seq leaf (cond leaf leaf)) (seq (body leaf) leaf))))) (seq leaf leaf))))
theorem F.granarylaw21_parts.lift : LiftOk Try.prog 14 (ap1 F.granarylaw21_parts) :=
  lift1 (g := evFn Try.prog tnil tnil 14 Try.f14 F.granarylaw21_parts.plan) (evFn_sound tnil_ok tnil_ok Try.func14 (by kernel_rfl)) (fun x0 => by kernel_rfl)

/-- (*granary/export.Export).Busy -/
noncomputable def F.export_Export_Busy (a0 : Value) : M Value :=
  bindO (neV (EqSh.one EqK.ptr) a0 (Value.pointer none)) fun x1 =>
  M.bind (guardM x1 true (M.ret a0)) fun x2 =>
  M.bind (guardM x1 true (optM (nilChk x2))) fun x3 =>
  M.bind (guardM x1 true (optM (fieldA 5 x3))) fun x4 =>
  M.bind (guardM x1 true (rdM (ld1 x4))) fun x5 =>
  bindO (pickV x1 x5 (Value.bool false)) fun x6 =>
  M.ret x6
def F.export_Export_Busy.plan : Plan := (seq leaf (seq leaf leaf))
theorem F.export_Export_Busy.lift : LiftOk Try.prog 15 (ap1 F.export_Export_Busy) :=
  lift1 (g := evFn Try.prog tnil tnil 15 Try.f15 F.export_Export_Busy.plan) (evFn_sound tnil_ok tnil_ok Try.func15 (by kernel_rfl)) (fun x0 => by kernel_rfl)

/-- (*granary/export.Export).Report -/
noncomputable def F.export_Export_Report (a0 : Value) : M Value :=
  M.bind (newM 49 #[(Value.int IntKind.i64 0), (Value.int IntKind.i64 0), (Value.slice none 0 0), (Value.slice none 0 0)]) fun x1 =>
  bindO (eqV (EqSh.one EqK.ptr) a0 (Value.pointer none)) fun x2 =>
  condM x2 (
    bindO (buildV #[(Value.int IntKind.i64 0), (Value.int IntKind.i64 0), (Value.slice none 0 0), (Value.slice none 0 0)] []) fun x3 =>
    M.bind (stM 4 x1 x3) fun _ =>
    M.bind (rdM (ldA 4 x1)) fun x5 =>
    M.ret (Value.tuple #[x5, (Value.int IntKind.i64 2)])) (
    bindO (nilChk a0) fun x6 =>
    bindO (fieldA 12 x6) fun x7 =>
    M.bind (rdM (ld1 x7)) fun x8 =>
    bindO (notV x8) fun x9 =>
    condM x9 (
      bindO (buildV #[(Value.int IntKind.i64 0), (Value.int IntKind.i64 0), (Value.slice none 0 0), (Value.slice none 0 0)] []) fun x10 =>
      M.bind (stM 4 x1 x10) fun _ =>
      M.bind (rdM (ldA 4 x1)) fun x12 =>
      M.ret (Value.tuple #[x12, (Value.int IntKind.i64 151)])) (
      bindO (nilChk a0) fun x13 =>
      bindO (fieldA 13 x13) fun x14 =>
      M.bind (rdM (ldA 4 x14)) fun x15 =>
      M.bind (newM 49 #[(Value.int IntKind.i64 0), (Value.int IntKind.i64 0), (Value.slice none 0 0), (Value.slice none 0 0)]) fun x16 =>
      M.bind (stM 4 x16 x15) fun _ =>
      bindO (nilChk a0) fun x18 =>
      bindO (fieldA 13 x18) fun x19 =>
      bindO (fieldA 2 x19) fun x20 =>
      M.bind (rdM (ld1 x20)) fun x21 =>
      bindO (lenL x21) fun x22 =>
      M.bind (mksM 81 2 32 #[(Value.string ByteArray.empty), (Value.string ByteArray.empty)] x22 x22) fun x23 =>
      bindO (fieldA 2 x16) fun x24 =>
      M.bind (stM 1 x24 x23) fun _ =>
      drewM <|
      bindO (fieldA 2 x16) fun x26 =>
      M.bind (rdM (ld1 x26)) fun x27 =>
      bindO (nilChk a0) fun x28 =>
      bindO (fieldA 13 x28) fun x29 =>
      bindO (fieldA 2 x29) fun x30 =>
      M.bind (rdM (ld1 x30)) fun x31 =>
      M.bind (cpyM 2 x27 x31) fun _ =>
      bindO (nilChk a0) fun x33 =>
      bindO (fieldA 13 x33) fun x34 =>
      bindO (fieldA 3 x34) fun x35 =>
      M.bind (rdM (ld1 x35)) fun x36 =>
      bindO (lenL x36) fun x37 =>
      M.bind (mksM 3 1 8 #[(Value.int IntKind.i64 0)] x37 x37) fun x38 =>
      bindO (fieldA 3 x16) fun x39 =>
      M.bind (stM 1 x39 x38) fun _ =>
      drewM <|
      bindO (fieldA 3 x16) fun x41 =>
      M.bind (rdM (ld1 x41)) fun x42 =>
      bindO (nilChk a0) fun x43 =>
      bindO (fieldA 13 x43) fun x44 =>
      bindO (fieldA 3 x44) fun x45 =>
      M.bind (rdM (ld1 x45)) fun x46 =>
      M.bind (cpyM 1 x42 x46) fun _ =>
      M.bind (rdM (ldA 4 x16)) fun x48 =>
      M.bind (stM 4 x1 x48) fun _ =>
      M.bind (rdM (ldA 4 x1)) fun x50 =>
      M.ret (Value.tuple #[x50, (Value.int IntKind.i64 0)])))
def F.export_Export_Report.plan : Plan := (seq leaf (seq (body (seq leaf (cond (seq leaf leaf) (seq leaf (cond (seq leaf leaf) leaf))))) (seq leaf (seq leaf (seq leaf (seq leaf (seq leaf (seq leaf leaf))))))))
theorem F.export_Export_Report.lift : LiftOk Try.prog 16 (ap1 F.export_Export_Report) :=
  lift1 (g := evFn Try.prog tnil tnil 16 Try.f16 F.export_Export_Report.plan) (evFn_sound tnil_ok tnil_ok Try.func16 (by kernel_rfl)) (fun x0 => by kernel_rfl)

/-- granary/granarylaw21.ExportEnds -/
noncomputable def F.granarylaw21_ExportEnds (a0 a1 : Value) : M Value :=
  M.bind (newM 24 (Value.cells a0)) fun x1 =>
  bindO (lenL a1) fun x2 =>
  M.bind (F.granaryref21_Beyond x2) fun x3 =>
  condM x3 (
    M.ret (Value.bool true)) (
    M.bind (rdM (ldA 23 x1)) fun x4 =>
    M.bind (F.ring_Check x4) fun x5 =>
    M.bind (F.granarylaw21_num x5) fun x6 =>
    bindO (binV BinOp.neq x6 (Value.int IntKind.i64 0)) fun x7 =>
    condM x7 (
      M.bind (rdM (ldA 23 x1)) fun x8 =>
      M.bind (F.granarylaw21_refused x8) fun x9 =>
      M.ret x9) (
      M.bind (rdM (ldA 23 x1)) fun x10 =>
      M.bind (F.granarylaw21_cluster x10) fun x11 =>
      M.bind (F.export_New x11) fun x12 =>
      bindO (extV 0 x12) fun x13 =>
      bindO (extV 1 x12) fun x14 =>
      bindO (eqV (EqSh.one EqK.ptr) x13 (Value.pointer none)) fun x15 =>
      M.bind (guardM x15 false (M.ret x14)) fun x16 =>
      M.bind (guardM x15 false (F.granarylaw21_num x16)) fun x17 =>
      M.bind (guardM x15 false (optM (binV BinOp.neq x17 (Value.int IntKind.i64 0)))) fun x18 =>
      bindO (pickV x15 (Value.bool true) x18) fun x19 =>
      condM x19 (
        M.ret (Value.bool false)) (
        M.bind (loopM (fun l20 =>
          bindO (lenL a1) fun x21 =>
          bindO (binV BinOp.lss (getL l20 0) x21) fun x22 =>
          condM x22 (
            M.bind (
              bindO (idxA 14 a1 (getL l20 0)) fun x23 =>
              bindO (fieldA 0 x23) fun x24 =>
              M.bind (rdM (ld1 x24)) fun x25 =>
              bindO (binV BinOp.eql x25 (Value.int IntKind.i64 1)) fun x26 =>
              condM x26 (
                bindO (idxA 14 a1 (getL l20 0)) fun x27 =>
                bindO (fieldA 2 x27) fun x28 =>
                M.bind (rdM (ld1 x28)) fun x29 =>
                M.bind (F.export_Export_Begin x13 x29) fun _ =>
                M.ret (Out.norm [])) (
                bindO (binV BinOp.eql x25 (Value.int IntKind.i64 2)) fun x31 =>
                condM x31 (
                  bindO (idxA 14 a1 (getL l20 0)) fun x32 =>
                  bindO (fieldA 3 x32) fun x33 =>
                  M.bind (rdM (ldA 11 x33)) fun x34 =>
                  M.bind (F.export_Export_Take x13 x34) fun _ =>
                  M.ret (Out.norm [])) (
                  bindO (binV BinOp.eql x25 (Value.int IntKind.i64 3)) fun x36 =>
                  condM x36 (
                    M.bind (F.export_Export_Tick x13) fun _ =>
                    M.ret (Out.norm [])) (
                    M.ret (Out.norm []))))) fun o39 =>
            outK o39 (fun _ =>
              bindO (binV BinOp.add (getL l20 0) (Value.int IntKind.i64 1)) fun x42 =>
              M.ret (Out.norm [x42])) (fun _ _ =>
              M.fail) (fun r41 => M.ret (Out.ret r41))) (
            M.ret (Out.exit 0 [(getL l20 0)]))) [(Value.int IntKind.i64 0)]) fun o45 =>
        outK o45 (fun _ => M.fail) (fun i46 _ =>
          bif Nat.beq i46 0 then (
            drewM <|
            getM fun W48 =>
            M.bind (rdM (ldA 23 x1)) fun x49 =>
            M.bind (F.granarylaw21_parts x49) fun x50 =>
            getM fun _ =>
            bindO (fieldA 1 x1) fun x52 =>
            M.bind (rdM (ld1 x52)) fun x53 =>
            bindO (binV BinOp.mul x50 x53) fun x54 =>
            bindO (fieldA 18 x1) fun x55 =>
            M.bind (rdM (ld1 x55)) fun x56 =>
            bindO (binV BinOp.mul x54 x56) fun x57 =>
            reqM (ld1 x52 W48 = some x53) <|
            reqM (ld1 x55 W48 = some x56) <|
            M.bind (loopM (fun l58 =>
              bindO (binV BinOp.lss (getL l58 0) x57) fun x59 =>
              M.bind (guardM x59 true (M.ret x13)) fun x60 =>
              M.bind (guardM x59 true (F.export_Export_Busy x60)) fun x61 =>
              bindO (pickV x59 x61 (Value.bool false)) fun x62 =>
              condM x62 (
                M.bind (F.export_Export_Tick x13) fun _ =>
                bindO (binV BinOp.add (getL l58 0) (Value.int IntKind.i64 1)) fun x64 =>
                M.ret (Out.norm [x64])) (
                M.ret (Out.exit 3 [(getL l58 0)]))) [(Value.int IntKind.i64 0)]) fun o66 =>
            outK o66 (fun _ => M.fail) (fun i67 _ =>
              bif Nat.beq i67 3 then (
                M.bind (F.export_Export_Begin x13 (Value.int IntKind.i64 1)) fun x69 =>
                bindO (extV 0 x69) fun x70 =>
                bindO (extV 1 x69) fun x71 =>
                M.bind (F.granarylaw21_num x71) fun x72 =>
                bindO (binV BinOp.neq x72 (Value.int IntKind.i64 0)) fun x73 =>
                M.bind (guardM x73 false (M.ret x70)) fun x74 =>
                M.bind (guardM x73 false (optM (lenL x74))) fun x75 =>
                M.bind (guardM x73 false (optM (binV BinOp.neq x75 (Value.int IntKind.i64 1)))) fun x76 =>
                bindO (pickV x73 (Value.bool true) x76) fun x77 =>
                condM x77 (
                  M.ret (Value.bool false)) (
                  bindO (lenL x70) fun x78 =>
                  M.bind (loopM (fun l79 =>
                    bindO (binV BinOp.lss (getL l79 1) x57) fun x80 =>
                    condM x80 (
                      M.bind (F.export_Export_Busy x13) fun x81 =>
                      bindO (notV x81) fun x82 =>
                      condM x82 (
                        M.ret (Out.ret (Value.bool false))) (
                        M.bind (F.export_Export_Tick x13) fun x83 =>
                        bindO (extV 0 x83) fun x84 =>
                        bindO (extV 1 x83) fun x85 =>
                        M.bind (F.granarylaw21_num x85) fun x86 =>
                        bindO (binV BinOp.neq x86 (Value.int IntKind.i64 0)) fun x87 =>
                        M.bind (guardM x87 false (M.ret x84)) fun x88 =>
                        M.bind (guardM x87 false (optM (lenL x88))) fun x89 =>
                        M.bind (guardM x87 false (optM (binV BinOp.gtr x89 (Value.int IntKind.i64 1)))) fun x90 =>
                        bindO (pickV x87 (Value.bool true) x90) fun x91 =>
                        M.bind (guardM x91 false (M.ret x84)) fun x92 =>
                        M.bind (guardM x91 false (optM (lenL x92))) fun x93 =>
                        M.bind (guardM x91 false (optM (binV BinOp.eql x93 (Value.int IntKind.i64 1)))) fun x94 =>
                        M.bind (guardM x91 false (M.ret x94)) fun x95 =>
                        M.bind (guardM x95 true (M.ret (getL l79 1))) fun x96 =>
                        M.bind (guardM x95 true (optM (binV BinOp.add x96 (Value.int IntKind.i64 1)))) fun x97 =>
                        M.bind (guardM x95 true (optM (fieldA 18 x1))) fun x98 =>
                        M.bind (guardM x95 true (rdM (ld1 x98))) fun x99 =>
                        M.bind (guardM x95 true (optM (binV BinOp.rem x97 x99))) fun x100 =>
                        M.bind (guardM x95 true (optM (binV BinOp.neq x100 (Value.int IntKind.i64 0)))) fun x101 =>
                        M.bind (guardM x91 false (optM (pickV x95 x101 (Value.bool false)))) fun x102 =>
                        bindO (pickV x91 (Value.bool true) x102) fun x103 =>
                        condM x103 (
                          M.ret (Out.ret (Value.bool false))) (
                          bindO (lenL x84) fun x104 =>
                          bindO (binV BinOp.add (getL l79 0) x104) fun x105 =>
                          bindO (binV BinOp.add (getL l79 1) (Value.int IntKind.i64 1)) fun x106 =>
                          M.ret (Out.norm [x105, x106])))) (
                      M.ret (Out.exit 5 [(getL l79 0), (getL l79 1)]))) [x78, (Value.int IntKind.i64 0)]) fun o108 =>
                  outK o108 (fun _ => M.fail) (fun i109 l107 =>
                    bif Nat.beq i109 5 then (
                      M.bind (F.export_Export_Report x13) fun x111 =>
                      bindO (extV 0 x111) fun x112 =>
                      bindO (extV 1 x111) fun x113 =>
                      M.bind (newM 49 #[(Value.int IntKind.i64 0), (Value.int IntKind.i64 0), (Value.slice none 0 0), (Value.slice none 0 0)]) fun x114 =>
                      M.bind (stM 4 x114 x112) fun _ =>
                      drewM <|
                      getM fun _ =>
                      M.bind (F.export_Export_Busy x13) fun x117 =>
                      getM fun _ =>
                      M.bind (guardM x117 false (M.ret x113)) fun x119 =>
                      M.bind (guardM x117 false (F.granarylaw21_num x119)) fun x120 =>
                      getM fun W121 =>
                      M.bind (guardM x117 false (optM (binV BinOp.neq x120 (Value.int IntKind.i64 0)))) fun x122 =>
                      bindO (pickV x117 (Value.bool true) x122) fun x123 =>
                      M.bind (guardM x123 false (M.ret (getL l107 0))) fun x124 =>
                      M.bind (guardM x123 false (rdM (ldA 23 x1))) fun x125 =>
                      M.bind (guardM x123 false (F.granarylaw21_parts x125)) fun x126 =>
                      getM fun _ =>
                      M.bind (guardM x123 false (optM (fieldA 1 x1))) fun x128 =>
                      M.bind (guardM x123 false (rdM (ld1 x128))) fun x129 =>
                      M.bind (guardM x123 false (optM (binV BinOp.mul x126 x129))) fun x130 =>
                      M.bind (guardM x123 false (optM (binV BinOp.neq x124 x130))) fun x131 =>
                      bindO (pickV x123 (Value.bool true) x131) fun x132 =>
                      M.bind (guardM x132 false (optM (fieldA 2 x114))) fun x133 =>
                      M.bind (guardM x132 false (rdM (ld1 x133))) fun x134 =>
                      M.bind (guardM x132 false (optM (lenL x134))) fun x135 =>
                      M.bind (guardM x132 false (optM (binV BinOp.neq x135 (Value.int IntKind.i64 0)))) fun x136 =>
                      bindO (pickV x132 (Value.bool true) x136) fun x137 =>
                      M.bind (guardM x137 false (optM (fieldA 3 x114))) fun x138 =>
                      M.bind (guardM x137 false (rdM (ld1 x138))) fun x139 =>
                      M.bind (guardM x137 false (optM (lenL x139))) fun x140 =>
                      M.bind (guardM x137 false (rdM (ldA 23 x1))) fun x141 =>
                      M.bind (guardM x137 false (F.granarylaw21_parts x141)) fun x142 =>
                      getM fun W143 =>
                      M.bind (guardM x137 false (optM (binV BinOp.neq x140 x142))) fun x144 =>
                      bindO (pickV x137 (Value.bool true) x144) fun x145 =>
                      reqM (x123 = Value.bool false → ld1 x128 W121 = some x129) <|
                      reqM (x137 = Value.bool false → ld1 x138 W143 = some x139) <|
                      condM x145 (
                        M.ret (Value.bool false)) (
                        M.bind (loopM (fun l146 =>
                          bindO (fieldA 3 x114) fun x147 =>
                          M.bind (rdM (ld1 x147)) fun x148 =>
                          bindO (lenL x148) fun x149 =>
                          bindO (binV BinOp.lss (getL l146 0) x149) fun x150 =>
                          condM x150 (
                            bindO (fieldA 3 x114) fun x151 =>
                            M.bind (rdM (ld1 x151)) fun x152 =>
                            bindO (idxA 1 x152 (getL l146 0)) fun x153 =>
                            M.bind (rdM (ld1 x153)) fun x154 =>
                            bindO (binV BinOp.neq x154 (getL l146 0)) fun x155 =>
                            condM x155 (
                              M.ret (Out.ret (Value.bool false))) (
                              bindO (binV BinOp.add (getL l146 0) (Value.int IntKind.i64 1)) fun x156 =>
                              M.ret (Out.norm [x156]))) (
                            M.ret (Out.exit 7 [(getL l146 0)]))) [(Value.int IntKind.i64 0)]) fun o158 =>
                        outK o158 (fun _ => M.fail) (fun i159 _ =>
                          bif Nat.beq i159 7 then (
                            M.ret (Value.bool true)) else
                          M.fail) (fun r160 => M.ret r160))) else
                    M.fail) (fun r110 => M.ret r110))) else
              M.fail) (fun r68 => M.ret r68)) else
          M.fail) (fun r47 => M.ret r47))))
def F.granarylaw21_ExportEnds.plan : Plan := (seq leaf (seq (seq leaf (cond (seq leaf leaf) leaf)) (seq (seq leaf (cond (seq leaf leaf) leaf)) (seq leaf (seq (seq leaf (cond (seq leaf leaf) leaf)) (seq (seq leaf (body (loop [7] [7, 41, 42, 43, 44, 45, 46, 47, 48, 49, 50, 51, 52, 53, 54, 55, 56, 57, 58, 59, 60, 61, 62, 63, 64, 65, 66, 67, 68, 69, 70, 71, 72, 73] [0] (seq (seq leaf (cond leaf leaf)) (fork [] [47, 48, 49, 50, 51, 52, 53, 54, 55, 56, 57, 58, 59, 60, 61, 62, 63, 64, 65, 66, 67, 68, 69, 70, 71, 72, 73] [] (body (seq leaf (body (seq leaf (cond leaf (seq leaf (cond leaf (seq leaf (cond leaf leaf))))))))) leaf))))) (seq leaf (seq (seq leaf (body (loop [9] [9, 82, 83, 84, 85, 86, 87, 88, 89, 90, 91, 92] [3] (seq (seq leaf (cond leaf leaf)) (seq (body leaf) leaf))))) (seq leaf (seq (seq leaf (cond (seq leaf leaf) leaf)) (seq leaf (seq (seq leaf (body (loop [12, 13] [4, 12, 13, 14, 15, 108, 109, 110, 111, 112, 113, 114, 115, 116, 117, 118, 119, 120, 121, 122, 123, 124, 125, 126, 127, 128, 129, 130, 131, 132, 133, 134, 135, 136, 137, 138, 139, 140, 141, 142, 143, 144, 145] [5] (seq (seq leaf (cond leaf leaf)) (seq (body (seq (seq leaf (cond (seq leaf leaf) leaf)) (seq leaf (seq (seq leaf (cond (seq leaf leaf) leaf)) leaf)))) leaf))))) (seq leaf (seq (seq leaf (cond (seq leaf leaf) leaf)) (seq (seq leaf (body (loop [18] [4, 18, 181, 182, 183, 184, 185, 186, 187, 188, 189, 190, 191, 192, 193, 194] [7] (seq (seq leaf (cond leaf leaf)) (seq (body (seq leaf (cond (seq leaf leaf) leaf))) leaf))))) (seq leaf leaf))))))))))))))))
theorem F.granarylaw21_ExportEnds.lift : LiftOk Try.prog 3 (ap2 F.granarylaw21_ExportEnds) :=
  lift2 (g := evFn Try.prog (tcons 5 (ap1 F.granaryref21_Beyond) (tcons 6 (ap1 F.granarylaw21_num) (tcons 7 (ap1 F.ring_Check) (tcons 8 (ap1 F.granarylaw21_refused) (tcons 9 (ap1 F.export_New) (tcons 10 (ap1 F.granarylaw21_cluster) (tcons 11 (ap2 F.export_Export_Begin) (tcons 12 (ap2 F.export_Export_Take) (tcons 13 (ap1 F.export_Export_Tick) (tcons 14 (ap1 F.granarylaw21_parts) (tcons 15 (ap1 F.export_Export_Busy) (tcons 16 (ap1 F.export_Export_Report) tnil)))))))))))) tnil 3 Try.f3 F.granarylaw21_ExportEnds.plan) (evFn_sound (tcons_ok F.granaryref21_Beyond.lift (tcons_ok F.granarylaw21_num.lift (tcons_ok F.ring_Check.lift (tcons_ok F.granarylaw21_refused.lift (tcons_ok F.export_New.lift (tcons_ok F.granarylaw21_cluster.lift (tcons_ok F.export_Export_Begin.lift (tcons_ok F.export_Export_Take.lift (tcons_ok F.export_Export_Tick.lift (tcons_ok F.granarylaw21_parts.lift (tcons_ok F.export_Export_Busy.lift (tcons_ok F.export_Export_Report.lift tnil_ok)))))))))))) tnil_ok Try.func3 (by kernel_rfl)) (fun x0 x1 => by kernel_rfl)

/-- (*granary/granarylaw21.talk).hear -/
noncomputable def F.granarylaw21_talk_hear (a0 a1 a2 : Value) : M Value :=
  M.bind (F.granarylaw21_num a2) fun x1 =>
  bindO (binV BinOp.neq x1 (Value.int IntKind.i64 0)) fun x2 =>
  M.bind (guardM x2 false (M.ret a1)) fun x3 =>
  M.bind (guardM x2 false (optM (lenL x3))) fun x4 =>
  M.bind (guardM x2 false (optM (binV BinOp.gtr x4 (Value.int IntKind.i64 1)))) fun x5 =>
  bindO (pickV x2 (Value.bool true) x5) fun x6 =>
  condM x6 (
    M.ret (Value.bool false)) (
    M.bind (
      bindO (lenL a1) fun x7 =>
      bindO (binV BinOp.eql x7 (Value.int IntKind.i64 1)) fun x8 =>
      condM x8 (
        bindO (idxA 11 a1 (Value.int IntKind.i64 0)) fun x9 =>
        M.bind (rdM (ldA 11 x9)) fun x10 =>
        bindO (nilChk a0) fun x11 =>
        bindO (fieldA 1 x11) fun x12 =>
        M.bind (stM 11 x12 x10) fun _ =>
        bindO (nilChk a0) fun x14 =>
        bindO (fieldA 12 x14) fun x15 =>
        M.bind (stM 1 x15 (Value.bool true)) fun _ =>
        M.ret (Out.norm [])) (
        M.ret (Out.norm []))) fun o18 =>
    outK o18 (fun _ =>
      M.ret (Value.bool true)) (fun _ _ =>
      M.fail) (fun r20 => M.ret r20))
def F.granarylaw21_talk_hear.plan : Plan := (seq leaf (seq (seq leaf (cond (seq leaf leaf) leaf)) (fork [] [15, 16, 17, 18, 19, 20, 21, 22, 23, 24, 25, 26] [] (seq leaf (cond (seq leaf leaf) leaf)) (seq leaf leaf))))
theorem F.granarylaw21_talk_hear.lift : LiftOk Try.prog 17 (ap3 F.granarylaw21_talk_hear) :=
  lift3 (g := evFn Try.prog (tcons 6 (ap1 F.granarylaw21_num) tnil) tnil 17 Try.f17 F.granarylaw21_talk_hear.plan) (evFn_sound (tcons_ok F.granarylaw21_num.lift tnil_ok) tnil_ok Try.func17 (by kernel_rfl)) (fun x0 x1 x2 => by kernel_rfl)

/-- granary/granarylaw21.asksOwner -/
noncomputable def F.granarylaw21_asksOwner (a0 a1 a2 a3 : Value) : M Value :=
  M.bind (newM 24 (Value.cells a0)) fun x1 =>
  M.bind (newM 36 (Value.cells a1)) fun x2 =>
  M.bind (rdM (ldA 23 x1)) fun x3 =>
  bindO (fieldA 5 x2) fun x4 =>
  M.bind (rdM (ld1 x4)) fun x5 =>
  M.bind (F.ring_Owners x3 x5) fun x6 =>
  bindO (extV 0 x6) fun x7 =>
  bindO (extV 1 x6) fun x8 =>
  M.bind (F.granarylaw21_num x8) fun x9 =>
  bindO (binV BinOp.neq x9 (Value.int IntKind.i64 0)) fun x10 =>
  M.bind (guardM x10 false (M.ret x7)) fun x11 =>
  M.bind (guardM x10 false (optM (lenL x11))) fun x12 =>
  M.bind (guardM x10 false (optM (fieldA 1 x1))) fun x13 =>
  M.bind (guardM x10 false (rdM (ld1 x13))) fun x14 =>
  M.bind (guardM x10 false (optM (binV BinOp.neq x12 x14))) fun x15 =>
  bindO (pickV x10 (Value.bool true) x15) fun x16 =>
  condM x16 (
    M.ret (Value.bool false)) (
    M.bind (loopM (fun l17 =>
      bindO (lenL x7) fun x18 =>
      bindO (binV BinOp.lss (getL l17 1) x18) fun x19 =>
      condM x19 (
        M.bind (
          drewM <|
          bindO (fieldA 22 x1) fun x20 =>
          M.bind (rdM (ld1 x20)) fun x21 =>
          bindO (idxA 1 x7 (getL l17 1)) fun x22 =>
          M.bind (rdM (ld1 x22)) fun x23 =>
          bindO (idxA 2 x21 x23) fun x24 =>
          bindO (fieldA 0 x24) fun x25 =>
          M.bind (rdM (ld1 x25)) fun x26 =>
          bindO (fieldA 21 x1) fun x27 =>
          M.bind (rdM (ld1 x27)) fun x28 =>
          bindO (binV BinOp.eql x26 x28) fun x29 =>
          condM x29 (
            bindO (binV BinOp.add (getL l17 0) (Value.int IntKind.i64 1)) fun x30 =>
            M.ret (Out.norm [x30])) (
            M.ret (Out.norm [(getL l17 0)]))) fun o32 =>
        outK o32 (fun l31 =>
          bindO (binV BinOp.add (getL l17 1) (Value.int IntKind.i64 1)) fun x35 =>
          M.ret (Out.norm [(getL l31 0), x35])) (fun _ _ =>
          M.fail) (fun r34 => M.ret (Out.ret r34))) (
        M.ret (Out.exit 0 [(getL l17 0), (getL l17 1)]))) [(Value.int IntKind.i64 0), (Value.int IntKind.i64 0)]) fun o38 =>
    outK o38 (fun _ => M.fail) (fun i39 l37 =>
      bif Nat.beq i39 0 then (
        M.bind (loopM (fun l41 =>
          bindO (lenL x7) fun x42 =>
          bindO (binV BinOp.lss (getL l41 3) x42) fun x43 =>
          condM x43 (
            M.bind (
              drewM <|
              bindO (fieldA 22 x1) fun x44 =>
              M.bind (rdM (ld1 x44)) fun x45 =>
              bindO (idxA 1 x7 (getL l41 3)) fun x46 =>
              M.bind (rdM (ld1 x46)) fun x47 =>
              bindO (idxA 2 x45 x47) fun x48 =>
              bindO (fieldA 0 x48) fun x49 =>
              M.bind (rdM (ld1 x49)) fun x50 =>
              bindO (fieldA 21 x1) fun x51 =>
              M.bind (rdM (ld1 x51)) fun x52 =>
              bindO (binV BinOp.eql x50 x52) fun x53 =>
              condM x53 (
                M.bind (
                  bindO (binV BinOp.eql (getL l41 0) a3) fun x54 =>
                  condM x54 (
                    bindO (idxA 1 x7 (getL l41 3)) fun x55 =>
                    M.bind (rdM (ld1 x55)) fun x56 =>
                    M.ret (Out.norm [x56])) (
                    M.ret (Out.norm [(getL l41 2)]))) fun o58 =>
                outK o58 (fun l57 =>
                  bindO (binV BinOp.add (getL l41 0) (Value.int IntKind.i64 1)) fun x61 =>
                  M.ret (Out.norm [x61, (getL l41 1), (getL l57 0)])) (fun _ _ =>
                  M.fail) (fun r60 => M.ret (Out.ret r60))) (
                M.bind (
                  bindO (binV BinOp.add (getL l37 0) (getL l41 1)) fun x63 =>
                  bindO (binV BinOp.eql x63 a3) fun x64 =>
                  condM x64 (
                    bindO (idxA 1 x7 (getL l41 3)) fun x65 =>
                    M.bind (rdM (ld1 x65)) fun x66 =>
                    M.ret (Out.norm [x66])) (
                    M.ret (Out.norm [(getL l41 2)]))) fun o68 =>
                outK o68 (fun l67 =>
                  bindO (binV BinOp.add (getL l41 1) (Value.int IntKind.i64 1)) fun x71 =>
                  M.ret (Out.norm [(getL l41 0), x71, (getL l67 0)])) (fun _ _ =>
                  M.fail) (fun r70 => M.ret (Out.ret r70)))) fun o74 =>
            outK o74 (fun l73 =>
              bindO (binV BinOp.add (getL l41 3) (Value.int IntKind.i64 1)) fun x77 =>
              M.ret (Out.norm [(getL l73 0), (getL l73 1), (getL l73 2), x77])) (fun _ _ =>
              M.fail) (fun r76 => M.ret (Out.ret r76))) (
            M.ret (Out.exit 2 [(getL l41 0), (getL l41 1), (getL l41 2), (getL l41 3)]))) [(Value.int IntKind.i64 0), (Value.int IntKind.i64 0), (Value.int IntKind.i64 (-1)), (Value.int IntKind.i64 0)]) fun o80 =>
        outK o80 (fun _ => M.fail) (fun i81 l79 =>
          bif Nat.beq i81 2 then (
            M.bind (rdM (ldA 11 x2)) fun x83 =>
            bindO (fieldA 3 x2) fun x84 =>
            M.bind (rdM (ld1 x84)) fun x85 =>
            bindO (fieldA 5 x2) fun x86 =>
            M.bind (rdM (ld1 x86)) fun x87 =>
            bindO (fieldA 7 x2) fun x88 =>
            M.bind (rdM (ld1 x88)) fun x89 =>
            bindO (buildV #[(Value.int IntKind.i64 0), (Value.int IntKind.i64 0), (Value.int IntKind.i64 0), (Value.int IntKind.i64 0), (Value.int IntKind.i64 0), (Value.int IntKind.i64 0), (Value.int IntKind.i64 0), (Value.int IntKind.i64 0), (Value.int IntKind.i64 0), (Value.string ByteArray.empty), (Value.string ByteArray.empty)] [(0, 1, (Value.int IntKind.i64 15)), (1, 1, (Value.int IntKind.i64 67)), (2, 1, (getL l79 2)), (3, 1, x85), (5, 1, x87), (6, 1, a2), (7, 1, x89)]) fun x90 =>
            bindO (eqV (EqSh.offs [(EqK.int, 0), (EqK.int, 1), (EqK.int, 2), (EqK.int, 3), (EqK.int, 4), (EqK.int, 5), (EqK.int, 6), (EqK.int, 7), (EqK.int, 8), (EqK.str, 9), (EqK.str, 10)]) x83 x90) fun x91 =>
            M.ret x91) else
          M.fail) (fun r82 => M.ret r82)) else
      M.fail) (fun r40 => M.ret r40))
def F.granarylaw21_asksOwner.plan : Plan := (seq leaf (seq leaf (seq (seq leaf (cond (seq leaf leaf) leaf)) (seq leaf (seq leaf (seq leaf (seq (seq leaf (body (loop [11, 14] [11, 14, 34, 35, 36, 37, 38, 39, 40, 41, 42, 43, 44, 45, 46, 47, 48, 49, 50, 51, 52, 53] [0] (seq (seq leaf (cond leaf leaf)) (fork [11] [11, 40, 41, 42, 43, 44, 45, 46, 47, 48, 49, 50, 51, 52, 53] [] (body (seq leaf (cond leaf leaf))) leaf))))) (seq leaf (seq leaf (seq (seq leaf (body (loop [11, 12, 13, 16] [11, 12, 13, 16, 55, 56, 57, 58, 59, 60, 61, 62, 63, 64, 65, 66, 67, 68, 69, 70, 71, 72, 73, 74, 75, 76, 77, 78, 79, 80, 81, 82, 83, 84, 85, 86, 87, 88, 89, 90, 91, 92] [2] (seq (seq leaf (cond leaf leaf)) (fork [11, 12, 13] [11, 12, 13, 61, 62, 63, 64, 65, 66, 67, 68, 69, 70, 71, 72, 73, 74, 75, 76, 77, 78, 79, 80, 81, 82, 83, 84, 85, 86, 87, 88, 89, 90, 91, 92] [] (body (seq leaf (cond (fork [13] [13, 73, 74, 75, 76, 77, 78, 79] [] (seq leaf (cond leaf leaf)) leaf) (fork [13] [13, 82, 83, 84, 85, 86, 87, 88, 89, 90] [] (seq leaf (cond leaf leaf)) leaf)))) leaf))))) (seq leaf leaf)))))))))))
theorem F.granarylaw21_asksOwner.lift : LiftOk Try.prog 18 (ap4 F.granarylaw21_asksOwner) :=
  lift4 (g := evFn Try.prog (tcons 6 (ap1 F.granarylaw21_num) (tcons 24 (ap2 F.ring_Owners) tnil)) tnil 18 Try.f18 F.granarylaw21_asksOwner.plan) (evFn_sound (tcons_ok F.granarylaw21_num.lift (tcons_ok F.ring_Owners.lift tnil_ok)) tnil_ok Try.func18 (by kernel_rfl)) (fun x0 x1 x2 x3 => by kernel_rfl)

/-- granary/granarylaw21.of -/
noncomputable def F.granarylaw21_of (a0 a1 : Value) : M Value :=
  bindO (binV BinOp.lss a1 (Value.int IntKind.i64 0)) fun x1 =>
  M.bind (guardM x1 false (M.ret a1)) fun x2 =>
  M.bind (guardM x1 false (M.ret a0)) fun x3 =>
  M.bind (guardM x1 false (optM (lenL x3))) fun x4 =>
  M.bind (guardM x1 false (optM (binV BinOp.geq x2 x4))) fun x5 =>
  bindO (pickV x1 (Value.bool true) x5) fun x6 =>
  M.bind (guardM x6 false (M.ret a0)) fun x7 =>
  M.bind (guardM x6 false (M.ret a1)) fun x8 =>
  M.bind (guardM x6 false (optM (idxA 1 x7 x8))) fun x9 =>
  M.bind (guardM x6 false (optM (fieldA 0 x9))) fun x10 =>
  M.bind (guardM x6 false (rdM (ld1 x10))) fun x11 =>
  M.bind (guardM x6 false (optM (lenL x11))) fun x12 =>
  M.bind (guardM x6 false (optM (binV BinOp.gtr x12 (Value.int IntKind.i64 512)))) fun x13 =>
  bindO (pickV x6 (Value.bool true) x13) fun x14 =>
  condM x14 (
    M.ret (Value.slice none 0 0)) (
    bindO (idxA 1 a0 a1) fun x15 =>
    bindO (fieldA 0 x15) fun x16 =>
    M.bind (rdM (ld1 x16)) fun x17 =>
    M.ret x17)
def F.granarylaw21_of.plan : Plan := (seq leaf (seq (seq leaf (cond (seq leaf leaf) leaf)) (seq leaf leaf)))
theorem F.granarylaw21_of.lift : LiftOk Try.prog 32 (ap2 F.granarylaw21_of) :=
  lift2 (g := evFn Try.prog tnil tnil 32 Try.f32 F.granarylaw21_of.plan) (evFn_sound tnil_ok tnil_ok Try.func32 (by kernel_rfl)) (fun x0 x1 => by kernel_rfl)

/-- granary/granarylaw21.right -/
noncomputable def F.granarylaw21_right (a0 a1 : Value) : M Value :=
  M.bind (newM 36 (Value.cells a1)) fun x1 =>
  M.bind (newM 36 #[(Value.int IntKind.i64 0), (Value.int IntKind.i64 0), (Value.int IntKind.i64 0), (Value.int IntKind.i64 0), (Value.int IntKind.i64 0), (Value.int IntKind.i64 0), (Value.int IntKind.i64 0), (Value.int IntKind.i64 0), (Value.int IntKind.i64 0), (Value.string ByteArray.empty), (Value.string ByteArray.empty)]) fun x2 =>
  bindO (fieldA 2 x1) fun x3 =>
  M.bind (rdM (ld1 x3)) fun x4 =>
  bindO (fieldA 1 x1) fun x5 =>
  M.bind (rdM (ld1 x5)) fun x6 =>
  bindO (fieldA 3 x1) fun x7 =>
  M.bind (rdM (ld1 x7)) fun x8 =>
  bindO (fieldA 5 x1) fun x9 =>
  M.bind (rdM (ld1 x9)) fun x10 =>
  bindO (fieldA 6 x1) fun x11 =>
  M.bind (rdM (ld1 x11)) fun x12 =>
  bindO (fieldA 7 x1) fun x13 =>
  M.bind (rdM (ld1 x13)) fun x14 =>
  bindO (buildV #[(Value.int IntKind.i64 0), (Value.int IntKind.i64 0), (Value.int IntKind.i64 0), (Value.int IntKind.i64 0), (Value.int IntKind.i64 0), (Value.int IntKind.i64 0), (Value.int IntKind.i64 0), (Value.int IntKind.i64 0), (Value.int IntKind.i64 0), (Value.string ByteArray.empty), (Value.string ByteArray.empty)] [(0, 1, (Value.int IntKind.i64 16)), (1, 1, x4), (2, 1, x6), (3, 1, x8), (5, 1, x10), (6, 1, x12), (7, 1, x14)]) fun x15 =>
  M.bind (newM 36 #[(Value.int IntKind.i64 0), (Value.int IntKind.i64 0), (Value.int IntKind.i64 0), (Value.int IntKind.i64 0), (Value.int IntKind.i64 0), (Value.int IntKind.i64 0), (Value.int IntKind.i64 0), (Value.int IntKind.i64 0), (Value.int IntKind.i64 0), (Value.string ByteArray.empty), (Value.string ByteArray.empty)]) fun x16 =>
  M.bind (stM 11 x16 x15) fun _ =>
  bindO (fieldA 5 x1) fun x18 =>
  M.bind (rdM (ld1 x18)) fun x19 =>
  M.bind (F.granarylaw21_of a0 x19) fun x20 =>
  bindO (fieldA 7 x1) fun x21 =>
  M.bind (rdM (ld1 x21)) fun x22 =>
  bindO (binV BinOp.lss x22 (Value.int IntKind.i64 0)) fun x23 =>
  M.bind (guardM x23 false (optM (fieldA 7 x1))) fun x24 =>
  M.bind (guardM x23 false (rdM (ld1 x24))) fun x25 =>
  M.bind (guardM x23 false (M.ret x20)) fun x26 =>
  M.bind (guardM x23 false (optM (lenL x26))) fun x27 =>
  M.bind (guardM x23 false (optM (binV BinOp.geq x25 x27))) fun x28 =>
  bindO (pickV x23 (Value.bool true) x28) fun x29 =>
  condM x29 (
    bindO (fieldA 8 x16) fun x30 =>
    M.bind (stM 1 x30 (Value.int IntKind.i64 16)) fun _ =>
    M.bind (rdM (ldA 11 x16)) fun x32 =>
    M.bind (stM 11 x2 x32) fun _ =>
    M.bind (rdM (ldA 11 x2)) fun x34 =>
    M.ret x34) (
    bindO (fieldA 7 x1) fun x35 =>
    M.bind (rdM (ld1 x35)) fun x36 =>
    bindO (idxA 2 x20 x36) fun x37 =>
    bindO (fieldA 0 x37) fun x38 =>
    M.bind (rdM (ld1 x38)) fun x39 =>
    bindO (fieldA 9 x16) fun x40 =>
    M.bind (stM 1 x40 x39) fun _ =>
    bindO (fieldA 7 x1) fun x42 =>
    M.bind (rdM (ld1 x42)) fun x43 =>
    bindO (idxA 2 x20 x43) fun x44 =>
    bindO (fieldA 1 x44) fun x45 =>
    M.bind (rdM (ld1 x45)) fun x46 =>
    bindO (fieldA 10 x16) fun x47 =>
    M.bind (stM 1 x47 x46) fun _ =>
    M.bind (rdM (ldA 11 x16)) fun x49 =>
    M.bind (stM 11 x2 x49) fun _ =>
    M.bind (rdM (ldA 11 x2)) fun x51 =>
    M.ret x51)
def F.granarylaw21_right.plan : Plan := (seq leaf (seq leaf (seq leaf (seq (seq leaf (cond (seq leaf (seq leaf leaf)) leaf)) (seq leaf (seq leaf (seq leaf leaf)))))))
theorem F.granarylaw21_right.lift : LiftOk Try.prog 29 (ap2 F.granarylaw21_right) :=
  lift2 (g := evFn Try.prog (tcons 32 (ap2 F.granarylaw21_of) tnil) tnil 29 Try.f29 F.granarylaw21_right.plan) (evFn_sound (tcons_ok F.granarylaw21_of.lift tnil_ok) tnil_ok Try.func29 (by kernel_rfl)) (fun x0 x1 => by kernel_rfl)

/-- (*granary/granarylaw21.talk).leaves -/
noncomputable def F.granarylaw21_talk_leaves (a0 a1 a2 : Value) : M Value :=
  M.bind (newM 24 (Value.cells a1)) fun x1 =>
  bindO (nilChk a0) fun x2 =>
  bindO (fieldA 15 x2) fun x3 =>
  M.bind (rdM (ld1 x3)) fun x4 =>
  bindO (binV BinOp.add x4 (Value.int IntKind.i64 1)) fun x5 =>
  bindO (nilChk a0) fun x6 =>
  bindO (fieldA 15 x6) fun x7 =>
  M.bind (stM 1 x7 x5) fun _ =>
  drewM <|
  bindO (nilChk a0) fun x9 =>
  bindO (fieldA 15 x9) fun x10 =>
  M.bind (rdM (ld1 x10)) fun x11 =>
  bindO (fieldA 1 x1) fun x12 =>
  M.bind (rdM (ld1 x12)) fun x13 =>
  bindO (binV BinOp.eql x11 x13) fun x14 =>
  condM x14 (
    bindO (nilChk a0) fun x15 =>
    bindO (fieldA 16 x15) fun x16 =>
    M.bind (rdM (ld1 x16)) fun x17 =>
    M.bind (bslM 3 1 (Builtin.zeroCells #[(Value.int IntKind.i64 0)] 1) [(0, 1, a2)]) fun x18 =>
    M.bind (appM 3 1 8 #[(Value.int IntKind.i64 0)] x17 x18) fun x19 =>
    bindO (nilChk a0) fun x20 =>
    bindO (fieldA 16 x20) fun x21 =>
    M.bind (stM 1 x21 x19) fun _ =>
    bindO (nilChk a0) fun x23 =>
    bindO (fieldA 15 x23) fun x24 =>
    M.bind (stM 1 x24 (Value.int IntKind.i64 0)) fun _ =>
    M.ret (Value.tuple #[])) (
    M.ret (Value.tuple #[]))
def F.granarylaw21_talk_leaves.plan : Plan := (seq leaf (seq leaf (seq leaf (cond (seq leaf leaf) leaf))))
theorem F.granarylaw21_talk_leaves.lift : LiftOk Try.prog 30 (ap3 F.granarylaw21_talk_leaves) :=
  lift3 (g := evFn Try.prog tnil tnil 30 Try.f30 F.granarylaw21_talk_leaves.plan) (evFn_sound tnil_ok tnil_ok Try.func30 (by kernel_rfl)) (fun x0 x1 x2 => by kernel_rfl)

/-- (*granary/granarylaw21.talk).ticks -/
noncomputable def F.granarylaw21_talk_ticks (a0 a1 : Value) : M Value :=
  M.bind (loopM (fun l1 =>
    bindO (binV BinOp.lss (getL l1 0) a1) fun x2 =>
    condM x2 (
      bindO (nilChk a0) fun x3 =>
      bindO (fieldA 0 x3) fun x4 =>
      M.bind (rdM (ld1 x4)) fun x5 =>
      M.bind (F.export_Export_Tick x5) fun x6 =>
      bindO (extV 0 x6) fun x7 =>
      bindO (extV 1 x6) fun x8 =>
      M.bind (F.granarylaw21_talk_hear a0 x7 x8) fun x9 =>
      bindO (notV x9) fun x10 =>
      M.bind (guardM x10 false (M.ret x7)) fun x11 =>
      M.bind (guardM x10 false (optM (lenL x11))) fun x12 =>
      M.bind (guardM x10 false (optM (binV BinOp.gtr x12 (Value.int IntKind.i64 0)))) fun x13 =>
      M.bind (guardM x10 false (M.ret x13)) fun x14 =>
      M.bind (guardM x14 true (M.ret (getL l1 0))) fun x15 =>
      M.bind (guardM x14 true (M.ret a1)) fun x16 =>
      M.bind (guardM x14 true (optM (binV BinOp.sub x16 (Value.int IntKind.i64 1)))) fun x17 =>
      M.bind (guardM x14 true (optM (binV BinOp.lss x15 x17))) fun x18 =>
      M.bind (guardM x10 false (optM (pickV x14 x18 (Value.bool false)))) fun x19 =>
      bindO (pickV x10 (Value.bool true) x19) fun x20 =>
      condM x20 (
        M.ret (Out.ret (Value.bool false))) (
        bindO (binV BinOp.add (getL l1 0) (Value.int IntKind.i64 1)) fun x21 =>
        M.ret (Out.norm [x21]))) (
      M.ret (Out.exit 0 [(getL l1 0)]))) [(Value.int IntKind.i64 0)]) fun o23 =>
  outK o23 (fun _ => M.fail) (fun i24 _ =>
    bif Nat.beq i24 0 then (
      M.ret (Value.bool true)) else
    M.fail) (fun r25 => M.ret r25)
def F.granarylaw21_talk_ticks.plan : Plan := (seq leaf (seq (seq leaf (body (loop [5] [4, 5, 6, 7, 8, 9, 10, 11, 12, 13, 14, 15, 16, 17, 18, 19, 20, 21, 22, 23, 24, 25, 26, 27, 28, 29, 30, 31, 32, 33, 34, 35, 36] [0] (seq (seq leaf (cond leaf leaf)) (seq (body (seq leaf (seq leaf (cond (seq leaf leaf) leaf)))) leaf))))) (seq leaf leaf)))
theorem F.granarylaw21_talk_ticks.lift : LiftOk Try.prog 31 (ap2 F.granarylaw21_talk_ticks) :=
  lift2 (g := evFn Try.prog (tcons 13 (ap1 F.export_Export_Tick) (tcons 17 (ap3 F.granarylaw21_talk_hear) tnil)) tnil 31 Try.f31 F.granarylaw21_talk_ticks.plan) (evFn_sound (tcons_ok F.export_Export_Tick.lift (tcons_ok F.granarylaw21_talk_hear.lift tnil_ok)) tnil_ok Try.func31 (by kernel_rfl)) (fun x0 x1 => by kernel_rfl)

/-- (*granary/granarylaw21.talk).act -/
noncomputable def F.granarylaw21_talk_act (a0 a1 a2 a3 : Value) : M Value :=
  M.bind (newM 24 (Value.cells a1)) fun x1 =>
  M.bind (newM 61 (Value.cells a3)) fun x2 =>
  bindO (nilChk a0) fun x3 =>
  bindO (fieldA 1 x3) fun x4 =>
  M.bind (rdM (ldA 11 x4)) fun x5 =>
  M.bind (newM 36 #[(Value.int IntKind.i64 0), (Value.int IntKind.i64 0), (Value.int IntKind.i64 0), (Value.int IntKind.i64 0), (Value.int IntKind.i64 0), (Value.int IntKind.i64 0), (Value.int IntKind.i64 0), (Value.int IntKind.i64 0), (Value.int IntKind.i64 0), (Value.string ByteArray.empty), (Value.string ByteArray.empty)]) fun x6 =>
  M.bind (stM 11 x6 x5) fun _ =>
  bindO (nilChk a0) fun x8 =>
  bindO (fieldA 12 x8) fun x9 =>
  M.bind (stM 1 x9 (Value.bool false)) fun _ =>
  M.bind (rdM (ldA 11 x6)) fun x11 =>
  M.bind (F.granarylaw21_right a2 x11) fun x12 =>
  M.bind (newM 36 #[(Value.int IntKind.i64 0), (Value.int IntKind.i64 0), (Value.int IntKind.i64 0), (Value.int IntKind.i64 0), (Value.int IntKind.i64 0), (Value.int IntKind.i64 0), (Value.int IntKind.i64 0), (Value.int IntKind.i64 0), (Value.int IntKind.i64 0), (Value.string ByteArray.empty), (Value.string ByteArray.empty)]) fun x13 =>
  M.bind (stM 11 x13 x12) fun _ =>
  M.bind (
    bindO (fieldA 0 x2) fun x15 =>
    M.bind (rdM (ld1 x15)) fun x16 =>
    bindO (binV BinOp.eql x16 (Value.int IntKind.i64 1)) fun x17 =>
    condM x17 (
      M.bind (rdM (ldA 23 x1)) fun x18 =>
      bindO (fieldA 5 x6) fun x19 =>
      M.bind (rdM (ld1 x19)) fun x20 =>
      M.bind (F.granarylaw21_talk_leaves a0 x18 x20) fun _ =>
      bindO (fieldA 18 x1) fun x22 =>
      M.bind (rdM (ld1 x22)) fun x23 =>
      M.bind (F.granarylaw21_talk_ticks a0 x23) fun x24 =>
      M.ret (Out.ret x24)) (
      bindO (fieldA 0 x2) fun x25 =>
      M.bind (rdM (ld1 x25)) fun x26 =>
      bindO (binV BinOp.eql x26 (Value.int IntKind.i64 2)) fun x27 =>
      condM x27 (
        bindO (fieldA 3 x2) fun x28 =>
        M.bind (rdM (ld1 x28)) fun x29 =>
        bindO (fieldA 8 x13) fun x30 =>
        M.bind (stM 1 x30 x29) fun _ =>
        M.bind (
          bindO (fieldA 3 x2) fun x32 =>
          M.bind (rdM (ld1 x32)) fun x33 =>
          M.bind (F.granarylaw21_num x33) fun x34 =>
          bindO (binV BinOp.eql x34 (Value.int IntKind.i64 0)) fun x35 =>
          M.bind (guardM x35 false (optM (fieldA 3 x2))) fun x36 =>
          M.bind (guardM x35 false (rdM (ld1 x36))) fun x37 =>
          M.bind (guardM x35 false (F.granarylaw21_num x37)) fun x38 =>
          M.bind (guardM x35 false (optM (binV BinOp.eql x38 (Value.int IntKind.i64 16)))) fun x39 =>
          bindO (pickV x35 (Value.bool true) x39) fun x40 =>
          condM x40 (
            bindO (fieldA 8 x13) fun x41 =>
            M.bind (stM 1 x41 (Value.int IntKind.i64 123)) fun _ =>
            M.ret (Out.norm [])) (
            M.ret (Out.norm []))) fun o44 =>
        outK o44 (fun _ =>
          M.bind (rdM (ldA 23 x1)) fun x47 =>
          bindO (fieldA 5 x6) fun x48 =>
          M.bind (rdM (ld1 x48)) fun x49 =>
          M.bind (F.granarylaw21_talk_leaves a0 x47 x49) fun _ =>
          drewM <|
          bindO (nilChk a0) fun x51 =>
          bindO (fieldA 0 x51) fun x52 =>
          M.bind (rdM (ld1 x52)) fun x53 =>
          M.bind (rdM (ldA 11 x13)) fun x54 =>
          M.bind (F.export_Export_Take x53 x54) fun x55 =>
          bindO (extV 0 x55) fun x56 =>
          bindO (extV 1 x55) fun x57 =>
          M.bind (F.granarylaw21_talk_hear a0 x56 x57) fun x58 =>
          M.ret (Out.ret x58)) (fun _ _ =>
          M.fail) (fun r46 => M.ret (Out.ret r46))) (
        bindO (fieldA 0 x2) fun x60 =>
        M.bind (rdM (ld1 x60)) fun x61 =>
        bindO (binV BinOp.eql x61 (Value.int IntKind.i64 4)) fun x62 =>
        M.bind (guardM x62 true (M.ret a0)) fun x63 =>
        M.bind (guardM x62 true (optM (nilChk x63))) fun x64 =>
        M.bind (guardM x62 true (optM (fieldA 13 x64))) fun x65 =>
        M.bind (guardM x62 true (rdM (ld1 x65))) fun x66 =>
        M.bind (guardM x62 true (optM (lenL x66))) fun x67 =>
        M.bind (guardM x62 true (optM (binV BinOp.gtr x67 (Value.int IntKind.i64 0)))) fun x68 =>
        bindO (pickV x62 x68 (Value.bool false)) fun x69 =>
        condM x69 (
          drewM <|
          bindO (nilChk a0) fun x70 =>
          bindO (fieldA 0 x70) fun x71 =>
          M.bind (rdM (ld1 x71)) fun x72 =>
          bindO (nilChk a0) fun x73 =>
          bindO (fieldA 13 x73) fun x74 =>
          M.bind (rdM (ld1 x74)) fun x75 =>
          bindO (fieldA 2 x2) fun x76 =>
          M.bind (rdM (ld1 x76)) fun x77 =>
          bindO (nilChk a0) fun x78 =>
          bindO (fieldA 13 x78) fun x79 =>
          M.bind (rdM (ld1 x79)) fun x80 =>
          bindO (lenL x80) fun x81 =>
          bindO (binV BinOp.rem x77 x81) fun x82 =>
          bindO (nilChk a0) fun x83 =>
          bindO (fieldA 13 x83) fun x84 =>
          M.bind (rdM (ld1 x84)) fun x85 =>
          bindO (lenL x85) fun x86 =>
          bindO (binV BinOp.add x82 x86) fun x87 =>
          bindO (nilChk a0) fun x88 =>
          bindO (fieldA 13 x88) fun x89 =>
          M.bind (rdM (ld1 x89)) fun x90 =>
          bindO (lenL x90) fun x91 =>
          bindO (binV BinOp.rem x87 x91) fun x92 =>
          bindO (idxA 11 x75 x92) fun x93 =>
          M.bind (rdM (ldA 11 x93)) fun x94 =>
          M.bind (F.export_Export_Take x72 x94) fun x95 =>
          bindO (extV 0 x95) fun x96 =>
          bindO (extV 1 x95) fun x97 =>
          M.bind (F.granarylaw21_num x97) fun x98 =>
          bindO (binV BinOp.neq x98 (Value.int IntKind.i64 0)) fun x99 =>
          M.bind (guardM x99 false (M.ret x96)) fun x100 =>
          M.bind (guardM x99 false (optM (lenL x100))) fun x101 =>
          M.bind (guardM x99 false (optM (binV BinOp.neq x101 (Value.int IntKind.i64 0)))) fun x102 =>
          bindO (pickV x99 (Value.bool true) x102) fun x103 =>
          condM x103 (
            M.ret (Out.ret (Value.bool false))) (
            M.ret (Out.norm []))) (
          bindO (fieldA 0 x2) fun x104 =>
          M.bind (rdM (ld1 x104)) fun x105 =>
          bindO (binV BinOp.eql x105 (Value.int IntKind.i64 5)) fun x106 =>
          condM x106 (
            drewM <|
            bindO (fieldA 1 x2) fun x107 =>
            M.bind (rdM (ld1 x107)) fun x108 =>
            bindO (fieldA 18 x1) fun x109 =>
            M.bind (rdM (ld1 x109)) fun x110 =>
            bindO (binV BinOp.rem x108 x110) fun x111 =>
            bindO (fieldA 18 x1) fun x112 =>
            M.bind (rdM (ld1 x112)) fun x113 =>
            bindO (binV BinOp.add x111 x113) fun x114 =>
            bindO (fieldA 18 x1) fun x115 =>
            M.bind (rdM (ld1 x115)) fun x116 =>
            bindO (binV BinOp.rem x114 x116) fun x117 =>
            M.bind (F.granarylaw21_talk_ticks a0 x117) fun x118 =>
            bindO (notV x118) fun x119 =>
            condM x119 (
              M.ret (Out.ret (Value.bool false))) (
              M.ret (Out.norm []))) (
            M.ret (Out.norm [])))))) fun o121 =>
  outK o121 (fun _ =>
    M.bind (
      bindO (fieldA 8 x13) fun x124 =>
      M.bind (rdM (ld1 x124)) fun x125 =>
      M.bind (F.granarylaw21_num x125) fun x126 =>
      bindO (binV BinOp.eql x126 (Value.int IntKind.i64 16)) fun x127 =>
      condM x127 (
        bindO (nilChk a0) fun x128 =>
        bindO (fieldA 15 x128) fun x129 =>
        M.bind (stM 1 x129 (Value.int IntKind.i64 0)) fun _ =>
        M.ret (Out.norm [])) (
        M.ret (Out.norm []))) fun o132 =>
    outK o132 (fun _ =>
      drewM <|
      getM fun _ =>
      bindO (nilChk a0) fun x136 =>
      bindO (fieldA 13 x136) fun x137 =>
      M.bind (rdM (ld1 x137)) fun x138 =>
      M.bind (rdM (ldA 11 x13)) fun x139 =>
      M.bind (bslM 36 1 (Builtin.zeroCells #[(Value.int IntKind.i64 0), (Value.int IntKind.i64 0), (Value.int IntKind.i64 0), (Value.int IntKind.i64 0), (Value.int IntKind.i64 0), (Value.int IntKind.i64 0), (Value.int IntKind.i64 0), (Value.int IntKind.i64 0), (Value.int IntKind.i64 0), (Value.string ByteArray.empty), (Value.string ByteArray.empty)] 1) [(0, 11, x139)]) fun x140 =>
      getM fun W141 =>
      M.bind (appM 36 11 104 #[(Value.int IntKind.i64 0), (Value.int IntKind.i64 0), (Value.int IntKind.i64 0), (Value.int IntKind.i64 0), (Value.int IntKind.i64 0), (Value.int IntKind.i64 0), (Value.int IntKind.i64 0), (Value.int IntKind.i64 0), (Value.int IntKind.i64 0), (Value.string ByteArray.empty), (Value.string ByteArray.empty)] x138 x140) fun x142 =>
      getM fun _ =>
      bindO (nilChk a0) fun x144 =>
      bindO (fieldA 13 x144) fun x145 =>
      M.bind (stM 1 x145 x142) fun _ =>
      getM fun _ =>
      reqM (ld1 x137 W141 = some x138) <|
      drewM <|
      bindO (nilChk a0) fun x148 =>
      bindO (fieldA 0 x148) fun x149 =>
      M.bind (rdM (ld1 x149)) fun x150 =>
      M.bind (rdM (ldA 11 x13)) fun x151 =>
      M.bind (F.export_Export_Take x150 x151) fun x152 =>
      bindO (extV 0 x152) fun x153 =>
      bindO (extV 1 x152) fun x154 =>
      M.bind (F.granarylaw21_talk_hear a0 x153 x154) fun x155 =>
      bindO (notV x155) fun x156 =>
      condM x156 (
        M.ret (Value.bool false)) (
        bindO (fieldA 0 x2) fun x157 =>
        M.bind (rdM (ld1 x157)) fun x158 =>
        bindO (binV BinOp.eql x158 (Value.int IntKind.i64 3)) fun x159 =>
        condM x159 (
          drewM <|
          bindO (nilChk a0) fun x160 =>
          bindO (fieldA 0 x160) fun x161 =>
          M.bind (rdM (ld1 x161)) fun x162 =>
          M.bind (rdM (ldA 11 x13)) fun x163 =>
          M.bind (F.export_Export_Take x162 x163) fun x164 =>
          bindO (extV 0 x164) fun x165 =>
          bindO (extV 1 x164) fun x166 =>
          M.bind (F.granarylaw21_num x166) fun x167 =>
          bindO (binV BinOp.eql x167 (Value.int IntKind.i64 0)) fun x168 =>
          M.bind (guardM x168 true (M.ret x165)) fun x169 =>
          M.bind (guardM x168 true (optM (lenL x169))) fun x170 =>
          M.bind (guardM x168 true (optM (binV BinOp.eql x170 (Value.int IntKind.i64 0)))) fun x171 =>
          bindO (pickV x168 x171 (Value.bool false)) fun x172 =>
          M.ret x172) (
          M.ret (Value.bool true)))) (fun _ _ =>
      M.fail) (fun r134 => M.ret r134)) (fun _ _ =>
    M.fail) (fun r123 => M.ret r123)
def F.granarylaw21_talk_act.plan : Plan := (seq leaf (seq leaf (seq leaf (seq leaf (fork [] [8, 11, 12, 13, 14, 29, 30, 31, 32, 33, 34, 35, 36, 37, 38, 39, 40, 41, 42, 43, 44, 45, 46, 47, 48, 49, 50, 51, 52, 53, 54, 55, 56, 57, 58, 59, 60, 61, 62, 63, 64, 65, 66, 67, 68, 69, 70, 71, 72, 73, 74, 75, 76, 77, 78, 79, 80, 81, 82, 83, 84, 85, 86, 87, 88, 89, 90, 91, 92, 93, 94, 95, 96, 97, 98, 99, 100, 101, 102, 103, 104, 105, 106, 107, 108, 109, 110, 111, 112, 113, 114, 115, 116, 117, 118, 119, 120, 121, 122, 123, 124, 125, 126, 127, 128, 129, 130, 131, 132, 133, 134, 135, 136, 137, 138, 139, 140, 141, 142, 143, 144, 145, 146, 147, 148, 149] [] (body (seq leaf (cond (seq leaf (seq leaf leaf)) (seq leaf (cond (seq leaf (fork [] [49, 50, 51, 52, 53, 54, 55, 56, 57, 58, 59] [] (seq leaf (cond leaf leaf)) (seq leaf (seq leaf (seq leaf leaf))))) (seq leaf (cond (seq leaf (seq leaf (cond (seq leaf leaf) leaf))) (seq leaf (cond (seq leaf (cond (seq leaf leaf) leaf)) leaf))))))))) (fork [] [150, 151, 152, 153, 154, 155, 156] [] (seq leaf (cond leaf leaf)) (seq leaf (seq leaf (seq (seq leaf (cond (seq leaf leaf) leaf)) (seq (seq leaf (cond (seq leaf (seq leaf leaf)) leaf)) (seq leaf leaf)))))))))))
theorem F.granarylaw21_talk_act.lift : LiftOk Try.prog 19 (ap4 F.granarylaw21_talk_act) :=
  lift4 (g := evFn Try.prog (tcons 6 (ap1 F.granarylaw21_num) (tcons 12 (ap2 F.export_Export_Take) (tcons 17 (ap3 F.granarylaw21_talk_hear) (tcons 29 (ap2 F.granarylaw21_right) (tcons 30 (ap3 F.granarylaw21_talk_leaves) (tcons 31 (ap2 F.granarylaw21_talk_ticks) tnil)))))) tnil 19 Try.f19 F.granarylaw21_talk_act.plan) (evFn_sound (tcons_ok F.granarylaw21_num.lift (tcons_ok F.export_Export_Take.lift (tcons_ok F.granarylaw21_talk_hear.lift (tcons_ok F.granarylaw21_right.lift (tcons_ok F.granarylaw21_talk_leaves.lift (tcons_ok F.granarylaw21_talk_ticks.lift tnil_ok)))))) tnil_ok Try.func19 (by kernel_rfl)) (fun x0 x1 x2 x3 => by kernel_rfl)

end Go.Proofs.Ytiggkhmopnhfaaa
