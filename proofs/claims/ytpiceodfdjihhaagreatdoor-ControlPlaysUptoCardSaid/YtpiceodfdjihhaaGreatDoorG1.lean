/-
  THE FUNCTIONAL FORMS of the functions of this seat's translation, and that each function comes to its form: printed by a program of the prover's own (lift.py).
-/
import Derived.Test.YtpiceodfdjihhaaGreatDoorG0
namespace Go.Proofs.YtpiceodfdjihhaaGreatDoor
open Go.Lift Go.Lift.Plan
/-- granary/granarylaw6.twin -/
noncomputable def F.granarylaw6_twin (a0 : Value) : M Value :=
  M.bind (newM 28 (Value.cells a0)) fun x1 =>
  M.bind (newM 28 #[(Value.string ByteArray.empty), (Value.int IntKind.i64 0), (Value.int IntKind.i64 0), (Value.int IntKind.i64 0), (Value.int IntKind.i64 0), (Value.int IntKind.i64 0), (Value.int IntKind.i64 0), (Value.int IntKind.i64 0), (Value.int IntKind.i64 0), (Value.int IntKind.i64 0), (Value.int IntKind.i64 0), (Value.int IntKind.i64 0), (Value.int IntKind.i64 0), (Value.int IntKind.i64 0), (Value.int IntKind.i64 0), (Value.int IntKind.i64 0), (Value.int IntKind.i64 0), (Value.int IntKind.i64 0), (Value.int IntKind.i64 0), (Value.int IntKind.i64 0), (Value.int IntKind.i64 0), (Value.int IntKind.i64 0), (Value.slice none 0 0)]) fun x2 =>
  M.bind (loopM (fun l3 =>
    bindO (fieldA 22 x1) fun x4 =>
    M.bind (rdM (ld1 x4)) fun x5 =>
    bindO (lenL x5) fun x6 =>
    bindO (binV BinOp.lss (getL l3 1) x6) fun x7 =>
    condM x7 (
      drewM <|
      getM fun _ =>
      bindO (fieldA 22 x1) fun x9 =>
      M.bind (rdM (ld1 x9)) fun x10 =>
      bindO (idxA 2 x10 (getL l3 1)) fun x11 =>
      bindO (fieldA 0 x11) fun x12 =>
      M.bind (rdM (ld1 x12)) fun x13 =>
      bindO (fieldA 22 x1) fun x14 =>
      M.bind (rdM (ld1 x14)) fun x15 =>
      bindO (idxA 2 x15 (getL l3 1)) fun x16 =>
      bindO (fieldA 1 x16) fun x17 =>
      M.bind (rdM (ld1 x17)) fun x18 =>
      M.bind (appM 3 1 8 #[(Value.int IntKind.i64 0)] (Value.slice none 0 0) x18) fun x19 =>
      getM fun W20 =>
      bindO (buildV #[(Value.int IntKind.i64 0), (Value.slice none 0 0)] [(0, 1, x13), (1, 1, x19)]) fun x21 =>
      M.bind (bslM 98 1 (Builtin.zeroCells #[(Value.int IntKind.i64 0), (Value.slice none 0 0)] 1) [(0, 2, x21)]) fun x22 =>
      getM fun _ =>
      M.bind (appM 98 2 32 #[(Value.int IntKind.i64 0), (Value.slice none 0 0)] (getL l3 0) x22) fun x24 =>
      getM fun _ =>
      reqM (ld1 x9 W20 = some x10) <|
      reqM (ld1 x12 W20 = some x13) <|
      bindO (binV BinOp.add (getL l3 1) (Value.int IntKind.i64 1)) fun x26 =>
      M.ret (Out.norm [x24, x26])) (
      M.ret (Out.exit 0 [(getL l3 0), (getL l3 1)]))) [(Value.slice none 0 0), (Value.int IntKind.i64 0)]) fun o28 =>
  outK o28 (fun _ => M.fail) (fun i29 l27 =>
    bif Nat.beq i29 0 then (
      M.bind (rdM (ldA 23 x1)) fun x31 =>
      M.bind (newM 28 #[(Value.string ByteArray.empty), (Value.int IntKind.i64 0), (Value.int IntKind.i64 0), (Value.int IntKind.i64 0), (Value.int IntKind.i64 0), (Value.int IntKind.i64 0), (Value.int IntKind.i64 0), (Value.int IntKind.i64 0), (Value.int IntKind.i64 0), (Value.int IntKind.i64 0), (Value.int IntKind.i64 0), (Value.int IntKind.i64 0), (Value.int IntKind.i64 0), (Value.int IntKind.i64 0), (Value.int IntKind.i64 0), (Value.int IntKind.i64 0), (Value.int IntKind.i64 0), (Value.int IntKind.i64 0), (Value.int IntKind.i64 0), (Value.int IntKind.i64 0), (Value.int IntKind.i64 0), (Value.int IntKind.i64 0), (Value.slice none 0 0)]) fun x32 =>
      M.bind (stM 23 x32 x31) fun _ =>
      bindO (fieldA 22 x32) fun x34 =>
      M.bind (stM 1 x34 (getL l27 0)) fun _ =>
      M.bind (rdM (ldA 23 x32)) fun x36 =>
      M.bind (stM 23 x2 x36) fun _ =>
      M.bind (rdM (ldA 23 x2)) fun x38 =>
      M.ret x38) else
    M.fail) (fun r30 => M.ret r30)
def F.granarylaw6_twin.plan : Plan := (seq leaf (seq leaf (seq (seq leaf (body (loop [3, 4] [3, 4, 6, 7, 8, 9, 10, 11, 12, 13, 14, 15, 16, 17, 18, 19, 20, 21, 22, 23, 24, 25, 26, 27, 28, 29] [0] (seq (seq leaf (cond leaf leaf)) (seq (body leaf) leaf))))) (seq leaf (seq leaf (seq leaf leaf))))))
theorem F.granarylaw6_twin.lift : LiftOk Tryz.prog 52 (ap1 F.granarylaw6_twin) :=
  lift1 (g := evFn Tryz.prog tnil tnil 52 Tryz.f52 F.granarylaw6_twin.plan) (evFn_sound tnil_ok tnil_ok Tryz.func52 (by kernel_rfl)) (fun x0 => by kernel_rfl)

/-- granary/granarylaw6.Hand -/
noncomputable def F.granarylaw6_Hand (a0 : Value) : M Value :=
  M.bind (newM 28 (Value.cells a0)) fun x1 =>
  drewM <|
  getM fun _ =>
  M.bind (rdM (ldA 23 x1)) fun x3 =>
  M.bind (rdM (ldA 23 x1)) fun x4 =>
  M.bind (F.granarylaw6_twin x4) fun x5 =>
  getM fun W6 =>
  bindO (buildV #[(Value.string ByteArray.empty), (Value.int IntKind.i64 0), (Value.int IntKind.i64 0), (Value.int IntKind.i64 0), (Value.int IntKind.i64 0), (Value.int IntKind.i64 0), (Value.int IntKind.i64 0), (Value.int IntKind.i64 0), (Value.int IntKind.i64 0), (Value.int IntKind.i64 0), (Value.int IntKind.i64 0), (Value.int IntKind.i64 0), (Value.int IntKind.i64 0), (Value.int IntKind.i64 0), (Value.int IntKind.i64 0), (Value.int IntKind.i64 0), (Value.int IntKind.i64 0), (Value.int IntKind.i64 0), (Value.int IntKind.i64 0), (Value.int IntKind.i64 0), (Value.int IntKind.i64 0), (Value.int IntKind.i64 0), (Value.slice none 0 0), (Value.string ByteArray.empty), (Value.int IntKind.i64 0), (Value.int IntKind.i64 0), (Value.int IntKind.i64 0), (Value.int IntKind.i64 0), (Value.int IntKind.i64 0), (Value.int IntKind.i64 0), (Value.int IntKind.i64 0), (Value.int IntKind.i64 0), (Value.int IntKind.i64 0), (Value.int IntKind.i64 0), (Value.int IntKind.i64 0), (Value.int IntKind.i64 0), (Value.int IntKind.i64 0), (Value.int IntKind.i64 0), (Value.int IntKind.i64 0), (Value.int IntKind.i64 0), (Value.int IntKind.i64 0), (Value.int IntKind.i64 0), (Value.int IntKind.i64 0), (Value.int IntKind.i64 0), (Value.int IntKind.i64 0), (Value.slice none 0 0), (Value.slice none 0 0), (Value.slice none 0 0)] [(0, 23, x3), (23, 23, x5)]) fun x7 =>
  M.bind (newM 64 (Value.cells x7)) fun x8 =>
  getM fun _ =>
  reqM (ldA 23 x1 W6 = some x3) <|
  M.bind (loopM (fun l10 =>
    bindO (fieldA 22 x1) fun x11 =>
    M.bind (rdM (ld1 x11)) fun x12 =>
    bindO (lenL x12) fun x13 =>
    bindO (binV BinOp.lss (getL l10 0) x13) fun x14 =>
    condM x14 (
      bindO (fieldA 22 x1) fun x15 =>
      M.bind (rdM (ld1 x15)) fun x16 =>
      bindO (idxA 2 x16 (getL l10 0)) fun x17 =>
      bindO (fieldA 1 x17) fun x18 =>
      M.bind (rdM (ld1 x18)) fun x19 =>
      M.bind (appM 3 1 8 #[(Value.int IntKind.i64 0)] (Value.slice none 0 0) x19) fun x20 =>
      bindO (lenL x20) fun x21 =>
      M.bind (bslM 3 3 (Builtin.zeroCells #[(Value.int IntKind.i64 0)] 3) [(0, 1, (Value.int IntKind.i64 701)), (1, 1, (Value.int IntKind.i64 702)), (2, 1, (Value.int IntKind.i64 703))]) fun x22 =>
      M.bind (appM 3 1 8 #[(Value.int IntKind.i64 0)] x20 x22) fun x23 =>
      bindO (nilChk x8) fun x24 =>
      bindO (fieldA 47 x24) fun x25 =>
      M.bind (rdM (ld1 x25)) fun x26 =>
      M.bind (bslM 46 1 (Builtin.zeroCells #[(Value.slice none 0 0)] 1) [(0, 1, x23)]) fun x27 =>
      M.bind (appM 46 1 24 #[(Value.slice none 0 0)] x26 x27) fun x28 =>
      bindO (nilChk x8) fun x29 =>
      bindO (fieldA 47 x29) fun x30 =>
      M.bind (stM 1 x30 x28) fun _ =>
      drewM <|
      getM fun _ =>
      bindO (nilChk x8) fun x33 =>
      bindO (fieldA 46 x33) fun x34 =>
      M.bind (rdM (ld1 x34)) fun x35 =>
      bindO (fieldA 22 x1) fun x36 =>
      M.bind (rdM (ld1 x36)) fun x37 =>
      bindO (idxA 2 x37 (getL l10 0)) fun x38 =>
      bindO (fieldA 0 x38) fun x39 =>
      M.bind (rdM (ld1 x39)) fun x40 =>
      bindO (sliceV 1 x23 none (some x21)) fun x41 =>
      bindO (buildV #[(Value.int IntKind.i64 0), (Value.slice none 0 0)] [(0, 1, x40), (1, 1, x41)]) fun x42 =>
      M.bind (bslM 98 1 (Builtin.zeroCells #[(Value.int IntKind.i64 0), (Value.slice none 0 0)] 1) [(0, 2, x42)]) fun x43 =>
      getM fun W44 =>
      M.bind (appM 98 2 32 #[(Value.int IntKind.i64 0), (Value.slice none 0 0)] x35 x43) fun x45 =>
      getM fun _ =>
      bindO (nilChk x8) fun x47 =>
      bindO (fieldA 46 x47) fun x48 =>
      M.bind (stM 1 x48 x45) fun _ =>
      getM fun _ =>
      reqM (ld1 x34 W44 = some x35) <|
      bindO (binV BinOp.add (getL l10 0) (Value.int IntKind.i64 1)) fun x51 =>
      M.ret (Out.norm [x51])) (
      M.ret (Out.exit 0 [(getL l10 0)]))) [(Value.int IntKind.i64 0)]) fun o53 =>
  outK o53 (fun _ => M.fail) (fun i54 _ =>
    bif Nat.beq i54 0 then (
      bindO (nilChk x8) fun x56 =>
      bindO (fieldA 46 x56) fun x57 =>
      M.bind (rdM (ld1 x57)) fun x58 =>
      bindO (lenL x58) fun x59 =>
      bindO (nilChk x8) fun x60 =>
      bindO (fieldA 46 x60) fun x61 =>
      M.bind (rdM (ld1 x61)) fun x62 =>
      bindO (buildV #[(Value.int IntKind.i64 0), (Value.slice none 0 0)] [(0, 1, (Value.int IntKind.i64 801))]) fun x63 =>
      bindO (buildV #[(Value.int IntKind.i64 0), (Value.slice none 0 0)] [(0, 1, (Value.int IntKind.i64 802))]) fun x64 =>
      M.bind (bslM 98 2 (Builtin.zeroCells #[(Value.int IntKind.i64 0), (Value.slice none 0 0)] 2) [(0, 2, x63), (2, 2, x64)]) fun x65 =>
      M.bind (appM 98 2 32 #[(Value.int IntKind.i64 0), (Value.slice none 0 0)] x62 x65) fun x66 =>
      bindO (nilChk x8) fun x67 =>
      bindO (fieldA 46 x67) fun x68 =>
      M.bind (stM 1 x68 x66) fun _ =>
      bindO (nilChk x8) fun x70 =>
      bindO (fieldA 46 x70) fun x71 =>
      M.bind (rdM (ld1 x71)) fun x72 =>
      bindO (sliceV 2 x72 none (some x59)) fun x73 =>
      bindO (nilChk x8) fun x74 =>
      bindO (fieldA 0 x74) fun x75 =>
      bindO (fieldA 22 x75) fun x76 =>
      M.bind (stM 1 x76 x73) fun _ =>
      M.ret x8) else
    M.fail) (fun r55 => M.ret r55)
def F.granarylaw6_Hand.plan : Plan := (seq leaf (seq leaf (seq (seq leaf (body (loop [4] [4, 5, 6, 13, 14, 15, 16, 17, 18, 19, 20, 21, 22, 23, 24, 25, 26, 27, 28, 29, 30, 31, 32, 33, 34, 35, 36, 37, 38, 39, 40, 41, 42, 43, 44, 45, 46, 47, 48, 49, 50, 51, 52, 53, 54, 55, 56, 57, 58, 59, 60] [0] (seq (seq leaf (cond leaf leaf)) (seq (body (seq leaf (seq leaf (seq leaf (seq leaf leaf))))) leaf))))) (seq leaf (seq leaf (seq leaf (seq leaf leaf)))))))
theorem F.granarylaw6_Hand.lift : LiftOk Tryz.prog 17 (ap1 F.granarylaw6_Hand) :=
  lift1 (g := evFn Tryz.prog (tcons 52 (ap1 F.granarylaw6_twin) tnil) tnil 17 Tryz.f17 F.granarylaw6_Hand.plan) (evFn_sound (tcons_ok F.granarylaw6_twin.lift tnil_ok) tnil_ok Tryz.func17 (by kernel_rfl)) (fun x0 => by kernel_rfl)

/-- granary/ring.nameOK -/
noncomputable def F.ring_nameOK (a0 : Value) : M Value :=
  bindO (lenS a0) fun x1 =>
  bindO (binV BinOp.lss x1 (Value.int IntKind.i64 1)) fun x2 =>
  M.bind (guardM x2 false (M.ret a0)) fun x3 =>
  M.bind (guardM x2 false (optM (lenS x3))) fun x4 =>
  M.bind (guardM x2 false (optM (binV BinOp.gtr x4 (Value.int IntKind.i64 40)))) fun x5 =>
  bindO (pickV x2 (Value.bool true) x5) fun x6 =>
  condM x6 (
    M.ret (Value.bool false)) (
    M.bind (sbM 5 a0) fun x7 =>
    bindO (lenL x7) fun x8 =>
    M.bind (loopM (fun l9 =>
      bindO (binV BinOp.lss (getL l9 0) x8) fun x10 =>
      condM x10 (
        bindO (idxA 1 x7 (getL l9 0)) fun x11 =>
        M.bind (rdM (ld1 x11)) fun x12 =>
        bindO (binV BinOp.leq (Value.int IntKind.u8 97) x12) fun x13 =>
        M.bind (guardM x13 true (M.ret x12)) fun x14 =>
        M.bind (guardM x13 true (optM (binV BinOp.leq x14 (Value.int IntKind.u8 122)))) fun x15 =>
        bindO (pickV x13 x15 (Value.bool false)) fun x16 =>
        bindO (binV BinOp.leq (Value.int IntKind.u8 48) x12) fun x17 =>
        M.bind (guardM x17 true (M.ret x12)) fun x18 =>
        M.bind (guardM x17 true (optM (binV BinOp.leq x18 (Value.int IntKind.u8 57)))) fun x19 =>
        bindO (pickV x17 x19 (Value.bool false)) fun x20 =>
        M.bind (guardM x20 false (M.ret x12)) fun x21 =>
        M.bind (guardM x20 false (optM (binV BinOp.eql x21 (Value.int IntKind.u8 45)))) fun x22 =>
        bindO (pickV x20 (Value.bool true) x22) fun x23 =>
        bindO (notV x16) fun x24 =>
        M.bind (guardM x24 true (M.ret x23)) fun x25 =>
        M.bind (guardM x24 true (optM (notV x25))) fun x26 =>
        M.bind (guardM x24 true (M.ret x26)) fun x27 =>
        M.bind (guardM x27 false (M.ret (getL l9 0))) fun x28 =>
        M.bind (guardM x27 false (optM (binV BinOp.eql x28 (Value.int IntKind.i64 0)))) fun x29 =>
        M.bind (guardM x24 true (optM (pickV x27 (Value.bool true) x29))) fun x30 =>
        bindO (pickV x24 x30 (Value.bool false)) fun x31 =>
        condM x31 (
          M.ret (Out.ret (Value.bool false))) (
          bindO (binV BinOp.add (getL l9 0) (Value.int IntKind.i64 1)) fun x32 =>
          M.ret (Out.norm [x32]))) (
        M.ret (Out.exit 0 [(getL l9 0)]))) [(Value.int IntKind.i64 0)]) fun o34 =>
    outK o34 (fun _ => M.fail) (fun i35 _ =>
      bif Nat.beq i35 0 then (
        M.ret (Value.bool true)) else
      M.fail) (fun r36 => M.ret r36))
def F.ring_nameOK.plan : Plan := (seq leaf (seq (seq leaf (cond (seq leaf leaf) leaf)) (seq (seq leaf (body (loop [18] [2, 3, 4, 5, 6, 18, 19, 20, 21, 22, 23, 24, 25, 26, 27, 28, 29, 30, 31, 32, 33, 34, 35, 36, 37, 38, 39, 40, 41, 42, 43, 44, 45, 46, 47, 48, 49] [0] (seq leaf (seq (cond leaf leaf) (seq (body (seq leaf (seq leaf (seq leaf (seq leaf (cond (seq leaf leaf) leaf)))))) leaf)))))) (seq leaf leaf))))
theorem F.ring_nameOK.lift : LiftOk Tryz.prog 81 (ap1 F.ring_nameOK) :=
  lift1 (g := evFn Tryz.prog tnil tnil 81 Tryz.f81 F.ring_nameOK.plan) (evFn_sound tnil_ok tnil_ok Tryz.func81 (by kernel_rfl)) (fun x0 => by kernel_rfl)

/-- granary/ring.settings -/
noncomputable def F.ring_settings : M Value :=
  bindO (buildV #[(Value.string ByteArray.empty), (Value.int IntKind.i64 0), (Value.int IntKind.i64 0), Value.nilFunc] [(0, 1, (Value.string (ByteArray.mk #[114, 101, 112, 108, 105, 99, 97, 115]))), (1, 1, (Value.int IntKind.i64 1)), (2, 1, (Value.int IntKind.i64 16)), (3, 1, (Value.func (Fn.func 86) #[] #[]))]) fun x1 =>
  bindO (buildV #[(Value.string ByteArray.empty), (Value.int IntKind.i64 0), (Value.int IntKind.i64 0), Value.nilFunc] [(0, 1, (Value.string (ByteArray.mk #[119, 105, 100, 116, 104]))), (1, 1, (Value.int IntKind.i64 1)), (2, 1, (Value.int IntKind.i64 16)), (3, 1, (Value.func (Fn.func 87) #[] #[]))]) fun x2 =>
  bindO (buildV #[(Value.string ByteArray.empty), (Value.int IntKind.i64 0), (Value.int IntKind.i64 0), Value.nilFunc] [(0, 1, (Value.string (ByteArray.mk #[99, 104, 117, 110, 107, 115]))), (1, 1, (Value.int IntKind.i64 1)), (2, 1, (Value.int IntKind.i64 16)), (3, 1, (Value.func (Fn.func 88) #[] #[]))]) fun x3 =>
  bindO (buildV #[(Value.string ByteArray.empty), (Value.int IntKind.i64 0), (Value.int IntKind.i64 0), Value.nilFunc] [(0, 1, (Value.string (ByteArray.mk #[114, 101, 116, 97, 105, 110]))), (1, 1, (Value.int IntKind.i64 1)), (2, 1, (Value.int IntKind.i64 8)), (3, 1, (Value.func (Fn.func 89) #[] #[]))]) fun x4 =>
  bindO (buildV #[(Value.string ByteArray.empty), (Value.int IntKind.i64 0), (Value.int IntKind.i64 0), Value.nilFunc] [(0, 1, (Value.string (ByteArray.mk #[98, 108, 111, 99, 107]))), (1, 1, (Value.int IntKind.i64 1)), (2, 1, (Value.int IntKind.i64 4096)), (3, 1, (Value.func (Fn.func 90) #[] #[]))]) fun x5 =>
  bindO (buildV #[(Value.string ByteArray.empty), (Value.int IntKind.i64 0), (Value.int IntKind.i64 0), Value.nilFunc] [(0, 1, (Value.string (ByteArray.mk #[114, 97, 116, 101]))), (1, 1, (Value.int IntKind.i64 1)), (2, 1, (Value.int IntKind.i64 65536)), (3, 1, (Value.func (Fn.func 91) #[] #[]))]) fun x6 =>
  bindO (buildV #[(Value.string ByteArray.empty), (Value.int IntKind.i64 0), (Value.int IntKind.i64 0), Value.nilFunc] [(0, 1, (Value.string (ByteArray.mk #[112, 101, 114]))), (1, 1, (Value.int IntKind.i64 1)), (2, 1, (Value.int IntKind.i64 1024)), (3, 1, (Value.func (Fn.func 92) #[] #[]))]) fun x7 =>
  bindO (buildV #[(Value.string ByteArray.empty), (Value.int IntKind.i64 0), (Value.int IntKind.i64 0), Value.nilFunc] [(0, 1, (Value.string (ByteArray.mk #[98, 117, 114, 115, 116]))), (1, 1, (Value.int IntKind.i64 1)), (2, 1, (Value.int IntKind.i64 65536)), (3, 1, (Value.func (Fn.func 93) #[] #[]))]) fun x8 =>
  bindO (buildV #[(Value.string ByteArray.empty), (Value.int IntKind.i64 0), (Value.int IntKind.i64 0), Value.nilFunc] [(0, 1, (Value.string (ByteArray.mk #[116, 114, 105, 101, 115]))), (1, 1, (Value.int IntKind.i64 1)), (2, 1, (Value.int IntKind.i64 64)), (3, 1, (Value.func (Fn.func 94) #[] #[]))]) fun x9 =>
  bindO (buildV #[(Value.string ByteArray.empty), (Value.int IntKind.i64 0), (Value.int IntKind.i64 0), Value.nilFunc] [(0, 1, (Value.string (ByteArray.mk #[98, 97, 115, 101]))), (1, 1, (Value.int IntKind.i64 1)), (2, 1, (Value.int IntKind.i64 1024)), (3, 1, (Value.func (Fn.func 95) #[] #[]))]) fun x10 =>
  bindO (buildV #[(Value.string ByteArray.empty), (Value.int IntKind.i64 0), (Value.int IntKind.i64 0), Value.nilFunc] [(0, 1, (Value.string (ByteArray.mk #[109, 111, 115, 116]))), (1, 1, (Value.int IntKind.i64 1)), (2, 1, (Value.int IntKind.i64 1024)), (3, 1, (Value.func (Fn.func 96) #[] #[]))]) fun x11 =>
  bindO (buildV #[(Value.string ByteArray.empty), (Value.int IntKind.i64 0), (Value.int IntKind.i64 0), Value.nilFunc] [(0, 1, (Value.string (ByteArray.mk #[113, 117, 111, 116, 97]))), (1, 1, (Value.int IntKind.i64 1)), (2, 1, (Value.int IntKind.i64 1073741824)), (3, 1, (Value.func (Fn.func 97) #[] #[]))]) fun x12 =>
  bindO (buildV #[(Value.string ByteArray.empty), (Value.int IntKind.i64 0), (Value.int IntKind.i64 0), Value.nilFunc] [(0, 1, (Value.string (ByteArray.mk #[114, 111, 111, 109]))), (1, 1, (Value.int IntKind.i64 1)), (2, 1, (Value.int IntKind.i64 1073741824)), (3, 1, (Value.func (Fn.func 98) #[] #[]))]) fun x13 =>
  bindO (buildV #[(Value.string ByteArray.empty), (Value.int IntKind.i64 0), (Value.int IntKind.i64 0), Value.nilFunc] [(0, 1, (Value.string (ByteArray.mk #[100, 101, 112, 111, 116]))), (1, 1, (Value.int IntKind.i64 1)), (2, 1, (Value.int IntKind.i64 1073741824)), (3, 1, (Value.func (Fn.func 99) #[] #[]))]) fun x14 =>
  bindO (buildV #[(Value.string ByteArray.empty), (Value.int IntKind.i64 0), (Value.int IntKind.i64 0), Value.nilFunc] [(0, 1, (Value.string (ByteArray.mk #[114, 101, 115, 101, 110, 100]))), (1, 1, (Value.int IntKind.i64 1)), (2, 1, (Value.int IntKind.i64 1024)), (3, 1, (Value.func (Fn.func 100) #[] #[]))]) fun x15 =>
  bindO (buildV #[(Value.string ByteArray.empty), (Value.int IntKind.i64 0), (Value.int IntKind.i64 0), Value.nilFunc] [(0, 1, (Value.string (ByteArray.mk #[108, 105, 109, 105, 116]))), (1, 1, (Value.int IntKind.i64 1)), (2, 1, (Value.int IntKind.i64 64)), (3, 1, (Value.func (Fn.func 101) #[] #[]))]) fun x16 =>
  bindO (buildV #[(Value.string ByteArray.empty), (Value.int IntKind.i64 0), (Value.int IntKind.i64 0), Value.nilFunc] [(0, 1, (Value.string (ByteArray.mk #[112, 97, 116, 105, 101, 110, 99, 101]))), (1, 1, (Value.int IntKind.i64 1)), (2, 1, (Value.int IntKind.i64 65536)), (3, 1, (Value.func (Fn.func 102) #[] #[]))]) fun x17 =>
  bindO (buildV #[(Value.string ByteArray.empty), (Value.int IntKind.i64 0), (Value.int IntKind.i64 0), Value.nilFunc] [(0, 1, (Value.string (ByteArray.mk #[103, 101, 116, 119, 97, 105, 116]))), (1, 1, (Value.int IntKind.i64 1)), (2, 1, (Value.int IntKind.i64 1024)), (3, 1, (Value.func (Fn.func 103) #[] #[]))]) fun x18 =>
  bindO (buildV #[(Value.string ByteArray.empty), (Value.int IntKind.i64 0), (Value.int IntKind.i64 0), Value.nilFunc] [(0, 1, (Value.string (ByteArray.mk #[115, 116, 114, 105, 107, 101, 115]))), (1, 1, (Value.int IntKind.i64 1)), (2, 1, (Value.int IntKind.i64 64)), (3, 1, (Value.func (Fn.func 104) #[] #[]))]) fun x19 =>
  bindO (buildV #[(Value.string ByteArray.empty), (Value.int IntKind.i64 0), (Value.int IntKind.i64 0), Value.nilFunc] [(0, 1, (Value.string (ByteArray.mk #[98, 97, 110]))), (1, 1, (Value.int IntKind.i64 1)), (2, 1, (Value.int IntKind.i64 1024)), (3, 1, (Value.func (Fn.func 105) #[] #[]))]) fun x20 =>
  bindO (buildV #[(Value.string ByteArray.empty), (Value.int IntKind.i64 0), (Value.int IntKind.i64 0), Value.nilFunc] [(0, 1, (Value.string (ByteArray.mk #[104, 111, 109, 101]))), (1, 1, (Value.int IntKind.i64 0)), (2, 1, (Value.int IntKind.i64 7)), (3, 1, (Value.func (Fn.func 106) #[] #[]))]) fun x21 =>
  M.bind (bslM 154 21 (Builtin.zeroCells #[(Value.string ByteArray.empty), (Value.int IntKind.i64 0), (Value.int IntKind.i64 0), Value.nilFunc] 21) [(0, 4, x1), (4, 4, x2), (8, 4, x3), (12, 4, x4), (16, 4, x5), (20, 4, x6), (24, 4, x7), (28, 4, x8), (32, 4, x9), (36, 4, x10), (40, 4, x11), (44, 4, x12), (48, 4, x13), (52, 4, x14), (56, 4, x15), (60, 4, x16), (64, 4, x17), (68, 4, x18), (72, 4, x19), (76, 4, x20), (80, 4, x21)]) fun x22 =>
  M.ret x22
def F.ring_settings.plan : Plan := (seq leaf (seq leaf leaf))
theorem F.ring_settings.lift : LiftOk Tryz.prog 82 (ap0 F.ring_settings) :=
  lift0 (g := evFn Tryz.prog tnil tnil 82 Tryz.f82 F.ring_settings.plan) (evFn_sound tnil_ok tnil_ok Tryz.func82 (by kernel_rfl)) (by kernel_rfl)

/-- granary/ring.settings$1 -/
noncomputable def F.ring_settings_1 (a0 : Value) : M Value :=
  bindO (nilChk a0) fun x1 =>
  bindO (fieldA 1 x1) fun x2 =>
  M.ret x2
def F.ring_settings_1.plan : Plan := (seq leaf (seq leaf leaf))
theorem F.ring_settings_1.lift : LiftOk Tryz.prog 86 (ap1 F.ring_settings_1) :=
  lift1 (g := evFn Tryz.prog tnil tnil 86 Tryz.f86 F.ring_settings_1.plan) (evFn_sound tnil_ok tnil_ok Tryz.func86 (by kernel_rfl)) (fun x0 => by kernel_rfl)

/-- granary/ring.settings$2 -/
noncomputable def F.ring_settings_2 (a0 : Value) : M Value :=
  bindO (nilChk a0) fun x1 =>
  bindO (fieldA 2 x1) fun x2 =>
  M.ret x2
def F.ring_settings_2.plan : Plan := (seq leaf (seq leaf leaf))
theorem F.ring_settings_2.lift : LiftOk Tryz.prog 87 (ap1 F.ring_settings_2) :=
  lift1 (g := evFn Tryz.prog tnil tnil 87 Tryz.f87 F.ring_settings_2.plan) (evFn_sound tnil_ok tnil_ok Tryz.func87 (by kernel_rfl)) (fun x0 => by kernel_rfl)

/-- granary/ring.settings$3 -/
noncomputable def F.ring_settings_3 (a0 : Value) : M Value :=
  bindO (nilChk a0) fun x1 =>
  bindO (fieldA 3 x1) fun x2 =>
  M.ret x2
def F.ring_settings_3.plan : Plan := (seq leaf (seq leaf leaf))
theorem F.ring_settings_3.lift : LiftOk Tryz.prog 88 (ap1 F.ring_settings_3) :=
  lift1 (g := evFn Tryz.prog tnil tnil 88 Tryz.f88 F.ring_settings_3.plan) (evFn_sound tnil_ok tnil_ok Tryz.func88 (by kernel_rfl)) (fun x0 => by kernel_rfl)

/-- granary/ring.settings$4 -/
noncomputable def F.ring_settings_4 (a0 : Value) : M Value :=
  bindO (nilChk a0) fun x1 =>
  bindO (fieldA 4 x1) fun x2 =>
  M.ret x2
def F.ring_settings_4.plan : Plan := (seq leaf (seq leaf leaf))
theorem F.ring_settings_4.lift : LiftOk Tryz.prog 89 (ap1 F.ring_settings_4) :=
  lift1 (g := evFn Tryz.prog tnil tnil 89 Tryz.f89 F.ring_settings_4.plan) (evFn_sound tnil_ok tnil_ok Tryz.func89 (by kernel_rfl)) (fun x0 => by kernel_rfl)

/-- granary/ring.settings$5 -/
noncomputable def F.ring_settings_5 (a0 : Value) : M Value :=
  bindO (nilChk a0) fun x1 =>
  bindO (fieldA 5 x1) fun x2 =>
  M.ret x2
def F.ring_settings_5.plan : Plan := (seq leaf (seq leaf leaf))
theorem F.ring_settings_5.lift : LiftOk Tryz.prog 90 (ap1 F.ring_settings_5) :=
  lift1 (g := evFn Tryz.prog tnil tnil 90 Tryz.f90 F.ring_settings_5.plan) (evFn_sound tnil_ok tnil_ok Tryz.func90 (by kernel_rfl)) (fun x0 => by kernel_rfl)

/-- granary/ring.settings$6 -/
noncomputable def F.ring_settings_6 (a0 : Value) : M Value :=
  bindO (nilChk a0) fun x1 =>
  bindO (fieldA 6 x1) fun x2 =>
  M.ret x2
def F.ring_settings_6.plan : Plan := (seq leaf (seq leaf leaf))
theorem F.ring_settings_6.lift : LiftOk Tryz.prog 91 (ap1 F.ring_settings_6) :=
  lift1 (g := evFn Tryz.prog tnil tnil 91 Tryz.f91 F.ring_settings_6.plan) (evFn_sound tnil_ok tnil_ok Tryz.func91 (by kernel_rfl)) (fun x0 => by kernel_rfl)

/-- granary/ring.settings$7 -/
noncomputable def F.ring_settings_7 (a0 : Value) : M Value :=
  bindO (nilChk a0) fun x1 =>
  bindO (fieldA 7 x1) fun x2 =>
  M.ret x2
def F.ring_settings_7.plan : Plan := (seq leaf (seq leaf leaf))
theorem F.ring_settings_7.lift : LiftOk Tryz.prog 92 (ap1 F.ring_settings_7) :=
  lift1 (g := evFn Tryz.prog tnil tnil 92 Tryz.f92 F.ring_settings_7.plan) (evFn_sound tnil_ok tnil_ok Tryz.func92 (by kernel_rfl)) (fun x0 => by kernel_rfl)

/-- granary/ring.settings$8 -/
noncomputable def F.ring_settings_8 (a0 : Value) : M Value :=
  bindO (nilChk a0) fun x1 =>
  bindO (fieldA 8 x1) fun x2 =>
  M.ret x2
def F.ring_settings_8.plan : Plan := (seq leaf (seq leaf leaf))
theorem F.ring_settings_8.lift : LiftOk Tryz.prog 93 (ap1 F.ring_settings_8) :=
  lift1 (g := evFn Tryz.prog tnil tnil 93 Tryz.f93 F.ring_settings_8.plan) (evFn_sound tnil_ok tnil_ok Tryz.func93 (by kernel_rfl)) (fun x0 => by kernel_rfl)

/-- granary/ring.settings$9 -/
noncomputable def F.ring_settings_9 (a0 : Value) : M Value :=
  bindO (nilChk a0) fun x1 =>
  bindO (fieldA 9 x1) fun x2 =>
  M.ret x2
def F.ring_settings_9.plan : Plan := (seq leaf (seq leaf leaf))
theorem F.ring_settings_9.lift : LiftOk Tryz.prog 94 (ap1 F.ring_settings_9) :=
  lift1 (g := evFn Tryz.prog tnil tnil 94 Tryz.f94 F.ring_settings_9.plan) (evFn_sound tnil_ok tnil_ok Tryz.func94 (by kernel_rfl)) (fun x0 => by kernel_rfl)

/-- granary/ring.settings$10 -/
noncomputable def F.ring_settings_10 (a0 : Value) : M Value :=
  bindO (nilChk a0) fun x1 =>
  bindO (fieldA 10 x1) fun x2 =>
  M.ret x2
def F.ring_settings_10.plan : Plan := (seq leaf (seq leaf leaf))
theorem F.ring_settings_10.lift : LiftOk Tryz.prog 95 (ap1 F.ring_settings_10) :=
  lift1 (g := evFn Tryz.prog tnil tnil 95 Tryz.f95 F.ring_settings_10.plan) (evFn_sound tnil_ok tnil_ok Tryz.func95 (by kernel_rfl)) (fun x0 => by kernel_rfl)

/-- granary/ring.settings$11 -/
noncomputable def F.ring_settings_11 (a0 : Value) : M Value :=
  bindO (nilChk a0) fun x1 =>
  bindO (fieldA 11 x1) fun x2 =>
  M.ret x2
def F.ring_settings_11.plan : Plan := (seq leaf (seq leaf leaf))
theorem F.ring_settings_11.lift : LiftOk Tryz.prog 96 (ap1 F.ring_settings_11) :=
  lift1 (g := evFn Tryz.prog tnil tnil 96 Tryz.f96 F.ring_settings_11.plan) (evFn_sound tnil_ok tnil_ok Tryz.func96 (by kernel_rfl)) (fun x0 => by kernel_rfl)

/-- granary/ring.settings$12 -/
noncomputable def F.ring_settings_12 (a0 : Value) : M Value :=
  bindO (nilChk a0) fun x1 =>
  bindO (fieldA 12 x1) fun x2 =>
  M.ret x2
def F.ring_settings_12.plan : Plan := (seq leaf (seq leaf leaf))
theorem F.ring_settings_12.lift : LiftOk Tryz.prog 97 (ap1 F.ring_settings_12) :=
  lift1 (g := evFn Tryz.prog tnil tnil 97 Tryz.f97 F.ring_settings_12.plan) (evFn_sound tnil_ok tnil_ok Tryz.func97 (by kernel_rfl)) (fun x0 => by kernel_rfl)

/-- granary/ring.settings$13 -/
noncomputable def F.ring_settings_13 (a0 : Value) : M Value :=
  bindO (nilChk a0) fun x1 =>
  bindO (fieldA 13 x1) fun x2 =>
  M.ret x2
def F.ring_settings_13.plan : Plan := (seq leaf (seq leaf leaf))
theorem F.ring_settings_13.lift : LiftOk Tryz.prog 98 (ap1 F.ring_settings_13) :=
  lift1 (g := evFn Tryz.prog tnil tnil 98 Tryz.f98 F.ring_settings_13.plan) (evFn_sound tnil_ok tnil_ok Tryz.func98 (by kernel_rfl)) (fun x0 => by kernel_rfl)

/-- granary/ring.settings$14 -/
noncomputable def F.ring_settings_14 (a0 : Value) : M Value :=
  bindO (nilChk a0) fun x1 =>
  bindO (fieldA 14 x1) fun x2 =>
  M.ret x2
def F.ring_settings_14.plan : Plan := (seq leaf (seq leaf leaf))
theorem F.ring_settings_14.lift : LiftOk Tryz.prog 99 (ap1 F.ring_settings_14) :=
  lift1 (g := evFn Tryz.prog tnil tnil 99 Tryz.f99 F.ring_settings_14.plan) (evFn_sound tnil_ok tnil_ok Tryz.func99 (by kernel_rfl)) (fun x0 => by kernel_rfl)

/-- granary/ring.settings$15 -/
noncomputable def F.ring_settings_15 (a0 : Value) : M Value :=
  bindO (nilChk a0) fun x1 =>
  bindO (fieldA 15 x1) fun x2 =>
  M.ret x2
def F.ring_settings_15.plan : Plan := (seq leaf (seq leaf leaf))
theorem F.ring_settings_15.lift : LiftOk Tryz.prog 100 (ap1 F.ring_settings_15) :=
  lift1 (g := evFn Tryz.prog tnil tnil 100 Tryz.f100 F.ring_settings_15.plan) (evFn_sound tnil_ok tnil_ok Tryz.func100 (by kernel_rfl)) (fun x0 => by kernel_rfl)

/-- granary/ring.settings$16 -/
noncomputable def F.ring_settings_16 (a0 : Value) : M Value :=
  bindO (nilChk a0) fun x1 =>
  bindO (fieldA 16 x1) fun x2 =>
  M.ret x2
def F.ring_settings_16.plan : Plan := (seq leaf (seq leaf leaf))
theorem F.ring_settings_16.lift : LiftOk Tryz.prog 101 (ap1 F.ring_settings_16) :=
  lift1 (g := evFn Tryz.prog tnil tnil 101 Tryz.f101 F.ring_settings_16.plan) (evFn_sound tnil_ok tnil_ok Tryz.func101 (by kernel_rfl)) (fun x0 => by kernel_rfl)

/-- granary/ring.settings$17 -/
noncomputable def F.ring_settings_17 (a0 : Value) : M Value :=
  bindO (nilChk a0) fun x1 =>
  bindO (fieldA 17 x1) fun x2 =>
  M.ret x2
def F.ring_settings_17.plan : Plan := (seq leaf (seq leaf leaf))
theorem F.ring_settings_17.lift : LiftOk Tryz.prog 102 (ap1 F.ring_settings_17) :=
  lift1 (g := evFn Tryz.prog tnil tnil 102 Tryz.f102 F.ring_settings_17.plan) (evFn_sound tnil_ok tnil_ok Tryz.func102 (by kernel_rfl)) (fun x0 => by kernel_rfl)

/-- granary/ring.settings$18 -/
noncomputable def F.ring_settings_18 (a0 : Value) : M Value :=
  bindO (nilChk a0) fun x1 =>
  bindO (fieldA 18 x1) fun x2 =>
  M.ret x2
def F.ring_settings_18.plan : Plan := (seq leaf (seq leaf leaf))
theorem F.ring_settings_18.lift : LiftOk Tryz.prog 103 (ap1 F.ring_settings_18) :=
  lift1 (g := evFn Tryz.prog tnil tnil 103 Tryz.f103 F.ring_settings_18.plan) (evFn_sound tnil_ok tnil_ok Tryz.func103 (by kernel_rfl)) (fun x0 => by kernel_rfl)

/-- granary/ring.settings$19 -/
noncomputable def F.ring_settings_19 (a0 : Value) : M Value :=
  bindO (nilChk a0) fun x1 =>
  bindO (fieldA 19 x1) fun x2 =>
  M.ret x2
def F.ring_settings_19.plan : Plan := (seq leaf (seq leaf leaf))
theorem F.ring_settings_19.lift : LiftOk Tryz.prog 104 (ap1 F.ring_settings_19) :=
  lift1 (g := evFn Tryz.prog tnil tnil 104 Tryz.f104 F.ring_settings_19.plan) (evFn_sound tnil_ok tnil_ok Tryz.func104 (by kernel_rfl)) (fun x0 => by kernel_rfl)

/-- granary/ring.settings$20 -/
noncomputable def F.ring_settings_20 (a0 : Value) : M Value :=
  bindO (nilChk a0) fun x1 =>
  bindO (fieldA 20 x1) fun x2 =>
  M.ret x2
def F.ring_settings_20.plan : Plan := (seq leaf (seq leaf leaf))
theorem F.ring_settings_20.lift : LiftOk Tryz.prog 105 (ap1 F.ring_settings_20) :=
  lift1 (g := evFn Tryz.prog tnil tnil 105 Tryz.f105 F.ring_settings_20.plan) (evFn_sound tnil_ok tnil_ok Tryz.func105 (by kernel_rfl)) (fun x0 => by kernel_rfl)

/-- granary/ring.settings$21 -/
noncomputable def F.ring_settings_21 (a0 : Value) : M Value :=
  bindO (nilChk a0) fun x1 =>
  bindO (fieldA 21 x1) fun x2 =>
  M.ret x2
def F.ring_settings_21.plan : Plan := (seq leaf (seq leaf leaf))
theorem F.ring_settings_21.lift : LiftOk Tryz.prog 106 (ap1 F.ring_settings_21) :=
  lift1 (g := evFn Tryz.prog tnil tnil 106 Tryz.f106 F.ring_settings_21.plan) (evFn_sound tnil_ok tnil_ok Tryz.func106 (by kernel_rfl)) (fun x0 => by kernel_rfl)

/-- What function values come to. -/
noncomputable def F.clos : Tab := (tcons 86 (ap1 F.ring_settings_1) (tcons 87 (ap1 F.ring_settings_2) (tcons 88 (ap1 F.ring_settings_3) (tcons 89 (ap1 F.ring_settings_4) (tcons 90 (ap1 F.ring_settings_5) (tcons 91 (ap1 F.ring_settings_6) (tcons 92 (ap1 F.ring_settings_7) (tcons 93 (ap1 F.ring_settings_8) (tcons 94 (ap1 F.ring_settings_9) (tcons 95 (ap1 F.ring_settings_10) (tcons 96 (ap1 F.ring_settings_11) (tcons 97 (ap1 F.ring_settings_12) (tcons 98 (ap1 F.ring_settings_13) (tcons 99 (ap1 F.ring_settings_14) (tcons 100 (ap1 F.ring_settings_15) (tcons 101 (ap1 F.ring_settings_16) (tcons 102 (ap1 F.ring_settings_17) (tcons 103 (ap1 F.ring_settings_18) (tcons 104 (ap1 F.ring_settings_19) (tcons 105 (ap1 F.ring_settings_20) (tcons 106 (ap1 F.ring_settings_21) tnil)))))))))))))))))))))
theorem F.clos_ok : TabOk Tryz.prog F.clos := (tcons_ok F.ring_settings_1.lift (tcons_ok F.ring_settings_2.lift (tcons_ok F.ring_settings_3.lift (tcons_ok F.ring_settings_4.lift (tcons_ok F.ring_settings_5.lift (tcons_ok F.ring_settings_6.lift (tcons_ok F.ring_settings_7.lift (tcons_ok F.ring_settings_8.lift (tcons_ok F.ring_settings_9.lift (tcons_ok F.ring_settings_10.lift (tcons_ok F.ring_settings_11.lift (tcons_ok F.ring_settings_12.lift (tcons_ok F.ring_settings_13.lift (tcons_ok F.ring_settings_14.lift (tcons_ok F.ring_settings_15.lift (tcons_ok F.ring_settings_16.lift (tcons_ok F.ring_settings_17.lift (tcons_ok F.ring_settings_18.lift (tcons_ok F.ring_settings_19.lift (tcons_ok F.ring_settings_20.lift (tcons_ok F.ring_settings_21.lift tnil_ok)))))))))))))))))))))

/-- granary/ring.within -/
noncomputable def F.ring_within (a0 a1 a2 : Value) : M Value :=
  bindO (binV BinOp.leq a1 a0) fun x1 =>
  M.bind (guardM x1 true (M.ret a0)) fun x2 =>
  M.bind (guardM x1 true (M.ret a2)) fun x3 =>
  M.bind (guardM x1 true (optM (binV BinOp.leq x2 x3))) fun x4 =>
  bindO (pickV x1 x4 (Value.bool false)) fun x5 =>
  M.ret x5
def F.ring_within.plan : Plan := (seq leaf (seq leaf leaf))
theorem F.ring_within.lift : LiftOk Tryz.prog 83 (ap3 F.ring_within) :=
  lift3 (g := evFn Tryz.prog tnil tnil 83 Tryz.f83 F.ring_within.plan) (evFn_sound tnil_ok tnil_ok Tryz.func83 (by kernel_rfl)) (fun x0 x1 x2 => by kernel_rfl)

/-- cmp.isNaN[int] -/
noncomputable def F.cmp_isNaN_inst (a0 : Value) : M Value :=
  bindO (binV BinOp.neq a0 a0) fun x1 =>
  M.ret x1
def F.cmp_isNaN_inst.plan : Plan := (seq leaf (seq leaf leaf))
theorem F.cmp_isNaN_inst.lift : LiftOk Tryz.prog 110 (ap1 F.cmp_isNaN_inst) :=
  lift1 (g := evFn Tryz.prog tnil tnil 110 Tryz.f110 F.cmp_isNaN_inst.plan) (evFn_sound tnil_ok tnil_ok Tryz.func110 (by kernel_rfl)) (fun x0 => by kernel_rfl)

/-- cmp.Less[int] -/
noncomputable def F.cmp_Less_inst (a0 a1 : Value) : M Value :=
  M.bind (F.cmp_isNaN_inst a0) fun x1 =>
  M.bind (guardM x1 true (M.ret a1)) fun x2 =>
  M.bind (guardM x1 true (F.cmp_isNaN_inst x2)) fun x3 =>
  M.bind (guardM x1 true (optM (notV x3))) fun x4 =>
  bindO (pickV x1 x4 (Value.bool false)) fun x5 =>
  M.bind (guardM x5 false (M.ret a0)) fun x6 =>
  M.bind (guardM x5 false (M.ret a1)) fun x7 =>
  M.bind (guardM x5 false (optM (binV BinOp.lss x6 x7))) fun x8 =>
  bindO (pickV x5 (Value.bool true) x8) fun x9 =>
  M.ret x9
def F.cmp_Less_inst.plan : Plan := (seq leaf (seq leaf leaf))
theorem F.cmp_Less_inst.lift : LiftOk Tryz.prog 109 (ap2 F.cmp_Less_inst) :=
  lift2 (g := evFn Tryz.prog (tcons 110 (ap1 F.cmp_isNaN_inst) tnil) tnil 109 Tryz.f109 F.cmp_Less_inst.plan) (evFn_sound (tcons_ok F.cmp_isNaN_inst.lift tnil_ok) tnil_ok Tryz.func109 (by kernel_rfl)) (fun x0 x1 => by kernel_rfl)

/-- slices.IsSorted[[]int,int] -/
noncomputable def F.slices_IsSorted_inst (a0 : Value) : M Value :=
  bindO (lenL a0) fun x1 =>
  bindO (binV BinOp.sub x1 (Value.int IntKind.i64 1)) fun x2 =>
  M.bind (loopM (fun l3 =>
    bindO (binV BinOp.gtr (getL l3 0) (Value.int IntKind.i64 0)) fun x4 =>
    condM x4 (
      drewM <|
      bindO (idxA 1 a0 (getL l3 0)) fun x5 =>
      M.bind (rdM (ld1 x5)) fun x6 =>
      bindO (binV BinOp.sub (getL l3 0) (Value.int IntKind.i64 1)) fun x7 =>
      bindO (idxA 1 a0 x7) fun x8 =>
      M.bind (rdM (ld1 x8)) fun x9 =>
      M.bind (F.cmp_Less_inst x6 x9) fun x10 =>
      condM x10 (
        M.ret (Out.ret (Value.bool false))) (
        bindO (binV BinOp.sub (getL l3 0) (Value.int IntKind.i64 1)) fun x11 =>
        M.ret (Out.norm [x11]))) (
      M.ret (Out.exit 0 [(getL l3 0)]))) [x2]) fun o13 =>
  outK o13 (fun _ => M.fail) (fun i14 _ =>
    bif Nat.beq i14 0 then (
      M.ret (Value.bool true)) else
    M.fail) (fun r15 => M.ret r15)
def F.slices_IsSorted_inst.plan : Plan := (seq leaf (seq (seq leaf (body (loop [3] [2, 3, 7, 8, 9, 10, 11, 12, 13, 14, 15, 16, 17, 18, 19, 20] [0] (seq (seq leaf (cond leaf leaf)) (seq (body (seq leaf (cond (seq leaf leaf) leaf))) leaf))))) (seq leaf leaf)))
theorem F.slices_IsSorted_inst.lift : LiftOk Tryz.prog 108 (ap1 F.slices_IsSorted_inst) :=
  lift1 (g := evFn Tryz.prog (tcons 109 (ap2 F.cmp_Less_inst) tnil) tnil 108 Tryz.f108 F.slices_IsSorted_inst.plan) (evFn_sound (tcons_ok F.cmp_Less_inst.lift tnil_ok) tnil_ok Tryz.func108 (by kernel_rfl)) (fun x0 => by kernel_rfl)

/-- sort.IntsAreSorted -/
noncomputable def F.sort_IntsAreSorted (a0 : Value) : M Value :=
  M.bind (F.slices_IsSorted_inst a0) fun x1 =>
  M.ret x1
def F.sort_IntsAreSorted.plan : Plan := (seq leaf (seq leaf leaf))
theorem F.sort_IntsAreSorted.lift : LiftOk Tryz.prog 107 (ap1 F.sort_IntsAreSorted) :=
  lift1 (g := evFn Tryz.prog (tcons 108 (ap1 F.slices_IsSorted_inst) tnil) tnil 107 Tryz.f107 F.sort_IntsAreSorted.plan) (evFn_sound (tcons_ok F.slices_IsSorted_inst.lift tnil_ok) tnil_ok Tryz.func107 (by kernel_rfl)) (fun x0 => by kernel_rfl)

/-- granary/ring.homes -/
noncomputable def F.ring_homes (a0 : Value) : M Value :=
  M.bind (newM 28 (Value.cells a0)) fun x1 =>
  bindO (fieldA 22 x1) fun x2 =>
  M.bind (rdM (ld1 x2)) fun x3 =>
  bindO (lenL x3) fun x4 =>
  M.bind (loopM (fun l5 =>
    bindO (binV BinOp.lss (getL l5 1) x4) fun x6 =>
    condM x6 (
      bindO (idxA 2 x3 (getL l5 1)) fun x7 =>
      M.bind (rdM (ldA 2 x7)) fun x8 =>
      M.bind (newM 98 #[(Value.int IntKind.i64 0), (Value.slice none 0 0)]) fun x9 =>
      M.bind (stM 2 x9 x8) fun _ =>
      bindO (fieldA 1 x9) fun x11 =>
      M.bind (rdM (ld1 x11)) fun x12 =>
      bindO (lenL x12) fun x13 =>
      bindO (binV BinOp.add (getL l5 0) x13) fun x14 =>
      bindO (binV BinOp.add (getL l5 1) (Value.int IntKind.i64 1)) fun x15 =>
      M.ret (Out.norm [x14, x15])) (
      M.ret (Out.exit 0 [(getL l5 0), (getL l5 1)]))) [(Value.int IntKind.i64 0), (Value.int IntKind.i64 0)]) fun o17 =>
  outK o17 (fun _ => M.fail) (fun i18 l16 =>
    bif Nat.beq i18 0 then (
      M.bind (F.ring_within (getL l16 0) (Value.int IntKind.i64 1) (Value.int IntKind.i64 64)) fun x20 =>
      bindO (notV x20) fun x21 =>
      condM x21 (
        M.ret (Value.tuple #[(Value.slice none 0 0), (Value.int IntKind.i64 66)])) (
        M.bind (mksM 3 1 8 #[(Value.int IntKind.i64 0)] (getL l16 0) (getL l16 0)) fun x22 =>
        bindO (lenL x22) fun x23 =>
        M.bind (loopM (fun l24 =>
          bindO (binV BinOp.lss (getL l24 0) x23) fun x25 =>
          condM x25 (
            bindO (idxA 1 x22 (getL l24 0)) fun x26 =>
            M.bind (stM 1 x26 (Value.int IntKind.i64 (-1))) fun _ =>
            bindO (binV BinOp.add (getL l24 0) (Value.int IntKind.i64 1)) fun x28 =>
            M.ret (Out.norm [x28])) (
            M.ret (Out.exit 2 [(getL l24 0)]))) [(Value.int IntKind.i64 0)]) fun o30 =>
        outK o30 (fun _ => M.fail) (fun i31 _ =>
          bif Nat.beq i31 2 then (
            bindO (fieldA 22 x1) fun x33 =>
            M.bind (rdM (ld1 x33)) fun x34 =>
            bindO (lenL x34) fun x35 =>
            M.bind (loopM (fun l36 =>
              bindO (binV BinOp.lss (getL l36 0) x35) fun x37 =>
              condM x37 (
                bindO (idxA 2 x34 (getL l36 0)) fun x38 =>
                M.bind (rdM (ldA 2 x38)) fun x39 =>
                M.bind (newM 98 #[(Value.int IntKind.i64 0), (Value.slice none 0 0)]) fun x40 =>
                M.bind (stM 2 x40 x39) fun _ =>
                bindO (fieldA 1 x40) fun x42 =>
                M.bind (rdM (ld1 x42)) fun x43 =>
                M.bind (F.sort_IntsAreSorted x43) fun x44 =>
                bindO (notV x44) fun x45 =>
                condM x45 (
                  M.ret (Out.ret (Value.tuple #[(Value.slice none 0 0), (Value.int IntKind.i64 66)]))) (
                  bindO (fieldA 1 x40) fun x46 =>
                  M.bind (rdM (ld1 x46)) fun x47 =>
                  bindO (lenL x47) fun x48 =>
                  M.bind (loopM (fun l49 =>
                    bindO (binV BinOp.lss (getL l49 0) x48) fun x50 =>
                    condM x50 (
                      bindO (idxA 1 x47 (getL l49 0)) fun x51 =>
                      M.bind (rdM (ld1 x51)) fun x52 =>
                      bindO (binV BinOp.lss x52 (Value.int IntKind.i64 0)) fun x53 =>
                      M.bind (guardM x53 false (M.ret x52)) fun x54 =>
                      M.bind (guardM x53 false (M.ret (getL l16 0))) fun x55 =>
                      M.bind (guardM x53 false (optM (binV BinOp.geq x54 x55))) fun x56 =>
                      bindO (pickV x53 (Value.bool true) x56) fun x57 =>
                      M.bind (guardM x57 false (M.ret x22)) fun x58 =>
                      M.bind (guardM x57 false (M.ret x52)) fun x59 =>
                      M.bind (guardM x57 false (optM (idxA 1 x58 x59))) fun x60 =>
                      M.bind (guardM x57 false (rdM (ld1 x60))) fun x61 =>
                      M.bind (guardM x57 false (optM (binV BinOp.geq x61 (Value.int IntKind.i64 0)))) fun x62 =>
                      bindO (pickV x57 (Value.bool true) x62) fun x63 =>
                      condM x63 (
                        M.ret (Out.ret (Value.tuple #[(Value.slice none 0 0), (Value.int IntKind.i64 66)]))) (
                        bindO (idxA 1 x22 x52) fun x64 =>
                        M.bind (stM 1 x64 (getL l36 0)) fun _ =>
                        bindO (binV BinOp.add (getL l49 0) (Value.int IntKind.i64 1)) fun x66 =>
                        M.ret (Out.norm [x66]))) (
                      M.ret (Out.exit 6 [(getL l49 0)]))) [(Value.int IntKind.i64 0)]) fun o68 =>
                  outK o68 (fun _ => M.fail) (fun i69 _ =>
                    bif Nat.beq i69 6 then (
                      bindO (binV BinOp.add (getL l36 0) (Value.int IntKind.i64 1)) fun x71 =>
                      M.ret (Out.norm [x71])) else
                    M.fail) (fun r70 => M.ret (Out.ret r70)))) (
                M.ret (Out.exit 4 [(getL l36 0)]))) [(Value.int IntKind.i64 0)]) fun o73 =>
            outK o73 (fun _ => M.fail) (fun i74 _ =>
              bif Nat.beq i74 4 then (
                M.ret (Value.tuple #[x22, (Value.int IntKind.i64 0)])) else
              M.fail) (fun r75 => M.ret r75)) else
          M.fail) (fun r32 => M.ret r32))) else
    M.fail) (fun r19 => M.ret r19)
def F.ring_homes.plan : Plan := (seq leaf (seq leaf (seq (seq leaf (body (loop [4, 16] [4, 6, 16, 17, 18, 19, 20, 21, 22, 23, 24, 25] [0] (seq leaf (seq (cond leaf leaf) (seq (body (seq leaf leaf)) leaf)))))) (seq (seq leaf (cond (seq leaf leaf) leaf)) (seq leaf (seq (seq leaf (body (loop [33] [8, 33, 34, 35, 36, 37, 38, 39] [2] (seq leaf (seq (cond leaf leaf) (seq (body (seq leaf leaf)) leaf)))))) (seq (seq leaf (body (loop [43] [2, 3, 9, 10, 12, 43, 44, 45, 46, 47, 48, 49, 50, 51, 52, 53, 54, 55, 56, 57, 58, 59, 60, 61, 62, 63, 64, 65, 66, 67, 68, 69, 70, 71, 72, 73, 74, 75, 76, 77, 78] [4] (seq leaf (seq (cond leaf leaf) (seq (body (seq leaf (seq (seq leaf (cond (seq leaf leaf) leaf)) (seq leaf (body (loop [55] [2, 3, 12, 55, 56, 57, 58, 59, 60, 61, 62, 63, 64, 65, 66, 67, 68, 69, 70, 71, 72, 73, 74, 75, 76, 77] [6] (seq leaf (seq (cond leaf leaf) (seq (body (seq leaf (seq (seq leaf (cond (seq leaf leaf) leaf)) leaf))) leaf))))))))) leaf)))))) (seq leaf leaf))))))))
theorem F.ring_homes.lift : LiftOk Tryz.prog 84 (ap1 F.ring_homes) :=
  lift1 (g := evFn Tryz.prog (tcons 83 (ap3 F.ring_within) (tcons 107 (ap1 F.sort_IntsAreSorted) tnil)) tnil 84 Tryz.f84 F.ring_homes.plan) (evFn_sound (tcons_ok F.ring_within.lift (tcons_ok F.sort_IntsAreSorted.lift tnil_ok)) tnil_ok Tryz.func84 (by kernel_rfl)) (fun x0 => by kernel_rfl)

/-- granary/ring.checked -/
noncomputable def F.ring_checked (a0 : Value) : M Value :=
  M.bind (newM 28 (Value.cells a0)) fun x1 =>
  bindO (fieldA 0 x1) fun x2 =>
  M.bind (rdM (ld1 x2)) fun x3 =>
  M.bind (F.ring_nameOK x3) fun x4 =>
  bindO (notV x4) fun x5 =>
  condM x5 (
    M.ret (Value.tuple #[(Value.slice none 0 0), (Value.int IntKind.i64 63)])) (
    M.bind (F.ring_settings) fun x6 =>
    bindO (lenL x6) fun x7 =>
    M.bind (loopM (fun l8 =>
      bindO (binV BinOp.lss (getL l8 0) x7) fun x9 =>
      condM x9 (
        bindO (idxA 4 x6 (getL l8 0)) fun x10 =>
        M.bind (rdM (ldA 4 x10)) fun x11 =>
        M.bind (newM 154 #[(Value.string ByteArray.empty), (Value.int IntKind.i64 0), (Value.int IntKind.i64 0), Value.nilFunc]) fun x12 =>
        M.bind (stM 4 x12 x11) fun _ =>
        drewM <|
        getM fun W14 =>
        bindO (fieldA 3 x12) fun x15 =>
        M.bind (rdM (ld1 x15)) fun x16 =>
        M.bind (callV F.clos x16 [x1]) fun x17 =>
        getM fun _ =>
        bindO (nilChk x17) fun x19 =>
        M.bind (rdM (ld1 x19)) fun x20 =>
        bindO (fieldA 1 x12) fun x21 =>
        M.bind (rdM (ld1 x21)) fun x22 =>
        bindO (fieldA 2 x12) fun x23 =>
        M.bind (rdM (ld1 x23)) fun x24 =>
        M.bind (F.ring_within x20 x22 x24) fun x25 =>
        getM fun _ =>
        bindO (notV x25) fun x27 =>
        reqM (ld1 x21 W14 = some x22) <|
        reqM (ld1 x23 W14 = some x24) <|
        condM x27 (
          M.ret (Out.ret (Value.tuple #[(Value.slice none 0 0), (Value.int IntKind.i64 64)]))) (
          bindO (binV BinOp.add (getL l8 0) (Value.int IntKind.i64 1)) fun x28 =>
          M.ret (Out.norm [x28]))) (
        M.ret (Out.exit 0 [(getL l8 0)]))) [(Value.int IntKind.i64 0)]) fun o30 =>
    outK o30 (fun _ => M.fail) (fun i31 _ =>
      bif Nat.beq i31 0 then (
        bindO (fieldA 8 x1) fun x33 =>
        M.bind (rdM (ld1 x33)) fun x34 =>
        bindO (fieldA 5 x1) fun x35 =>
        M.bind (rdM (ld1 x35)) fun x36 =>
        bindO (binV BinOp.lss x34 x36) fun x37 =>
        M.bind (guardM x37 false (optM (fieldA 11 x1))) fun x38 =>
        M.bind (guardM x37 false (rdM (ld1 x38))) fun x39 =>
        M.bind (guardM x37 false (optM (fieldA 10 x1))) fun x40 =>
        M.bind (guardM x37 false (rdM (ld1 x40))) fun x41 =>
        M.bind (guardM x37 false (optM (binV BinOp.lss x39 x41))) fun x42 =>
        bindO (pickV x37 (Value.bool true) x42) fun x43 =>
        condM x43 (
          M.ret (Value.tuple #[(Value.slice none 0 0), (Value.int IntKind.i64 64)])) (
          bindO (fieldA 22 x1) fun x44 =>
          M.bind (rdM (ld1 x44)) fun x45 =>
          bindO (lenL x45) fun x46 =>
          M.bind (F.ring_within x46 (Value.int IntKind.i64 1) (Value.int IntKind.i64 16)) fun x47 =>
          bindO (notV x47) fun x48 =>
          condM x48 (
            M.ret (Value.tuple #[(Value.slice none 0 0), (Value.int IntKind.i64 65)])) (
            bindO (fieldA 22 x1) fun x49 =>
            M.bind (rdM (ld1 x49)) fun x50 =>
            bindO (lenL x50) fun x51 =>
            M.bind (loopM (fun l52 =>
              bindO (binV BinOp.lss (getL l52 1) x51) fun x53 =>
              condM x53 (
                M.bind (
                  bindO (idxA 2 x50 (getL l52 1)) fun x54 =>
                  M.bind (rdM (ldA 2 x54)) fun x55 =>
                  M.bind (newM 98 #[(Value.int IntKind.i64 0), (Value.slice none 0 0)]) fun x56 =>
                  M.bind (stM 2 x56 x55) fun _ =>
                  bindO (fieldA 0 x56) fun x58 =>
                  M.bind (rdM (ld1 x58)) fun x59 =>
                  M.bind (F.ring_within x59 (Value.int IntKind.i64 0) (Value.int IntKind.i64 7)) fun x60 =>
                  bindO (notV x60) fun x61 =>
                  condM x61 (
                    M.ret (Out.ret (Value.tuple #[(Value.slice none 0 0), (Value.int IntKind.i64 65)]))) (
                    bindO (fieldA 1 x56) fun x62 =>
                    M.bind (rdM (ld1 x62)) fun x63 =>
                    bindO (lenL x63) fun x64 =>
                    bindO (binV BinOp.gtr x64 (Value.int IntKind.i64 0)) fun x65 =>
                    condM x65 (
                      bindO (binV BinOp.add (getL l52 0) (Value.int IntKind.i64 1)) fun x66 =>
                      M.ret (Out.norm [x66])) (
                      M.ret (Out.norm [(getL l52 0)])))) fun o68 =>
                outK o68 (fun l67 =>
                  bindO (binV BinOp.add (getL l52 1) (Value.int IntKind.i64 1)) fun x71 =>
                  M.ret (Out.norm [(getL l67 0), x71])) (fun _ _ =>
                  M.fail) (fun r70 => M.ret (Out.ret r70))) (
                M.ret (Out.exit 2 [(getL l52 0), (getL l52 1)]))) [(Value.int IntKind.i64 0), (Value.int IntKind.i64 0)]) fun o74 =>
            outK o74 (fun _ => M.fail) (fun i75 l73 =>
              bif Nat.beq i75 2 then (
                M.bind (rdM (ldA 23 x1)) fun x77 =>
                M.bind (F.ring_homes x77) fun x78 =>
                bindO (extV 0 x78) fun x79 =>
                bindO (extV 1 x78) fun x80 =>
                bindO (binV BinOp.neq x80 (Value.int IntKind.i64 0)) fun x81 =>
                condM x81 (
                  M.ret (Value.tuple #[(Value.slice none 0 0), x80])) (
                  bindO (fieldA 1 x1) fun x82 =>
                  M.bind (rdM (ld1 x82)) fun x83 =>
                  bindO (binV BinOp.gtr x83 (getL l73 0)) fun x84 =>
                  condM x84 (
                    M.ret (Value.tuple #[(Value.slice none 0 0), (Value.int IntKind.i64 67)])) (
                    bindO (lenL x79) fun x85 =>
                    bindO (fieldA 1 x1) fun x86 =>
                    M.bind (rdM (ld1 x86)) fun x87 =>
                    bindO (binV BinOp.mul x85 x87) fun x88 =>
                    bindO (fieldA 3 x1) fun x89 =>
                    M.bind (rdM (ld1 x89)) fun x90 =>
                    bindO (binV BinOp.mul x88 x90) fun x91 =>
                    bindO (binV BinOp.gtr x91 (Value.int IntKind.i64 512)) fun x92 =>
                    condM x92 (
                      M.ret (Value.tuple #[(Value.slice none 0 0), (Value.int IntKind.i64 3)])) (
                      M.ret (Value.tuple #[x79, (Value.int IntKind.i64 0)]))))) else
              M.fail) (fun r76 => M.ret r76)))) else
      M.fail) (fun r32 => M.ret r32))
def F.ring_checked.plan : Plan := (seq leaf (seq (seq leaf (cond (seq leaf leaf) leaf)) (seq (seq leaf (body (loop [17] [2, 3, 5, 17, 18, 19, 20, 21, 22, 23, 24, 25, 26, 27, 28, 29, 30, 31, 32] [0] (seq leaf (seq (cond leaf leaf) (seq (body (seq leaf (seq leaf (cond (seq leaf leaf) leaf)))) leaf)))))) (seq (seq leaf (cond (seq leaf leaf) leaf)) (seq (seq leaf (cond (seq leaf leaf) leaf)) (seq leaf (seq (seq leaf (body (loop [6, 53] [2, 3, 6, 8, 53, 54, 55, 56, 57, 58, 59, 60, 61, 62, 63, 64, 65, 66, 67] [2] (seq leaf (seq (cond leaf leaf) (fork [6] [2, 3, 6, 8, 55, 56, 57, 58, 59, 60, 61, 62, 63, 64, 65, 66] [] (body (seq leaf (seq (seq leaf (cond (seq leaf leaf) leaf)) (seq leaf (cond leaf leaf))))) leaf)))))) (seq leaf (seq (seq leaf (cond (seq leaf leaf) leaf)) (seq (seq leaf (cond (seq leaf leaf) leaf)) (seq (seq leaf (cond (seq leaf leaf) leaf)) (seq leaf leaf))))))))))))
theorem F.ring_checked.lift : LiftOk Tryz.prog 72 (ap1 F.ring_checked) :=
  lift1 (g := evFn Tryz.prog (tcons 81 (ap1 F.ring_nameOK) (tcons 82 (ap0 F.ring_settings) (tcons 83 (ap3 F.ring_within) (tcons 84 (ap1 F.ring_homes) tnil)))) F.clos 72 Tryz.f72 F.ring_checked.plan) (evFn_sound (tcons_ok F.ring_nameOK.lift (tcons_ok F.ring_settings.lift (tcons_ok F.ring_within.lift (tcons_ok F.ring_homes.lift tnil_ok)))) F.clos_ok Tryz.func72 (by kernel_rfl)) (fun x0 => by kernel_rfl)

/-- granary/ring.Check -/
noncomputable def F.ring_Check (a0 : Value) : M Value :=
  M.bind (newM 28 (Value.cells a0)) fun x1 =>
  M.bind (rdM (ldA 23 x1)) fun x2 =>
  M.bind (F.ring_checked x2) fun x3 =>
  bindO (extV 0 x3) fun _ =>
  bindO (extV 1 x3) fun x5 =>
  M.ret x5
def F.ring_Check.plan : Plan := (seq leaf (seq leaf (seq leaf leaf)))
theorem F.ring_Check.lift : LiftOk Tryz.prog 53 (ap1 F.ring_Check) :=
  lift1 (g := evFn Tryz.prog (tcons 72 (ap1 F.ring_checked) tnil) tnil 53 Tryz.f53 F.ring_Check.plan) (evFn_sound (tcons_ok F.ring_checked.lift tnil_ok) tnil_ok Tryz.func53 (by kernel_rfl)) (fun x0 => by kernel_rfl)

/-- granary/control.New -/
noncomputable def F.control_New (a0 : Value) : M Value :=
  M.bind (newM 28 (Value.cells a0)) fun x1 =>
  M.bind (rdM (ldA 23 x1)) fun x2 =>
  M.bind (F.ring_Check x2) fun x3 =>
  bindO (binV BinOp.neq x3 (Value.int IntKind.i64 0)) fun x4 =>
  condM x4 (
    M.ret (Value.tuple #[(Value.pointer none), x3])) (
    bindO (fieldA 22 x1) fun x5 =>
    M.bind (rdM (ld1 x5)) fun x6 =>
    bindO (lenL x6) fun x7 =>
    bindO (fieldA 15 x1) fun x8 =>
    M.bind (rdM (ld1 x8)) fun x9 =>
    bindO (fieldA 16 x1) fun x10 =>
    M.bind (rdM (ld1 x10)) fun x11 =>
    bindO (fieldA 17 x1) fun x12 =>
    M.bind (rdM (ld1 x12)) fun x13 =>
    bindO (buildV #[(Value.int IntKind.i64 0), (Value.int IntKind.i64 0), (Value.int IntKind.i64 0), (Value.int IntKind.i64 0), (Value.int IntKind.i64 0), (Value.int IntKind.i64 0), (Value.int IntKind.i64 0), Value.nilIface, (Value.bool false), (Value.int IntKind.i64 0), (Value.int IntKind.i64 0), (Value.int IntKind.i64 0), (Value.int IntKind.i64 0), (Value.slice none 0 0), (Value.slice none 0 0)] [(0, 1, x7), (1, 1, x9), (2, 1, x11), (3, 1, x13)]) fun x14 =>
    M.bind (newM 108 (Value.cells x14)) fun x15 =>
    M.ret (Value.tuple #[x15, (Value.int IntKind.i64 0)]))
def F.control_New.plan : Plan := (seq leaf (seq (seq leaf (seq leaf (cond (seq leaf leaf) leaf))) (seq leaf leaf)))
theorem F.control_New.lift : LiftOk Tryz.prog 18 (ap1 F.control_New) :=
  lift1 (g := evFn Tryz.prog (tcons 53 (ap1 F.ring_Check) tnil) tnil 18 Tryz.f18 F.control_New.plan) (evFn_sound (tcons_ok F.ring_Check.lift tnil_ok) tnil_ok Tryz.func18 (by kernel_rfl)) (fun x0 => by kernel_rfl)

/-- granary/granaryref6.Values -/
noncomputable def F.granaryref6_Values (a0 : Value) : M Value :=
  M.bind (newM 28 (Value.cells a0)) fun x1 =>
  M.bind (newM 99 #[(Value.int IntKind.i64 0), (Value.int IntKind.i64 0), (Value.int IntKind.i64 0), (Value.int IntKind.i64 0), (Value.int IntKind.i64 0), (Value.int IntKind.i64 0), (Value.int IntKind.i64 0), (Value.int IntKind.i64 0), (Value.int IntKind.i64 0), (Value.int IntKind.i64 0), (Value.int IntKind.i64 0), (Value.int IntKind.i64 0), (Value.int IntKind.i64 0), (Value.int IntKind.i64 0), (Value.int IntKind.i64 0), (Value.int IntKind.i64 0), (Value.int IntKind.i64 0), (Value.int IntKind.i64 0), (Value.int IntKind.i64 0), (Value.int IntKind.i64 0), (Value.int IntKind.i64 0)]) fun x2 =>
  bindO (fieldA 1 x1) fun x3 =>
  M.bind (rdM (ld1 x3)) fun x4 =>
  bindO (fieldA 2 x1) fun x5 =>
  M.bind (rdM (ld1 x5)) fun x6 =>
  bindO (fieldA 3 x1) fun x7 =>
  M.bind (rdM (ld1 x7)) fun x8 =>
  bindO (fieldA 4 x1) fun x9 =>
  M.bind (rdM (ld1 x9)) fun x10 =>
  bindO (fieldA 5 x1) fun x11 =>
  M.bind (rdM (ld1 x11)) fun x12 =>
  bindO (fieldA 6 x1) fun x13 =>
  M.bind (rdM (ld1 x13)) fun x14 =>
  bindO (fieldA 7 x1) fun x15 =>
  M.bind (rdM (ld1 x15)) fun x16 =>
  bindO (fieldA 8 x1) fun x17 =>
  M.bind (rdM (ld1 x17)) fun x18 =>
  bindO (fieldA 9 x1) fun x19 =>
  M.bind (rdM (ld1 x19)) fun x20 =>
  bindO (fieldA 10 x1) fun x21 =>
  M.bind (rdM (ld1 x21)) fun x22 =>
  bindO (fieldA 11 x1) fun x23 =>
  M.bind (rdM (ld1 x23)) fun x24 =>
  bindO (fieldA 12 x1) fun x25 =>
  M.bind (rdM (ld1 x25)) fun x26 =>
  bindO (fieldA 13 x1) fun x27 =>
  M.bind (rdM (ld1 x27)) fun x28 =>
  bindO (fieldA 14 x1) fun x29 =>
  M.bind (rdM (ld1 x29)) fun x30 =>
  bindO (fieldA 15 x1) fun x31 =>
  M.bind (rdM (ld1 x31)) fun x32 =>
  bindO (fieldA 16 x1) fun x33 =>
  M.bind (rdM (ld1 x33)) fun x34 =>
  bindO (fieldA 17 x1) fun x35 =>
  M.bind (rdM (ld1 x35)) fun x36 =>
  bindO (fieldA 18 x1) fun x37 =>
  M.bind (rdM (ld1 x37)) fun x38 =>
  bindO (fieldA 19 x1) fun x39 =>
  M.bind (rdM (ld1 x39)) fun x40 =>
  bindO (fieldA 20 x1) fun x41 =>
  M.bind (rdM (ld1 x41)) fun x42 =>
  bindO (fieldA 21 x1) fun x43 =>
  M.bind (rdM (ld1 x43)) fun x44 =>
  bindO (buildV #[(Value.int IntKind.i64 0), (Value.int IntKind.i64 0), (Value.int IntKind.i64 0), (Value.int IntKind.i64 0), (Value.int IntKind.i64 0), (Value.int IntKind.i64 0), (Value.int IntKind.i64 0), (Value.int IntKind.i64 0), (Value.int IntKind.i64 0), (Value.int IntKind.i64 0), (Value.int IntKind.i64 0), (Value.int IntKind.i64 0), (Value.int IntKind.i64 0), (Value.int IntKind.i64 0), (Value.int IntKind.i64 0), (Value.int IntKind.i64 0), (Value.int IntKind.i64 0), (Value.int IntKind.i64 0), (Value.int IntKind.i64 0), (Value.int IntKind.i64 0), (Value.int IntKind.i64 0)] [(0, 1, x4), (1, 1, x6), (2, 1, x8), (3, 1, x10), (4, 1, x12), (5, 1, x14), (6, 1, x16), (7, 1, x18), (8, 1, x20), (9, 1, x22), (10, 1, x24), (11, 1, x26), (12, 1, x28), (13, 1, x30), (14, 1, x32), (15, 1, x34), (16, 1, x36), (17, 1, x38), (18, 1, x40), (19, 1, x42), (20, 1, x44)]) fun x45 =>
  M.bind (stM 21 x2 x45) fun _ =>
  M.bind (rdM (ldA 21 x2)) fun x47 =>
  M.ret x47
def F.granaryref6_Values.plan : Plan := (seq leaf (seq leaf leaf))
theorem F.granaryref6_Values.lift : LiftOk Tryz.prog 73 (ap1 F.granaryref6_Values) :=
  lift1 (g := evFn Tryz.prog tnil tnil 73 Tryz.f73 F.granaryref6_Values.plan) (evFn_sound tnil_ok tnil_ok Tryz.func73 (by kernel_rfl)) (fun x0 => by kernel_rfl)

/-- granary/granarylaw6.sameInts -/
noncomputable def F.granarylaw6_sameInts (a0 a1 : Value) : M Value :=
  bindO (lenL a0) fun x1 =>
  bindO (lenL a1) fun x2 =>
  bindO (binV BinOp.neq x1 x2) fun x3 =>
  condM x3 (
    M.ret (Value.bool false)) (
    M.bind (loopM (fun l4 =>
      bindO (lenL a0) fun x5 =>
      bindO (binV BinOp.lss (getL l4 0) x5) fun x6 =>
      condM x6 (
        drewM <|
        bindO (idxA 1 a0 (getL l4 0)) fun x7 =>
        M.bind (rdM (ld1 x7)) fun x8 =>
        bindO (idxA 1 a1 (getL l4 0)) fun x9 =>
        M.bind (rdM (ld1 x9)) fun x10 =>
        bindO (binV BinOp.neq x8 x10) fun x11 =>
        condM x11 (
          M.ret (Out.ret (Value.bool false))) (
          bindO (binV BinOp.add (getL l4 0) (Value.int IntKind.i64 1)) fun x12 =>
          M.ret (Out.norm [x12]))) (
        M.ret (Out.exit 0 [(getL l4 0)]))) [(Value.int IntKind.i64 0)]) fun o14 =>
    outK o14 (fun _ => M.fail) (fun i15 _ =>
      bif Nat.beq i15 0 then (
        M.ret (Value.bool true)) else
      M.fail) (fun r16 => M.ret r16))
def F.granarylaw6_sameInts.plan : Plan := (seq leaf (seq (seq leaf (cond (seq leaf leaf) leaf)) (seq (seq leaf (body (loop [5] [4, 5, 11, 12, 13, 14, 15, 16, 17, 18, 19, 20, 21, 22, 23, 24, 25] [0] (seq (seq leaf (cond leaf leaf)) (seq (body (seq leaf (cond (seq leaf leaf) leaf))) leaf))))) (seq leaf leaf))))
theorem F.granarylaw6_sameInts.lift : LiftOk Tryz.prog 55 (ap2 F.granarylaw6_sameInts) :=
  lift2 (g := evFn Tryz.prog tnil tnil 55 Tryz.f55 F.granarylaw6_sameInts.plan) (evFn_sound tnil_ok tnil_ok Tryz.func55 (by kernel_rfl)) (fun x0 x1 => by kernel_rfl)

/-- granary/granarylaw6.sameCluster -/
noncomputable def F.granarylaw6_sameCluster (a0 a1 : Value) : M Value :=
  M.bind (newM 28 (Value.cells a0)) fun x1 =>
  M.bind (newM 28 (Value.cells a1)) fun x2 =>
  drewM <|
  getM fun W3 =>
  bindO (fieldA 0 x1) fun x4 =>
  M.bind (rdM (ld1 x4)) fun x5 =>
  bindO (fieldA 0 x2) fun x6 =>
  M.bind (rdM (ld1 x6)) fun x7 =>
  bindO (binV BinOp.neq x5 x7) fun x8 =>
  M.bind (guardM x8 false (rdM (ldA 23 x1))) fun x9 =>
  M.bind (guardM x8 false (F.granaryref6_Values x9)) fun x10 =>
  getM fun _ =>
  M.bind (guardM x8 false (rdM (ldA 23 x2))) fun x12 =>
  M.bind (guardM x8 false (F.granaryref6_Values x12)) fun x13 =>
  getM fun _ =>
  M.bind (guardM x8 false (optM (neV (EqSh.offs [(EqK.int, 0), (EqK.int, 1), (EqK.int, 2), (EqK.int, 3), (EqK.int, 4), (EqK.int, 5), (EqK.int, 6), (EqK.int, 7), (EqK.int, 8), (EqK.int, 9), (EqK.int, 10), (EqK.int, 11), (EqK.int, 12), (EqK.int, 13), (EqK.int, 14), (EqK.int, 15), (EqK.int, 16), (EqK.int, 17), (EqK.int, 18), (EqK.int, 19), (EqK.int, 20)]) x10 x13))) fun x15 =>
  bindO (pickV x8 (Value.bool true) x15) fun x16 =>
  M.bind (guardM x16 false (optM (fieldA 22 x1))) fun x17 =>
  M.bind (guardM x16 false (rdM (ld1 x17))) fun x18 =>
  M.bind (guardM x16 false (optM (lenL x18))) fun x19 =>
  M.bind (guardM x16 false (optM (fieldA 22 x2))) fun x20 =>
  M.bind (guardM x16 false (rdM (ld1 x20))) fun x21 =>
  M.bind (guardM x16 false (optM (lenL x21))) fun x22 =>
  M.bind (guardM x16 false (optM (binV BinOp.neq x19 x22))) fun x23 =>
  bindO (pickV x16 (Value.bool true) x23) fun x24 =>
  reqM (x8 = Value.bool false → ldA 23 x2 W3 = some x12) <|
  condM x24 (
    M.ret (Value.bool false)) (
    M.bind (loopM (fun l25 =>
      bindO (fieldA 22 x1) fun x26 =>
      M.bind (rdM (ld1 x26)) fun x27 =>
      bindO (lenL x27) fun x28 =>
      bindO (binV BinOp.lss (getL l25 0) x28) fun x29 =>
      condM x29 (
        drewM <|
        bindO (fieldA 22 x1) fun x30 =>
        M.bind (rdM (ld1 x30)) fun x31 =>
        bindO (idxA 2 x31 (getL l25 0)) fun x32 =>
        bindO (fieldA 0 x32) fun x33 =>
        M.bind (rdM (ld1 x33)) fun x34 =>
        bindO (fieldA 22 x2) fun x35 =>
        M.bind (rdM (ld1 x35)) fun x36 =>
        bindO (idxA 2 x36 (getL l25 0)) fun x37 =>
        bindO (fieldA 0 x37) fun x38 =>
        M.bind (rdM (ld1 x38)) fun x39 =>
        bindO (binV BinOp.neq x34 x39) fun x40 =>
        M.bind (guardM x40 false (optM (fieldA 22 x1))) fun x41 =>
        M.bind (guardM x40 false (rdM (ld1 x41))) fun x42 =>
        M.bind (guardM x40 false (M.ret (getL l25 0))) fun x43 =>
        M.bind (guardM x40 false (optM (idxA 2 x42 x43))) fun x44 =>
        M.bind (guardM x40 false (optM (fieldA 1 x44))) fun x45 =>
        M.bind (guardM x40 false (rdM (ld1 x45))) fun x46 =>
        M.bind (guardM x40 false (optM (fieldA 22 x2))) fun x47 =>
        M.bind (guardM x40 false (rdM (ld1 x47))) fun x48 =>
        M.bind (guardM x40 false (M.ret (getL l25 0))) fun x49 =>
        M.bind (guardM x40 false (optM (idxA 2 x48 x49))) fun x50 =>
        M.bind (guardM x40 false (optM (fieldA 1 x50))) fun x51 =>
        M.bind (guardM x40 false (rdM (ld1 x51))) fun x52 =>
        M.bind (guardM x40 false (F.granarylaw6_sameInts x46 x52)) fun x53 =>
        M.bind (guardM x40 false (optM (notV x53))) fun x54 =>
        bindO (pickV x40 (Value.bool true) x54) fun x55 =>
        condM x55 (
          M.ret (Out.ret (Value.bool false))) (
          bindO (binV BinOp.add (getL l25 0) (Value.int IntKind.i64 1)) fun x56 =>
          M.ret (Out.norm [x56]))) (
        M.ret (Out.exit 0 [(getL l25 0)]))) [(Value.int IntKind.i64 0)]) fun o58 =>
    outK o58 (fun _ => M.fail) (fun i59 _ =>
      bif Nat.beq i59 0 then (
        M.ret (Value.bool true)) else
      M.fail) (fun r60 => M.ret r60))
def F.granarylaw6_sameCluster.plan : Plan := (seq leaf (seq (seq leaf (cond (seq leaf leaf) leaf)) (seq (seq leaf (body (loop [5] [4, 5, 27, 28, 29, 30, 31, 32, 33, 34, 35, 36, 37, 38, 39, 40, 41, 42, 43, 44, 45, 46, 47, 48, 49, 50, 51, 52, 53, 54, 55, 56, 57, 58, 59, 60, 61, 62] [0] (seq (seq leaf (cond leaf leaf)) (seq (body (seq leaf (cond (seq leaf leaf) leaf))) leaf))))) (seq leaf leaf))))
theorem F.granarylaw6_sameCluster.lift : LiftOk Tryz.prog 54 (ap2 F.granarylaw6_sameCluster) :=
  lift2 (g := evFn Tryz.prog (tcons 55 (ap2 F.granarylaw6_sameInts) (tcons 73 (ap1 F.granaryref6_Values) tnil)) tnil 54 Tryz.f54 F.granarylaw6_sameCluster.plan) (evFn_sound (tcons_ok F.granarylaw6_sameInts.lift (tcons_ok F.granaryref6_Values.lift tnil_ok)) tnil_ok Tryz.func54 (by kernel_rfl)) (fun x0 x1 => by kernel_rfl)

/-- (*granary/granarylaw6.Handed).Left -/
noncomputable def F.granarylaw6_Handed_Left (a0 : Value) : M Value :=
  bindO (nilChk a0) fun x1 =>
  bindO (fieldA 23 x1) fun x2 =>
  bindO (fieldA 22 x2) fun x3 =>
  M.bind (rdM (ld1 x3)) fun x4 =>
  bindO (lenL x4) fun x5 =>
  drewM <|
  bindO (nilChk a0) fun x6 =>
  bindO (fieldA 0 x6) fun x7 =>
  M.bind (rdM (ldA 23 x7)) fun x8 =>
  bindO (nilChk a0) fun x9 =>
  bindO (fieldA 23 x9) fun x10 =>
  M.bind (rdM (ldA 23 x10)) fun x11 =>
  M.bind (F.granarylaw6_sameCluster x8 x11) fun x12 =>
  bindO (notV x12) fun x13 =>
  M.bind (guardM x13 false (M.ret a0)) fun x14 =>
  M.bind (guardM x13 false (optM (nilChk x14))) fun x15 =>
  M.bind (guardM x13 false (optM (fieldA 46 x15))) fun x16 =>
  M.bind (guardM x13 false (rdM (ld1 x16))) fun x17 =>
  M.bind (guardM x13 false (optM (lenL x17))) fun x18 =>
  M.bind (guardM x13 false (M.ret x5)) fun x19 =>
  M.bind (guardM x13 false (optM (binV BinOp.add x19 (Value.int IntKind.i64 2)))) fun x20 =>
  M.bind (guardM x13 false (optM (binV BinOp.neq x18 x20))) fun x21 =>
  bindO (pickV x13 (Value.bool true) x21) fun x22 =>
  M.bind (guardM x22 false (M.ret a0)) fun x23 =>
  M.bind (guardM x22 false (optM (nilChk x23))) fun x24 =>
  M.bind (guardM x22 false (optM (fieldA 46 x24))) fun x25 =>
  M.bind (guardM x22 false (rdM (ld1 x25))) fun x26 =>
  M.bind (guardM x22 false (M.ret x5)) fun x27 =>
  M.bind (guardM x22 false (optM (idxA 2 x26 x27))) fun x28 =>
  M.bind (guardM x22 false (optM (fieldA 0 x28))) fun x29 =>
  M.bind (guardM x22 false (rdM (ld1 x29))) fun x30 =>
  M.bind (guardM x22 false (optM (binV BinOp.neq x30 (Value.int IntKind.i64 801)))) fun x31 =>
  bindO (pickV x22 (Value.bool true) x31) fun x32 =>
  M.bind (guardM x32 false (M.ret a0)) fun x33 =>
  M.bind (guardM x32 false (optM (nilChk x33))) fun x34 =>
  M.bind (guardM x32 false (optM (fieldA 46 x34))) fun x35 =>
  M.bind (guardM x32 false (rdM (ld1 x35))) fun x36 =>
  M.bind (guardM x32 false (M.ret x5)) fun x37 =>
  M.bind (guardM x32 false (optM (binV BinOp.add x37 (Value.int IntKind.i64 1)))) fun x38 =>
  M.bind (guardM x32 false (optM (idxA 2 x36 x38))) fun x39 =>
  M.bind (guardM x32 false (optM (fieldA 0 x39))) fun x40 =>
  M.bind (guardM x32 false (rdM (ld1 x40))) fun x41 =>
  M.bind (guardM x32 false (optM (binV BinOp.neq x41 (Value.int IntKind.i64 802)))) fun x42 =>
  bindO (pickV x32 (Value.bool true) x42) fun x43 =>
  M.bind (guardM x43 false (M.ret a0)) fun x44 =>
  M.bind (guardM x43 false (optM (nilChk x44))) fun x45 =>
  M.bind (guardM x43 false (optM (fieldA 46 x45))) fun x46 =>
  M.bind (guardM x43 false (rdM (ld1 x46))) fun x47 =>
  M.bind (guardM x43 false (M.ret x5)) fun x48 =>
  M.bind (guardM x43 false (optM (idxA 2 x47 x48))) fun x49 =>
  M.bind (guardM x43 false (optM (fieldA 1 x49))) fun x50 =>
  M.bind (guardM x43 false (rdM (ld1 x50))) fun x51 =>
  M.bind (guardM x43 false (optM (lenL x51))) fun x52 =>
  M.bind (guardM x43 false (optM (binV BinOp.neq x52 (Value.int IntKind.i64 0)))) fun x53 =>
  bindO (pickV x43 (Value.bool true) x53) fun x54 =>
  M.bind (guardM x54 false (M.ret a0)) fun x55 =>
  M.bind (guardM x54 false (optM (nilChk x55))) fun x56 =>
  M.bind (guardM x54 false (optM (fieldA 46 x56))) fun x57 =>
  M.bind (guardM x54 false (rdM (ld1 x57))) fun x58 =>
  M.bind (guardM x54 false (M.ret x5)) fun x59 =>
  M.bind (guardM x54 false (optM (binV BinOp.add x59 (Value.int IntKind.i64 1)))) fun x60 =>
  M.bind (guardM x54 false (optM (idxA 2 x58 x60))) fun x61 =>
  M.bind (guardM x54 false (optM (fieldA 1 x61))) fun x62 =>
  M.bind (guardM x54 false (rdM (ld1 x62))) fun x63 =>
  M.bind (guardM x54 false (optM (lenL x63))) fun x64 =>
  M.bind (guardM x54 false (optM (binV BinOp.neq x64 (Value.int IntKind.i64 0)))) fun x65 =>
  bindO (pickV x54 (Value.bool true) x65) fun x66 =>
  condM x66 (
    M.ret (Value.bool false)) (
    M.bind (loopM (fun l67 =>
      bindO (binV BinOp.lss (getL l67 0) x5) fun x68 =>
      condM x68 (
        bindO (nilChk a0) fun x69 =>
        bindO (fieldA 47 x69) fun x70 =>
        M.bind (rdM (ld1 x70)) fun x71 =>
        bindO (idxA 1 x71 (getL l67 0)) fun x72 =>
        M.bind (rdM (ld1 x72)) fun x73 =>
        bindO (nilChk a0) fun x74 =>
        bindO (fieldA 23 x74) fun x75 =>
        bindO (fieldA 22 x75) fun x76 =>
        M.bind (rdM (ld1 x76)) fun x77 =>
        bindO (idxA 2 x77 (getL l67 0)) fun x78 =>
        bindO (fieldA 1 x78) fun x79 =>
        M.bind (rdM (ld1 x79)) fun x80 =>
        bindO (lenL x80) fun x81 =>
        drewM <|
        bindO (lenL x73) fun x82 =>
        bindO (binV BinOp.add x81 (Value.int IntKind.i64 3)) fun x83 =>
        bindO (binV BinOp.neq x82 x83) fun x84 =>
        M.bind (guardM x84 false (M.ret x73)) fun x85 =>
        M.bind (guardM x84 false (M.ret x81)) fun x86 =>
        M.bind (guardM x84 false (optM (idxA 1 x85 x86))) fun x87 =>
        M.bind (guardM x84 false (rdM (ld1 x87))) fun x88 =>
        M.bind (guardM x84 false (optM (binV BinOp.neq x88 (Value.int IntKind.i64 701)))) fun x89 =>
        bindO (pickV x84 (Value.bool true) x89) fun x90 =>
        M.bind (guardM x90 false (M.ret x73)) fun x91 =>
        M.bind (guardM x90 false (M.ret x81)) fun x92 =>
        M.bind (guardM x90 false (optM (binV BinOp.add x92 (Value.int IntKind.i64 1)))) fun x93 =>
        M.bind (guardM x90 false (optM (idxA 1 x91 x93))) fun x94 =>
        M.bind (guardM x90 false (rdM (ld1 x94))) fun x95 =>
        M.bind (guardM x90 false (optM (binV BinOp.neq x95 (Value.int IntKind.i64 702)))) fun x96 =>
        bindO (pickV x90 (Value.bool true) x96) fun x97 =>
        M.bind (guardM x97 false (M.ret x73)) fun x98 =>
        M.bind (guardM x97 false (M.ret x81)) fun x99 =>
        M.bind (guardM x97 false (optM (binV BinOp.add x99 (Value.int IntKind.i64 2)))) fun x100 =>
        M.bind (guardM x97 false (optM (idxA 1 x98 x100))) fun x101 =>
        M.bind (guardM x97 false (rdM (ld1 x101))) fun x102 =>
        M.bind (guardM x97 false (optM (binV BinOp.neq x102 (Value.int IntKind.i64 703)))) fun x103 =>
        bindO (pickV x97 (Value.bool true) x103) fun x104 =>
        M.bind (guardM x104 false (M.ret x73)) fun x105 =>
        M.bind (guardM x104 false (M.ret x81)) fun x106 =>
        M.bind (guardM x104 false (optM (sliceV 1 x105 none (some x106)))) fun x107 =>
        M.bind (guardM x104 false (M.ret a0)) fun x108 =>
        M.bind (guardM x104 false (optM (nilChk x108))) fun x109 =>
        M.bind (guardM x104 false (optM (fieldA 23 x109))) fun x110 =>
        M.bind (guardM x104 false (optM (fieldA 22 x110))) fun x111 =>
        M.bind (guardM x104 false (rdM (ld1 x111))) fun x112 =>
        M.bind (guardM x104 false (M.ret (getL l67 0))) fun x113 =>
        M.bind (guardM x104 false (optM (idxA 2 x112 x113))) fun x114 =>
        M.bind (guardM x104 false (optM (fieldA 1 x114))) fun x115 =>
        M.bind (guardM x104 false (rdM (ld1 x115))) fun x116 =>
        M.bind (guardM x104 false (F.granarylaw6_sameInts x107 x116)) fun x117 =>
        M.bind (guardM x104 false (optM (notV x117))) fun x118 =>
        bindO (pickV x104 (Value.bool true) x118) fun x119 =>
        M.bind (guardM x119 false (M.ret a0)) fun x120 =>
        M.bind (guardM x119 false (optM (nilChk x120))) fun x121 =>
        M.bind (guardM x119 false (optM (fieldA 46 x121))) fun x122 =>
        M.bind (guardM x119 false (rdM (ld1 x122))) fun x123 =>
        M.bind (guardM x119 false (M.ret (getL l67 0))) fun x124 =>
        M.bind (guardM x119 false (optM (idxA 2 x123 x124))) fun x125 =>
        M.bind (guardM x119 false (optM (fieldA 1 x125))) fun x126 =>
        M.bind (guardM x119 false (rdM (ld1 x126))) fun x127 =>
        M.bind (guardM x119 false (M.ret a0)) fun x128 =>
        M.bind (guardM x119 false (optM (nilChk x128))) fun x129 =>
        M.bind (guardM x119 false (optM (fieldA 23 x129))) fun x130 =>
        M.bind (guardM x119 false (optM (fieldA 22 x130))) fun x131 =>
        M.bind (guardM x119 false (rdM (ld1 x131))) fun x132 =>
        M.bind (guardM x119 false (M.ret (getL l67 0))) fun x133 =>
        M.bind (guardM x119 false (optM (idxA 2 x132 x133))) fun x134 =>
        M.bind (guardM x119 false (optM (fieldA 1 x134))) fun x135 =>
        M.bind (guardM x119 false (rdM (ld1 x135))) fun x136 =>
        M.bind (guardM x119 false (F.granarylaw6_sameInts x127 x136)) fun x137 =>
        M.bind (guardM x119 false (optM (notV x137))) fun x138 =>
        bindO (pickV x119 (Value.bool true) x138) fun x139 =>
        condM x139 (
          M.ret (Out.ret (Value.bool false))) (
          bindO (binV BinOp.add (getL l67 0) (Value.int IntKind.i64 1)) fun x140 =>
          M.ret (Out.norm [x140]))) (
        M.ret (Out.exit 0 [(getL l67 0)]))) [(Value.int IntKind.i64 0)]) fun o142 =>
    outK o142 (fun _ => M.fail) (fun i143 _ =>
      bif Nat.beq i143 0 then (
        M.ret (Value.bool true)) else
      M.fail) (fun r144 => M.ret r144))
def F.granarylaw6_Handed_Left.plan : Plan := (seq leaf (seq leaf (seq (seq leaf (cond (seq leaf leaf) leaf)) (seq (seq leaf (body (loop [4] [2, 4, 5, 6, 81, 82, 83, 84, 85, 86, 87, 88, 89, 90, 91, 92, 93, 94, 95, 96, 97, 98, 99, 100, 101, 102, 103, 104, 105, 106, 107, 108, 109, 110, 111, 112, 113, 114, 115, 116, 117, 118, 119, 120, 121, 122, 123, 124, 125, 126, 127, 128, 129, 130, 131, 132, 133, 134, 135, 136, 137, 138, 139, 140, 141, 142, 143, 144, 145, 146, 147, 148, 149, 150, 151, 152, 153, 154, 155, 156, 157, 158, 159, 160, 161, 162, 163, 164, 165, 166, 167] [0] (seq (seq leaf (cond leaf leaf)) (seq (body (seq leaf (seq leaf (seq leaf (cond (seq leaf leaf) leaf))))) leaf))))) (seq leaf leaf)))))
theorem F.granarylaw6_Handed_Left.lift : LiftOk Tryz.prog 19 (ap1 F.granarylaw6_Handed_Left) :=
  lift1 (g := evFn Tryz.prog (tcons 54 (ap2 F.granarylaw6_sameCluster) (tcons 55 (ap2 F.granarylaw6_sameInts) tnil)) tnil 19 Tryz.f19 F.granarylaw6_Handed_Left.plan) (evFn_sound (tcons_ok F.granarylaw6_sameCluster.lift (tcons_ok F.granarylaw6_sameInts.lift tnil_ok)) tnil_ok Tryz.func19 (by kernel_rfl)) (fun x0 => by kernel_rfl)

/-- (*granary/granarylaw6.Handed).Spoil -/
noncomputable def F.granarylaw6_Handed_Spoil (a0 : Value) : M Value :=
  M.bind (loopM (fun l1 =>
    bindO (nilChk a0) fun x2 =>
    bindO (fieldA 47 x2) fun x3 =>
    M.bind (rdM (ld1 x3)) fun x4 =>
    bindO (lenL x4) fun x5 =>
    bindO (binV BinOp.lss (getL l1 0) x5) fun x6 =>
    condM x6 (
      M.bind (loopM (fun l7 =>
        bindO (nilChk a0) fun x8 =>
        bindO (fieldA 47 x8) fun x9 =>
        M.bind (rdM (ld1 x9)) fun x10 =>
        bindO (idxA 1 x10 (getL l1 0)) fun x11 =>
        M.bind (rdM (ld1 x11)) fun x12 =>
        bindO (lenL x12) fun x13 =>
        bindO (binV BinOp.lss (getL l7 0) x13) fun x14 =>
        condM x14 (
          bindO (nilChk a0) fun x15 =>
          bindO (fieldA 47 x15) fun x16 =>
          M.bind (rdM (ld1 x16)) fun x17 =>
          bindO (idxA 1 x17 (getL l1 0)) fun x18 =>
          M.bind (rdM (ld1 x18)) fun x19 =>
          bindO (idxA 1 x19 (getL l7 0)) fun x20 =>
          M.bind (stM 1 x20 (Value.int IntKind.i64 99)) fun _ =>
          bindO (binV BinOp.add (getL l7 0) (Value.int IntKind.i64 1)) fun x22 =>
          M.ret (Out.norm [x22])) (
          M.ret (Out.exit 2 [(getL l7 0)]))) [(Value.int IntKind.i64 0)]) fun o24 =>
      outK o24 (fun _ => M.fail) (fun i25 _ =>
        bif Nat.beq i25 2 then (
          bindO (nilChk a0) fun x27 =>
          bindO (fieldA 46 x27) fun x28 =>
          M.bind (rdM (ld1 x28)) fun x29 =>
          bindO (idxA 2 x29 (getL l1 0)) fun x30 =>
          bindO (fieldA 0 x30) fun x31 =>
          M.bind (stM 1 x31 (Value.int IntKind.i64 5)) fun _ =>
          bindO (nilChk a0) fun x33 =>
          bindO (fieldA 46 x33) fun x34 =>
          M.bind (rdM (ld1 x34)) fun x35 =>
          bindO (idxA 2 x35 (getL l1 0)) fun x36 =>
          bindO (fieldA 1 x36) fun x37 =>
          M.bind (stM 1 x37 (Value.slice none 0 0)) fun _ =>
          bindO (binV BinOp.add (getL l1 0) (Value.int IntKind.i64 1)) fun x39 =>
          M.ret (Out.norm [x39])) else
        M.fail) (fun r26 => M.ret (Out.ret r26))) (
      M.ret (Out.exit 0 [(getL l1 0)]))) [(Value.int IntKind.i64 0)]) fun o41 =>
  outK o41 (fun _ => M.fail) (fun i42 _ =>
    bif Nat.beq i42 0 then (
      M.ret (Value.tuple #[])) else
    M.fail) (fun r43 => M.ret r43)
def F.granarylaw6_Handed_Spoil.plan : Plan := (seq leaf (body (loop [2] [2, 3, 4, 5, 6, 7, 8, 9, 10, 11, 12, 13, 14, 15, 16, 17, 18, 19, 20, 21, 22, 23, 24, 25, 26, 27, 28, 29, 30, 31, 32, 33, 34, 35, 36, 37, 38, 39, 40, 41, 42, 43, 44, 45, 46, 47] [0] (seq (seq leaf (cond leaf leaf)) (seq (body (seq (seq leaf (body (loop [3] [3, 13, 14, 15, 16, 17, 18, 19, 20, 21, 22, 23, 24, 25, 26, 27, 28, 29, 30, 31, 32, 33] [2] (seq (seq leaf (cond leaf leaf)) (seq (body leaf) leaf))))) (seq leaf leaf))) leaf)))))
theorem F.granarylaw6_Handed_Spoil.lift : LiftOk Tryz.prog 20 (ap1 F.granarylaw6_Handed_Spoil) :=
  lift1 (g := evFn Tryz.prog tnil tnil 20 Tryz.f20 F.granarylaw6_Handed_Spoil.plan) (evFn_sound tnil_ok tnil_ok Tryz.func20 (by kernel_rfl)) (fun x0 => by kernel_rfl)

/-- granary/granaryref6.named -/
noncomputable def F.granaryref6_named (a0 : Value) : M Value :=
  bindO (binV BinOp.eql a0 (Value.string (ByteArray.mk #[]))) fun x1 =>
  M.bind (guardM x1 false (M.ret a0)) fun x2 =>
  M.bind (guardM x1 false (optM (lenS x2))) fun x3 =>
  M.bind (guardM x1 false (optM (binV BinOp.gtr x3 (Value.int IntKind.i64 40)))) fun x4 =>
  bindO (pickV x1 (Value.bool true) x4) fun x5 =>
  M.bind (guardM x5 false (M.ret a0)) fun x6 =>
  M.bind (guardM x5 false (optM (idxS x6 (Value.int IntKind.i64 0)))) fun x7 =>
  M.bind (guardM x5 false (optM (binV BinOp.lss x7 (Value.int IntKind.u8 97)))) fun x8 =>
  bindO (pickV x5 (Value.bool true) x8) fun x9 =>
  M.bind (guardM x9 false (M.ret a0)) fun x10 =>
  M.bind (guardM x9 false (optM (idxS x10 (Value.int IntKind.i64 0)))) fun x11 =>
  M.bind (guardM x9 false (optM (binV BinOp.gtr x11 (Value.int IntKind.u8 122)))) fun x12 =>
  bindO (pickV x9 (Value.bool true) x12) fun x13 =>
  condM x13 (
    M.ret (Value.bool false)) (
    M.bind (loopM (fun l14 =>
      bindO (lenS a0) fun x15 =>
      bindO (binV BinOp.lss (getL l14 0) x15) fun x16 =>
      condM x16 (
        bindO (idxS a0 (getL l14 0)) fun x17 =>
        bindO (binV BinOp.geq x17 (Value.int IntKind.u8 97)) fun x18 =>
        M.bind (guardM x18 true (M.ret x17)) fun x19 =>
        M.bind (guardM x18 true (optM (binV BinOp.leq x19 (Value.int IntKind.u8 122)))) fun x20 =>
        bindO (pickV x18 x20 (Value.bool false)) fun x21 =>
        M.bind (guardM x21 false (M.ret x17)) fun x22 =>
        M.bind (guardM x21 false (optM (binV BinOp.geq x22 (Value.int IntKind.u8 48)))) fun x23 =>
        M.bind (guardM x21 false (M.ret x23)) fun x24 =>
        M.bind (guardM x24 true (M.ret x17)) fun x25 =>
        M.bind (guardM x24 true (optM (binV BinOp.leq x25 (Value.int IntKind.u8 57)))) fun x26 =>
        M.bind (guardM x21 false (optM (pickV x24 x26 (Value.bool false)))) fun x27 =>
        bindO (pickV x21 (Value.bool true) x27) fun x28 =>
        M.bind (guardM x28 false (M.ret x17)) fun x29 =>
        M.bind (guardM x28 false (optM (binV BinOp.eql x29 (Value.int IntKind.u8 45)))) fun x30 =>
        bindO (pickV x28 (Value.bool true) x30) fun x31 =>
        bindO (notV x31) fun x32 =>
        condM x32 (
          M.ret (Out.ret (Value.bool false))) (
          bindO (binV BinOp.add (getL l14 0) (Value.int IntKind.i64 1)) fun x33 =>
          M.ret (Out.norm [x33]))) (
        M.ret (Out.exit 0 [(getL l14 0)]))) [(Value.int IntKind.i64 0)]) fun o35 =>
    outK o35 (fun _ => M.fail) (fun i36 _ =>
      bif Nat.beq i36 0 then (
        M.ret (Value.bool true)) else
      M.fail) (fun r37 => M.ret r37))
def F.granaryref6_named.plan : Plan := (seq leaf (seq (seq leaf (cond (seq leaf leaf) leaf)) (seq (seq leaf (body (loop [3] [2, 3, 4, 22, 23, 24, 25, 26, 27, 28, 29, 30, 31, 32, 33, 34, 35, 36, 37, 38, 39, 40, 41, 42, 43, 44, 45, 46, 47, 48, 49] [0] (seq (seq leaf (cond leaf leaf)) (seq (body (seq leaf (seq leaf (cond (seq leaf leaf) leaf)))) leaf))))) (seq leaf leaf))))
theorem F.granaryref6_named.lift : LiftOk Tryz.prog 74 (ap1 F.granaryref6_named) :=
  lift1 (g := evFn Tryz.prog tnil tnil 74 Tryz.f74 F.granaryref6_named.plan) (evFn_sound tnil_ok tnil_ok Tryz.func74 (by kernel_rfl)) (fun x0 => by kernel_rfl)

/-- granary/granaryref6.set -/
noncomputable def F.granaryref6_set (a0 : Value) : M Value :=
  M.bind (newM 28 (Value.cells a0)) fun x1 =>
  M.bind (rdM (ldA 23 x1)) fun x2 =>
  M.bind (F.granaryref6_Values x2) fun x3 =>
  M.bind (newM 99 #[(Value.int IntKind.i64 0), (Value.int IntKind.i64 0), (Value.int IntKind.i64 0), (Value.int IntKind.i64 0), (Value.int IntKind.i64 0), (Value.int IntKind.i64 0), (Value.int IntKind.i64 0), (Value.int IntKind.i64 0), (Value.int IntKind.i64 0), (Value.int IntKind.i64 0), (Value.int IntKind.i64 0), (Value.int IntKind.i64 0), (Value.int IntKind.i64 0), (Value.int IntKind.i64 0), (Value.int IntKind.i64 0), (Value.int IntKind.i64 0), (Value.int IntKind.i64 0), (Value.int IntKind.i64 0), (Value.int IntKind.i64 0), (Value.int IntKind.i64 0), (Value.int IntKind.i64 0)]) fun x4 =>
  M.bind (stM 21 x4 x3) fun _ =>
  M.bind (loopM (fun l6 =>
    bindO (binV BinOp.lss (getL l6 0) (Value.int IntKind.i64 21)) fun x7 =>
    condM x7 (
      drewM <|
      bindO (idxR 21 1 x4 (getL l6 0)) fun x8 =>
      M.bind (rdM (ld1 x8)) fun x9 =>
      bindO (binV BinOp.lss x9 (Value.int IntKind.i64 0)) fun x10 =>
      M.bind (guardM x10 false (M.ret (getL l6 0))) fun x11 =>
      M.bind (guardM x10 false (optM (idxR 21 1 x4 x11))) fun x12 =>
      M.bind (guardM x10 false (rdM (ld1 x12))) fun x13 =>
      M.bind (guardM x10 false (M.ret (getL l6 0))) fun x14 =>
      M.bind (guardM x10 false (optM (idxR 21 1 (Value.pointer (some { block := 1, off := 0, spot := none })) x14))) fun x15 =>
      M.bind (guardM x10 false (rdM (ld1 x15))) fun x16 =>
      M.bind (guardM x10 false (optM (binV BinOp.gtr x13 x16))) fun x17 =>
      bindO (pickV x10 (Value.bool true) x17) fun x18 =>
      M.bind (guardM x18 false (M.ret (getL l6 0))) fun x19 =>
      M.bind (guardM x18 false (optM (idxR 21 1 x4 x19))) fun x20 =>
      M.bind (guardM x18 false (rdM (ld1 x20))) fun x21 =>
      M.bind (guardM x18 false (optM (binV BinOp.eql x21 (Value.int IntKind.i64 0)))) fun x22 =>
      M.bind (guardM x18 false (M.ret x22)) fun x23 =>
      M.bind (guardM x23 true (M.ret (getL l6 0))) fun x24 =>
      M.bind (guardM x23 true (optM (binV BinOp.lss x24 (Value.int IntKind.i64 20)))) fun x25 =>
      M.bind (guardM x18 false (optM (pickV x23 x25 (Value.bool false)))) fun x26 =>
      bindO (pickV x18 (Value.bool true) x26) fun x27 =>
      condM x27 (
        M.ret (Out.ret (Value.bool false))) (
        bindO (binV BinOp.add (getL l6 0) (Value.int IntKind.i64 1)) fun x28 =>
        M.ret (Out.norm [x28]))) (
      M.ret (Out.exit 0 [(getL l6 0)]))) [(Value.int IntKind.i64 0)]) fun o30 =>
  outK o30 (fun _ => M.fail) (fun i31 _ =>
    bif Nat.beq i31 0 then (
      bindO (fieldA 8 x1) fun x33 =>
      M.bind (rdM (ld1 x33)) fun x34 =>
      bindO (fieldA 5 x1) fun x35 =>
      M.bind (rdM (ld1 x35)) fun x36 =>
      bindO (binV BinOp.geq x34 x36) fun x37 =>
      M.bind (guardM x37 true (optM (fieldA 11 x1))) fun x38 =>
      M.bind (guardM x37 true (rdM (ld1 x38))) fun x39 =>
      M.bind (guardM x37 true (optM (fieldA 10 x1))) fun x40 =>
      M.bind (guardM x37 true (rdM (ld1 x40))) fun x41 =>
      M.bind (guardM x37 true (optM (binV BinOp.geq x39 x41))) fun x42 =>
      bindO (pickV x37 x42 (Value.bool false)) fun x43 =>
      M.ret x43) else
    M.fail) (fun r32 => M.ret r32)
def F.granaryref6_set.plan : Plan := (seq leaf (seq leaf (seq (seq leaf (body (loop [4] [2, 4, 7, 8, 9, 10, 11, 12, 13, 14, 15, 16, 17, 18, 19, 20, 21, 22, 23, 24, 25, 26, 27, 28, 29, 30, 31, 32, 33] [0] (seq (seq leaf (cond leaf leaf)) (seq (body (seq leaf (cond (seq leaf leaf) leaf))) leaf))))) (seq leaf leaf))))
theorem F.granaryref6_set.lift : LiftOk Tryz.prog 75 (ap1 F.granaryref6_set) :=
  lift1 (g := evFn Tryz.prog (tcons 73 (ap1 F.granaryref6_Values) tnil) tnil 75 Tryz.f75 F.granaryref6_set.plan) (evFn_sound (tcons_ok F.granaryref6_Values.lift tnil_ok) tnil_ok Tryz.func75 (by kernel_rfl)) (fun x0 => by kernel_rfl)

/-- granary/granaryref6.Parts -/
noncomputable def F.granaryref6_Parts (a0 : Value) : M Value :=
  M.bind (newM 28 (Value.cells a0)) fun x1 =>
  M.bind (loopM (fun l2 =>
    bindO (fieldA 22 x1) fun x3 =>
    M.bind (rdM (ld1 x3)) fun x4 =>
    bindO (lenL x4) fun x5 =>
    bindO (binV BinOp.lss (getL l2 1) x5) fun x6 =>
    condM x6 (
      bindO (fieldA 22 x1) fun x7 =>
      M.bind (rdM (ld1 x7)) fun x8 =>
      bindO (idxA 2 x8 (getL l2 1)) fun x9 =>
      bindO (fieldA 1 x9) fun x10 =>
      M.bind (rdM (ld1 x10)) fun x11 =>
      bindO (lenL x11) fun x12 =>
      bindO (binV BinOp.add (getL l2 0) x12) fun x13 =>
      bindO (binV BinOp.add (getL l2 1) (Value.int IntKind.i64 1)) fun x14 =>
      M.ret (Out.norm [x13, x14])) (
      M.ret (Out.exit 0 [(getL l2 0), (getL l2 1)]))) [(Value.int IntKind.i64 0), (Value.int IntKind.i64 0)]) fun o16 =>
  outK o16 (fun _ => M.fail) (fun i17 l15 =>
    bif Nat.beq i17 0 then (
      M.ret (getL l15 0)) else
    M.fail) (fun r18 => M.ret r18)
def F.granaryref6_Parts.plan : Plan := (seq leaf (seq leaf (seq (seq leaf (body (loop [3, 4] [3, 4, 5, 6, 7, 8, 9, 10, 11, 12, 13, 14, 15, 16, 17, 18, 19, 20] [0] (seq (seq leaf (cond leaf leaf)) (seq (body leaf) leaf))))) (seq leaf leaf))))
theorem F.granaryref6_Parts.lift : LiftOk Tryz.prog 77 (ap1 F.granaryref6_Parts) :=
  lift1 (g := evFn Tryz.prog tnil tnil 77 Tryz.f77 F.granaryref6_Parts.plan) (evFn_sound tnil_ok tnil_ok Tryz.func77 (by kernel_rfl)) (fun x0 => by kernel_rfl)

/-- granary/granaryref6.times -/
noncomputable def F.granaryref6_times (a0 a1 : Value) : M Value :=
  M.bind (newM 28 (Value.cells a0)) fun x1 =>
  M.bind (loopM (fun l2 =>
    bindO (fieldA 22 x1) fun x3 =>
    M.bind (rdM (ld1 x3)) fun x4 =>
    bindO (lenL x4) fun x5 =>
    bindO (binV BinOp.lss (getL l2 1) x5) fun x6 =>
    condM x6 (
      M.bind (loopM (fun l7 =>
        bindO (fieldA 22 x1) fun x8 =>
        M.bind (rdM (ld1 x8)) fun x9 =>
        bindO (idxA 2 x9 (getL l2 1)) fun x10 =>
        bindO (fieldA 1 x10) fun x11 =>
        M.bind (rdM (ld1 x11)) fun x12 =>
        bindO (lenL x12) fun x13 =>
        bindO (binV BinOp.lss (getL l7 1) x13) fun x14 =>
        condM x14 (
          M.bind (
            bindO (fieldA 22 x1) fun x15 =>
            M.bind (rdM (ld1 x15)) fun x16 =>
            bindO (idxA 2 x16 (getL l2 1)) fun x17 =>
            bindO (fieldA 1 x17) fun x18 =>
            M.bind (rdM (ld1 x18)) fun x19 =>
            bindO (idxA 1 x19 (getL l7 1)) fun x20 =>
            M.bind (rdM (ld1 x20)) fun x21 =>
            bindO (binV BinOp.eql x21 a1) fun x22 =>
            condM x22 (
              bindO (binV BinOp.add (getL l7 0) (Value.int IntKind.i64 1)) fun x23 =>
              M.ret (Out.norm [x23])) (
              M.ret (Out.norm [(getL l7 0)]))) fun o25 =>
          outK o25 (fun l24 =>
            bindO (binV BinOp.add (getL l7 1) (Value.int IntKind.i64 1)) fun x28 =>
            M.ret (Out.norm [(getL l24 0), x28])) (fun _ _ =>
            M.fail) (fun r27 => M.ret (Out.ret r27))) (
          M.ret (Out.exit 2 [(getL l7 0), (getL l7 1)]))) [(getL l2 0), (Value.int IntKind.i64 0)]) fun o31 =>
      outK o31 (fun _ => M.fail) (fun i32 l30 =>
        bif Nat.beq i32 2 then (
          bindO (binV BinOp.add (getL l2 1) (Value.int IntKind.i64 1)) fun x34 =>
          M.ret (Out.norm [(getL l30 0), x34])) else
        M.fail) (fun r33 => M.ret (Out.ret r33))) (
      M.ret (Out.exit 0 [(getL l2 0), (getL l2 1)]))) [(Value.int IntKind.i64 0), (Value.int IntKind.i64 0)]) fun o36 =>
  outK o36 (fun _ => M.fail) (fun i37 l35 =>
    bif Nat.beq i37 0 then (
      M.ret (getL l35 0)) else
    M.fail) (fun r38 => M.ret r38)
def F.granaryref6_times.plan : Plan := (seq leaf (seq leaf (seq (seq leaf (body (loop [5, 6] [5, 6, 7, 8, 9, 10, 11, 12, 13, 14, 15, 16, 17, 18, 19, 20, 21, 22, 23, 24, 25, 26, 27, 28, 29, 30, 31, 32, 33, 34, 35, 36, 37, 38] [0] (seq (seq leaf (cond leaf leaf)) (seq (body (seq leaf (body (loop [5, 7] [5, 7, 15, 16, 17, 18, 19, 20, 21, 22, 23, 24, 25, 26, 27, 28, 29, 30, 31, 32, 33, 34, 35, 36, 37, 38] [2] (seq (seq leaf (cond leaf leaf)) (fork [5] [5, 26, 27, 28, 29, 30, 31, 32, 33, 34, 35, 36, 37, 38] [] (body (seq leaf (cond leaf leaf))) leaf)))))) leaf))))) (seq leaf leaf))))
theorem F.granaryref6_times.lift : LiftOk Tryz.prog 85 (ap2 F.granaryref6_times) :=
  lift2 (g := evFn Tryz.prog tnil tnil 85 Tryz.f85 F.granaryref6_times.plan) (evFn_sound tnil_ok tnil_ok Tryz.func85 (by kernel_rfl)) (fun x0 x1 => by kernel_rfl)

/-- granary/granaryref6.dealt -/
noncomputable def F.granaryref6_dealt (a0 : Value) : M Value :=
  M.bind (newM 28 (Value.cells a0)) fun x1 =>
  M.bind (rdM (ldA 23 x1)) fun x2 =>
  M.bind (F.granaryref6_Parts x2) fun x3 =>
  bindO (binV BinOp.lss x3 (Value.int IntKind.i64 1)) fun x4 =>
  M.bind (guardM x4 false (M.ret x3)) fun x5 =>
  M.bind (guardM x4 false (optM (binV BinOp.gtr x5 (Value.int IntKind.i64 64)))) fun x6 =>
  bindO (pickV x4 (Value.bool true) x6) fun x7 =>
  condM x7 (
    M.ret (Value.bool false)) (
    M.bind (loopM (fun l8 =>
      bindO (binV BinOp.lss (getL l8 0) x3) fun x9 =>
      condM x9 (
        M.bind (rdM (ldA 23 x1)) fun x10 =>
        M.bind (F.granaryref6_times x10 (getL l8 0)) fun x11 =>
        bindO (binV BinOp.neq x11 (Value.int IntKind.i64 1)) fun x12 =>
        condM x12 (
          M.ret (Out.ret (Value.bool false))) (
          bindO (binV BinOp.add (getL l8 0) (Value.int IntKind.i64 1)) fun x13 =>
          M.ret (Out.norm [x13]))) (
        M.ret (Out.exit 0 [(getL l8 0)]))) [(Value.int IntKind.i64 0)]) fun o15 =>
    outK o15 (fun _ => M.fail) (fun i16 _ =>
      bif Nat.beq i16 0 then (
        M.bind (loopM (fun l18 =>
          bindO (fieldA 22 x1) fun x19 =>
          M.bind (rdM (ld1 x19)) fun x20 =>
          bindO (lenL x20) fun x21 =>
          bindO (binV BinOp.lss (getL l18 0) x21) fun x22 =>
          condM x22 (
            bindO (fieldA 22 x1) fun x23 =>
            M.bind (rdM (ld1 x23)) fun x24 =>
            bindO (idxA 2 x24 (getL l18 0)) fun x25 =>
            bindO (fieldA 1 x25) fun x26 =>
            M.bind (rdM (ld1 x26)) fun x27 =>
            M.bind (loopM (fun l28 =>
              bindO (lenL x27) fun x29 =>
              bindO (binV BinOp.lss (getL l28 0) x29) fun x30 =>
              condM x30 (
                drewM <|
                bindO (idxA 1 x27 (getL l28 0)) fun x31 =>
                M.bind (rdM (ld1 x31)) fun x32 =>
                bindO (binV BinOp.sub (getL l28 0) (Value.int IntKind.i64 1)) fun x33 =>
                bindO (idxA 1 x27 x33) fun x34 =>
                M.bind (rdM (ld1 x34)) fun x35 =>
                bindO (binV BinOp.leq x32 x35) fun x36 =>
                condM x36 (
                  M.ret (Out.ret (Value.bool false))) (
                  bindO (binV BinOp.add (getL l28 0) (Value.int IntKind.i64 1)) fun x37 =>
                  M.ret (Out.norm [x37]))) (
                M.ret (Out.exit 4 [(getL l28 0)]))) [(Value.int IntKind.i64 1)]) fun o39 =>
            outK o39 (fun _ => M.fail) (fun i40 _ =>
              bif Nat.beq i40 4 then (
                bindO (binV BinOp.add (getL l18 0) (Value.int IntKind.i64 1)) fun x42 =>
                M.ret (Out.norm [x42])) else
              M.fail) (fun r41 => M.ret (Out.ret r41))) (
            M.ret (Out.exit 2 [(getL l18 0)]))) [(Value.int IntKind.i64 0)]) fun o44 =>
        outK o44 (fun _ => M.fail) (fun i45 _ =>
          bif Nat.beq i45 2 then (
            M.ret (Value.bool true)) else
          M.fail) (fun r46 => M.ret r46)) else
      M.fail) (fun r17 => M.ret r17))
def F.granaryref6_dealt.plan : Plan := (seq leaf (seq leaf (seq (seq leaf (cond (seq leaf leaf) leaf)) (seq (seq leaf (body (loop [4] [2, 4, 16, 17, 18, 19, 20, 21, 22, 23, 24] [0] (seq (seq leaf (cond leaf leaf)) (seq (body (seq leaf (cond (seq leaf leaf) leaf))) leaf))))) (seq (seq leaf (body (loop [5] [2, 5, 6, 7, 25, 26, 27, 28, 29, 30, 31, 32, 33, 34, 35, 36, 37, 38, 39, 40, 41, 42, 43, 44, 45, 46, 47, 48, 49, 50, 51, 52, 53] [2] (seq (seq leaf (cond leaf leaf)) (seq (body (seq leaf (seq leaf (body (loop [7] [2, 7, 38, 39, 40, 41, 42, 43, 44, 45, 46, 47, 48, 49, 50, 51, 52, 53] [4] (seq (seq leaf (cond leaf leaf)) (seq (body (seq leaf (cond (seq leaf leaf) leaf))) leaf))))))) leaf))))) (seq leaf leaf))))))
theorem F.granaryref6_dealt.lift : LiftOk Tryz.prog 76 (ap1 F.granaryref6_dealt) :=
  lift1 (g := evFn Tryz.prog (tcons 77 (ap1 F.granaryref6_Parts) (tcons 85 (ap2 F.granaryref6_times) tnil)) tnil 76 Tryz.f76 F.granaryref6_dealt.plan) (evFn_sound (tcons_ok F.granaryref6_Parts.lift (tcons_ok F.granaryref6_times.lift tnil_ok)) tnil_ok Tryz.func76 (by kernel_rfl)) (fun x0 => by kernel_rfl)

/-- granary/granaryref6.Check -/
noncomputable def F.granaryref6_Check (a0 : Value) : M Value :=
  M.bind (newM 28 (Value.cells a0)) fun x1 =>
  bindO (fieldA 0 x1) fun x2 =>
  M.bind (rdM (ld1 x2)) fun x3 =>
  M.bind (F.granaryref6_named x3) fun x4 =>
  bindO (notV x4) fun x5 =>
  condM x5 (
    M.ret (Value.int IntKind.i64 63)) (
    M.bind (rdM (ldA 23 x1)) fun x6 =>
    M.bind (F.granaryref6_set x6) fun x7 =>
    bindO (notV x7) fun x8 =>
    condM x8 (
      M.ret (Value.int IntKind.i64 64)) (
      bindO (fieldA 22 x1) fun x9 =>
      M.bind (rdM (ld1 x9)) fun x10 =>
      bindO (lenL x10) fun x11 =>
      bindO (binV BinOp.lss x11 (Value.int IntKind.i64 1)) fun x12 =>
      M.bind (guardM x12 false (optM (fieldA 22 x1))) fun x13 =>
      M.bind (guardM x12 false (rdM (ld1 x13))) fun x14 =>
      M.bind (guardM x12 false (optM (lenL x14))) fun x15 =>
      M.bind (guardM x12 false (optM (binV BinOp.gtr x15 (Value.int IntKind.i64 16)))) fun x16 =>
      bindO (pickV x12 (Value.bool true) x16) fun x17 =>
      condM x17 (
        M.ret (Value.int IntKind.i64 65)) (
        M.bind (loopM (fun l18 =>
          bindO (fieldA 22 x1) fun x19 =>
          M.bind (rdM (ld1 x19)) fun x20 =>
          bindO (lenL x20) fun x21 =>
          bindO (binV BinOp.lss (getL l18 1) x21) fun x22 =>
          condM x22 (
            M.bind (
              bindO (fieldA 22 x1) fun x23 =>
              M.bind (rdM (ld1 x23)) fun x24 =>
              bindO (idxA 2 x24 (getL l18 1)) fun x25 =>
              bindO (fieldA 0 x25) fun x26 =>
              M.bind (rdM (ld1 x26)) fun x27 =>
              bindO (binV BinOp.lss x27 (Value.int IntKind.i64 0)) fun x28 =>
              M.bind (guardM x28 false (optM (fieldA 22 x1))) fun x29 =>
              M.bind (guardM x28 false (rdM (ld1 x29))) fun x30 =>
              M.bind (guardM x28 false (M.ret (getL l18 1))) fun x31 =>
              M.bind (guardM x28 false (optM (idxA 2 x30 x31))) fun x32 =>
              M.bind (guardM x28 false (optM (fieldA 0 x32))) fun x33 =>
              M.bind (guardM x28 false (rdM (ld1 x33))) fun x34 =>
              M.bind (guardM x28 false (optM (binV BinOp.geq x34 (Value.int IntKind.i64 8)))) fun x35 =>
              bindO (pickV x28 (Value.bool true) x35) fun x36 =>
              condM x36 (
                M.ret (Out.ret (Value.int IntKind.i64 65))) (
                bindO (fieldA 22 x1) fun x37 =>
                M.bind (rdM (ld1 x37)) fun x38 =>
                bindO (idxA 2 x38 (getL l18 1)) fun x39 =>
                bindO (fieldA 1 x39) fun x40 =>
                M.bind (rdM (ld1 x40)) fun x41 =>
                bindO (lenL x41) fun x42 =>
                bindO (binV BinOp.gtr x42 (Value.int IntKind.i64 0)) fun x43 =>
                condM x43 (
                  bindO (binV BinOp.add (getL l18 0) (Value.int IntKind.i64 1)) fun x44 =>
                  M.ret (Out.norm [x44])) (
                  M.ret (Out.norm [(getL l18 0)])))) fun o46 =>
            outK o46 (fun l45 =>
              bindO (binV BinOp.add (getL l18 1) (Value.int IntKind.i64 1)) fun x49 =>
              M.ret (Out.norm [(getL l45 0), x49])) (fun _ _ =>
              M.fail) (fun r48 => M.ret (Out.ret r48))) (
            M.ret (Out.exit 0 [(getL l18 0), (getL l18 1)]))) [(Value.int IntKind.i64 0), (Value.int IntKind.i64 0)]) fun o52 =>
        outK o52 (fun _ => M.fail) (fun i53 l51 =>
          bif Nat.beq i53 0 then (
            M.bind (rdM (ldA 23 x1)) fun x55 =>
            M.bind (F.granaryref6_dealt x55) fun x56 =>
            bindO (notV x56) fun x57 =>
            condM x57 (
              M.ret (Value.int IntKind.i64 66)) (
              bindO (fieldA 1 x1) fun x58 =>
              M.bind (rdM (ld1 x58)) fun x59 =>
              bindO (binV BinOp.gtr x59 (getL l51 0)) fun x60 =>
              condM x60 (
                M.ret (Value.int IntKind.i64 67)) (
                drewM <|
                getM fun W61 =>
                M.bind (rdM (ldA 23 x1)) fun x62 =>
                M.bind (F.granaryref6_Parts x62) fun x63 =>
                getM fun _ =>
                bindO (fieldA 1 x1) fun x65 =>
                M.bind (rdM (ld1 x65)) fun x66 =>
                bindO (binV BinOp.mul x63 x66) fun x67 =>
                bindO (fieldA 3 x1) fun x68 =>
                M.bind (rdM (ld1 x68)) fun x69 =>
                bindO (binV BinOp.mul x67 x69) fun x70 =>
                bindO (binV BinOp.gtr x70 (Value.int IntKind.i64 512)) fun x71 =>
                reqM (ld1 x65 W61 = some x66) <|
                reqM (ld1 x68 W61 = some x69) <|
                condM x71 (
                  M.ret (Value.int IntKind.i64 3)) (
                  M.ret (Value.int IntKind.i64 0))))) else
          M.fail) (fun r54 => M.ret r54))))
def F.granaryref6_Check.plan : Plan := (seq leaf (seq (seq leaf (cond (seq leaf leaf) leaf)) (seq (seq leaf (cond (seq leaf leaf) leaf)) (seq (seq leaf (cond (seq leaf leaf) leaf)) (seq leaf (seq (seq leaf (body (loop [3, 4] [2, 3, 4, 22, 23, 24, 25, 26, 27, 28, 29, 30, 31, 32, 33, 34, 35, 36, 37, 38, 39, 40, 41, 42, 43, 44, 45, 46, 47, 48, 49, 50, 51, 52, 53, 54] [0] (seq (seq leaf (cond leaf leaf)) (fork [3] [2, 3, 29, 30, 31, 32, 33, 34, 35, 36, 37, 38, 39, 40, 41, 42, 43, 44, 45, 46, 47, 48, 49, 50, 51, 52, 53, 54] [] (body (seq (seq leaf (cond (seq leaf leaf) leaf)) (seq leaf (cond leaf leaf)))) leaf))))) (seq (seq leaf (cond (seq leaf leaf) leaf)) (seq (seq leaf (cond (seq leaf leaf) leaf)) (seq (seq leaf (cond (seq leaf leaf) leaf)) (seq leaf leaf))))))))))
theorem F.granaryref6_Check.lift : LiftOk Tryz.prog 56 (ap1 F.granaryref6_Check) :=
  lift1 (g := evFn Tryz.prog (tcons 74 (ap1 F.granaryref6_named) (tcons 75 (ap1 F.granaryref6_set) (tcons 76 (ap1 F.granaryref6_dealt) (tcons 77 (ap1 F.granaryref6_Parts) tnil)))) tnil 56 Tryz.f56 F.granaryref6_Check.plan) (evFn_sound (tcons_ok F.granaryref6_named.lift (tcons_ok F.granaryref6_set.lift (tcons_ok F.granaryref6_dealt.lift (tcons_ok F.granaryref6_Parts.lift tnil_ok)))) tnil_ok Tryz.func56 (by kernel_rfl)) (fun x0 => by kernel_rfl)

/-- granary/granaryref15.New -/
noncomputable def F.granaryref15_New (a0 : Value) : M Value :=
  M.bind (newM 28 (Value.cells a0)) fun x1 =>
  M.bind (rdM (ldA 23 x1)) fun x2 =>
  M.bind (F.granaryref6_Check x2) fun x3 =>
  bindO (binV BinOp.neq x3 (Value.int IntKind.i64 0)) fun x4 =>
  condM x4 (
    M.ret (Value.tuple #[(Value.pointer none), x3])) (
    M.bind (rdM (ldA 23 x1)) fun x5 =>
    bindO (buildV #[(Value.string ByteArray.empty), (Value.int IntKind.i64 0), (Value.int IntKind.i64 0), (Value.int IntKind.i64 0), (Value.int IntKind.i64 0), (Value.int IntKind.i64 0), (Value.int IntKind.i64 0), (Value.int IntKind.i64 0), (Value.int IntKind.i64 0), (Value.int IntKind.i64 0), (Value.int IntKind.i64 0), (Value.int IntKind.i64 0), (Value.int IntKind.i64 0), (Value.int IntKind.i64 0), (Value.int IntKind.i64 0), (Value.int IntKind.i64 0), (Value.int IntKind.i64 0), (Value.int IntKind.i64 0), (Value.int IntKind.i64 0), (Value.int IntKind.i64 0), (Value.int IntKind.i64 0), (Value.int IntKind.i64 0), (Value.slice none 0 0), (Value.int IntKind.i64 0), (Value.int IntKind.i64 0), (Value.int IntKind.i64 0), (Value.int IntKind.i64 0), (Value.int IntKind.i64 0), (Value.int IntKind.i64 0), (Value.slice none 0 0), (Value.slice none 0 0), (Value.bool false), (Value.int IntKind.i64 0), (Value.int IntKind.i64 0), (Value.int IntKind.i64 0), (Value.int IntKind.i64 0), (Value.slice none 0 0), (Value.slice none 0 0)] [(0, 23, x5)]) fun x6 =>
    M.bind (newM 113 (Value.cells x6)) fun x7 =>
    M.ret (Value.tuple #[x7, (Value.int IntKind.i64 0)]))
def F.granaryref15_New.plan : Plan := (seq leaf (seq leaf (seq (seq leaf (cond (seq leaf leaf) leaf)) (seq leaf leaf))))
theorem F.granaryref15_New.lift : LiftOk Tryz.prog 21 (ap1 F.granaryref15_New) :=
  lift1 (g := evFn Tryz.prog (tcons 56 (ap1 F.granaryref6_Check) tnil) tnil 21 Tryz.f21 F.granaryref15_New.plan) (evFn_sound (tcons_ok F.granaryref6_Check.lift tnil_ok) tnil_ok Tryz.func21 (by kernel_rfl)) (fun x0 => by kernel_rfl)

/-- granary/granarylaw15.num -/
noncomputable def F.granarylaw15_num (a0 : Value) : M Value :=
  M.ret a0
def F.granarylaw15_num.plan : Plan := (seq leaf (seq leaf leaf))
theorem F.granarylaw15_num.lift : LiftOk Tryz.prog 22 (ap1 F.granarylaw15_num) :=
  lift1 (g := evFn Tryz.prog tnil tnil 22 Tryz.f22 F.granarylaw15_num.plan) (evFn_sound tnil_ok tnil_ok Tryz.func22 (by kernel_rfl)) (fun x0 => by kernel_rfl)

/-- granary/granarylaw15.begun -/
noncomputable def F.granarylaw15_begun (a0 : Value) : M Value :=
  M.bind (newM 28 (Value.cells a0)) fun x1 =>
  M.bind (rdM (ldA 23 x1)) fun x2 =>
  M.bind (F.granarylaw6_Hand x2) fun x3 =>
  bindO (nilChk x3) fun x4 =>
  bindO (fieldA 0 x4) fun x5 =>
  M.bind (rdM (ldA 23 x5)) fun x6 =>
  M.bind (F.control_New x6) fun x7 =>
  bindO (extV 0 x7) fun x8 =>
  bindO (extV 1 x7) fun x9 =>
  M.bind (F.granarylaw6_Handed_Left x3) fun x10 =>
  bindO (notV x10) fun x11 =>
  condM x11 (
    M.ret (Value.tuple #[(Value.pointer none), (Value.bool false)])) (
    M.bind (F.granarylaw6_Handed_Spoil x3) fun _ =>
    M.bind (rdM (ldA 23 x1)) fun x13 =>
    M.bind (F.granaryref15_New x13) fun x14 =>
    bindO (extV 0 x14) fun x15 =>
    bindO (extV 1 x14) fun x16 =>
    M.bind (F.granarylaw15_num x9) fun x17 =>
    bindO (binV BinOp.neq x17 x16) fun x18 =>
    M.bind (guardM x18 false (M.ret x8)) fun x19 =>
    M.bind (guardM x18 false (optM (eqV (EqSh.one EqK.ptr) x19 (Value.pointer none)))) fun x20 =>
    M.bind (guardM x18 false (M.ret x16)) fun x21 =>
    M.bind (guardM x18 false (optM (binV BinOp.neq x21 (Value.int IntKind.i64 0)))) fun x22 =>
    M.bind (guardM x18 false (optM (neV (EqSh.one EqK.bool) x20 x22))) fun x23 =>
    bindO (pickV x18 (Value.bool true) x23) fun x24 =>
    condM x24 (
      M.ret (Value.tuple #[(Value.pointer none), (Value.bool false)])) (
      M.bind (rdM (ldA 23 x1)) fun x25 =>
      bindO (buildV #[(Value.string ByteArray.empty), (Value.int IntKind.i64 0), (Value.int IntKind.i64 0), (Value.int IntKind.i64 0), (Value.int IntKind.i64 0), (Value.int IntKind.i64 0), (Value.int IntKind.i64 0), (Value.int IntKind.i64 0), (Value.int IntKind.i64 0), (Value.int IntKind.i64 0), (Value.int IntKind.i64 0), (Value.int IntKind.i64 0), (Value.int IntKind.i64 0), (Value.int IntKind.i64 0), (Value.int IntKind.i64 0), (Value.int IntKind.i64 0), (Value.int IntKind.i64 0), (Value.int IntKind.i64 0), (Value.int IntKind.i64 0), (Value.int IntKind.i64 0), (Value.int IntKind.i64 0), (Value.int IntKind.i64 0), (Value.slice none 0 0), (Value.pointer none), (Value.pointer none), (Value.slice none 0 0), (Value.slice none 0 0), (Value.slice none 0 0), (Value.slice none 0 0), (Value.slice none 0 0), (Value.slice none 0 0), (Value.slice none 0 0), (Value.slice none 0 0), (Value.slice none 0 0), (Value.slice none 0 0), (Value.slice none 0 0)] [(23, 1, x8), (24, 1, x15), (0, 23, x25)]) fun x26 =>
      M.bind (newM 53 (Value.cells x26)) fun x27 =>
      M.bind (loopM (fun l28 =>
        bindO (fieldA 22 x1) fun x29 =>
        M.bind (rdM (ld1 x29)) fun x30 =>
        bindO (lenL x30) fun x31 =>
        bindO (binV BinOp.lss (getL l28 0) x31) fun x32 =>
        condM x32 (
          bindO (nilChk x27) fun x33 =>
          bindO (fieldA 25 x33) fun x34 =>
          M.bind (rdM (ld1 x34)) fun x35 =>
          bindO (buildV #[(Value.int IntKind.i64 0), (Value.int IntKind.i64 0), (Value.int IntKind.i64 0), (Value.int IntKind.i64 0), (Value.int IntKind.i64 0), (Value.int IntKind.i64 0), (Value.int IntKind.i64 0), (Value.int IntKind.i64 0), (Value.int IntKind.i64 0), (Value.string ByteArray.empty), (Value.string ByteArray.empty)] []) fun x36 =>
          M.bind (bslM 38 1 (Builtin.zeroCells #[(Value.int IntKind.i64 0), (Value.int IntKind.i64 0), (Value.int IntKind.i64 0), (Value.int IntKind.i64 0), (Value.int IntKind.i64 0), (Value.int IntKind.i64 0), (Value.int IntKind.i64 0), (Value.int IntKind.i64 0), (Value.int IntKind.i64 0), (Value.string ByteArray.empty), (Value.string ByteArray.empty)] 1) [(0, 11, x36)]) fun x37 =>
          M.bind (appM 38 11 104 #[(Value.int IntKind.i64 0), (Value.int IntKind.i64 0), (Value.int IntKind.i64 0), (Value.int IntKind.i64 0), (Value.int IntKind.i64 0), (Value.int IntKind.i64 0), (Value.int IntKind.i64 0), (Value.int IntKind.i64 0), (Value.int IntKind.i64 0), (Value.string ByteArray.empty), (Value.string ByteArray.empty)] x35 x37) fun x38 =>
          bindO (nilChk x27) fun x39 =>
          bindO (fieldA 25 x39) fun x40 =>
          M.bind (stM 1 x40 x38) fun _ =>
          bindO (binV BinOp.add (getL l28 0) (Value.int IntKind.i64 1)) fun x42 =>
          M.ret (Out.norm [x42])) (
          M.ret (Out.exit 0 [(getL l28 0)]))) [(Value.int IntKind.i64 0)]) fun o44 =>
      outK o44 (fun _ => M.fail) (fun i45 _ =>
        bif Nat.beq i45 0 then (
          M.ret (Value.tuple #[x27, (Value.bool true)])) else
        M.fail) (fun r46 => M.ret r46)))
def F.granarylaw15_begun.plan : Plan := (seq leaf (seq leaf (seq leaf (seq (seq leaf (cond (seq leaf leaf) leaf)) (seq leaf (seq leaf (seq (seq leaf (cond (seq leaf leaf) leaf)) (seq leaf (seq (seq leaf (body (loop [10] [10, 47, 48, 49, 50, 51, 52, 53, 54, 55, 56, 57, 58, 59, 60, 61, 62, 63] [0] (seq (seq leaf (cond leaf leaf)) (seq (body leaf) leaf))))) (seq leaf leaf))))))))))
theorem F.granarylaw15_begun.lift : LiftOk Tryz.prog 8 (ap1 F.granarylaw15_begun) :=
  lift1 (g := evFn Tryz.prog (tcons 17 (ap1 F.granarylaw6_Hand) (tcons 18 (ap1 F.control_New) (tcons 19 (ap1 F.granarylaw6_Handed_Left) (tcons 20 (ap1 F.granarylaw6_Handed_Spoil) (tcons 21 (ap1 F.granaryref15_New) (tcons 22 (ap1 F.granarylaw15_num) tnil)))))) tnil 8 Tryz.f8 F.granarylaw15_begun.plan) (evFn_sound (tcons_ok F.granarylaw6_Hand.lift (tcons_ok F.control_New.lift (tcons_ok F.granarylaw6_Handed_Left.lift (tcons_ok F.granarylaw6_Handed_Spoil.lift (tcons_ok F.granaryref15_New.lift (tcons_ok F.granarylaw15_num.lift tnil_ok)))))) tnil_ok Tryz.func8 (by kernel_rfl)) (fun x0 => by kernel_rfl)

/-- granary/control.newLedger -/
noncomputable def F.control_newLedger (a0 : Value) : M Value :=
  M.bind (newM 115 #[(Value.slice none 0 0), (Value.slice none 0 0), (Value.int IntKind.i64 0), (Value.int IntKind.i64 0)]) fun x1 =>
  M.bind (altM (ordO Tryz.prog (regOps Tryz.f57 1) 57 1) [
    ([1, 3, 5, 6],
      M.bind (mksM 4 1 1 #[(Value.bool false)] a0 a0) fun x3 =>
      M.bind (mksM 3 1 8 #[(Value.int IntKind.i64 0)] a0 a0) fun x4 =>
      bindO (buildV #[(Value.slice none 0 0), (Value.slice none 0 0), (Value.int IntKind.i64 0), (Value.int IntKind.i64 0)] [(0, 1, x3), (1, 1, x4), (3, 1, (Value.int IntKind.i64 1))]) fun x5 =>
      M.bind (newM 115 #[(Value.slice none 0 0), (Value.slice none 0 0), (Value.int IntKind.i64 0), (Value.int IntKind.i64 0)]) fun x6 =>
      M.bind (stM 4 x6 x5) fun _ =>
      M.ret [x6]),
    ([1, 5, 3, 6],
      M.bind (mksM 4 1 1 #[(Value.bool false)] a0 a0) fun x8 =>
      M.bind (newM 115 #[(Value.slice none 0 0), (Value.slice none 0 0), (Value.int IntKind.i64 0), (Value.int IntKind.i64 0)]) fun x9 =>
      M.bind (mksM 3 1 8 #[(Value.int IntKind.i64 0)] a0 a0) fun x10 =>
      bindO (buildV #[(Value.slice none 0 0), (Value.slice none 0 0), (Value.int IntKind.i64 0), (Value.int IntKind.i64 0)] [(0, 1, x8), (1, 1, x10), (3, 1, (Value.int IntKind.i64 1))]) fun x11 =>
      M.bind (stM 4 x9 x11) fun _ =>
      M.ret [x9]),
    ([3, 1, 5, 6],
      M.bind (mksM 3 1 8 #[(Value.int IntKind.i64 0)] a0 a0) fun x13 =>
      M.bind (mksM 4 1 1 #[(Value.bool false)] a0 a0) fun x14 =>
      bindO (buildV #[(Value.slice none 0 0), (Value.slice none 0 0), (Value.int IntKind.i64 0), (Value.int IntKind.i64 0)] [(0, 1, x14), (1, 1, x13), (3, 1, (Value.int IntKind.i64 1))]) fun x15 =>
      M.bind (newM 115 #[(Value.slice none 0 0), (Value.slice none 0 0), (Value.int IntKind.i64 0), (Value.int IntKind.i64 0)]) fun x16 =>
      M.bind (stM 4 x16 x15) fun _ =>
      M.ret [x16]),
    ([3, 5, 1, 6],
      M.bind (mksM 3 1 8 #[(Value.int IntKind.i64 0)] a0 a0) fun x18 =>
      M.bind (newM 115 #[(Value.slice none 0 0), (Value.slice none 0 0), (Value.int IntKind.i64 0), (Value.int IntKind.i64 0)]) fun x19 =>
      M.bind (mksM 4 1 1 #[(Value.bool false)] a0 a0) fun x20 =>
      bindO (buildV #[(Value.slice none 0 0), (Value.slice none 0 0), (Value.int IntKind.i64 0), (Value.int IntKind.i64 0)] [(0, 1, x20), (1, 1, x18), (3, 1, (Value.int IntKind.i64 1))]) fun x21 =>
      M.bind (stM 4 x19 x21) fun _ =>
      M.ret [x19]),
    ([5, 1, 3, 6],
      M.bind (newM 115 #[(Value.slice none 0 0), (Value.slice none 0 0), (Value.int IntKind.i64 0), (Value.int IntKind.i64 0)]) fun x23 =>
      M.bind (mksM 4 1 1 #[(Value.bool false)] a0 a0) fun x24 =>
      M.bind (mksM 3 1 8 #[(Value.int IntKind.i64 0)] a0 a0) fun x25 =>
      bindO (buildV #[(Value.slice none 0 0), (Value.slice none 0 0), (Value.int IntKind.i64 0), (Value.int IntKind.i64 0)] [(0, 1, x24), (1, 1, x25), (3, 1, (Value.int IntKind.i64 1))]) fun x26 =>
      M.bind (stM 4 x23 x26) fun _ =>
      M.ret [x23]),
    ([5, 3, 1, 6],
      M.bind (newM 115 #[(Value.slice none 0 0), (Value.slice none 0 0), (Value.int IntKind.i64 0), (Value.int IntKind.i64 0)]) fun x28 =>
      M.bind (mksM 3 1 8 #[(Value.int IntKind.i64 0)] a0 a0) fun x29 =>
      M.bind (mksM 4 1 1 #[(Value.bool false)] a0 a0) fun x30 =>
      bindO (buildV #[(Value.slice none 0 0), (Value.slice none 0 0), (Value.int IntKind.i64 0), (Value.int IntKind.i64 0)] [(0, 1, x30), (1, 1, x29), (3, 1, (Value.int IntKind.i64 1))]) fun x31 =>
      M.bind (stM 4 x28 x31) fun _ =>
      M.ret [x28])]) fun l2 =>
  bindO (fieldA 1 (getL l2 0)) fun x33 =>
  M.bind (rdM (ld1 x33)) fun x34 =>
  bindO (lenL x34) fun x35 =>
  M.bind (loopM (fun l36 =>
    bindO (binV BinOp.lss (getL l36 0) x35) fun x37 =>
    condM x37 (
      bindO (fieldA 1 (getL l2 0)) fun x38 =>
      M.bind (rdM (ld1 x38)) fun x39 =>
      bindO (idxA 1 x39 (getL l36 0)) fun x40 =>
      M.bind (stM 1 x40 (Value.int IntKind.i64 (-1))) fun _ =>
      bindO (binV BinOp.add (getL l36 0) (Value.int IntKind.i64 1)) fun x42 =>
      M.ret (Out.norm [x42])) (
      M.ret (Out.exit 0 [(getL l36 0)]))) [(Value.int IntKind.i64 0)]) fun o44 =>
  outK o44 (fun _ => M.fail) (fun i45 _ =>
    bif Nat.beq i45 0 then (
      M.bind (rdM (ldA 4 (getL l2 0))) fun x47 =>
      M.bind (stM 4 x1 x47) fun _ =>
      M.bind (rdM (ldA 4 x1)) fun x49 =>
      M.ret x49) else
    M.fail) (fun r46 => M.ret r46)
def F.control_newLedger.plan : Plan := (seq leaf (seq (alts [3] [3, 5, 6, 7, 8, 9] [[0, 1, 2, 3, 4, 5, 6], [0, 1, 2, 5, 3, 4, 6], [0, 2, 3, 1, 4, 5, 6], [0, 2, 3, 5, 1, 4, 6], [0, 2, 5, 1, 3, 4, 6], [0, 2, 5, 3, 1, 4, 6]]) (seq (seq leaf (body (loop [13] [4, 13, 14, 15, 16, 17, 18, 19, 20] [0] (seq leaf (seq (cond leaf leaf) (seq (body (seq leaf leaf)) leaf)))))) (seq leaf leaf))))
theorem F.control_newLedger.lift : LiftOk Tryz.prog 57 (ap1 F.control_newLedger) :=
  lift1 (g := evFn Tryz.prog tnil tnil 57 Tryz.f57 F.control_newLedger.plan) (evFn_sound tnil_ok tnil_ok Tryz.func57 (by kernel_rfl)) (fun x0 => by kernel_rfl)

/-- (*granary/control.ledger).book -/
noncomputable def F.control_ledger_book (a0 : Value) : M Value :=
  M.ret a0
def F.control_ledger_book.plan : Plan := (seq leaf (seq leaf leaf))
theorem F.control_ledger_book.lift : LiftOk Tryz.prog 126 (ap1 F.control_ledger_book) :=
  lift1 (g := evFn Tryz.prog tnil tnil 126 Tryz.f126 F.control_ledger_book.plan) (evFn_sound tnil_ok tnil_ok Tryz.func126 (by kernel_rfl)) (fun x0 => by kernel_rfl)

/-- (*granary/control.ledger).missing -/
noncomputable def F.control_ledger_missing (a0 : Value) : M Value :=
  bindO (nilChk a0) fun x1 =>
  bindO (fieldA 0 x1) fun x2 =>
  M.bind (rdM (ld1 x2)) fun x3 =>
  bindO (lenL x3) fun x4 =>
  M.bind (loopM (fun l5 =>
    bindO (binV BinOp.lss (getL l5 1) x4) fun x6 =>
    condM x6 (
      M.bind (
        bindO (idxA 1 x3 (getL l5 1)) fun x7 =>
        M.bind (rdM (ld1 x7)) fun x8 =>
        bindO (notV x8) fun x9 =>
        condM x9 (
          M.bind (bslM 3 1 (Builtin.zeroCells #[(Value.int IntKind.i64 0)] 1) [(0, 1, (getL l5 1))]) fun x10 =>
          M.bind (appM 3 1 8 #[(Value.int IntKind.i64 0)] (getL l5 0) x10) fun x11 =>
          M.ret (Out.norm [x11])) (
          M.ret (Out.norm [(getL l5 0)]))) fun o13 =>
      outK o13 (fun l12 =>
        bindO (binV BinOp.add (getL l5 1) (Value.int IntKind.i64 1)) fun x16 =>
        M.ret (Out.norm [(getL l12 0), x16])) (fun _ _ =>
        M.fail) (fun r15 => M.ret (Out.ret r15))) (
      M.ret (Out.exit 0 [(getL l5 0), (getL l5 1)]))) [(Value.slice none 0 0), (Value.int IntKind.i64 0)]) fun o19 =>
  outK o19 (fun _ => M.fail) (fun i20 l18 =>
    bif Nat.beq i20 0 then (
      M.ret (getL l18 0)) else
    M.fail) (fun r21 => M.ret r21)
def F.control_ledger_missing.plan : Plan := (seq leaf (seq leaf (seq (seq leaf (body (loop [3, 11] [3, 4, 5, 11, 12, 13, 14, 15, 16, 17, 18, 19, 20, 21, 22] [0] (seq leaf (seq (cond leaf leaf) (fork [3] [3, 4, 5, 13, 14, 15, 16, 17, 18, 19, 20, 21] [] (body (seq leaf (seq leaf (cond leaf leaf)))) leaf)))))) (seq leaf leaf))))
theorem F.control_ledger_missing.lift : LiftOk Tryz.prog 79 (ap1 F.control_ledger_missing) :=
  lift1 (g := evFn Tryz.prog tnil tnil 79 Tryz.f79 F.control_ledger_missing.plan) (evFn_sound tnil_ok tnil_ok Tryz.func79 (by kernel_rfl)) (fun x0 => by kernel_rfl)

/-- (*granary/control.fetching).message -/
noncomputable def F.control_fetching_message (_a0 a1 : Value) : M Value :=
  M.bind (newM 104 (Value.cells a1)) fun x1 =>
  M.bind (newM 38 #[(Value.int IntKind.i64 0), (Value.int IntKind.i64 0), (Value.int IntKind.i64 0), (Value.int IntKind.i64 0), (Value.int IntKind.i64 0), (Value.int IntKind.i64 0), (Value.int IntKind.i64 0), (Value.int IntKind.i64 0), (Value.int IntKind.i64 0), (Value.string ByteArray.empty), (Value.string ByteArray.empty)]) fun x2 =>
  bindO (fieldA 0 x1) fun x3 =>
  M.bind (rdM (ld1 x3)) fun x4 =>
  bindO (fieldA 2 x1) fun x5 =>
  M.bind (rdM (ld1 x5)) fun x6 =>
  bindO (buildV #[(Value.int IntKind.i64 0), (Value.int IntKind.i64 0), (Value.int IntKind.i64 0), (Value.int IntKind.i64 0), (Value.int IntKind.i64 0), (Value.int IntKind.i64 0), (Value.int IntKind.i64 0), (Value.int IntKind.i64 0), (Value.int IntKind.i64 0), (Value.string ByteArray.empty), (Value.string ByteArray.empty)] [(0, 1, (Value.int IntKind.i64 3)), (4, 1, x4), (6, 1, x6)]) fun x7 =>
  M.bind (stM 11 x2 x7) fun _ =>
  M.bind (rdM (ldA 11 x2)) fun x9 =>
  M.ret x9
def F.control_fetching_message.plan : Plan := (seq leaf (seq leaf leaf))
theorem F.control_fetching_message.lift : LiftOk Tryz.prog 129 (ap2 F.control_fetching_message) :=
  lift2 (g := evFn Tryz.prog tnil tnil 129 Tryz.f129 F.control_fetching_message.plan) (evFn_sound tnil_ok tnil_ok Tryz.func129 (by kernel_rfl)) (fun x0 x1 => by kernel_rfl)

/-- (*granary/control.swapping).message -/
noncomputable def F.control_swapping_message (_a0 a1 : Value) : M Value :=
  M.bind (newM 104 (Value.cells a1)) fun x1 =>
  M.bind (newM 38 #[(Value.int IntKind.i64 0), (Value.int IntKind.i64 0), (Value.int IntKind.i64 0), (Value.int IntKind.i64 0), (Value.int IntKind.i64 0), (Value.int IntKind.i64 0), (Value.int IntKind.i64 0), (Value.int IntKind.i64 0), (Value.int IntKind.i64 0), (Value.string ByteArray.empty), (Value.string ByteArray.empty)]) fun x2 =>
  bindO (fieldA 0 x1) fun x3 =>
  M.bind (rdM (ld1 x3)) fun x4 =>
  bindO (fieldA 2 x1) fun x5 =>
  M.bind (rdM (ld1 x5)) fun x6 =>
  bindO (buildV #[(Value.int IntKind.i64 0), (Value.int IntKind.i64 0), (Value.int IntKind.i64 0), (Value.int IntKind.i64 0), (Value.int IntKind.i64 0), (Value.int IntKind.i64 0), (Value.int IntKind.i64 0), (Value.int IntKind.i64 0), (Value.int IntKind.i64 0), (Value.string ByteArray.empty), (Value.string ByteArray.empty)] [(0, 1, (Value.int IntKind.i64 5)), (4, 1, x4), (5, 1, (Value.int IntKind.i64 1)), (6, 1, x6)]) fun x7 =>
  M.bind (stM 11 x2 x7) fun _ =>
  M.bind (rdM (ldA 11 x2)) fun x9 =>
  M.ret x9
def F.control_swapping_message.plan : Plan := (seq leaf (seq leaf leaf))
theorem F.control_swapping_message.lift : LiftOk Tryz.prog 135 (ap2 F.control_swapping_message) :=
  lift2 (g := evFn Tryz.prog tnil tnil 135 Tryz.f135 F.control_swapping_message.plan) (evFn_sound tnil_ok tnil_ok Tryz.func135 (by kernel_rfl)) (fun x0 x1 => by kernel_rfl)

/-- (*granary/control.looking).message -/
noncomputable def F.control_looking_message (_a0 a1 : Value) : M Value :=
  M.bind (newM 104 (Value.cells a1)) fun _ =>
  M.bind (newM 38 #[(Value.int IntKind.i64 0), (Value.int IntKind.i64 0), (Value.int IntKind.i64 0), (Value.int IntKind.i64 0), (Value.int IntKind.i64 0), (Value.int IntKind.i64 0), (Value.int IntKind.i64 0), (Value.int IntKind.i64 0), (Value.int IntKind.i64 0), (Value.string ByteArray.empty), (Value.string ByteArray.empty)]) fun x2 =>
  bindO (buildV #[(Value.int IntKind.i64 0), (Value.int IntKind.i64 0), (Value.int IntKind.i64 0), (Value.int IntKind.i64 0), (Value.int IntKind.i64 0), (Value.int IntKind.i64 0), (Value.int IntKind.i64 0), (Value.int IntKind.i64 0), (Value.int IntKind.i64 0), (Value.string ByteArray.empty), (Value.string ByteArray.empty)] [(0, 1, (Value.int IntKind.i64 9))]) fun x3 =>
  M.bind (stM 11 x2 x3) fun _ =>
  M.bind (rdM (ldA 11 x2)) fun x5 =>
  M.ret x5
def F.control_looking_message.plan : Plan := (seq leaf (seq leaf leaf))
theorem F.control_looking_message.lift : LiftOk Tryz.prog 141 (ap2 F.control_looking_message) :=
  lift2 (g := evFn Tryz.prog tnil tnil 141 Tryz.f141 F.control_looking_message.plan) (evFn_sound tnil_ok tnil_ok Tryz.func141 (by kernel_rfl)) (fun x0 x1 => by kernel_rfl)

/-- (*granary/control.backing).message -/
noncomputable def F.control_backing_message (_a0 a1 : Value) : M Value :=
  M.bind (newM 104 (Value.cells a1)) fun x1 =>
  M.bind (newM 38 #[(Value.int IntKind.i64 0), (Value.int IntKind.i64 0), (Value.int IntKind.i64 0), (Value.int IntKind.i64 0), (Value.int IntKind.i64 0), (Value.int IntKind.i64 0), (Value.int IntKind.i64 0), (Value.int IntKind.i64 0), (Value.int IntKind.i64 0), (Value.string ByteArray.empty), (Value.string ByteArray.empty)]) fun x2 =>
  bindO (fieldA 0 x1) fun x3 =>
  M.bind (rdM (ld1 x3)) fun x4 =>
  bindO (buildV #[(Value.int IntKind.i64 0), (Value.int IntKind.i64 0), (Value.int IntKind.i64 0), (Value.int IntKind.i64 0), (Value.int IntKind.i64 0), (Value.int IntKind.i64 0), (Value.int IntKind.i64 0), (Value.int IntKind.i64 0), (Value.int IntKind.i64 0), (Value.string ByteArray.empty), (Value.string ByteArray.empty)] [(0, 1, (Value.int IntKind.i64 7)), (4, 1, x4), (5, 1, (Value.int IntKind.i64 2))]) fun x5 =>
  M.bind (stM 11 x2 x5) fun _ =>
  M.bind (rdM (ldA 11 x2)) fun x7 =>
  M.ret x7
def F.control_backing_message.plan : Plan := (seq leaf (seq leaf leaf))
theorem F.control_backing_message.lift : LiftOk Tryz.prog 147 (ap2 F.control_backing_message) :=
  lift2 (g := evFn Tryz.prog tnil tnil 147 Tryz.f147 F.control_backing_message.plan) (evFn_sound tnil_ok tnil_ok Tryz.func147 (by kernel_rfl)) (fun x0 x1 => by kernel_rfl)

/-- What this function's calls through interface values come to. -/
noncomputable def F.control_Control_send.inv : Tab := (tcons 126 (ap1 F.control_ledger_book) (tcons 129 (ap2 F.control_fetching_message) (tcons 135 (ap2 F.control_swapping_message) (tcons 141 (ap2 F.control_looking_message) (tcons 147 (ap2 F.control_backing_message) tnil)))))
theorem F.control_Control_send.inv_ok : TabOk Tryz.prog F.control_Control_send.inv := (tcons_ok F.control_ledger_book.lift (tcons_ok F.control_fetching_message.lift (tcons_ok F.control_swapping_message.lift (tcons_ok F.control_looking_message.lift (tcons_ok F.control_backing_message.lift tnil_ok)))))
theorem F.control_Control_send.inv_117_book (v : Value) : invV Tryz.prog F.control_Control_send.inv "granary/control.book" (.iface 117 v) [] = (match fieldA 0 v with | some p => F.control_ledger_book p | none => M.fail) := by kernel_rfl
theorem F.control_Control_send.inv_117_message (v x0 : Value) : invV Tryz.prog F.control_Control_send.inv "granary/control.message" (.iface 117 v) [x0] = F.control_fetching_message v x0 := by kernel_rfl
theorem F.control_Control_send.inv_120_book (v : Value) : invV Tryz.prog F.control_Control_send.inv "granary/control.book" (.iface 120 v) [] = (match fieldA 0 v with | some p => F.control_ledger_book p | none => M.fail) := by kernel_rfl
theorem F.control_Control_send.inv_120_message (v x0 : Value) : invV Tryz.prog F.control_Control_send.inv "granary/control.message" (.iface 120 v) [x0] = F.control_swapping_message v x0 := by kernel_rfl
theorem F.control_Control_send.inv_122_book (v : Value) : invV Tryz.prog F.control_Control_send.inv "granary/control.book" (.iface 122 v) [] = (match fieldA 0 v with | some p => F.control_ledger_book p | none => M.fail) := by kernel_rfl
theorem F.control_Control_send.inv_122_message (v x0 : Value) : invV Tryz.prog F.control_Control_send.inv "granary/control.message" (.iface 122 v) [x0] = F.control_looking_message v x0 := by kernel_rfl
theorem F.control_Control_send.inv_148_book (v : Value) : invV Tryz.prog F.control_Control_send.inv "granary/control.book" (.iface 148 v) [] = (match fieldA 0 v with | some p => F.control_ledger_book p | none => M.fail) := by kernel_rfl
theorem F.control_Control_send.inv_148_message (v x0 : Value) : invV Tryz.prog F.control_Control_send.inv "granary/control.message" (.iface 148 v) [x0] = F.control_backing_message v x0 := by kernel_rfl
/-- (*granary/control.Control).send -/
noncomputable def F.control_Control_send (a0 : Value) : M Value :=
  bindO (nilChk a0) fun x1 =>
  bindO (fieldA 7 x1) fun x2 =>
  M.bind (rdM (ld1 x2)) fun x3 =>
  M.bind (invV Tryz.prog F.control_Control_send.inv "granary/control.book" x3 []) fun x4 =>
  M.bind (F.control_ledger_missing x4) fun x5 =>
  bindO (lenL x5) fun x6 =>
  M.bind (loopM (fun l7 =>
    bindO (binV BinOp.lss (getL l7 1) x6) fun x8 =>
    condM x8 (
      bindO (idxA 1 x5 (getL l7 1)) fun x9 =>
      M.bind (rdM (ld1 x9)) fun x10 =>
      M.bind (altM (ordO Tryz.prog (regOps Tryz.f66 5) 66 5) [
        ([10, 11, 12],
          bindO (nilChk a0) fun x12 =>
          bindO (fieldA 7 x12) fun x13 =>
          M.bind (rdM (ld1 x13)) fun x14 =>
          bindO (nilChk a0) fun x15 =>
          bindO (fieldA 4 x15) fun x16 =>
          M.bind (rdM (ldA 3 x16)) fun x17 =>
          bindO (nilChk x14) fun _ =>
          M.bind (invV Tryz.prog F.control_Control_send.inv "granary/control.message" x14 [x17]) fun x19 =>
          M.bind (newM 38 #[(Value.int IntKind.i64 0), (Value.int IntKind.i64 0), (Value.int IntKind.i64 0), (Value.int IntKind.i64 0), (Value.int IntKind.i64 0), (Value.int IntKind.i64 0), (Value.int IntKind.i64 0), (Value.int IntKind.i64 0), (Value.int IntKind.i64 0), (Value.string ByteArray.empty), (Value.string ByteArray.empty)]) fun x20 =>
          M.bind (stM 11 x20 x19) fun _ =>
          M.ret [x20]),
        ([11, 10, 12],
          getM fun _ =>
          bindO (nilChk a0) fun x23 =>
          bindO (fieldA 7 x23) fun x24 =>
          M.bind (rdM (ld1 x24)) fun x25 =>
          bindO (nilChk a0) fun x26 =>
          bindO (fieldA 4 x26) fun x27 =>
          M.bind (rdM (ldA 3 x27)) fun x28 =>
          bindO (nilChk x25) fun _ =>
          M.bind (newM 38 #[(Value.int IntKind.i64 0), (Value.int IntKind.i64 0), (Value.int IntKind.i64 0), (Value.int IntKind.i64 0), (Value.int IntKind.i64 0), (Value.int IntKind.i64 0), (Value.int IntKind.i64 0), (Value.int IntKind.i64 0), (Value.int IntKind.i64 0), (Value.string ByteArray.empty), (Value.string ByteArray.empty)]) fun x30 =>
          getM fun W31 =>
          M.bind (invV Tryz.prog F.control_Control_send.inv "granary/control.message" x25 [x28]) fun x32 =>
          getM fun _ =>
          M.bind (stM 11 x30 x32) fun _ =>
          getM fun _ =>
          reqM (ld1 x24 W31 = some x25) <|
          reqM (ldA 3 x27 W31 = some x28) <|
          M.ret [x30])]) fun l11 =>
      drewM <|
      getM fun _ =>
      bindO (nilChk a0) fun x37 =>
      bindO (fieldA 4 x37) fun x38 =>
      bindO (fieldA 0 x38) fun x39 =>
      M.bind (rdM (ld1 x39)) fun x40 =>
      bindO (fieldA 1 (getL l11 0)) fun x41 =>
      M.bind (stM 1 x41 (Value.int IntKind.i64 64)) fun _ =>
      getM fun W43 =>
      bindO (fieldA 2 (getL l11 0)) fun x44 =>
      M.bind (stM 1 x44 x10) fun _ =>
      getM fun W46 =>
      bindO (fieldA 3 (getL l11 0)) fun x47 =>
      M.bind (stM 1 x47 x40) fun _ =>
      getM fun _ =>
      reqM (ld1 x39 W43 = some x40) <|
      reqM (ld1 x39 W46 = some x40) <|
      M.bind (rdM (ldA 11 (getL l11 0))) fun x50 =>
      M.bind (bslM 38 1 (Builtin.zeroCells #[(Value.int IntKind.i64 0), (Value.int IntKind.i64 0), (Value.int IntKind.i64 0), (Value.int IntKind.i64 0), (Value.int IntKind.i64 0), (Value.int IntKind.i64 0), (Value.int IntKind.i64 0), (Value.int IntKind.i64 0), (Value.int IntKind.i64 0), (Value.string ByteArray.empty), (Value.string ByteArray.empty)] 1) [(0, 11, x50)]) fun x51 =>
      M.bind (appM 38 11 104 #[(Value.int IntKind.i64 0), (Value.int IntKind.i64 0), (Value.int IntKind.i64 0), (Value.int IntKind.i64 0), (Value.int IntKind.i64 0), (Value.int IntKind.i64 0), (Value.int IntKind.i64 0), (Value.int IntKind.i64 0), (Value.int IntKind.i64 0), (Value.string ByteArray.empty), (Value.string ByteArray.empty)] (getL l7 0) x51) fun x52 =>
      bindO (binV BinOp.add (getL l7 1) (Value.int IntKind.i64 1)) fun x53 =>
      M.ret (Out.norm [x52, x53])) (
      M.ret (Out.exit 0 [(getL l7 0), (getL l7 1)]))) [(Value.slice none 0 0), (Value.int IntKind.i64 0)]) fun o55 =>
  outK o55 (fun _ => M.fail) (fun i56 l54 =>
    bif Nat.beq i56 0 then (
      M.ret (getL l54 0)) else
    M.fail) (fun r57 => M.ret r57)
def F.control_Control_send.plan : Plan := (seq leaf (seq leaf (seq (seq leaf (body (loop [3, 14] [3, 5, 6, 14, 15, 16, 17, 18, 19, 20, 21, 22, 23, 24, 25, 26, 27, 28, 29, 30, 31, 32, 33, 34, 35, 36, 37, 38, 39, 40, 41, 42] [0] (seq leaf (seq (cond leaf leaf) (seq (body (seq leaf (seq (alts [6] [6, 18, 19, 20, 21, 22, 23, 24, 25, 26, 27, 28] [[0, 1, 2, 3, 4, 5, 6, 7, 8, 9, 10, 11, 12], [0, 1, 2, 3, 4, 5, 6, 7, 8, 9, 11, 10, 12]]) (seq leaf leaf)))) leaf)))))) (seq leaf leaf))))
theorem F.control_Control_send.lift : LiftOk Tryz.prog 66 (ap1 F.control_Control_send) :=
  lift1 (g := evFn Tryz.prog (tcons 79 (ap1 F.control_ledger_missing) tnil) F.control_Control_send.inv 66 Tryz.f66 F.control_Control_send.plan) (evFn_sound (tcons_ok F.control_ledger_missing.lift tnil_ok) F.control_Control_send.inv_ok Tryz.func66 (by kernel_rfl)) (fun x0 => by kernel_rfl)

end Go.Proofs.YtpiceodfdjihhaaGreatDoor
