/-
  THE FUNCTIONAL FORMS of the functions of this seat's translation, and that each function comes to its form: printed by a program of the prover's own (lift.py).
-/
import Derived.Test.YtiggkhmopnhfaaaDoorG0
namespace Go.Proofs.YtiggkhmopnhfaaaDoor
open Go.Lift Go.Lift.Plan
/-- (*granary/granaryref21.Export).Begin -/
noncomputable def F.granaryref21_Export_Begin (a0 a1 : Value) : M Value :=
  bindO (eqV (EqSh.one EqK.ptr) a0 (Value.pointer none)) fun x1 =>
  condM x1 (
    M.ret (Value.tuple #[(Value.slice none 0 0), (Value.int IntKind.i64 2)])) (
    bindO (nilChk a0) fun x2 =>
    bindO (fieldA 5 x2) fun x3 =>
    M.bind (rdM (ld1 x3)) fun x4 =>
    condM x4 (
      M.ret (Value.tuple #[(Value.slice none 0 0), (Value.int IntKind.i64 150)])) (
      bindO (binV BinOp.lss a1 (Value.int IntKind.i64 1)) fun x5 =>
      M.bind (guardM x5 false (M.ret a1)) fun x6 =>
      M.bind (guardM x5 false (optM (binV BinOp.gtr x6 (Value.int IntKind.i64 999999)))) fun x7 =>
      bindO (pickV x5 (Value.bool true) x7) fun x8 =>
      condM x8 (
        M.ret (Value.tuple #[(Value.slice none 0 0), (Value.int IntKind.i64 80)])) (
        bindO (nilChk a0) fun x9 =>
        bindO (fieldA 5 x9) fun x10 =>
        M.bind (stM 1 x10 (Value.bool true)) fun _ =>
        bindO (nilChk a0) fun x12 =>
        bindO (fieldA 3 x12) fun x13 =>
        M.bind (rdM (ld1 x13)) fun x14 =>
        bindO (binV BinOp.add x14 (Value.int IntKind.i64 1)) fun x15 =>
        bindO (nilChk a0) fun x16 =>
        bindO (fieldA 3 x16) fun x17 =>
        M.bind (stM 1 x17 x15) fun _ =>
        bindO (nilChk a0) fun x19 =>
        bindO (fieldA 4 x19) fun x20 =>
        M.bind (stM 1 x20 a1) fun _ =>
        bindO (nilChk a0) fun x22 =>
        bindO (fieldA 7 x22) fun x23 =>
        M.bind (stM 1 x23 (Value.int IntKind.i64 0)) fun _ =>
        bindO (nilChk a0) fun x25 =>
        bindO (fieldA 8 x25) fun x26 =>
        M.bind (stM 1 x26 (Value.int IntKind.i64 0)) fun _ =>
        bindO (nilChk a0) fun x28 =>
        bindO (fieldA 10 x28) fun x29 =>
        M.bind (stM 1 x29 (Value.slice none 0 0)) fun _ =>
        bindO (nilChk a0) fun x31 =>
        bindO (fieldA 11 x31) fun x32 =>
        M.bind (stM 1 x32 (Value.slice none 0 0)) fun _ =>
        bindO (nilChk a0) fun x34 =>
        bindO (fieldA 12 x34) fun x35 =>
        M.bind (stM 1 x35 (Value.slice none 0 0)) fun _ =>
        M.bind (F.granaryref21_Export_question a0) fun x37 =>
        M.ret (Value.tuple #[x37, (Value.int IntKind.i64 0)]))))
def F.granaryref21_Export_Begin.plan : Plan := (seq leaf (seq (seq leaf (cond (seq leaf leaf) leaf)) (seq (seq leaf (cond (seq leaf leaf) leaf)) (seq (seq leaf (cond (seq leaf leaf) leaf)) (seq leaf (seq leaf (seq leaf (seq leaf (seq leaf (seq leaf (seq leaf (seq leaf (seq leaf leaf)))))))))))))
theorem F.granaryref21_Export_Begin.lift : LiftOk Tryd.prog 36 (ap2 F.granaryref21_Export_Begin) :=
  lift2 (g := evFn Tryd.prog (tcons 54 (ap1 F.granaryref21_Export_question) tnil) tnil 36 Tryd.f36 F.granaryref21_Export_Begin.plan) (evFn_sound (tcons_ok F.granaryref21_Export_question.lift tnil_ok) tnil_ok Tryd.func36 (by kernel_rfl)) (fun x0 x1 => by kernel_rfl)

/-- (*granary/export.Export).leave -/
noncomputable def F.export_Export_leave (a0 : Value) : M Value :=
  bindO (nilChk a0) fun x1 =>
  bindO (fieldA 7 x1) fun x2 =>
  M.bind (rdM (ld1 x2)) fun x3 =>
  bindO (sliceV 1 x3 (some (Value.int IntKind.i64 1)) none) fun x4 =>
  bindO (nilChk a0) fun x5 =>
  bindO (fieldA 7 x5) fun x6 =>
  M.bind (stM 1 x6 x4) fun _ =>
  bindO (nilChk a0) fun x8 =>
  bindO (fieldA 7 x8) fun x9 =>
  M.bind (rdM (ld1 x9)) fun x10 =>
  bindO (lenL x10) fun x11 =>
  bindO (binV BinOp.gtr x11 (Value.int IntKind.i64 0)) fun x12 =>
  condM x12 (
    M.bind (F.export_Export_ask a0) fun x13 =>
    M.ret x13) (
    drewM <|
    getM fun _ =>
    bindO (nilChk a0) fun x15 =>
    bindO (fieldA 11 x15) fun x16 =>
    M.bind (rdM (ld1 x16)) fun x17 =>
    bindO (nilChk a0) fun x18 =>
    bindO (fieldA 6 x18) fun x19 =>
    M.bind (rdM (ld1 x19)) fun x20 =>
    M.bind (bslM 3 1 (Builtin.zeroCells #[(Value.int IntKind.i64 0)] 1) [(0, 1, x20)]) fun x21 =>
    getM fun W22 =>
    M.bind (appM 3 1 8 #[(Value.int IntKind.i64 0)] x17 x21) fun x23 =>
    getM fun _ =>
    bindO (nilChk a0) fun x25 =>
    bindO (fieldA 11 x25) fun x26 =>
    M.bind (stM 1 x26 x23) fun _ =>
    getM fun _ =>
    reqM (ld1 x16 W22 = some x17) <|
    bindO (nilChk a0) fun x29 =>
    bindO (fieldA 6 x29) fun x30 =>
    M.bind (rdM (ld1 x30)) fun x31 =>
    bindO (binV BinOp.add x31 (Value.int IntKind.i64 1)) fun x32 =>
    M.bind (F.export_Export_take a0 x32) fun x33 =>
    M.ret x33)
def F.export_Export_leave.plan : Plan := (seq leaf (seq leaf (seq (seq leaf (cond (seq leaf leaf) leaf)) (seq leaf (seq leaf leaf)))))
theorem F.export_Export_leave.lift : LiftOk Tryd.prog 56 (ap1 F.export_Export_leave) :=
  lift1 (g := evFn Tryd.prog (tcons 53 (ap2 F.export_Export_take) (tcons 57 (ap1 F.export_Export_ask) tnil)) tnil 56 Tryd.f56 F.export_Export_leave.plan) (evFn_sound (tcons_ok F.export_Export_take.lift (tcons_ok F.export_Export_ask.lift tnil_ok)) tnil_ok Tryd.func56 (by kernel_rfl)) (fun x0 => by kernel_rfl)

/-- (*granary/export.Export).Take -/
noncomputable def F.export_Export_Take (a0 a1 : Value) : M Value :=
  M.bind (newM 36 (Value.cells a1)) fun x1 =>
  bindO (eqV (EqSh.one EqK.ptr) a0 (Value.pointer none)) fun x2 =>
  condM x2 (
    M.ret (Value.tuple #[(Value.slice none 0 0), (Value.int IntKind.i64 2)])) (
    drewM <|
    getM fun W3 =>
    bindO (nilChk a0) fun x4 =>
    bindO (fieldA 5 x4) fun x5 =>
    M.bind (rdM (ld1 x5)) fun x6 =>
    bindO (notV x6) fun x7 =>
    M.bind (guardM x7 false (optM (fieldA 0 x1))) fun x8 =>
    M.bind (guardM x7 false (rdM (ld1 x8))) fun x9 =>
    M.bind (guardM x7 false (optM (binV BinOp.neq x9 (Value.int IntKind.i64 16)))) fun x10 =>
    bindO (pickV x7 (Value.bool true) x10) fun x11 =>
    M.bind (guardM x11 false (M.ret a0)) fun x12 =>
    M.bind (guardM x11 false (F.export_Export_want x12)) fun x13 =>
    getM fun _ =>
    M.bind (guardM x11 false (optM (fieldA 1 x1))) fun x15 =>
    M.bind (guardM x11 false (rdM (ld1 x15))) fun x16 =>
    M.bind (guardM x11 false (optM (fieldA 3 x1))) fun x17 =>
    M.bind (guardM x11 false (rdM (ld1 x17))) fun x18 =>
    M.bind (guardM x11 false (optM (fieldA 5 x1))) fun x19 =>
    M.bind (guardM x11 false (rdM (ld1 x19))) fun x20 =>
    M.bind (guardM x11 false (optM (fieldA 6 x1))) fun x21 =>
    M.bind (guardM x11 false (rdM (ld1 x21))) fun x22 =>
    M.bind (guardM x11 false (optM (fieldA 7 x1))) fun x23 =>
    M.bind (guardM x11 false (rdM (ld1 x23))) fun x24 =>
    M.bind (guardM x11 false (optM (buildV #[(Value.int IntKind.i64 0), (Value.int IntKind.i64 0), (Value.int IntKind.i64 0), (Value.int IntKind.i64 0), (Value.int IntKind.i64 0)] [(0, 1, x16), (1, 1, x18), (2, 1, x20), (3, 1, x22), (4, 1, x24)]))) fun x25 =>
    M.bind (guardM x11 false (optM (neV (EqSh.offs [(EqK.int, 0), (EqK.int, 1), (EqK.int, 2), (EqK.int, 3), (EqK.int, 4)]) x13 x25))) fun x26 =>
    bindO (pickV x11 (Value.bool true) x26) fun x27 =>
    reqM (x11 = Value.bool false → ld1 x15 W3 = some x16) <|
    reqM (x11 = Value.bool false → ld1 x17 W3 = some x18) <|
    reqM (x11 = Value.bool false → ld1 x19 W3 = some x20) <|
    reqM (x11 = Value.bool false → ld1 x21 W3 = some x22) <|
    reqM (x11 = Value.bool false → ld1 x23 W3 = some x24) <|
    condM x27 (
      M.ret (Value.tuple #[(Value.slice none 0 0), (Value.int IntKind.i64 0)])) (
      bindO (fieldA 8 x1) fun x28 =>
      M.bind (rdM (ld1 x28)) fun x29 =>
      bindO (binV BinOp.eql x29 (Value.int IntKind.i64 16)) fun x30 =>
      condM x30 (
        drewM <|
        bindO (nilChk a0) fun x31 =>
        bindO (fieldA 10 x31) fun x32 =>
        M.bind (rdM (ld1 x32)) fun x33 =>
        bindO (nilChk a0) fun x34 =>
        bindO (fieldA 8 x34) fun x35 =>
        M.bind (rdM (ld1 x35)) fun x36 =>
        M.bind (appM 78 2 32 #[(Value.string ByteArray.empty), (Value.string ByteArray.empty)] x33 x36) fun x37 =>
        bindO (nilChk a0) fun x38 =>
        bindO (fieldA 10 x38) fun x39 =>
        M.bind (stM 1 x39 x37) fun _ =>
        bindO (nilChk a0) fun x41 =>
        bindO (fieldA 6 x41) fun x42 =>
        M.bind (rdM (ld1 x42)) fun x43 =>
        bindO (binV BinOp.add x43 (Value.int IntKind.i64 1)) fun x44 =>
        M.bind (F.export_Export_take a0 x44) fun x45 =>
        M.ret (Value.tuple #[x45, (Value.int IntKind.i64 0)])) (
        bindO (fieldA 8 x1) fun x46 =>
        M.bind (rdM (ld1 x46)) fun x47 =>
        bindO (binV BinOp.neq x47 (Value.int IntKind.i64 0)) fun x48 =>
        M.bind (guardM x48 false (M.ret a0)) fun x49 =>
        M.bind (guardM x48 false (optM (nilChk x49))) fun x50 =>
        M.bind (guardM x48 false (optM (fieldA 8 x50))) fun x51 =>
        M.bind (guardM x48 false (rdM (ld1 x51))) fun x52 =>
        M.bind (guardM x48 false (optM (lenL x52))) fun x53 =>
        M.bind (guardM x48 false (optM (binV BinOp.eql x53 (Value.int IntKind.i64 512)))) fun x54 =>
        bindO (pickV x48 (Value.bool true) x54) fun x55 =>
        condM x55 (
          M.bind (F.export_Export_leave a0) fun x56 =>
          M.ret (Value.tuple #[x56, (Value.int IntKind.i64 0)])) (
          drewM <|
          getM fun _ =>
          bindO (nilChk a0) fun x58 =>
          bindO (fieldA 8 x58) fun x59 =>
          M.bind (rdM (ld1 x59)) fun x60 =>
          bindO (fieldA 9 x1) fun x61 =>
          M.bind (rdM (ld1 x61)) fun x62 =>
          bindO (fieldA 10 x1) fun x63 =>
          M.bind (rdM (ld1 x63)) fun x64 =>
          bindO (buildV #[(Value.string ByteArray.empty), (Value.string ByteArray.empty)] [(0, 1, x62), (1, 1, x64)]) fun x65 =>
          M.bind (bslM 78 1 (Builtin.zeroCells #[(Value.string ByteArray.empty), (Value.string ByteArray.empty)] 1) [(0, 2, x65)]) fun x66 =>
          getM fun W67 =>
          M.bind (appM 78 2 32 #[(Value.string ByteArray.empty), (Value.string ByteArray.empty)] x60 x66) fun x68 =>
          getM fun _ =>
          bindO (nilChk a0) fun x70 =>
          bindO (fieldA 8 x70) fun x71 =>
          M.bind (stM 1 x71 x68) fun _ =>
          getM fun _ =>
          reqM (ld1 x59 W67 = some x60) <|
          M.bind (F.export_Export_ask a0) fun x74 =>
          M.ret (Value.tuple #[x74, (Value.int IntKind.i64 0)])))))
def F.export_Export_Take.plan : Plan := (seq leaf (seq (seq leaf (cond (seq leaf leaf) leaf)) (seq (seq leaf (cond (seq leaf leaf) leaf)) (seq (seq leaf (cond (seq leaf (seq leaf leaf)) leaf)) (seq (seq leaf (cond (seq leaf leaf) leaf)) (seq leaf (seq leaf leaf)))))))
theorem F.export_Export_Take.lift : LiftOk Tryd.prog 37 (ap2 F.export_Export_Take) :=
  lift2 (g := evFn Tryd.prog (tcons 53 (ap2 F.export_Export_take) (tcons 55 (ap1 F.export_Export_want) (tcons 56 (ap1 F.export_Export_leave) (tcons 57 (ap1 F.export_Export_ask) tnil)))) tnil 37 Tryd.f37 F.export_Export_Take.plan) (evFn_sound (tcons_ok F.export_Export_take.lift (tcons_ok F.export_Export_want.lift (tcons_ok F.export_Export_leave.lift (tcons_ok F.export_Export_ask.lift tnil_ok)))) tnil_ok Tryd.func37 (by kernel_rfl)) (fun x0 x1 => by kernel_rfl)

/-- (*granary/granaryref21.Export).goOn -/
noncomputable def F.granaryref21_Export_goOn (a0 : Value) : M Value :=
  bindO (nilChk a0) fun x1 =>
  bindO (fieldA 7 x1) fun x2 =>
  M.bind (rdM (ld1 x2)) fun x3 =>
  bindO (binV BinOp.add x3 (Value.int IntKind.i64 1)) fun x4 =>
  bindO (nilChk a0) fun x5 =>
  bindO (fieldA 7 x5) fun x6 =>
  M.bind (stM 1 x6 x4) fun _ =>
  bindO (nilChk a0) fun x8 =>
  bindO (fieldA 8 x8) fun x9 =>
  M.bind (stM 1 x9 (Value.int IntKind.i64 0)) fun _ =>
  drewM <|
  bindO (nilChk a0) fun x11 =>
  bindO (fieldA 7 x11) fun x12 =>
  M.bind (rdM (ld1 x12)) fun x13 =>
  bindO (nilChk a0) fun x14 =>
  bindO (fieldA 0 x14) fun x15 =>
  M.bind (rdM (ld1 x15)) fun x16 =>
  bindO (lenL x16) fun x17 =>
  bindO (binV BinOp.lss x13 x17) fun x18 =>
  condM x18 (
    M.bind (F.granaryref21_Export_question a0) fun x19 =>
    M.ret x19) (
    bindO (nilChk a0) fun x20 =>
    bindO (fieldA 5 x20) fun x21 =>
    M.bind (stM 1 x21 (Value.bool false)) fun _ =>
    bindO (nilChk a0) fun x23 =>
    bindO (fieldA 6 x23) fun x24 =>
    M.bind (stM 1 x24 (Value.bool true)) fun _ =>
    drewM <|
    bindO (nilChk a0) fun x26 =>
    bindO (fieldA 3 x26) fun x27 =>
    M.bind (rdM (ld1 x27)) fun x28 =>
    bindO (nilChk a0) fun x29 =>
    bindO (fieldA 4 x29) fun x30 =>
    M.bind (rdM (ld1 x30)) fun x31 =>
    bindO (nilChk a0) fun x32 =>
    bindO (fieldA 10 x32) fun x33 =>
    M.bind (rdM (ld1 x33)) fun x34 =>
    bindO (nilChk a0) fun x35 =>
    bindO (fieldA 12 x35) fun x36 =>
    M.bind (rdM (ld1 x36)) fun x37 =>
    bindO (buildV #[(Value.int IntKind.i64 0), (Value.int IntKind.i64 0), (Value.slice none 0 0), (Value.slice none 0 0)] [(0, 1, x28), (1, 1, x31), (2, 1, x34), (3, 1, x37)]) fun x38 =>
    bindO (nilChk a0) fun x39 =>
    bindO (fieldA 13 x39) fun x40 =>
    M.bind (stM 4 x40 x38) fun _ =>
    M.ret (Value.slice none 0 0))
def F.granaryref21_Export_goOn.plan : Plan := (seq leaf (seq leaf (seq leaf (seq (seq leaf (cond (seq leaf leaf) leaf)) (seq leaf (seq leaf (seq leaf (seq leaf leaf))))))))
theorem F.granaryref21_Export_goOn.lift : LiftOk Tryd.prog 59 (ap1 F.granaryref21_Export_goOn) :=
  lift1 (g := evFn Tryd.prog (tcons 54 (ap1 F.granaryref21_Export_question) tnil) tnil 59 Tryd.f59 F.granaryref21_Export_goOn.plan) (evFn_sound (tcons_ok F.granaryref21_Export_question.lift tnil_ok) tnil_ok Tryd.func59 (by kernel_rfl)) (fun x0 => by kernel_rfl)

/-- (*granary/granaryref21.Export).leave -/
noncomputable def F.granaryref21_Export_leave (a0 : Value) : M Value :=
  bindO (nilChk a0) fun x1 =>
  bindO (fieldA 8 x1) fun x2 =>
  M.bind (rdM (ld1 x2)) fun x3 =>
  bindO (binV BinOp.add x3 (Value.int IntKind.i64 1)) fun x4 =>
  bindO (nilChk a0) fun x5 =>
  bindO (fieldA 8 x5) fun x6 =>
  M.bind (stM 1 x6 x4) fun _ =>
  drewM <|
  bindO (nilChk a0) fun x8 =>
  bindO (fieldA 8 x8) fun x9 =>
  M.bind (rdM (ld1 x9)) fun x10 =>
  bindO (nilChk a0) fun x11 =>
  bindO (fieldA 0 x11) fun x12 =>
  M.bind (rdM (ld1 x12)) fun x13 =>
  bindO (nilChk a0) fun x14 =>
  bindO (fieldA 7 x14) fun x15 =>
  M.bind (rdM (ld1 x15)) fun x16 =>
  bindO (idxA 1 x13 x16) fun x17 =>
  M.bind (rdM (ld1 x17)) fun x18 =>
  bindO (lenL x18) fun x19 =>
  bindO (binV BinOp.lss x10 x19) fun x20 =>
  condM x20 (
    M.bind (F.granaryref21_Export_question a0) fun x21 =>
    M.ret x21) (
    M.bind (loopM (fun l22 =>
      bindO (nilChk a0) fun x23 =>
      bindO (fieldA 11 x23) fun x24 =>
      M.bind (rdM (ld1 x24)) fun x25 =>
      bindO (lenL x25) fun x26 =>
      bindO (binV BinOp.lss (getL l22 2) x26) fun x27 =>
      condM x27 (
        M.bind (
          drewM <|
          bindO (nilChk a0) fun x28 =>
          bindO (fieldA 11 x28) fun x29 =>
          M.bind (rdM (ld1 x29)) fun x30 =>
          bindO (idxA 1 x30 (getL l22 2)) fun x31 =>
          M.bind (rdM (ld1 x31)) fun x32 =>
          bindO (nilChk a0) fun x33 =>
          bindO (fieldA 7 x33) fun x34 =>
          M.bind (rdM (ld1 x34)) fun x35 =>
          bindO (binV BinOp.neq x32 x35) fun x36 =>
          condM x36 (
            bindO (nilChk a0) fun x37 =>
            bindO (fieldA 10 x37) fun x38 =>
            M.bind (rdM (ld1 x38)) fun x39 =>
            bindO (idxA 2 x39 (getL l22 2)) fun x40 =>
            M.bind (rdM (ldA 2 x40)) fun x41 =>
            M.bind (bslM 78 1 (Builtin.zeroCells #[(Value.string ByteArray.empty), (Value.string ByteArray.empty)] 1) [(0, 2, x41)]) fun x42 =>
            M.bind (appM 78 2 32 #[(Value.string ByteArray.empty), (Value.string ByteArray.empty)] (getL l22 0) x42) fun x43 =>
            bindO (nilChk a0) fun x44 =>
            bindO (fieldA 11 x44) fun x45 =>
            M.bind (rdM (ld1 x45)) fun x46 =>
            bindO (idxA 1 x46 (getL l22 2)) fun x47 =>
            M.bind (rdM (ld1 x47)) fun x48 =>
            M.bind (bslM 3 1 (Builtin.zeroCells #[(Value.int IntKind.i64 0)] 1) [(0, 1, x48)]) fun x49 =>
            M.bind (appM 3 1 8 #[(Value.int IntKind.i64 0)] (getL l22 1) x49) fun x50 =>
            M.ret (Out.norm [x43, x50])) (
            M.ret (Out.norm [(getL l22 0), (getL l22 1)]))) fun o52 =>
        outK o52 (fun l51 =>
          bindO (binV BinOp.add (getL l22 2) (Value.int IntKind.i64 1)) fun x55 =>
          M.ret (Out.norm [(getL l51 0), (getL l51 1), x55])) (fun _ _ =>
          M.fail) (fun r54 => M.ret (Out.ret r54))) (
        M.ret (Out.exit 0 [(getL l22 0), (getL l22 1), (getL l22 2)]))) [(Value.slice none 0 0), (Value.slice none 0 0), (Value.int IntKind.i64 0)]) fun o58 =>
    outK o58 (fun _ => M.fail) (fun i59 l57 =>
      bif Nat.beq i59 0 then (
        bindO (nilChk a0) fun x61 =>
        bindO (fieldA 10 x61) fun x62 =>
        M.bind (stM 1 x62 (getL l57 0)) fun _ =>
        bindO (nilChk a0) fun x64 =>
        bindO (fieldA 11 x64) fun x65 =>
        M.bind (stM 1 x65 (getL l57 1)) fun _ =>
        drewM <|
        getM fun _ =>
        bindO (nilChk a0) fun x68 =>
        bindO (fieldA 12 x68) fun x69 =>
        M.bind (rdM (ld1 x69)) fun x70 =>
        bindO (nilChk a0) fun x71 =>
        bindO (fieldA 7 x71) fun x72 =>
        M.bind (rdM (ld1 x72)) fun x73 =>
        M.bind (bslM 3 1 (Builtin.zeroCells #[(Value.int IntKind.i64 0)] 1) [(0, 1, x73)]) fun x74 =>
        getM fun W75 =>
        M.bind (appM 3 1 8 #[(Value.int IntKind.i64 0)] x70 x74) fun x76 =>
        getM fun _ =>
        bindO (nilChk a0) fun x78 =>
        bindO (fieldA 12 x78) fun x79 =>
        M.bind (stM 1 x79 x76) fun _ =>
        getM fun _ =>
        reqM (ld1 x69 W75 = some x70) <|
        M.bind (F.granaryref21_Export_goOn a0) fun x82 =>
        M.ret x82) else
      M.fail) (fun r60 => M.ret r60))
def F.granaryref21_Export_leave.plan : Plan := (seq leaf (seq leaf (seq (seq leaf (cond (seq leaf leaf) leaf)) (seq leaf (seq leaf (seq (seq leaf (body (loop [3, 4, 5] [3, 4, 5, 31, 32, 33, 34, 35, 36, 37, 38, 39, 40, 41, 42, 43, 44, 45, 46, 47, 48, 49, 50, 51, 52, 53, 54, 55, 56, 57, 58, 59, 60, 61, 62, 63, 64, 65, 66, 67, 68, 69, 70, 71] [0] (seq (seq leaf (cond leaf leaf)) (fork [3, 4] [3, 4, 40, 41, 42, 43, 44, 45, 46, 47, 48, 49, 50, 51, 52, 53, 54, 55, 56, 57, 58, 59, 60, 61, 62, 63, 64, 65, 66, 67, 68, 69, 70, 71] [] (body (seq leaf (cond (seq leaf leaf) leaf))) leaf))))) (seq leaf (seq leaf (seq leaf (seq leaf leaf))))))))))
theorem F.granaryref21_Export_leave.lift : LiftOk Tryd.prog 60 (ap1 F.granaryref21_Export_leave) :=
  lift1 (g := evFn Tryd.prog (tcons 54 (ap1 F.granaryref21_Export_question) (tcons 59 (ap1 F.granaryref21_Export_goOn) tnil)) tnil 60 Tryd.f60 F.granaryref21_Export_leave.plan) (evFn_sound (tcons_ok F.granaryref21_Export_question.lift (tcons_ok F.granaryref21_Export_goOn.lift tnil_ok)) tnil_ok Tryd.func60 (by kernel_rfl)) (fun x0 => by kernel_rfl)

/-- (*granary/granaryref21.Export).Take -/
noncomputable def F.granaryref21_Export_Take (a0 a1 : Value) : M Value :=
  M.bind (newM 36 (Value.cells a1)) fun x1 =>
  bindO (eqV (EqSh.one EqK.ptr) a0 (Value.pointer none)) fun x2 =>
  condM x2 (
    M.ret (Value.tuple #[(Value.slice none 0 0), (Value.int IntKind.i64 2)])) (
    drewM <|
    getM fun _ =>
    bindO (nilChk a0) fun x4 =>
    bindO (fieldA 5 x4) fun x5 =>
    M.bind (rdM (ld1 x5)) fun x6 =>
    bindO (notV x6) fun x7 =>
    M.bind (guardM x7 false (optM (fieldA 0 x1))) fun x8 =>
    M.bind (guardM x7 false (rdM (ld1 x8))) fun x9 =>
    M.bind (guardM x7 false (optM (binV BinOp.neq x9 (Value.int IntKind.i64 16)))) fun x10 =>
    bindO (pickV x7 (Value.bool true) x10) fun x11 =>
    M.bind (guardM x11 false (optM (fieldA 1 x1))) fun x12 =>
    M.bind (guardM x11 false (rdM (ld1 x12))) fun x13 =>
    M.bind (guardM x11 false (M.ret a0)) fun x14 =>
    M.bind (guardM x11 false (optM (nilChk x14))) fun x15 =>
    M.bind (guardM x11 false (optM (fieldA 0 x15))) fun x16 =>
    M.bind (guardM x11 false (rdM (ld1 x16))) fun x17 =>
    M.bind (guardM x11 false (M.ret a0)) fun x18 =>
    M.bind (guardM x11 false (optM (nilChk x18))) fun x19 =>
    M.bind (guardM x11 false (optM (fieldA 7 x19))) fun x20 =>
    M.bind (guardM x11 false (rdM (ld1 x20))) fun x21 =>
    M.bind (guardM x11 false (optM (idxA 1 x17 x21))) fun x22 =>
    M.bind (guardM x11 false (rdM (ld1 x22))) fun x23 =>
    M.bind (guardM x11 false (M.ret a0)) fun x24 =>
    M.bind (guardM x11 false (optM (nilChk x24))) fun x25 =>
    M.bind (guardM x11 false (optM (fieldA 8 x25))) fun x26 =>
    M.bind (guardM x11 false (rdM (ld1 x26))) fun x27 =>
    M.bind (guardM x11 false (optM (idxA 1 x23 x27))) fun x28 =>
    M.bind (guardM x11 false (rdM (ld1 x28))) fun x29 =>
    M.bind (guardM x11 false (optM (binV BinOp.neq x13 x29))) fun x30 =>
    bindO (pickV x11 (Value.bool true) x30) fun x31 =>
    M.bind (guardM x31 false (optM (fieldA 3 x1))) fun x32 =>
    M.bind (guardM x31 false (rdM (ld1 x32))) fun x33 =>
    M.bind (guardM x31 false (M.ret a0)) fun x34 =>
    M.bind (guardM x31 false (optM (nilChk x34))) fun x35 =>
    M.bind (guardM x31 false (optM (fieldA 3 x35))) fun x36 =>
    M.bind (guardM x31 false (rdM (ld1 x36))) fun x37 =>
    M.bind (guardM x31 false (optM (binV BinOp.neq x33 x37))) fun x38 =>
    bindO (pickV x31 (Value.bool true) x38) fun x39 =>
    M.bind (guardM x39 false (optM (fieldA 5 x1))) fun x40 =>
    M.bind (guardM x39 false (rdM (ld1 x40))) fun x41 =>
    M.bind (guardM x39 false (M.ret a0)) fun x42 =>
    M.bind (guardM x39 false (optM (nilChk x42))) fun x43 =>
    M.bind (guardM x39 false (optM (fieldA 7 x43))) fun x44 =>
    M.bind (guardM x39 false (rdM (ld1 x44))) fun x45 =>
    M.bind (guardM x39 false (optM (binV BinOp.neq x41 x45))) fun x46 =>
    bindO (pickV x39 (Value.bool true) x46) fun x47 =>
    M.bind (guardM x47 false (optM (fieldA 6 x1))) fun x48 =>
    M.bind (guardM x47 false (rdM (ld1 x48))) fun x49 =>
    M.bind (guardM x47 false (M.ret a0)) fun x50 =>
    M.bind (guardM x47 false (optM (nilChk x50))) fun x51 =>
    M.bind (guardM x47 false (optM (fieldA 4 x51))) fun x52 =>
    M.bind (guardM x47 false (rdM (ld1 x52))) fun x53 =>
    M.bind (guardM x47 false (optM (binV BinOp.neq x49 x53))) fun x54 =>
    bindO (pickV x47 (Value.bool true) x54) fun x55 =>
    M.bind (guardM x55 false (optM (fieldA 7 x1))) fun x56 =>
    M.bind (guardM x55 false (rdM (ld1 x56))) fun x57 =>
    M.bind (guardM x55 false (M.ret a0)) fun x58 =>
    M.bind (guardM x55 false (F.granaryref21_Export_count x58)) fun x59 =>
    getM fun W60 =>
    M.bind (guardM x55 false (optM (binV BinOp.neq x57 x59))) fun x61 =>
    bindO (pickV x55 (Value.bool true) x61) fun x62 =>
    reqM (x55 = Value.bool false → ld1 x56 W60 = some x57) <|
    condM x62 (
      M.ret (Value.tuple #[(Value.slice none 0 0), (Value.int IntKind.i64 0)])) (
      bindO (fieldA 8 x1) fun x63 =>
      M.bind (rdM (ld1 x63)) fun x64 =>
      bindO (binV BinOp.eql x64 (Value.int IntKind.i64 16)) fun x65 =>
      condM x65 (
        M.bind (F.granaryref21_Export_goOn a0) fun x66 =>
        M.ret (Value.tuple #[x66, (Value.int IntKind.i64 0)])) (
        bindO (fieldA 8 x1) fun x67 =>
        M.bind (rdM (ld1 x67)) fun x68 =>
        bindO (binV BinOp.eql x68 (Value.int IntKind.i64 0)) fun x69 =>
        M.bind (guardM x69 true (M.ret a0)) fun x70 =>
        M.bind (guardM x69 true (F.granaryref21_Export_count x70)) fun x71 =>
        M.bind (guardM x69 true (optM (binV BinOp.lss x71 (Value.int IntKind.i64 512)))) fun x72 =>
        bindO (pickV x69 x72 (Value.bool false)) fun x73 =>
        condM x73 (
          drewM <|
          getM fun _ =>
          bindO (nilChk a0) fun x75 =>
          bindO (fieldA 10 x75) fun x76 =>
          M.bind (rdM (ld1 x76)) fun x77 =>
          bindO (fieldA 9 x1) fun x78 =>
          M.bind (rdM (ld1 x78)) fun x79 =>
          bindO (fieldA 10 x1) fun x80 =>
          M.bind (rdM (ld1 x80)) fun x81 =>
          bindO (buildV #[(Value.string ByteArray.empty), (Value.string ByteArray.empty)] [(0, 1, x79), (1, 1, x81)]) fun x82 =>
          M.bind (bslM 78 1 (Builtin.zeroCells #[(Value.string ByteArray.empty), (Value.string ByteArray.empty)] 1) [(0, 2, x82)]) fun x83 =>
          getM fun W84 =>
          M.bind (appM 78 2 32 #[(Value.string ByteArray.empty), (Value.string ByteArray.empty)] x77 x83) fun x85 =>
          getM fun _ =>
          bindO (nilChk a0) fun x87 =>
          bindO (fieldA 10 x87) fun x88 =>
          M.bind (stM 1 x88 x85) fun _ =>
          getM fun _ =>
          reqM (ld1 x76 W84 = some x77) <|
          drewM <|
          getM fun _ =>
          bindO (nilChk a0) fun x92 =>
          bindO (fieldA 11 x92) fun x93 =>
          M.bind (rdM (ld1 x93)) fun x94 =>
          bindO (nilChk a0) fun x95 =>
          bindO (fieldA 7 x95) fun x96 =>
          M.bind (rdM (ld1 x96)) fun x97 =>
          M.bind (bslM 3 1 (Builtin.zeroCells #[(Value.int IntKind.i64 0)] 1) [(0, 1, x97)]) fun x98 =>
          getM fun W99 =>
          M.bind (appM 3 1 8 #[(Value.int IntKind.i64 0)] x94 x98) fun x100 =>
          getM fun _ =>
          bindO (nilChk a0) fun x102 =>
          bindO (fieldA 11 x102) fun x103 =>
          M.bind (stM 1 x103 x100) fun _ =>
          getM fun _ =>
          reqM (ld1 x93 W99 = some x94) <|
          M.bind (F.granaryref21_Export_question a0) fun x106 =>
          M.ret (Value.tuple #[x106, (Value.int IntKind.i64 0)])) (
          M.bind (F.granaryref21_Export_leave a0) fun x107 =>
          M.ret (Value.tuple #[x107, (Value.int IntKind.i64 0)])))))
def F.granaryref21_Export_Take.plan : Plan := (seq leaf (seq (seq leaf (cond (seq leaf leaf) leaf)) (seq (seq leaf (cond (seq leaf leaf) leaf)) (seq (body (seq leaf (cond (seq leaf leaf) (seq leaf (cond (seq leaf (seq leaf (seq leaf leaf))) leaf))))) (seq leaf leaf)))))
theorem F.granaryref21_Export_Take.lift : LiftOk Tryd.prog 38 (ap2 F.granaryref21_Export_Take) :=
  lift2 (g := evFn Tryd.prog (tcons 54 (ap1 F.granaryref21_Export_question) (tcons 58 (ap1 F.granaryref21_Export_count) (tcons 59 (ap1 F.granaryref21_Export_goOn) (tcons 60 (ap1 F.granaryref21_Export_leave) tnil)))) tnil 38 Tryd.f38 F.granaryref21_Export_Take.plan) (evFn_sound (tcons_ok F.granaryref21_Export_question.lift (tcons_ok F.granaryref21_Export_count.lift (tcons_ok F.granaryref21_Export_goOn.lift (tcons_ok F.granaryref21_Export_leave.lift tnil_ok)))) tnil_ok Tryd.func38 (by kernel_rfl)) (fun x0 x1 => by kernel_rfl)

/-- (*granary/export.Export).Tick -/
noncomputable def F.export_Export_Tick (a0 : Value) : M Value :=
  bindO (eqV (EqSh.one EqK.ptr) a0 (Value.pointer none)) fun x1 =>
  condM x1 (
    M.ret (Value.tuple #[(Value.slice none 0 0), (Value.int IntKind.i64 2)])) (
    bindO (nilChk a0) fun x2 =>
    bindO (fieldA 2 x2) fun x3 =>
    M.bind (rdM (ld1 x3)) fun x4 =>
    bindO (binV BinOp.add x4 (Value.int IntKind.i64 1)) fun x5 =>
    bindO (nilChk a0) fun x6 =>
    bindO (fieldA 2 x6) fun x7 =>
    M.bind (stM 1 x7 x5) fun _ =>
    drewM <|
    bindO (nilChk a0) fun x9 =>
    bindO (fieldA 5 x9) fun x10 =>
    M.bind (rdM (ld1 x10)) fun x11 =>
    M.bind (guardM x11 true (M.ret a0)) fun x12 =>
    M.bind (guardM x11 true (optM (nilChk x12))) fun x13 =>
    M.bind (guardM x11 true (optM (fieldA 2 x13))) fun x14 =>
    M.bind (guardM x11 true (rdM (ld1 x14))) fun x15 =>
    M.bind (guardM x11 true (M.ret a0)) fun x16 =>
    M.bind (guardM x11 true (optM (nilChk x16))) fun x17 =>
    M.bind (guardM x11 true (optM (fieldA 9 x17))) fun x18 =>
    M.bind (guardM x11 true (rdM (ld1 x18))) fun x19 =>
    M.bind (guardM x11 true (optM (binV BinOp.eql x15 x19))) fun x20 =>
    bindO (pickV x11 x20 (Value.bool false)) fun x21 =>
    condM x21 (
      M.bind (F.export_Export_leave a0) fun x22 =>
      M.ret (Value.tuple #[x22, (Value.int IntKind.i64 0)])) (
      M.ret (Value.tuple #[(Value.slice none 0 0), (Value.int IntKind.i64 0)])))
def F.export_Export_Tick.plan : Plan := (seq leaf (seq (seq leaf (cond (seq leaf leaf) leaf)) (seq leaf (seq (seq leaf (cond (seq leaf leaf) leaf)) (seq leaf leaf)))))
theorem F.export_Export_Tick.lift : LiftOk Tryd.prog 39 (ap1 F.export_Export_Tick) :=
  lift1 (g := evFn Tryd.prog (tcons 56 (ap1 F.export_Export_leave) tnil) tnil 39 Tryd.f39 F.export_Export_Tick.plan) (evFn_sound (tcons_ok F.export_Export_leave.lift tnil_ok) tnil_ok Tryd.func39 (by kernel_rfl)) (fun x0 => by kernel_rfl)

/-- (*granary/granaryref21.Export).Tick -/
noncomputable def F.granaryref21_Export_Tick (a0 : Value) : M Value :=
  bindO (eqV (EqSh.one EqK.ptr) a0 (Value.pointer none)) fun x1 =>
  condM x1 (
    M.ret (Value.tuple #[(Value.slice none 0 0), (Value.int IntKind.i64 2)])) (
    bindO (nilChk a0) fun x2 =>
    bindO (fieldA 2 x2) fun x3 =>
    M.bind (rdM (ld1 x3)) fun x4 =>
    bindO (binV BinOp.add x4 (Value.int IntKind.i64 1)) fun x5 =>
    bindO (nilChk a0) fun x6 =>
    bindO (fieldA 2 x6) fun x7 =>
    M.bind (stM 1 x7 x5) fun _ =>
    drewM <|
    bindO (nilChk a0) fun x9 =>
    bindO (fieldA 5 x9) fun x10 =>
    M.bind (rdM (ld1 x10)) fun x11 =>
    M.bind (guardM x11 true (M.ret a0)) fun x12 =>
    M.bind (guardM x11 true (optM (nilChk x12))) fun x13 =>
    M.bind (guardM x11 true (optM (fieldA 9 x13))) fun x14 =>
    M.bind (guardM x11 true (rdM (ld1 x14))) fun x15 =>
    M.bind (guardM x11 true (M.ret a0)) fun x16 =>
    M.bind (guardM x11 true (optM (nilChk x16))) fun x17 =>
    M.bind (guardM x11 true (optM (fieldA 2 x17))) fun x18 =>
    M.bind (guardM x11 true (rdM (ld1 x18))) fun x19 =>
    M.bind (guardM x11 true (M.ret a0)) fun x20 =>
    M.bind (guardM x11 true (optM (nilChk x20))) fun x21 =>
    M.bind (guardM x11 true (optM (fieldA 1 x21))) fun x22 =>
    M.bind (guardM x11 true (rdM (ld1 x22))) fun x23 =>
    M.bind (guardM x11 true (optM (binV BinOp.sub x19 x23))) fun x24 =>
    M.bind (guardM x11 true (optM (binV BinOp.eql x15 x24))) fun x25 =>
    bindO (pickV x11 x25 (Value.bool false)) fun x26 =>
    condM x26 (
      M.bind (F.granaryref21_Export_leave a0) fun x27 =>
      M.ret (Value.tuple #[x27, (Value.int IntKind.i64 0)])) (
      M.ret (Value.tuple #[(Value.slice none 0 0), (Value.int IntKind.i64 0)])))
def F.granaryref21_Export_Tick.plan : Plan := (seq leaf (seq (seq leaf (cond (seq leaf leaf) leaf)) (seq leaf (seq (seq leaf (cond (seq leaf leaf) leaf)) (seq leaf leaf)))))
theorem F.granaryref21_Export_Tick.lift : LiftOk Tryd.prog 40 (ap1 F.granaryref21_Export_Tick) :=
  lift1 (g := evFn Tryd.prog (tcons 60 (ap1 F.granaryref21_Export_leave) tnil) tnil 40 Tryd.f40 F.granaryref21_Export_Tick.plan) (evFn_sound (tcons_ok F.granaryref21_Export_leave.lift tnil_ok) tnil_ok Tryd.func40 (by kernel_rfl)) (fun x0 => by kernel_rfl)

/-- granary/granarylaw21.sameMsgs -/
noncomputable def F.granarylaw21_sameMsgs (a0 a1 : Value) : M Value :=
  bindO (lenL a0) fun x1 =>
  bindO (lenL a1) fun x2 =>
  bindO (binV BinOp.neq x1 x2) fun x3 =>
  condM x3 (
    M.ret (Value.bool false)) (
    M.bind (loopM (fun l4 =>
      bindO (lenL a0) fun x5 =>
      bindO (binV BinOp.lss (getL l4 0) x5) fun x6 =>
      condM x6 (
        drewM <|
        bindO (idxA 11 a0 (getL l4 0)) fun x7 =>
        M.bind (rdM (ldA 11 x7)) fun x8 =>
        bindO (idxA 11 a1 (getL l4 0)) fun x9 =>
        M.bind (rdM (ldA 11 x9)) fun x10 =>
        bindO (neV (EqSh.offs [(EqK.int, 0), (EqK.int, 1), (EqK.int, 2), (EqK.int, 3), (EqK.int, 4), (EqK.int, 5), (EqK.int, 6), (EqK.int, 7), (EqK.int, 8), (EqK.str, 9), (EqK.str, 10)]) x8 x10) fun x11 =>
        condM x11 (
          M.ret (Out.ret (Value.bool false))) (
          bindO (binV BinOp.add (getL l4 0) (Value.int IntKind.i64 1)) fun x12 =>
          M.ret (Out.norm [x12]))) (
        M.ret (Out.exit 0 [(getL l4 0)]))) [(Value.int IntKind.i64 0)]) fun o14 =>
    outK o14 (fun _ => M.fail) (fun i15 _ =>
      bif Nat.beq i15 0 then (
        M.ret (Value.bool true)) else
      M.fail) (fun r16 => M.ret r16))
def F.granarylaw21_sameMsgs.plan : Plan := (seq leaf (seq (seq leaf (cond (seq leaf leaf) leaf)) (seq (seq leaf (body (loop [5] [4, 5, 11, 12, 13, 14, 15, 16, 17, 18, 19, 20, 21, 22, 23, 24, 25] [0] (seq (seq leaf (cond leaf leaf)) (seq (body (seq leaf (cond (seq leaf leaf) leaf))) leaf))))) (seq leaf leaf))))
theorem F.granarylaw21_sameMsgs.lift : LiftOk Tryd.prog 41 (ap2 F.granarylaw21_sameMsgs) :=
  lift2 (g := evFn Tryd.prog tnil tnil 41 Tryd.f41 F.granarylaw21_sameMsgs.plan) (evFn_sound tnil_ok tnil_ok Tryd.func41 (by kernel_rfl)) (fun x0 x1 => by kernel_rfl)

/-- (*granary/granarylaw21.desk).moves -/
noncomputable def F.granarylaw21_desk_moves (a0 a1 : Value) : M Value :=
  M.bind (newM 38 (Value.cells a1)) fun x1 =>
  M.bind (
    bindO (fieldA 0 x1) fun x2 =>
    M.bind (rdM (ld1 x2)) fun x3 =>
    bindO (binV BinOp.eql x3 (Value.int IntKind.i64 1)) fun x4 =>
    condM x4 (
      drewM <|
      bindO (nilChk a0) fun x5 =>
      bindO (fieldA 0 x5) fun x6 =>
      M.bind (rdM (ld1 x6)) fun x7 =>
      bindO (fieldA 2 x1) fun x8 =>
      M.bind (rdM (ld1 x8)) fun x9 =>
      M.bind (F.export_Export_Begin x7 x9) fun x10 =>
      bindO (extV 0 x10) fun x11 =>
      bindO (extV 1 x10) fun x12 =>
      drewM <|
      bindO (nilChk a0) fun x13 =>
      bindO (fieldA 1 x13) fun x14 =>
      M.bind (rdM (ld1 x14)) fun x15 =>
      bindO (fieldA 2 x1) fun x16 =>
      M.bind (rdM (ld1 x16)) fun x17 =>
      M.bind (F.granaryref21_Export_Begin x15 x17) fun x18 =>
      bindO (extV 0 x18) fun x19 =>
      bindO (extV 1 x18) fun x20 =>
      M.ret (Out.norm [x11, x19, x12, x20])) (
      bindO (binV BinOp.eql x3 (Value.int IntKind.i64 2)) fun x21 =>
      condM x21 (
        drewM <|
        bindO (nilChk a0) fun x22 =>
        bindO (fieldA 0 x22) fun x23 =>
        M.bind (rdM (ld1 x23)) fun x24 =>
        bindO (fieldA 3 x1) fun x25 =>
        M.bind (rdM (ldA 11 x25)) fun x26 =>
        M.bind (F.export_Export_Take x24 x26) fun x27 =>
        bindO (extV 0 x27) fun x28 =>
        bindO (extV 1 x27) fun x29 =>
        drewM <|
        bindO (nilChk a0) fun x30 =>
        bindO (fieldA 1 x30) fun x31 =>
        M.bind (rdM (ld1 x31)) fun x32 =>
        bindO (fieldA 3 x1) fun x33 =>
        M.bind (rdM (ldA 11 x33)) fun x34 =>
        M.bind (F.granaryref21_Export_Take x32 x34) fun x35 =>
        bindO (extV 0 x35) fun x36 =>
        bindO (extV 1 x35) fun x37 =>
        M.ret (Out.norm [x28, x36, x29, x37])) (
        bindO (binV BinOp.eql x3 (Value.int IntKind.i64 3)) fun x38 =>
        condM x38 (
          bindO (nilChk a0) fun x39 =>
          bindO (fieldA 0 x39) fun x40 =>
          M.bind (rdM (ld1 x40)) fun x41 =>
          M.bind (F.export_Export_Tick x41) fun x42 =>
          bindO (extV 0 x42) fun x43 =>
          bindO (extV 1 x42) fun x44 =>
          bindO (nilChk a0) fun x45 =>
          bindO (fieldA 1 x45) fun x46 =>
          M.bind (rdM (ld1 x46)) fun x47 =>
          M.bind (F.granaryref21_Export_Tick x47) fun x48 =>
          bindO (extV 0 x48) fun x49 =>
          bindO (extV 1 x48) fun x50 =>
          M.ret (Out.norm [x43, x49, x44, x50])) (
          M.ret (Out.norm [(Value.slice none 0 0), (Value.slice none 0 0), (Value.int IntKind.i64 0), (Value.int IntKind.i64 0)]))))) fun o52 =>
  outK o52 (fun l51 =>
    bindO (nilChk a0) fun x55 =>
    bindO (fieldA 3 x55) fun x56 =>
    M.bind (stM 1 x56 (getL l51 0)) fun _ =>
    M.bind (loopM (fun l58 =>
      bindO (lenL (getL l51 1)) fun x59 =>
      bindO (binV BinOp.lss (getL l58 0) x59) fun x60 =>
      condM x60 (
        drewM <|
        getM fun _ =>
        bindO (nilChk a0) fun x62 =>
        bindO (fieldA 2 x62) fun x63 =>
        M.bind (rdM (ld1 x63)) fun x64 =>
        bindO (idxA 11 (getL l51 1) (getL l58 0)) fun x65 =>
        M.bind (rdM (ldA 11 x65)) fun x66 =>
        M.bind (bslM 36 1 (Builtin.zeroCells #[(Value.int IntKind.i64 0), (Value.int IntKind.i64 0), (Value.int IntKind.i64 0), (Value.int IntKind.i64 0), (Value.int IntKind.i64 0), (Value.int IntKind.i64 0), (Value.int IntKind.i64 0), (Value.int IntKind.i64 0), (Value.int IntKind.i64 0), (Value.string ByteArray.empty), (Value.string ByteArray.empty)] 1) [(0, 11, x66)]) fun x67 =>
        getM fun W68 =>
        M.bind (appM 36 11 104 #[(Value.int IntKind.i64 0), (Value.int IntKind.i64 0), (Value.int IntKind.i64 0), (Value.int IntKind.i64 0), (Value.int IntKind.i64 0), (Value.int IntKind.i64 0), (Value.int IntKind.i64 0), (Value.int IntKind.i64 0), (Value.int IntKind.i64 0), (Value.string ByteArray.empty), (Value.string ByteArray.empty)] x64 x67) fun x69 =>
        getM fun _ =>
        bindO (nilChk a0) fun x71 =>
        bindO (fieldA 2 x71) fun x72 =>
        M.bind (stM 1 x72 x69) fun _ =>
        getM fun _ =>
        reqM (ld1 x63 W68 = some x64) <|
        bindO (binV BinOp.add (getL l58 0) (Value.int IntKind.i64 1)) fun x75 =>
        M.ret (Out.norm [x75])) (
        M.ret (Out.exit 1 [(getL l58 0)]))) [(Value.int IntKind.i64 0)]) fun o77 =>
    outK o77 (fun _ => M.fail) (fun i78 _ =>
      bif Nat.beq i78 1 then (
        M.bind (F.granarylaw21_sameMsgs (getL l51 0) (getL l51 1)) fun x80 =>
        M.bind (guardM x80 true (M.ret (getL l51 2))) fun x81 =>
        M.bind (guardM x80 true (F.granarylaw21_num x81)) fun x82 =>
        M.bind (guardM x80 true (M.ret (getL l51 3))) fun x83 =>
        M.bind (guardM x80 true (optM (binV BinOp.eql x82 x83))) fun x84 =>
        bindO (pickV x80 x84 (Value.bool false)) fun x85 =>
        M.ret x85) else
      M.fail) (fun r79 => M.ret r79)) (fun _ _ =>
    M.fail) (fun r54 => M.ret r54)
def F.granarylaw21_desk_moves.plan : Plan := (seq leaf (seq leaf (seq leaf (seq leaf (seq leaf (fork [5, 6, 7, 8] [5, 6, 7, 8, 10, 11, 12, 13, 14, 15, 16, 17, 18, 19, 20, 21, 22, 23, 24, 25, 26, 27, 28, 29, 30, 31, 32, 33, 34, 35, 36, 37, 38, 39, 40, 41, 42, 43, 44, 45, 46, 47, 48, 49, 50, 51, 52, 53, 54, 55, 56, 57, 58, 59, 60, 61, 62, 63, 64, 65, 66, 67, 68, 69, 70, 71, 72, 73] [] (seq leaf (body (seq leaf (cond (seq leaf leaf) (seq leaf (cond (seq leaf leaf) (seq leaf (cond (seq leaf leaf) leaf)))))))) (seq leaf (seq (seq leaf (body (loop [9] [9, 78, 79, 80, 81, 82, 83, 84, 85, 86, 87, 88, 89, 90, 91, 92, 93, 94, 95, 96] [1] (seq (seq leaf (cond leaf leaf)) (seq (body leaf) leaf))))) (seq leaf leaf)))))))))
theorem F.granarylaw21_desk_moves.lift : LiftOk Tryd.prog 21 (ap2 F.granarylaw21_desk_moves) :=
  lift2 (g := evFn Tryd.prog (tcons 15 (ap1 F.granarylaw21_num) (tcons 35 (ap2 F.export_Export_Begin) (tcons 36 (ap2 F.granaryref21_Export_Begin) (tcons 37 (ap2 F.export_Export_Take) (tcons 38 (ap2 F.granaryref21_Export_Take) (tcons 39 (ap1 F.export_Export_Tick) (tcons 40 (ap1 F.granaryref21_Export_Tick) (tcons 41 (ap2 F.granarylaw21_sameMsgs) tnil)))))))) tnil 21 Tryd.f21 F.granarylaw21_desk_moves.plan) (evFn_sound (tcons_ok F.granarylaw21_num.lift (tcons_ok F.export_Export_Begin.lift (tcons_ok F.granaryref21_Export_Begin.lift (tcons_ok F.export_Export_Take.lift (tcons_ok F.granaryref21_Export_Take.lift (tcons_ok F.export_Export_Tick.lift (tcons_ok F.granaryref21_Export_Tick.lift (tcons_ok F.granarylaw21_sameMsgs.lift tnil_ok)))))))) tnil_ok Tryd.func21 (by kernel_rfl)) (fun x0 x1 => by kernel_rfl)

/-- granary/granarylaw21.answer -/
noncomputable def F.granarylaw21_answer (a0 a1 : Value) : M Value :=
  M.bind (newM 38 (Value.cells a1)) fun x1 =>
  M.bind (newM 36 #[(Value.int IntKind.i64 0), (Value.int IntKind.i64 0), (Value.int IntKind.i64 0), (Value.int IntKind.i64 0), (Value.int IntKind.i64 0), (Value.int IntKind.i64 0), (Value.int IntKind.i64 0), (Value.int IntKind.i64 0), (Value.int IntKind.i64 0), (Value.string ByteArray.empty), (Value.string ByteArray.empty)]) fun x2 =>
  bindO (lenL a0) fun x3 =>
  bindO (binV BinOp.sub x3 (Value.int IntKind.i64 1)) fun x4 =>
  bindO (fieldA 2 x1) fun x5 =>
  M.bind (rdM (ld1 x5)) fun x6 =>
  bindO (binV BinOp.sub x4 x6) fun x7 =>
  bindO (binV BinOp.lss x7 (Value.int IntKind.i64 0)) fun x8 =>
  M.bind (guardM x8 false (M.ret x7)) fun x9 =>
  M.bind (guardM x8 false (M.ret a0)) fun x10 =>
  M.bind (guardM x8 false (optM (lenL x10))) fun x11 =>
  M.bind (guardM x8 false (optM (binV BinOp.geq x9 x11))) fun x12 =>
  bindO (pickV x8 (Value.bool true) x12) fun x13 =>
  condM x13 (
    bindO (buildV #[(Value.int IntKind.i64 0), (Value.int IntKind.i64 0), (Value.int IntKind.i64 0), (Value.int IntKind.i64 0), (Value.int IntKind.i64 0), (Value.int IntKind.i64 0), (Value.int IntKind.i64 0), (Value.int IntKind.i64 0), (Value.int IntKind.i64 0), (Value.string ByteArray.empty), (Value.string ByteArray.empty)] []) fun x14 =>
    M.bind (stM 11 x2 x14) fun _ =>
    M.bind (rdM (ldA 11 x2)) fun x16 =>
    M.ret (Value.tuple #[x16, (Value.bool false)])) (
    bindO (idxA 11 a0 x7) fun x17 =>
    M.bind (rdM (ldA 11 x17)) fun x18 =>
    M.bind (newM 36 #[(Value.int IntKind.i64 0), (Value.int IntKind.i64 0), (Value.int IntKind.i64 0), (Value.int IntKind.i64 0), (Value.int IntKind.i64 0), (Value.int IntKind.i64 0), (Value.int IntKind.i64 0), (Value.int IntKind.i64 0), (Value.int IntKind.i64 0), (Value.string ByteArray.empty), (Value.string ByteArray.empty)]) fun x19 =>
    M.bind (stM 11 x19 x18) fun _ =>
    bindO (fieldA 2 x19) fun x21 =>
    M.bind (rdM (ld1 x21)) fun x22 =>
    bindO (fieldA 1 x19) fun x23 =>
    M.bind (rdM (ld1 x23)) fun x24 =>
    bindO (fieldA 3 x19) fun x25 =>
    M.bind (rdM (ld1 x25)) fun x26 =>
    bindO (fieldA 3 x1) fun x27 =>
    bindO (fieldA 3 x27) fun x28 =>
    M.bind (rdM (ld1 x28)) fun x29 =>
    bindO (binV BinOp.add x26 x29) fun x30 =>
    bindO (fieldA 5 x19) fun x31 =>
    M.bind (rdM (ld1 x31)) fun x32 =>
    bindO (fieldA 3 x1) fun x33 =>
    bindO (fieldA 5 x33) fun x34 =>
    M.bind (rdM (ld1 x34)) fun x35 =>
    bindO (binV BinOp.add x32 x35) fun x36 =>
    bindO (fieldA 6 x19) fun x37 =>
    M.bind (rdM (ld1 x37)) fun x38 =>
    bindO (fieldA 3 x1) fun x39 =>
    bindO (fieldA 6 x39) fun x40 =>
    M.bind (rdM (ld1 x40)) fun x41 =>
    bindO (binV BinOp.add x38 x41) fun x42 =>
    bindO (fieldA 7 x19) fun x43 =>
    M.bind (rdM (ld1 x43)) fun x44 =>
    bindO (fieldA 3 x1) fun x45 =>
    bindO (fieldA 7 x45) fun x46 =>
    M.bind (rdM (ld1 x46)) fun x47 =>
    bindO (binV BinOp.add x44 x47) fun x48 =>
    bindO (fieldA 3 x1) fun x49 =>
    bindO (fieldA 8 x49) fun x50 =>
    M.bind (rdM (ld1 x50)) fun x51 =>
    bindO (fieldA 3 x1) fun x52 =>
    bindO (fieldA 9 x52) fun x53 =>
    M.bind (rdM (ld1 x53)) fun x54 =>
    bindO (fieldA 3 x1) fun x55 =>
    bindO (fieldA 10 x55) fun x56 =>
    M.bind (rdM (ld1 x56)) fun x57 =>
    bindO (buildV #[(Value.int IntKind.i64 0), (Value.int IntKind.i64 0), (Value.int IntKind.i64 0), (Value.int IntKind.i64 0), (Value.int IntKind.i64 0), (Value.int IntKind.i64 0), (Value.int IntKind.i64 0), (Value.int IntKind.i64 0), (Value.int IntKind.i64 0), (Value.string ByteArray.empty), (Value.string ByteArray.empty)] [(0, 1, (Value.int IntKind.i64 16)), (1, 1, x22), (2, 1, x24), (3, 1, x30), (5, 1, x36), (6, 1, x42), (7, 1, x48), (8, 1, x51), (9, 1, x54), (10, 1, x57)]) fun x58 =>
    M.bind (stM 11 x2 x58) fun _ =>
    M.bind (rdM (ldA 11 x2)) fun x60 =>
    M.ret (Value.tuple #[x60, (Value.bool true)]))
def F.granarylaw21_answer.plan : Plan := (seq leaf (seq leaf (seq (seq leaf (cond (seq leaf leaf) leaf)) (seq leaf (seq leaf leaf)))))
theorem F.granarylaw21_answer.lift : LiftOk Tryd.prog 22 (ap2 F.granarylaw21_answer) :=
  lift2 (g := evFn Tryd.prog tnil tnil 22 Tryd.f22 F.granarylaw21_answer.plan) (evFn_sound tnil_ok tnil_ok Tryd.func22 (by kernel_rfl)) (fun x0 x1 => by kernel_rfl)

/-- (*granary/export.Export).Busy -/
noncomputable def F.export_Export_Busy (a0 : Value) : M Value :=
  bindO (neV (EqSh.one EqK.ptr) a0 (Value.pointer none)) fun x1 =>
  M.bind (guardM x1 true (M.ret a0)) fun x2 =>
  M.bind (guardM x1 true (optM (nilChk x2))) fun x3 =>
  M.bind (guardM x1 true (optM (fieldA 5 x3))) fun x4 =>
  M.bind (guardM x1 true (rdM (ld1 x4))) fun x5 =>
  bindO (pickV x1 x5 (Value.bool false)) fun x6 =>
  M.ret x6
def F.export_Export_Busy.plan : Plan := (seq leaf (seq leaf leaf))
theorem F.export_Export_Busy.lift : LiftOk Tryd.prog 23 (ap1 F.export_Export_Busy) :=
  lift1 (g := evFn Tryd.prog tnil tnil 23 Tryd.f23 F.export_Export_Busy.plan) (evFn_sound tnil_ok tnil_ok Tryd.func23 (by kernel_rfl)) (fun x0 => by kernel_rfl)

/-- (*granary/granaryref21.Export).Busy -/
noncomputable def F.granaryref21_Export_Busy (a0 : Value) : M Value :=
  bindO (eqV (EqSh.one EqK.ptr) a0 (Value.pointer none)) fun x1 =>
  condM x1 (
    M.ret (Value.bool false)) (
    bindO (nilChk a0) fun x2 =>
    bindO (fieldA 5 x2) fun x3 =>
    M.bind (rdM (ld1 x3)) fun x4 =>
    M.ret x4)
def F.granaryref21_Export_Busy.plan : Plan := (seq leaf (seq (seq leaf (cond (seq leaf leaf) leaf)) (seq leaf leaf)))
theorem F.granaryref21_Export_Busy.lift : LiftOk Tryd.prog 24 (ap1 F.granaryref21_Export_Busy) :=
  lift1 (g := evFn Tryd.prog tnil tnil 24 Tryd.f24 F.granaryref21_Export_Busy.plan) (evFn_sound tnil_ok tnil_ok Tryd.func24 (by kernel_rfl)) (fun x0 => by kernel_rfl)

/-- (*granary/export.Export).Report -/
noncomputable def F.export_Export_Report (a0 : Value) : M Value :=
  M.bind (newM 46 #[(Value.int IntKind.i64 0), (Value.int IntKind.i64 0), (Value.slice none 0 0), (Value.slice none 0 0)]) fun x1 =>
  bindO (eqV (EqSh.one EqK.ptr) a0 (Value.pointer none)) fun x2 =>
  condM x2 (
    bindO (buildV #[(Value.int IntKind.i64 0), (Value.int IntKind.i64 0), (Value.slice none 0 0), (Value.slice none 0 0)] []) fun x3 =>
    M.bind (stM 4 x1 x3) fun _ =>
    M.bind (rdM (ldA 4 x1)) fun x5 =>
    M.ret (Value.tuple #[x5, (Value.int IntKind.i64 2)])) (
    bindO (nilChk a0) fun x6 =>
    bindO (fieldA 12 x6) fun x7 =>
    M.bind (rdM (ld1 x7)) fun x8 =>
    bindO (notV x8) fun x9 =>
    condM x9 (
      bindO (buildV #[(Value.int IntKind.i64 0), (Value.int IntKind.i64 0), (Value.slice none 0 0), (Value.slice none 0 0)] []) fun x10 =>
      M.bind (stM 4 x1 x10) fun _ =>
      M.bind (rdM (ldA 4 x1)) fun x12 =>
      M.ret (Value.tuple #[x12, (Value.int IntKind.i64 151)])) (
      bindO (nilChk a0) fun x13 =>
      bindO (fieldA 13 x13) fun x14 =>
      M.bind (rdM (ldA 4 x14)) fun x15 =>
      M.bind (newM 46 #[(Value.int IntKind.i64 0), (Value.int IntKind.i64 0), (Value.slice none 0 0), (Value.slice none 0 0)]) fun x16 =>
      M.bind (stM 4 x16 x15) fun _ =>
      bindO (nilChk a0) fun x18 =>
      bindO (fieldA 13 x18) fun x19 =>
      bindO (fieldA 2 x19) fun x20 =>
      M.bind (rdM (ld1 x20)) fun x21 =>
      bindO (lenL x21) fun x22 =>
      M.bind (mksM 78 2 32 #[(Value.string ByteArray.empty), (Value.string ByteArray.empty)] x22 x22) fun x23 =>
      bindO (fieldA 2 x16) fun x24 =>
      M.bind (stM 1 x24 x23) fun _ =>
      drewM <|
      bindO (fieldA 2 x16) fun x26 =>
      M.bind (rdM (ld1 x26)) fun x27 =>
      bindO (nilChk a0) fun x28 =>
      bindO (fieldA 13 x28) fun x29 =>
      bindO (fieldA 2 x29) fun x30 =>
      M.bind (rdM (ld1 x30)) fun x31 =>
      M.bind (cpyM 2 x27 x31) fun _ =>
      bindO (nilChk a0) fun x33 =>
      bindO (fieldA 13 x33) fun x34 =>
      bindO (fieldA 3 x34) fun x35 =>
      M.bind (rdM (ld1 x35)) fun x36 =>
      bindO (lenL x36) fun x37 =>
      M.bind (mksM 3 1 8 #[(Value.int IntKind.i64 0)] x37 x37) fun x38 =>
      bindO (fieldA 3 x16) fun x39 =>
      M.bind (stM 1 x39 x38) fun _ =>
      drewM <|
      bindO (fieldA 3 x16) fun x41 =>
      M.bind (rdM (ld1 x41)) fun x42 =>
      bindO (nilChk a0) fun x43 =>
      bindO (fieldA 13 x43) fun x44 =>
      bindO (fieldA 3 x44) fun x45 =>
      M.bind (rdM (ld1 x45)) fun x46 =>
      M.bind (cpyM 1 x42 x46) fun _ =>
      M.bind (rdM (ldA 4 x16)) fun x48 =>
      M.bind (stM 4 x1 x48) fun _ =>
      M.bind (rdM (ldA 4 x1)) fun x50 =>
      M.ret (Value.tuple #[x50, (Value.int IntKind.i64 0)])))
def F.export_Export_Report.plan : Plan := (seq leaf (seq (body (seq leaf (cond (seq leaf leaf) (seq leaf (cond (seq leaf leaf) leaf))))) (seq leaf (seq leaf (seq leaf (seq leaf (seq leaf (seq leaf leaf))))))))
theorem F.export_Export_Report.lift : LiftOk Tryd.prog 12 (ap1 F.export_Export_Report) :=
  lift1 (g := evFn Tryd.prog tnil tnil 12 Tryd.f12 F.export_Export_Report.plan) (evFn_sound tnil_ok tnil_ok Tryd.func12 (by kernel_rfl)) (fun x0 => by kernel_rfl)

/-- (*granary/granaryref21.Export).Report -/
noncomputable def F.granaryref21_Export_Report (a0 : Value) : M Value :=
  M.bind (newM 46 #[(Value.int IntKind.i64 0), (Value.int IntKind.i64 0), (Value.slice none 0 0), (Value.slice none 0 0)]) fun x1 =>
  bindO (eqV (EqSh.one EqK.ptr) a0 (Value.pointer none)) fun x2 =>
  condM x2 (
    bindO (buildV #[(Value.int IntKind.i64 0), (Value.int IntKind.i64 0), (Value.slice none 0 0), (Value.slice none 0 0)] []) fun x3 =>
    M.bind (stM 4 x1 x3) fun _ =>
    M.bind (rdM (ldA 4 x1)) fun x5 =>
    M.ret (Value.tuple #[x5, (Value.int IntKind.i64 2)])) (
    bindO (nilChk a0) fun x6 =>
    bindO (fieldA 6 x6) fun x7 =>
    M.bind (rdM (ld1 x7)) fun x8 =>
    bindO (notV x8) fun x9 =>
    condM x9 (
      bindO (buildV #[(Value.int IntKind.i64 0), (Value.int IntKind.i64 0), (Value.slice none 0 0), (Value.slice none 0 0)] []) fun x10 =>
      M.bind (stM 4 x1 x10) fun _ =>
      M.bind (rdM (ldA 4 x1)) fun x12 =>
      M.ret (Value.tuple #[x12, (Value.int IntKind.i64 151)])) (
      drewM <|
      getM fun _ =>
      bindO (nilChk a0) fun x14 =>
      bindO (fieldA 13 x14) fun x15 =>
      bindO (fieldA 0 x15) fun x16 =>
      M.bind (rdM (ld1 x16)) fun x17 =>
      bindO (nilChk a0) fun x18 =>
      bindO (fieldA 13 x18) fun x19 =>
      bindO (fieldA 1 x19) fun x20 =>
      M.bind (rdM (ld1 x20)) fun x21 =>
      bindO (buildV #[(Value.int IntKind.i64 0), (Value.int IntKind.i64 0), (Value.slice none 0 0), (Value.slice none 0 0)] [(0, 1, x17), (1, 1, x21)]) fun x22 =>
      M.bind (newM 46 #[(Value.int IntKind.i64 0), (Value.int IntKind.i64 0), (Value.slice none 0 0), (Value.slice none 0 0)]) fun x23 =>
      getM fun W24 =>
      M.bind (stM 4 x23 x22) fun _ =>
      getM fun _ =>
      reqM (ld1 x16 W24 = some x17) <|
      reqM (ld1 x20 W24 = some x21) <|
      M.bind (loopM (fun l27 =>
        bindO (nilChk a0) fun x28 =>
        bindO (fieldA 13 x28) fun x29 =>
        bindO (fieldA 2 x29) fun x30 =>
        M.bind (rdM (ld1 x30)) fun x31 =>
        bindO (lenL x31) fun x32 =>
        bindO (binV BinOp.lss (getL l27 0) x32) fun x33 =>
        condM x33 (
          drewM <|
          getM fun _ =>
          bindO (fieldA 2 x23) fun x35 =>
          M.bind (rdM (ld1 x35)) fun x36 =>
          bindO (nilChk a0) fun x37 =>
          bindO (fieldA 13 x37) fun x38 =>
          bindO (fieldA 2 x38) fun x39 =>
          M.bind (rdM (ld1 x39)) fun x40 =>
          bindO (idxA 2 x40 (getL l27 0)) fun x41 =>
          M.bind (rdM (ldA 2 x41)) fun x42 =>
          M.bind (bslM 78 1 (Builtin.zeroCells #[(Value.string ByteArray.empty), (Value.string ByteArray.empty)] 1) [(0, 2, x42)]) fun x43 =>
          getM fun W44 =>
          M.bind (appM 78 2 32 #[(Value.string ByteArray.empty), (Value.string ByteArray.empty)] x36 x43) fun x45 =>
          getM fun _ =>
          bindO (fieldA 2 x23) fun x47 =>
          M.bind (stM 1 x47 x45) fun _ =>
          getM fun _ =>
          reqM (ld1 x35 W44 = some x36) <|
          bindO (binV BinOp.add (getL l27 0) (Value.int IntKind.i64 1)) fun x50 =>
          M.ret (Out.norm [x50])) (
          M.ret (Out.exit 0 [(getL l27 0)]))) [(Value.int IntKind.i64 0)]) fun o52 =>
      outK o52 (fun _ => M.fail) (fun i53 _ =>
        bif Nat.beq i53 0 then (
          M.bind (loopM (fun l55 =>
            bindO (nilChk a0) fun x56 =>
            bindO (fieldA 13 x56) fun x57 =>
            bindO (fieldA 3 x57) fun x58 =>
            M.bind (rdM (ld1 x58)) fun x59 =>
            bindO (lenL x59) fun x60 =>
            bindO (binV BinOp.lss (getL l55 0) x60) fun x61 =>
            condM x61 (
              drewM <|
              getM fun _ =>
              bindO (fieldA 3 x23) fun x63 =>
              M.bind (rdM (ld1 x63)) fun x64 =>
              bindO (nilChk a0) fun x65 =>
              bindO (fieldA 13 x65) fun x66 =>
              bindO (fieldA 3 x66) fun x67 =>
              M.bind (rdM (ld1 x67)) fun x68 =>
              bindO (idxA 1 x68 (getL l55 0)) fun x69 =>
              M.bind (rdM (ld1 x69)) fun x70 =>
              M.bind (bslM 3 1 (Builtin.zeroCells #[(Value.int IntKind.i64 0)] 1) [(0, 1, x70)]) fun x71 =>
              getM fun W72 =>
              M.bind (appM 3 1 8 #[(Value.int IntKind.i64 0)] x64 x71) fun x73 =>
              getM fun _ =>
              bindO (fieldA 3 x23) fun x75 =>
              M.bind (stM 1 x75 x73) fun _ =>
              getM fun _ =>
              reqM (ld1 x63 W72 = some x64) <|
              bindO (binV BinOp.add (getL l55 0) (Value.int IntKind.i64 1)) fun x78 =>
              M.ret (Out.norm [x78])) (
              M.ret (Out.exit 2 [(getL l55 0)]))) [(Value.int IntKind.i64 0)]) fun o80 =>
          outK o80 (fun _ => M.fail) (fun i81 _ =>
            bif Nat.beq i81 2 then (
              M.bind (rdM (ldA 4 x23)) fun x83 =>
              M.bind (stM 4 x1 x83) fun _ =>
              M.bind (rdM (ldA 4 x1)) fun x85 =>
              M.ret (Value.tuple #[x85, (Value.int IntKind.i64 0)])) else
            M.fail) (fun r82 => M.ret r82)) else
        M.fail) (fun r54 => M.ret r54)))
def F.granaryref21_Export_Report.plan : Plan := (seq leaf (seq (seq leaf (cond (seq leaf leaf) leaf)) (seq (seq leaf (cond (seq leaf leaf) leaf)) (seq leaf (seq (seq leaf (body (loop [5] [5, 27, 28, 29, 30, 31, 32, 33, 34, 35, 36, 37, 38, 39, 40, 41, 42, 43, 44, 45, 46, 47, 48, 49] [0] (seq (seq leaf (cond leaf leaf)) (seq (body leaf) leaf))))) (seq (seq leaf (body (loop [6] [6, 50, 51, 52, 53, 54, 55, 56, 57, 58, 59, 60, 61, 62, 63, 64, 65, 66, 67, 68, 69, 70, 71, 72] [2] (seq (seq leaf (cond leaf leaf)) (seq (body leaf) leaf))))) (seq leaf leaf)))))))
theorem F.granaryref21_Export_Report.lift : LiftOk Tryd.prog 13 (ap1 F.granaryref21_Export_Report) :=
  lift1 (g := evFn Tryd.prog tnil tnil 13 Tryd.f13 F.granaryref21_Export_Report.plan) (evFn_sound tnil_ok tnil_ok Tryd.func13 (by kernel_rfl)) (fun x0 => by kernel_rfl)

/-- granary/granarylaw21.samePairs -/
noncomputable def F.granarylaw21_samePairs (a0 a1 : Value) : M Value :=
  bindO (lenL a0) fun x1 =>
  bindO (lenL a1) fun x2 =>
  bindO (binV BinOp.neq x1 x2) fun x3 =>
  condM x3 (
    M.ret (Value.bool false)) (
    M.bind (loopM (fun l4 =>
      bindO (lenL a0) fun x5 =>
      bindO (binV BinOp.lss (getL l4 0) x5) fun x6 =>
      condM x6 (
        drewM <|
        bindO (idxA 2 a0 (getL l4 0)) fun x7 =>
        M.bind (rdM (ldA 2 x7)) fun x8 =>
        bindO (idxA 2 a1 (getL l4 0)) fun x9 =>
        M.bind (rdM (ldA 2 x9)) fun x10 =>
        bindO (neV (EqSh.offs [(EqK.str, 0), (EqK.str, 1)]) x8 x10) fun x11 =>
        condM x11 (
          M.ret (Out.ret (Value.bool false))) (
          bindO (binV BinOp.add (getL l4 0) (Value.int IntKind.i64 1)) fun x12 =>
          M.ret (Out.norm [x12]))) (
        M.ret (Out.exit 0 [(getL l4 0)]))) [(Value.int IntKind.i64 0)]) fun o14 =>
    outK o14 (fun _ => M.fail) (fun i15 _ =>
      bif Nat.beq i15 0 then (
        M.ret (Value.bool true)) else
      M.fail) (fun r16 => M.ret r16))
def F.granarylaw21_samePairs.plan : Plan := (seq leaf (seq (seq leaf (cond (seq leaf leaf) leaf)) (seq (seq leaf (body (loop [5] [4, 5, 11, 12, 13, 14, 15, 16, 17, 18, 19, 20, 21, 22, 23, 24, 25] [0] (seq (seq leaf (cond leaf leaf)) (seq (body (seq leaf (cond (seq leaf leaf) leaf))) leaf))))) (seq leaf leaf))))
theorem F.granarylaw21_samePairs.lift : LiftOk Tryd.prog 27 (ap2 F.granarylaw21_samePairs) :=
  lift2 (g := evFn Tryd.prog tnil tnil 27 Tryd.f27 F.granarylaw21_samePairs.plan) (evFn_sound tnil_ok tnil_ok Tryd.func27 (by kernel_rfl)) (fun x0 x1 => by kernel_rfl)

/-- granary/granarylaw21.sameInts -/
noncomputable def F.granarylaw21_sameInts (a0 a1 : Value) : M Value :=
  bindO (lenL a0) fun x1 =>
  bindO (lenL a1) fun x2 =>
  bindO (binV BinOp.neq x1 x2) fun x3 =>
  condM x3 (
    M.ret (Value.bool false)) (
    M.bind (loopM (fun l4 =>
      bindO (lenL a0) fun x5 =>
      bindO (binV BinOp.lss (getL l4 0) x5) fun x6 =>
      condM x6 (
        drewM <|
        bindO (idxA 1 a0 (getL l4 0)) fun x7 =>
        M.bind (rdM (ld1 x7)) fun x8 =>
        bindO (idxA 1 a1 (getL l4 0)) fun x9 =>
        M.bind (rdM (ld1 x9)) fun x10 =>
        bindO (binV BinOp.neq x8 x10) fun x11 =>
        condM x11 (
          M.ret (Out.ret (Value.bool false))) (
          bindO (binV BinOp.add (getL l4 0) (Value.int IntKind.i64 1)) fun x12 =>
          M.ret (Out.norm [x12]))) (
        M.ret (Out.exit 0 [(getL l4 0)]))) [(Value.int IntKind.i64 0)]) fun o14 =>
    outK o14 (fun _ => M.fail) (fun i15 _ =>
      bif Nat.beq i15 0 then (
        M.ret (Value.bool true)) else
      M.fail) (fun r16 => M.ret r16))
def F.granarylaw21_sameInts.plan : Plan := (seq leaf (seq (seq leaf (cond (seq leaf leaf) leaf)) (seq (seq leaf (body (loop [5] [4, 5, 11, 12, 13, 14, 15, 16, 17, 18, 19, 20, 21, 22, 23, 24, 25] [0] (seq (seq leaf (cond leaf leaf)) (seq (body (seq leaf (cond (seq leaf leaf) leaf))) leaf))))) (seq leaf leaf))))
theorem F.granarylaw21_sameInts.lift : LiftOk Tryd.prog 28 (ap2 F.granarylaw21_sameInts) :=
  lift2 (g := evFn Tryd.prog tnil tnil 28 Tryd.f28 F.granarylaw21_sameInts.plan) (evFn_sound tnil_ok tnil_ok Tryd.func28 (by kernel_rfl)) (fun x0 x1 => by kernel_rfl)

/-- granary/granarylaw21.sameReport -/
noncomputable def F.granarylaw21_sameReport (a0 a1 : Value) : M Value :=
  M.bind (newM 46 (Value.cells a0)) fun x1 =>
  M.bind (newM 46 (Value.cells a1)) fun x2 =>
  bindO (fieldA 0 x1) fun x3 =>
  M.bind (rdM (ld1 x3)) fun x4 =>
  bindO (fieldA 0 x2) fun x5 =>
  M.bind (rdM (ld1 x5)) fun x6 =>
  bindO (binV BinOp.eql x4 x6) fun x7 =>
  M.bind (guardM x7 true (optM (fieldA 1 x1))) fun x8 =>
  M.bind (guardM x7 true (rdM (ld1 x8))) fun x9 =>
  M.bind (guardM x7 true (optM (fieldA 1 x2))) fun x10 =>
  M.bind (guardM x7 true (rdM (ld1 x10))) fun x11 =>
  M.bind (guardM x7 true (optM (binV BinOp.eql x9 x11))) fun x12 =>
  bindO (pickV x7 x12 (Value.bool false)) fun x13 =>
  M.bind (guardM x13 true (optM (fieldA 2 x1))) fun x14 =>
  M.bind (guardM x13 true (rdM (ld1 x14))) fun x15 =>
  M.bind (guardM x13 true (optM (fieldA 2 x2))) fun x16 =>
  M.bind (guardM x13 true (rdM (ld1 x16))) fun x17 =>
  M.bind (guardM x13 true (F.granarylaw21_samePairs x15 x17)) fun x18 =>
  bindO (pickV x13 x18 (Value.bool false)) fun x19 =>
  M.bind (guardM x19 true (optM (fieldA 3 x1))) fun x20 =>
  M.bind (guardM x19 true (rdM (ld1 x20))) fun x21 =>
  M.bind (guardM x19 true (optM (fieldA 3 x2))) fun x22 =>
  M.bind (guardM x19 true (rdM (ld1 x22))) fun x23 =>
  M.bind (guardM x19 true (F.granarylaw21_sameInts x21 x23)) fun x24 =>
  bindO (pickV x19 x24 (Value.bool false)) fun x25 =>
  M.ret x25
def F.granarylaw21_sameReport.plan : Plan := (seq leaf (seq leaf leaf))
theorem F.granarylaw21_sameReport.lift : LiftOk Tryd.prog 14 (ap2 F.granarylaw21_sameReport) :=
  lift2 (g := evFn Tryd.prog (tcons 27 (ap2 F.granarylaw21_samePairs) (tcons 28 (ap2 F.granarylaw21_sameInts) tnil)) tnil 14 Tryd.f14 F.granarylaw21_sameReport.plan) (evFn_sound (tcons_ok F.granarylaw21_samePairs.lift (tcons_ok F.granarylaw21_sameInts.lift tnil_ok)) tnil_ok Tryd.func14 (by kernel_rfl)) (fun x0 x1 => by kernel_rfl)

/-- (*granary/granarylaw21.desk).plays -/
noncomputable def F.granarylaw21_desk_plays (a0 a1 : Value) : M Value :=
  M.bind (newM 38 (Value.cells a1)) fun x1 =>
  bindO (nilChk a0) fun x2 =>
  bindO (fieldA 3 x2) fun x3 =>
  M.bind (stM 1 x3 (Value.slice none 0 0)) fun _ =>
  bindO (fieldA 0 x1) fun x5 =>
  M.bind (rdM (ld1 x5)) fun x6 =>
  M.bind (
    bindO (binV BinOp.eql x6 (Value.int IntKind.i64 1)) fun x7 =>
    condM x7 (
      M.ret (Out.norm [x7])) (
      bindO (binV BinOp.eql x6 (Value.int IntKind.i64 2)) fun x8 =>
      condM x8 (
        M.ret (Out.norm [x8])) (
        bindO (binV BinOp.eql x6 (Value.int IntKind.i64 3)) fun x9 =>
        M.ret (Out.norm [x9])))) fun o11 =>
  outK o11 (fun l10 =>
    condM (getL l10 0) (
      M.bind (rdM (ldA 14 x1)) fun x14 =>
      M.bind (F.granarylaw21_desk_moves a0 x14) fun x15 =>
      M.ret x15) (
      bindO (binV BinOp.eql x6 (Value.int IntKind.i64 6)) fun x16 =>
      condM x16 (
        M.bind (altM (ordO Tryd.prog (regOps Tryd.f10 8) 10 8) [
          ([5, 9, 10],
            bindO (nilChk a0) fun x18 =>
            bindO (fieldA 2 x18) fun x19 =>
            M.bind (rdM (ld1 x19)) fun x20 =>
            M.bind (rdM (ldA 14 x1)) fun x21 =>
            M.bind (F.granarylaw21_answer x20 x21) fun x22 =>
            bindO (extV 0 x22) fun x23 =>
            bindO (extV 1 x22) fun x24 =>
            M.bind (newM 36 #[(Value.int IntKind.i64 0), (Value.int IntKind.i64 0), (Value.int IntKind.i64 0), (Value.int IntKind.i64 0), (Value.int IntKind.i64 0), (Value.int IntKind.i64 0), (Value.int IntKind.i64 0), (Value.int IntKind.i64 0), (Value.int IntKind.i64 0), (Value.string ByteArray.empty), (Value.string ByteArray.empty)]) fun x25 =>
            M.bind (stM 11 x25 x23) fun _ =>
            M.ret [x25, x24]),
          ([9, 5, 10],
            getM fun _ =>
            bindO (nilChk a0) fun x28 =>
            bindO (fieldA 2 x28) fun x29 =>
            M.bind (rdM (ld1 x29)) fun x30 =>
            M.bind (rdM (ldA 14 x1)) fun x31 =>
            M.bind (newM 36 #[(Value.int IntKind.i64 0), (Value.int IntKind.i64 0), (Value.int IntKind.i64 0), (Value.int IntKind.i64 0), (Value.int IntKind.i64 0), (Value.int IntKind.i64 0), (Value.int IntKind.i64 0), (Value.int IntKind.i64 0), (Value.int IntKind.i64 0), (Value.string ByteArray.empty), (Value.string ByteArray.empty)]) fun x32 =>
            getM fun W33 =>
            M.bind (F.granarylaw21_answer x30 x31) fun x34 =>
            getM fun _ =>
            bindO (extV 0 x34) fun x36 =>
            bindO (extV 1 x34) fun x37 =>
            M.bind (stM 11 x32 x36) fun _ =>
            getM fun _ =>
            reqM (ld1 x29 W33 = some x30) <|
            reqM (ldA 14 x1 W33 = some x31) <|
            M.ret [x32, x37])]) fun l17 =>
        bindO (notV (getL l17 1)) fun x40 =>
        M.bind (guardM x40 false (M.ret a0)) fun x41 =>
        M.bind (guardM x40 false (rdM (ldA 11 (getL l17 0)))) fun x42 =>
        M.bind (guardM x40 false (optM (buildV #[(Value.int IntKind.i64 0), (Value.int IntKind.i64 0), (Value.int IntKind.i64 0), (Value.int IntKind.i64 0), (Value.int IntKind.i64 0), (Value.int IntKind.i64 0), (Value.int IntKind.i64 0), (Value.int IntKind.i64 0), (Value.int IntKind.i64 0), (Value.int IntKind.i64 0), (Value.int IntKind.i64 0), (Value.int IntKind.i64 0), (Value.string ByteArray.empty), (Value.string ByteArray.empty)] [(0, 1, (Value.int IntKind.i64 2)), (3, 11, x42)]))) fun x43 =>
        M.bind (guardM x40 false (F.granarylaw21_desk_moves x41 x43)) fun x44 =>
        bindO (pickV x40 (Value.bool true) x44) fun x45 =>
        M.ret x45) (
        bindO (binV BinOp.eql x6 (Value.int IntKind.i64 4)) fun x46 =>
        condM x46 (
          drewM <|
          getM fun W47 =>
          bindO (nilChk a0) fun x48 =>
          bindO (fieldA 0 x48) fun x49 =>
          M.bind (rdM (ld1 x49)) fun x50 =>
          M.bind (F.export_Export_Busy x50) fun x51 =>
          getM fun _ =>
          bindO (nilChk a0) fun x53 =>
          bindO (fieldA 1 x53) fun x54 =>
          M.bind (rdM (ld1 x54)) fun x55 =>
          M.bind (F.granaryref21_Export_Busy x55) fun x56 =>
          getM fun _ =>
          bindO (eqV (EqSh.one EqK.bool) x51 x56) fun x58 =>
          reqM (ld1 x54 W47 = some x55) <|
          M.ret x58) (
          bindO (binV BinOp.eql x6 (Value.int IntKind.i64 5)) fun x59 =>
          condM x59 (
            bindO (nilChk a0) fun x60 =>
            bindO (fieldA 0 x60) fun x61 =>
            M.bind (rdM (ld1 x61)) fun x62 =>
            M.bind (F.export_Export_Report x62) fun x63 =>
            bindO (extV 0 x63) fun x64 =>
            bindO (extV 1 x63) fun x65 =>
            M.bind (newM 46 #[(Value.int IntKind.i64 0), (Value.int IntKind.i64 0), (Value.slice none 0 0), (Value.slice none 0 0)]) fun x66 =>
            M.bind (stM 4 x66 x64) fun _ =>
            bindO (nilChk a0) fun x68 =>
            bindO (fieldA 1 x68) fun x69 =>
            M.bind (rdM (ld1 x69)) fun x70 =>
            M.bind (F.granaryref21_Export_Report x70) fun x71 =>
            bindO (extV 0 x71) fun x72 =>
            bindO (extV 1 x71) fun x73 =>
            M.bind (newM 46 #[(Value.int IntKind.i64 0), (Value.int IntKind.i64 0), (Value.slice none 0 0), (Value.slice none 0 0)]) fun x74 =>
            M.bind (stM 4 x74 x72) fun _ =>
            M.bind (rdM (ldA 4 x66)) fun x76 =>
            M.bind (rdM (ldA 4 x74)) fun x77 =>
            M.bind (F.granarylaw21_sameReport x76 x77) fun x78 =>
            M.bind (guardM x78 true (M.ret x65)) fun x79 =>
            M.bind (guardM x78 true (F.granarylaw21_num x79)) fun x80 =>
            M.bind (guardM x78 true (M.ret x73)) fun x81 =>
            M.bind (guardM x78 true (optM (binV BinOp.eql x80 x81))) fun x82 =>
            bindO (pickV x78 x82 (Value.bool false)) fun x83 =>
            M.ret x83) (
            M.ret (Value.bool true)))))) (fun _ _ =>
    M.fail) (fun r13 => M.ret r13)
def F.granarylaw21_desk_plays.plan : Plan := (seq leaf (seq leaf (seq (seq leaf (body (fork [16] [16, 17, 18, 19] [] (seq leaf (cond leaf (seq leaf (cond leaf leaf)))) (cond (seq leaf leaf) (seq leaf (cond (seq (alts [5, 6] [5, 6, 25, 26, 27, 28, 29, 30, 31, 32, 33] [[0, 1, 2, 3, 4, 5, 6, 7, 8, 9, 10, 11], [0, 1, 2, 3, 4, 9, 5, 6, 7, 8, 10, 11]]) (seq leaf leaf)) (seq leaf (cond (seq leaf leaf) (seq leaf (cond (seq leaf (seq leaf (seq leaf leaf))) leaf)))))))))) (seq leaf leaf))))
theorem F.granarylaw21_desk_plays.lift : LiftOk Tryd.prog 10 (ap2 F.granarylaw21_desk_plays) :=
  lift2 (g := evFn Tryd.prog (tcons 12 (ap1 F.export_Export_Report) (tcons 13 (ap1 F.granaryref21_Export_Report) (tcons 14 (ap2 F.granarylaw21_sameReport) (tcons 15 (ap1 F.granarylaw21_num) (tcons 21 (ap2 F.granarylaw21_desk_moves) (tcons 22 (ap2 F.granarylaw21_answer) (tcons 23 (ap1 F.export_Export_Busy) (tcons 24 (ap1 F.granaryref21_Export_Busy) tnil)))))))) tnil 10 Tryd.f10 F.granarylaw21_desk_plays.plan) (evFn_sound (tcons_ok F.export_Export_Report.lift (tcons_ok F.granaryref21_Export_Report.lift (tcons_ok F.granarylaw21_sameReport.lift (tcons_ok F.granarylaw21_num.lift (tcons_ok F.granarylaw21_desk_moves.lift (tcons_ok F.granarylaw21_answer.lift (tcons_ok F.export_Export_Busy.lift (tcons_ok F.granaryref21_Export_Busy.lift tnil_ok)))))))) tnil_ok Tryd.func10 (by kernel_rfl)) (fun x0 x1 => by kernel_rfl)

/-- granary/granarylaw21.ExportMoves -/
noncomputable def F.granarylaw21_ExportMoves (a0 a1 : Value) : M Value :=
  M.bind (newM 24 (Value.cells a0)) fun x1 =>
  bindO (lenL a1) fun x2 =>
  M.bind (F.granaryref21_Beyond x2) fun x3 =>
  condM x3 (
    M.ret (Value.bool true)) (
    M.bind (newM 32 #[(Value.pointer none), (Value.pointer none), (Value.slice none 0 0), (Value.slice none 0 0), (Value.pointer none), (Value.pointer none), (Value.slice none 0 0), (Value.slice none 0 0)]) fun x4 =>
    bindO (idxR 2 4 x4 (Value.int IntKind.i64 0)) fun x5 =>
    M.bind (rdM (ldA 23 x1)) fun x6 =>
    M.bind (F.granarylaw21_desk_begins x5 x6) fun x7 =>
    bindO (idxR 2 4 x4 (Value.int IntKind.i64 1)) fun x8 =>
    M.bind (rdM (ldA 23 x1)) fun x9 =>
    M.bind (F.granarylaw21_desk_begins x8 x9) fun x10 =>
    bindO (notV x7) fun x11 =>
    M.bind (guardM x11 false (M.ret x10)) fun x12 =>
    M.bind (guardM x11 false (optM (notV x12))) fun x13 =>
    bindO (pickV x11 (Value.bool true) x13) fun x14 =>
    condM x14 (
      M.ret (Value.bool false)) (
      M.bind (loopM (fun l15 =>
        bindO (lenL a1) fun x16 =>
        bindO (binV BinOp.lss (getL l15 0) x16) fun x17 =>
        condM x17 (
          bindO (idxA 14 a1 (getL l15 0)) fun x18 =>
          bindO (fieldA 0 x18) fun x19 =>
          M.bind (rdM (ld1 x19)) fun x20 =>
          drewM <|
          getM fun W21 =>
          bindO (idxA 14 a1 (getL l15 0)) fun x22 =>
          bindO (fieldA 1 x22) fun x23 =>
          M.bind (rdM (ld1 x23)) fun x24 =>
          M.bind (F.granarylaw21_place x24) fun x25 =>
          getM fun _ =>
          bindO (idxR 2 4 x4 x25) fun x27 =>
          bindO (idxA 14 a1 (getL l15 0)) fun x28 =>
          M.bind (rdM (ldA 14 x28)) fun x29 =>
          M.bind (F.granarylaw21_desk_plays x27 x29) fun x30 =>
          getM fun _ =>
          reqM (ldA 14 x28 W21 = some x29) <|
          bindO (notV x30) fun x32 =>
          M.bind (guardM x32 true (M.ret x20)) fun x33 =>
          M.bind (guardM x32 true (optM (binV BinOp.neq x33 (Value.int IntKind.i64 4)))) fun x34 =>
          bindO (pickV x32 x34 (Value.bool false)) fun x35 =>
          M.bind (guardM x35 true (M.ret x20)) fun x36 =>
          M.bind (guardM x35 true (optM (binV BinOp.neq x36 (Value.int IntKind.i64 5)))) fun x37 =>
          bindO (pickV x35 x37 (Value.bool false)) fun x38 =>
          condM x38 (
            M.ret (Out.ret (Value.bool false))) (
            bindO (binV BinOp.add (getL l15 0) (Value.int IntKind.i64 1)) fun x39 =>
            M.ret (Out.norm [x39]))) (
          M.ret (Out.exit 0 [(getL l15 0)]))) [(Value.int IntKind.i64 0)]) fun o41 =>
      outK o41 (fun _ => M.fail) (fun i42 _ =>
        bif Nat.beq i42 0 then (
          bindO (idxR 2 4 x4 (Value.int IntKind.i64 0)) fun x44 =>
          bindO (buildV #[(Value.int IntKind.i64 0), (Value.int IntKind.i64 0), (Value.int IntKind.i64 0), (Value.int IntKind.i64 0), (Value.int IntKind.i64 0), (Value.int IntKind.i64 0), (Value.int IntKind.i64 0), (Value.int IntKind.i64 0), (Value.int IntKind.i64 0), (Value.int IntKind.i64 0), (Value.int IntKind.i64 0), (Value.int IntKind.i64 0), (Value.string ByteArray.empty), (Value.string ByteArray.empty)] [(0, 1, (Value.int IntKind.i64 3))]) fun x45 =>
          M.bind (F.granarylaw21_desk_plays x44 x45) fun _ =>
          bindO (idxR 2 4 x4 (Value.int IntKind.i64 0)) fun x47 =>
          bindO (buildV #[(Value.int IntKind.i64 0), (Value.int IntKind.i64 0), (Value.int IntKind.i64 0), (Value.int IntKind.i64 0), (Value.int IntKind.i64 0), (Value.int IntKind.i64 0), (Value.int IntKind.i64 0), (Value.int IntKind.i64 0), (Value.int IntKind.i64 0), (Value.int IntKind.i64 0), (Value.int IntKind.i64 0), (Value.int IntKind.i64 0), (Value.string ByteArray.empty), (Value.string ByteArray.empty)] [(0, 1, (Value.int IntKind.i64 1)), (2, 1, (Value.int IntKind.i64 3))]) fun x48 =>
          M.bind (F.granarylaw21_desk_plays x47 x48) fun x49 =>
          M.ret x49) else
        M.fail) (fun r43 => M.ret r43)))
def F.granarylaw21_ExportMoves.plan : Plan := (seq leaf (seq (seq leaf (cond (seq leaf leaf) leaf)) (seq leaf (seq leaf (seq leaf (seq (seq leaf (cond (seq leaf leaf) leaf)) (seq (seq leaf (body (loop [8] [4, 6, 8, 9, 25, 26, 27, 28, 29, 30, 31, 32, 33, 34, 35, 36, 37, 38, 39, 40, 41, 42, 43, 44, 45, 46, 47, 48, 49, 50, 51, 52, 53, 54, 55, 56, 57] [0] (seq (seq leaf (cond leaf leaf)) (seq (body (seq leaf (seq leaf (seq leaf (cond (seq leaf leaf) leaf))))) leaf))))) (seq leaf (seq leaf leaf)))))))))
theorem F.granarylaw21_ExportMoves.lift : LiftOk Tryd.prog 3 (ap2 F.granarylaw21_ExportMoves) :=
  lift2 (g := evFn Tryd.prog (tcons 7 (ap1 F.granaryref21_Beyond) (tcons 8 (ap2 F.granarylaw21_desk_begins) (tcons 9 (ap1 F.granarylaw21_place) (tcons 10 (ap2 F.granarylaw21_desk_plays) tnil)))) tnil 3 Tryd.f3 F.granarylaw21_ExportMoves.plan) (evFn_sound (tcons_ok F.granaryref21_Beyond.lift (tcons_ok F.granarylaw21_desk_begins.lift (tcons_ok F.granarylaw21_place.lift (tcons_ok F.granarylaw21_desk_plays.lift tnil_ok)))) tnil_ok Tryd.func3 (by kernel_rfl)) (fun x0 x1 => by kernel_rfl)

/-- granary/granarylaw21.ExportReports -/
noncomputable def F.granarylaw21_ExportReports (a0 a1 : Value) : M Value :=
  M.bind (newM 24 (Value.cells a0)) fun x1 =>
  bindO (lenL a1) fun x2 =>
  M.bind (F.granaryref21_Beyond x2) fun x3 =>
  condM x3 (
    M.ret (Value.bool true)) (
    M.bind (newM 32 #[(Value.pointer none), (Value.pointer none), (Value.slice none 0 0), (Value.slice none 0 0), (Value.pointer none), (Value.pointer none), (Value.slice none 0 0), (Value.slice none 0 0)]) fun x4 =>
    bindO (idxR 2 4 x4 (Value.int IntKind.i64 0)) fun x5 =>
    M.bind (rdM (ldA 23 x1)) fun x6 =>
    M.bind (F.granarylaw21_desk_begins x5 x6) fun x7 =>
    bindO (idxR 2 4 x4 (Value.int IntKind.i64 1)) fun x8 =>
    M.bind (rdM (ldA 23 x1)) fun x9 =>
    M.bind (F.granarylaw21_desk_begins x8 x9) fun x10 =>
    bindO (notV x7) fun x11 =>
    M.bind (guardM x11 false (M.ret x10)) fun x12 =>
    M.bind (guardM x11 false (optM (notV x12))) fun x13 =>
    bindO (pickV x11 (Value.bool true) x13) fun x14 =>
    condM x14 (
      M.ret (Value.bool false)) (
      M.bind (loopM (fun l15 =>
        bindO (lenL a1) fun x16 =>
        bindO (binV BinOp.lss (getL l15 0) x16) fun x17 =>
        condM x17 (
          bindO (idxA 14 a1 (getL l15 0)) fun x18 =>
          bindO (fieldA 0 x18) fun x19 =>
          M.bind (rdM (ld1 x19)) fun x20 =>
          drewM <|
          getM fun W21 =>
          bindO (idxA 14 a1 (getL l15 0)) fun x22 =>
          bindO (fieldA 1 x22) fun x23 =>
          M.bind (rdM (ld1 x23)) fun x24 =>
          M.bind (F.granarylaw21_place x24) fun x25 =>
          getM fun _ =>
          bindO (idxR 2 4 x4 x25) fun x27 =>
          bindO (idxA 14 a1 (getL l15 0)) fun x28 =>
          M.bind (rdM (ldA 14 x28)) fun x29 =>
          M.bind (F.granarylaw21_desk_plays x27 x29) fun x30 =>
          getM fun _ =>
          reqM (ldA 14 x28 W21 = some x29) <|
          bindO (notV x30) fun x32 =>
          M.bind (guardM x32 true (M.ret x20)) fun x33 =>
          M.bind (guardM x32 true (optM (binV BinOp.eql x33 (Value.int IntKind.i64 4)))) fun x34 =>
          M.bind (guardM x32 true (M.ret x34)) fun x35 =>
          M.bind (guardM x35 false (M.ret x20)) fun x36 =>
          M.bind (guardM x35 false (optM (binV BinOp.eql x36 (Value.int IntKind.i64 5)))) fun x37 =>
          M.bind (guardM x32 true (optM (pickV x35 (Value.bool true) x37))) fun x38 =>
          bindO (pickV x32 x38 (Value.bool false)) fun x39 =>
          condM x39 (
            M.ret (Out.ret (Value.bool false))) (
            bindO (binV BinOp.add (getL l15 0) (Value.int IntKind.i64 1)) fun x40 =>
            M.ret (Out.norm [x40]))) (
          M.ret (Out.exit 0 [(getL l15 0)]))) [(Value.int IntKind.i64 0)]) fun o42 =>
      outK o42 (fun _ => M.fail) (fun i43 _ =>
        bif Nat.beq i43 0 then (
          bindO (idxR 2 4 x4 (Value.int IntKind.i64 0)) fun x45 =>
          bindO (buildV #[(Value.int IntKind.i64 0), (Value.int IntKind.i64 0), (Value.int IntKind.i64 0), (Value.int IntKind.i64 0), (Value.int IntKind.i64 0), (Value.int IntKind.i64 0), (Value.int IntKind.i64 0), (Value.int IntKind.i64 0), (Value.int IntKind.i64 0), (Value.int IntKind.i64 0), (Value.int IntKind.i64 0), (Value.int IntKind.i64 0), (Value.string ByteArray.empty), (Value.string ByteArray.empty)] [(0, 1, (Value.int IntKind.i64 4))]) fun x46 =>
          M.bind (F.granarylaw21_desk_plays x45 x46) fun x47 =>
          M.bind (guardM x47 true (optM (idxR 2 4 x4 (Value.int IntKind.i64 0)))) fun x48 =>
          M.bind (guardM x47 true (optM (buildV #[(Value.int IntKind.i64 0), (Value.int IntKind.i64 0), (Value.int IntKind.i64 0), (Value.int IntKind.i64 0), (Value.int IntKind.i64 0), (Value.int IntKind.i64 0), (Value.int IntKind.i64 0), (Value.int IntKind.i64 0), (Value.int IntKind.i64 0), (Value.int IntKind.i64 0), (Value.int IntKind.i64 0), (Value.int IntKind.i64 0), (Value.string ByteArray.empty), (Value.string ByteArray.empty)] [(0, 1, (Value.int IntKind.i64 5))]))) fun x49 =>
          M.bind (guardM x47 true (F.granarylaw21_desk_plays x48 x49)) fun x50 =>
          bindO (pickV x47 x50 (Value.bool false)) fun x51 =>
          M.ret x51) else
        M.fail) (fun r44 => M.ret r44)))
def F.granarylaw21_ExportReports.plan : Plan := (seq leaf (seq (seq leaf (cond (seq leaf leaf) leaf)) (seq leaf (seq leaf (seq leaf (seq (seq leaf (cond (seq leaf leaf) leaf)) (seq (seq leaf (body (loop [8] [4, 6, 8, 9, 25, 26, 27, 28, 29, 30, 31, 32, 33, 34, 35, 36, 37, 38, 39, 40, 41, 42, 43, 44, 45, 46, 47, 48, 49, 50, 51, 52, 53, 54, 55, 56, 57] [0] (seq (seq leaf (cond leaf leaf)) (seq (body (seq leaf (seq leaf (seq leaf (cond (seq leaf leaf) leaf))))) leaf))))) (seq leaf leaf))))))))
theorem F.granarylaw21_ExportReports.lift : LiftOk Tryd.prog 4 (ap2 F.granarylaw21_ExportReports) :=
  lift2 (g := evFn Tryd.prog (tcons 7 (ap1 F.granaryref21_Beyond) (tcons 8 (ap2 F.granarylaw21_desk_begins) (tcons 9 (ap1 F.granarylaw21_place) (tcons 10 (ap2 F.granarylaw21_desk_plays) tnil)))) tnil 4 Tryd.f4 F.granarylaw21_ExportReports.plan) (evFn_sound (tcons_ok F.granaryref21_Beyond.lift (tcons_ok F.granarylaw21_desk_begins.lift (tcons_ok F.granarylaw21_place.lift (tcons_ok F.granarylaw21_desk_plays.lift tnil_ok)))) tnil_ok Tryd.func4 (by kernel_rfl)) (fun x0 x1 => by kernel_rfl)

/-- granary/granarylaw21.ExportPlays -/
noncomputable def F.granarylaw21_ExportPlays (a0 a1 : Value) : M Value :=
  M.bind (newM 24 (Value.cells a0)) fun x1 =>
  bindO (lenL a1) fun x2 =>
  M.bind (F.granaryref21_Beyond x2) fun x3 =>
  condM x3 (
    M.ret (Value.bool true)) (
    M.bind (newM 32 #[(Value.pointer none), (Value.pointer none), (Value.slice none 0 0), (Value.slice none 0 0), (Value.pointer none), (Value.pointer none), (Value.slice none 0 0), (Value.slice none 0 0)]) fun x4 =>
    bindO (idxR 2 4 x4 (Value.int IntKind.i64 0)) fun x5 =>
    M.bind (rdM (ldA 23 x1)) fun x6 =>
    M.bind (F.granarylaw21_desk_begins x5 x6) fun x7 =>
    bindO (idxR 2 4 x4 (Value.int IntKind.i64 1)) fun x8 =>
    M.bind (rdM (ldA 23 x1)) fun x9 =>
    M.bind (F.granarylaw21_desk_begins x8 x9) fun x10 =>
    bindO (notV x7) fun x11 =>
    M.bind (guardM x11 false (M.ret x10)) fun x12 =>
    M.bind (guardM x11 false (optM (notV x12))) fun x13 =>
    bindO (pickV x11 (Value.bool true) x13) fun x14 =>
    condM x14 (
      M.ret (Value.bool false)) (
      M.bind (loopM (fun l15 =>
        bindO (lenL a1) fun x16 =>
        bindO (binV BinOp.lss (getL l15 0) x16) fun x17 =>
        condM x17 (
          drewM <|
          getM fun W18 =>
          bindO (idxA 14 a1 (getL l15 0)) fun x19 =>
          bindO (fieldA 1 x19) fun x20 =>
          M.bind (rdM (ld1 x20)) fun x21 =>
          M.bind (F.granarylaw21_place x21) fun x22 =>
          getM fun _ =>
          bindO (idxR 2 4 x4 x22) fun x24 =>
          bindO (idxA 14 a1 (getL l15 0)) fun x25 =>
          M.bind (rdM (ldA 14 x25)) fun x26 =>
          M.bind (F.granarylaw21_desk_plays x24 x26) fun x27 =>
          getM fun _ =>
          reqM (ldA 14 x25 W18 = some x26) <|
          bindO (notV x27) fun x29 =>
          condM x29 (
            M.ret (Out.ret (Value.bool false))) (
            bindO (binV BinOp.add (getL l15 0) (Value.int IntKind.i64 1)) fun x30 =>
            M.ret (Out.norm [x30]))) (
          M.ret (Out.exit 0 [(getL l15 0)]))) [(Value.int IntKind.i64 0)]) fun o32 =>
      outK o32 (fun _ => M.fail) (fun i33 _ =>
        bif Nat.beq i33 0 then (
          bindO (idxR 2 4 x4 (Value.int IntKind.i64 0)) fun x35 =>
          bindO (buildV #[(Value.int IntKind.i64 0), (Value.int IntKind.i64 0), (Value.int IntKind.i64 0), (Value.int IntKind.i64 0), (Value.int IntKind.i64 0), (Value.int IntKind.i64 0), (Value.int IntKind.i64 0), (Value.int IntKind.i64 0), (Value.int IntKind.i64 0), (Value.int IntKind.i64 0), (Value.int IntKind.i64 0), (Value.int IntKind.i64 0), (Value.string ByteArray.empty), (Value.string ByteArray.empty)] [(0, 1, (Value.int IntKind.i64 5))]) fun x36 =>
          M.bind (F.granarylaw21_desk_plays x35 x36) fun x37 =>
          M.bind (guardM x37 true (optM (idxR 2 4 x4 (Value.int IntKind.i64 0)))) fun x38 =>
          M.bind (guardM x37 true (optM (buildV #[(Value.int IntKind.i64 0), (Value.int IntKind.i64 0), (Value.int IntKind.i64 0), (Value.int IntKind.i64 0), (Value.int IntKind.i64 0), (Value.int IntKind.i64 0), (Value.int IntKind.i64 0), (Value.int IntKind.i64 0), (Value.int IntKind.i64 0), (Value.int IntKind.i64 0), (Value.int IntKind.i64 0), (Value.int IntKind.i64 0), (Value.string ByteArray.empty), (Value.string ByteArray.empty)] [(0, 1, (Value.int IntKind.i64 1)), (2, 1, (Value.int IntKind.i64 3))]))) fun x39 =>
          M.bind (guardM x37 true (F.granarylaw21_desk_plays x38 x39)) fun x40 =>
          bindO (pickV x37 x40 (Value.bool false)) fun x41 =>
          M.bind (guardM x41 true (optM (idxR 2 4 x4 (Value.int IntKind.i64 0)))) fun x42 =>
          M.bind (guardM x41 true (optM (buildV #[(Value.int IntKind.i64 0), (Value.int IntKind.i64 0), (Value.int IntKind.i64 0), (Value.int IntKind.i64 0), (Value.int IntKind.i64 0), (Value.int IntKind.i64 0), (Value.int IntKind.i64 0), (Value.int IntKind.i64 0), (Value.int IntKind.i64 0), (Value.int IntKind.i64 0), (Value.int IntKind.i64 0), (Value.int IntKind.i64 0), (Value.string ByteArray.empty), (Value.string ByteArray.empty)] [(0, 1, (Value.int IntKind.i64 4))]))) fun x43 =>
          M.bind (guardM x41 true (F.granarylaw21_desk_plays x42 x43)) fun x44 =>
          bindO (pickV x41 x44 (Value.bool false)) fun x45 =>
          M.ret x45) else
        M.fail) (fun r34 => M.ret r34)))
def F.granarylaw21_ExportPlays.plan : Plan := (seq leaf (seq (seq leaf (cond (seq leaf leaf) leaf)) (seq leaf (seq leaf (seq leaf (seq (seq leaf (cond (seq leaf leaf) leaf)) (seq (seq leaf (body (loop [8] [4, 6, 8, 24, 25, 26, 27, 28, 29, 30, 31, 32, 33, 34, 35, 36, 37, 38, 39, 40, 41, 42, 43] [0] (seq (seq leaf (cond leaf leaf)) (seq (body (seq leaf (seq leaf (cond (seq leaf leaf) leaf)))) leaf))))) (seq leaf leaf))))))))
theorem F.granarylaw21_ExportPlays.lift : LiftOk Tryd.prog 5 (ap2 F.granarylaw21_ExportPlays) :=
  lift2 (g := evFn Tryd.prog (tcons 7 (ap1 F.granaryref21_Beyond) (tcons 8 (ap2 F.granarylaw21_desk_begins) (tcons 9 (ap1 F.granarylaw21_place) (tcons 10 (ap2 F.granarylaw21_desk_plays) tnil)))) tnil 5 Tryd.f5 F.granarylaw21_ExportPlays.plan) (evFn_sound (tcons_ok F.granaryref21_Beyond.lift (tcons_ok F.granarylaw21_desk_begins.lift (tcons_ok F.granarylaw21_place.lift (tcons_ok F.granarylaw21_desk_plays.lift tnil_ok)))) tnil_ok Tryd.func5 (by kernel_rfl)) (fun x0 x1 => by kernel_rfl)

/-- granary/granarylaw21.messages -/
noncomputable def F.granarylaw21_messages (a0 : Value) : M Value :=
  M.bind (loopM (fun l1 =>
    bindO (lenL a0) fun x2 =>
    bindO (binV BinOp.lss (getL l1 1) x2) fun x3 =>
    condM x3 (
      bindO (idxA 11 a0 (getL l1 1)) fun x4 =>
      M.bind (rdM (ldA 11 x4)) fun x5 =>
      M.bind (bslM 36 1 (Builtin.zeroCells #[(Value.int IntKind.i64 0), (Value.int IntKind.i64 0), (Value.int IntKind.i64 0), (Value.int IntKind.i64 0), (Value.int IntKind.i64 0), (Value.int IntKind.i64 0), (Value.int IntKind.i64 0), (Value.int IntKind.i64 0), (Value.int IntKind.i64 0), (Value.string ByteArray.empty), (Value.string ByteArray.empty)] 1) [(0, 11, x5)]) fun x6 =>
      M.bind (appM 36 11 104 #[(Value.int IntKind.i64 0), (Value.int IntKind.i64 0), (Value.int IntKind.i64 0), (Value.int IntKind.i64 0), (Value.int IntKind.i64 0), (Value.int IntKind.i64 0), (Value.int IntKind.i64 0), (Value.int IntKind.i64 0), (Value.int IntKind.i64 0), (Value.string ByteArray.empty), (Value.string ByteArray.empty)] (getL l1 0) x6) fun x7 =>
      bindO (binV BinOp.add (getL l1 1) (Value.int IntKind.i64 1)) fun x8 =>
      M.ret (Out.norm [x7, x8])) (
      M.ret (Out.exit 0 [(getL l1 0), (getL l1 1)]))) [(Value.slice none 0 0), (Value.int IntKind.i64 0)]) fun o10 =>
  outK o10 (fun _ => M.fail) (fun i11 l9 =>
    bif Nat.beq i11 0 then (
      M.ret (getL l9 0)) else
    M.fail) (fun r12 => M.ret r12)
def F.granarylaw21_messages.plan : Plan := (seq leaf (seq leaf (seq (seq leaf (body (loop [3, 4] [3, 4, 5, 6, 7, 8, 9, 10, 11, 12, 13, 14, 15, 16, 17] [0] (seq (seq leaf (cond leaf leaf)) (seq (body leaf) leaf))))) (seq leaf leaf))))
theorem F.granarylaw21_messages.lift : LiftOk Tryd.prog 42 (ap1 F.granarylaw21_messages) :=
  lift1 (g := evFn Tryd.prog tnil tnil 42 Tryd.f42 F.granarylaw21_messages.plan) (evFn_sound tnil_ok tnil_ok Tryd.func42 (by kernel_rfl)) (fun x0 => by kernel_rfl)

/-- granary/granarylaw21.pairs -/
noncomputable def F.granarylaw21_pairs (a0 : Value) : M Value :=
  M.bind (loopM (fun l1 =>
    bindO (lenL a0) fun x2 =>
    bindO (binV BinOp.lss (getL l1 1) x2) fun x3 =>
    condM x3 (
      bindO (idxA 2 a0 (getL l1 1)) fun x4 =>
      M.bind (rdM (ldA 2 x4)) fun x5 =>
      M.bind (bslM 78 1 (Builtin.zeroCells #[(Value.string ByteArray.empty), (Value.string ByteArray.empty)] 1) [(0, 2, x5)]) fun x6 =>
      M.bind (appM 78 2 32 #[(Value.string ByteArray.empty), (Value.string ByteArray.empty)] (getL l1 0) x6) fun x7 =>
      bindO (binV BinOp.add (getL l1 1) (Value.int IntKind.i64 1)) fun x8 =>
      M.ret (Out.norm [x7, x8])) (
      M.ret (Out.exit 0 [(getL l1 0), (getL l1 1)]))) [(Value.slice none 0 0), (Value.int IntKind.i64 0)]) fun o10 =>
  outK o10 (fun _ => M.fail) (fun i11 l9 =>
    bif Nat.beq i11 0 then (
      M.ret (getL l9 0)) else
    M.fail) (fun r12 => M.ret r12)
def F.granarylaw21_pairs.plan : Plan := (seq leaf (seq leaf (seq (seq leaf (body (loop [3, 4] [3, 4, 5, 6, 7, 8, 9, 10, 11, 12, 13, 14, 15, 16, 17] [0] (seq (seq leaf (cond leaf leaf)) (seq (body leaf) leaf))))) (seq leaf leaf))))
theorem F.granarylaw21_pairs.lift : LiftOk Tryd.prog 43 (ap1 F.granarylaw21_pairs) :=
  lift1 (g := evFn Tryd.prog tnil tnil 43 Tryd.f43 F.granarylaw21_pairs.plan) (evFn_sound tnil_ok tnil_ok Tryd.func43 (by kernel_rfl)) (fun x0 => by kernel_rfl)

/-- granary/granarylaw21.numbers -/
noncomputable def F.granarylaw21_numbers (a0 : Value) : M Value :=
  M.bind (loopM (fun l1 =>
    bindO (lenL a0) fun x2 =>
    bindO (binV BinOp.lss (getL l1 1) x2) fun x3 =>
    condM x3 (
      bindO (idxA 1 a0 (getL l1 1)) fun x4 =>
      M.bind (rdM (ld1 x4)) fun x5 =>
      M.bind (bslM 3 1 (Builtin.zeroCells #[(Value.int IntKind.i64 0)] 1) [(0, 1, x5)]) fun x6 =>
      M.bind (appM 3 1 8 #[(Value.int IntKind.i64 0)] (getL l1 0) x6) fun x7 =>
      bindO (binV BinOp.add (getL l1 1) (Value.int IntKind.i64 1)) fun x8 =>
      M.ret (Out.norm [x7, x8])) (
      M.ret (Out.exit 0 [(getL l1 0), (getL l1 1)]))) [(Value.slice none 0 0), (Value.int IntKind.i64 0)]) fun o10 =>
  outK o10 (fun _ => M.fail) (fun i11 l9 =>
    bif Nat.beq i11 0 then (
      M.ret (getL l9 0)) else
    M.fail) (fun r12 => M.ret r12)
def F.granarylaw21_numbers.plan : Plan := (seq leaf (seq leaf (seq (seq leaf (body (loop [3, 4] [3, 4, 5, 6, 7, 8, 9, 10, 11, 12, 13, 14, 15, 16, 17] [0] (seq (seq leaf (cond leaf leaf)) (seq (body leaf) leaf))))) (seq leaf leaf))))
theorem F.granarylaw21_numbers.lift : LiftOk Tryd.prog 44 (ap1 F.granarylaw21_numbers) :=
  lift1 (g := evFn Tryd.prog tnil tnil 44 Tryd.f44 F.granarylaw21_numbers.plan) (evFn_sound tnil_ok tnil_ok Tryd.func44 (by kernel_rfl)) (fun x0 => by kernel_rfl)

/-- (*granary/granarylaw21.desk).left -/
noncomputable def F.granarylaw21_desk_left (a0 a1 : Value) : M Value :=
  M.bind (newM 38 (Value.cells a1)) fun x1 =>
  bindO (fieldA 0 x1) fun x2 =>
  M.bind (rdM (ld1 x2)) fun x3 =>
  bindO (binV BinOp.neq x3 (Value.int IntKind.i64 5)) fun x4 =>
  condM x4 (
    M.bind (rdM (ldA 14 x1)) fun x5 =>
    M.bind (F.granarylaw21_desk_plays a0 x5) fun x6 =>
    drewM <|
    getM fun _ =>
    bindO (nilChk a0) fun x8 =>
    bindO (fieldA 3 x8) fun x9 =>
    M.bind (rdM (ld1 x9)) fun x10 =>
    bindO (nilChk a0) fun x11 =>
    bindO (fieldA 3 x11) fun x12 =>
    M.bind (rdM (ld1 x12)) fun x13 =>
    M.bind (F.granarylaw21_messages x13) fun x14 =>
    getM fun W15 =>
    bindO (buildV #[(Value.slice none 0 0), (Value.slice none 0 0), (Value.slice none 0 0), (Value.slice none 0 0), (Value.slice none 0 0), (Value.slice none 0 0)] [(0, 1, x10), (1, 1, x14)]) fun x16 =>
    M.bind (bslM 71 1 (Builtin.zeroCells #[(Value.slice none 0 0), (Value.slice none 0 0), (Value.slice none 0 0), (Value.slice none 0 0), (Value.slice none 0 0), (Value.slice none 0 0)] 1) [(0, 6, x16)]) fun x17 =>
    getM fun _ =>
    reqM (ld1 x9 W15 = some x10) <|
    M.ret (Value.tuple #[x17, x6])) (
    M.bind (loopM (fun l19 =>
      bindO (binV BinOp.lss (getL l19 1) (Value.int IntKind.i64 2)) fun x20 =>
      condM x20 (
        bindO (nilChk a0) fun x21 =>
        bindO (fieldA 0 x21) fun x22 =>
        M.bind (rdM (ld1 x22)) fun x23 =>
        M.bind (F.export_Export_Report x23) fun x24 =>
        bindO (extV 0 x24) fun x25 =>
        bindO (extV 1 x24) fun x26 =>
        M.bind (newM 46 #[(Value.int IntKind.i64 0), (Value.int IntKind.i64 0), (Value.slice none 0 0), (Value.slice none 0 0)]) fun x27 =>
        M.bind (stM 4 x27 x25) fun _ =>
        bindO (nilChk a0) fun x29 =>
        bindO (fieldA 1 x29) fun x30 =>
        M.bind (rdM (ld1 x30)) fun x31 =>
        M.bind (F.granaryref21_Export_Report x31) fun x32 =>
        bindO (extV 0 x32) fun x33 =>
        bindO (extV 1 x32) fun x34 =>
        M.bind (newM 46 #[(Value.int IntKind.i64 0), (Value.int IntKind.i64 0), (Value.slice none 0 0), (Value.slice none 0 0)]) fun x35 =>
        M.bind (stM 4 x35 x33) fun _ =>
        M.bind (rdM (ldA 4 x27)) fun x37 =>
        M.bind (rdM (ldA 4 x35)) fun x38 =>
        M.bind (F.granarylaw21_sameReport x37 x38) fun x39 =>
        bindO (notV x39) fun x40 =>
        M.bind (guardM x40 false (M.ret x26)) fun x41 =>
        M.bind (guardM x40 false (F.granarylaw21_num x41)) fun x42 =>
        M.bind (guardM x40 false (M.ret x34)) fun x43 =>
        M.bind (guardM x40 false (optM (binV BinOp.neq x42 x43))) fun x44 =>
        bindO (pickV x40 (Value.bool true) x44) fun x45 =>
        condM x45 (
          M.ret (Out.ret (Value.tuple #[(Value.slice none 0 0), (Value.bool false)]))) (
          drewM <|
          getM fun W46 =>
          bindO (fieldA 2 x27) fun x47 =>
          M.bind (rdM (ld1 x47)) fun x48 =>
          bindO (fieldA 2 x27) fun x49 =>
          M.bind (rdM (ld1 x49)) fun x50 =>
          M.bind (F.granarylaw21_pairs x50) fun x51 =>
          getM fun W52 =>
          bindO (fieldA 3 x27) fun x53 =>
          M.bind (rdM (ld1 x53)) fun x54 =>
          bindO (fieldA 3 x27) fun x55 =>
          M.bind (rdM (ld1 x55)) fun x56 =>
          M.bind (F.granarylaw21_numbers x56) fun x57 =>
          getM fun W58 =>
          bindO (buildV #[(Value.slice none 0 0), (Value.slice none 0 0), (Value.slice none 0 0), (Value.slice none 0 0), (Value.slice none 0 0), (Value.slice none 0 0)] [(2, 1, x48), (3, 1, x51), (4, 1, x54), (5, 1, x57)]) fun x59 =>
          M.bind (bslM 71 1 (Builtin.zeroCells #[(Value.slice none 0 0), (Value.slice none 0 0), (Value.slice none 0 0), (Value.slice none 0 0), (Value.slice none 0 0), (Value.slice none 0 0)] 1) [(0, 6, x59)]) fun x60 =>
          getM fun _ =>
          M.bind (appM 71 6 144 #[(Value.slice none 0 0), (Value.slice none 0 0), (Value.slice none 0 0), (Value.slice none 0 0), (Value.slice none 0 0), (Value.slice none 0 0)] (getL l19 0) x60) fun x62 =>
          getM fun _ =>
          reqM (ld1 x47 W52 = some x48) <|
          reqM (ld1 x47 W58 = some x48) <|
          reqM (ld1 x53 W46 = some x54) <|
          reqM (ld1 x53 W58 = some x54) <|
          reqM (ld1 x55 W46 = some x56) <|
          bindO (binV BinOp.add (getL l19 1) (Value.int IntKind.i64 1)) fun x64 =>
          M.ret (Out.norm [x62, x64]))) (
        M.ret (Out.exit 0 [(getL l19 0), (getL l19 1)]))) [(Value.slice none 0 0), (Value.int IntKind.i64 0)]) fun o66 =>
    outK o66 (fun _ => M.fail) (fun i67 l65 =>
      bif Nat.beq i67 0 then (
        M.ret (Value.tuple #[(getL l65 0), (Value.bool true)])) else
      M.fail) (fun r68 => M.ret r68))
def F.granarylaw21_desk_left.plan : Plan := (seq leaf (seq (seq leaf (cond (seq leaf (seq leaf leaf)) leaf)) (seq leaf (seq (seq leaf (body (loop [7, 8] [4, 5, 7, 8, 9, 10, 11, 12, 31, 32, 33, 34, 35, 36, 37, 38, 39, 40, 41, 42, 43, 44, 45, 46, 47, 48, 49, 50, 51, 52, 53, 54, 55, 56, 57, 58, 59, 60, 61, 62, 63, 64, 65, 66, 67, 68, 69, 70, 71, 72, 73, 74] [0] (seq (seq leaf (cond leaf leaf)) (seq (body (seq leaf (seq leaf (seq (seq leaf (cond (seq leaf leaf) leaf)) leaf)))) leaf))))) (seq leaf leaf)))))
theorem F.granarylaw21_desk_left.lift : LiftOk Tryd.prog 25 (ap2 F.granarylaw21_desk_left) :=
  lift2 (g := evFn Tryd.prog (tcons 10 (ap2 F.granarylaw21_desk_plays) (tcons 12 (ap1 F.export_Export_Report) (tcons 13 (ap1 F.granaryref21_Export_Report) (tcons 14 (ap2 F.granarylaw21_sameReport) (tcons 15 (ap1 F.granarylaw21_num) (tcons 42 (ap1 F.granarylaw21_messages) (tcons 43 (ap1 F.granarylaw21_pairs) (tcons 44 (ap1 F.granarylaw21_numbers) tnil)))))))) tnil 25 Tryd.f25 F.granarylaw21_desk_left.plan) (evFn_sound (tcons_ok F.granarylaw21_desk_plays.lift (tcons_ok F.export_Export_Report.lift (tcons_ok F.granaryref21_Export_Report.lift (tcons_ok F.granarylaw21_sameReport.lift (tcons_ok F.granarylaw21_num.lift (tcons_ok F.granarylaw21_messages.lift (tcons_ok F.granarylaw21_pairs.lift (tcons_ok F.granarylaw21_numbers.lift tnil_ok)))))))) tnil_ok Tryd.func25 (by kernel_rfl)) (fun x0 x1 => by kernel_rfl)

/-- (granary/granarylaw21.Left).same -/
noncomputable def F.granarylaw21_Left_same (a0 : Value) : M Value :=
  M.bind (newM 71 (Value.cells a0)) fun x1 =>
  bindO (fieldA 0 x1) fun x2 =>
  M.bind (rdM (ld1 x2)) fun x3 =>
  bindO (fieldA 1 x1) fun x4 =>
  M.bind (rdM (ld1 x4)) fun x5 =>
  M.bind (F.granarylaw21_sameMsgs x3 x5) fun x6 =>
  M.bind (guardM x6 true (optM (fieldA 2 x1))) fun x7 =>
  M.bind (guardM x6 true (rdM (ld1 x7))) fun x8 =>
  M.bind (guardM x6 true (optM (fieldA 3 x1))) fun x9 =>
  M.bind (guardM x6 true (rdM (ld1 x9))) fun x10 =>
  M.bind (guardM x6 true (F.granarylaw21_samePairs x8 x10)) fun x11 =>
  bindO (pickV x6 x11 (Value.bool false)) fun x12 =>
  M.bind (guardM x12 true (optM (fieldA 4 x1))) fun x13 =>
  M.bind (guardM x12 true (rdM (ld1 x13))) fun x14 =>
  M.bind (guardM x12 true (optM (fieldA 5 x1))) fun x15 =>
  M.bind (guardM x12 true (rdM (ld1 x15))) fun x16 =>
  M.bind (guardM x12 true (F.granarylaw21_sameInts x14 x16)) fun x17 =>
  bindO (pickV x12 x17 (Value.bool false)) fun x18 =>
  M.ret x18
def F.granarylaw21_Left_same.plan : Plan := (seq leaf (seq leaf leaf))
theorem F.granarylaw21_Left_same.lift : LiftOk Tryd.prog 26 (ap1 F.granarylaw21_Left_same) :=
  lift1 (g := evFn Tryd.prog (tcons 27 (ap2 F.granarylaw21_samePairs) (tcons 28 (ap2 F.granarylaw21_sameInts) (tcons 41 (ap2 F.granarylaw21_sameMsgs) tnil))) tnil 26 Tryd.f26 F.granarylaw21_Left_same.plan) (evFn_sound (tcons_ok F.granarylaw21_samePairs.lift (tcons_ok F.granarylaw21_sameInts.lift (tcons_ok F.granarylaw21_sameMsgs.lift tnil_ok))) tnil_ok Tryd.func26 (by kernel_rfl)) (fun x0 => by kernel_rfl)

/-- internal/strconv.small -/
noncomputable def F.strconv_small (a0 : Value) : M Value :=
  bindO (binV BinOp.lss a0 (Value.int IntKind.i64 10)) fun x1 =>
  condM x1 (
    bindO (binV BinOp.add a0 (Value.int IntKind.i64 1)) fun x2 =>
    bindO (sliceS (Value.string (ByteArray.mk #[48, 49, 50, 51, 52, 53, 54, 55, 56, 57, 97, 98, 99, 100, 101, 102, 103, 104, 105, 106, 107, 108, 109, 110, 111, 112, 113, 114, 115, 116, 117, 118, 119, 120, 121, 122])) (some a0) (some x2)) fun x3 =>
    M.ret x3) (
    bindO (binV BinOp.mul a0 (Value.int IntKind.i64 2)) fun x4 =>
    bindO (binV BinOp.mul a0 (Value.int IntKind.i64 2)) fun x5 =>
    bindO (binV BinOp.add x5 (Value.int IntKind.i64 2)) fun x6 =>
    bindO (sliceS (Value.string (ByteArray.mk #[48, 48, 48, 49, 48, 50, 48, 51, 48, 52, 48, 53, 48, 54, 48, 55, 48, 56, 48, 57, 49, 48, 49, 49, 49, 50, 49, 51, 49, 52, 49, 53, 49, 54, 49, 55, 49, 56, 49, 57, 50, 48, 50, 49, 50, 50, 50, 51, 50, 52, 50, 53, 50, 54, 50, 55, 50, 56, 50, 57, 51, 48, 51, 49, 51, 50, 51, 51, 51, 52, 51, 53, 51, 54, 51, 55, 51, 56, 51, 57, 52, 48, 52, 49, 52, 50, 52, 51, 52, 52, 52, 53, 52, 54, 52, 55, 52, 56, 52, 57, 53, 48, 53, 49, 53, 50, 53, 51, 53, 52, 53, 53, 53, 54, 53, 55, 53, 56, 53, 57, 54, 48, 54, 49, 54, 50, 54, 51, 54, 52, 54, 53, 54, 54, 54, 55, 54, 56, 54, 57, 55, 48, 55, 49, 55, 50, 55, 51, 55, 52, 55, 53, 55, 54, 55, 55, 55, 56, 55, 57, 56, 48, 56, 49, 56, 50, 56, 51, 56, 52, 56, 53, 56, 54, 56, 55, 56, 56, 56, 57, 57, 48, 57, 49, 57, 50, 57, 51, 57, 52, 57, 53, 57, 54, 57, 55, 57, 56, 57, 57])) (some x4) (some x6)) fun x7 =>
    M.ret x7)
def F.strconv_small.plan : Plan := (seq leaf (seq (seq leaf (cond (seq leaf leaf) leaf)) (seq leaf leaf)))
theorem F.strconv_small.lift : LiftOk Tryd.prog 93 (ap1 F.strconv_small) :=
  lift1 (g := evFn Tryd.prog tnil tnil 93 Tryd.f93 F.strconv_small.plan) (evFn_sound tnil_ok tnil_ok Tryd.func93 (by kernel_rfl)) (fun x0 => by kernel_rfl)

/-- math/bits.Len64 -/
noncomputable def F.bits_Len64 (a0 : Value) : M Value :=
  M.bind (
    bindO (binV BinOp.geq a0 (Value.int IntKind.u64 4294967296)) fun x1 =>
    condM x1 (
      bindO (shV BinOp.shr a0 (Value.int IntKind.u64 32)) fun x2 =>
      M.ret (Out.norm [x2, (Value.int IntKind.i64 32)])) (
      M.ret (Out.norm [a0, (Value.int IntKind.i64 0)]))) fun o4 =>
  outK o4 (fun l3 =>
    M.bind (
      bindO (binV BinOp.geq (getL l3 0) (Value.int IntKind.u64 65536)) fun x7 =>
      condM x7 (
        bindO (shV BinOp.shr (getL l3 0) (Value.int IntKind.u64 16)) fun x8 =>
        bindO (binV BinOp.add (getL l3 1) (Value.int IntKind.i64 16)) fun x9 =>
        M.ret (Out.norm [x8, x9])) (
        M.ret (Out.norm [(getL l3 0), (getL l3 1)]))) fun o11 =>
    outK o11 (fun l10 =>
      M.bind (
        bindO (binV BinOp.geq (getL l10 0) (Value.int IntKind.u64 256)) fun x14 =>
        condM x14 (
          bindO (shV BinOp.shr (getL l10 0) (Value.int IntKind.u64 8)) fun x15 =>
          bindO (binV BinOp.add (getL l10 1) (Value.int IntKind.i64 8)) fun x16 =>
          M.ret (Out.norm [x15, x16])) (
          M.ret (Out.norm [(getL l10 0), (getL l10 1)]))) fun o18 =>
      outK o18 (fun l17 =>
        bindO (cvtI IntKind.u8 (getL l17 0)) fun x21 =>
        bindO (idxS (Value.string (ByteArray.mk #[0, 1, 2, 2, 3, 3, 3, 3, 4, 4, 4, 4, 4, 4, 4, 4, 5, 5, 5, 5, 5, 5, 5, 5, 5, 5, 5, 5, 5, 5, 5, 5, 6, 6, 6, 6, 6, 6, 6, 6, 6, 6, 6, 6, 6, 6, 6, 6, 6, 6, 6, 6, 6, 6, 6, 6, 6, 6, 6, 6, 6, 6, 6, 6, 7, 7, 7, 7, 7, 7, 7, 7, 7, 7, 7, 7, 7, 7, 7, 7, 7, 7, 7, 7, 7, 7, 7, 7, 7, 7, 7, 7, 7, 7, 7, 7, 7, 7, 7, 7, 7, 7, 7, 7, 7, 7, 7, 7, 7, 7, 7, 7, 7, 7, 7, 7, 7, 7, 7, 7, 7, 7, 7, 7, 7, 7, 7, 7, 8, 8, 8, 8, 8, 8, 8, 8, 8, 8, 8, 8, 8, 8, 8, 8, 8, 8, 8, 8, 8, 8, 8, 8, 8, 8, 8, 8, 8, 8, 8, 8, 8, 8, 8, 8, 8, 8, 8, 8, 8, 8, 8, 8, 8, 8, 8, 8, 8, 8, 8, 8, 8, 8, 8, 8, 8, 8, 8, 8, 8, 8, 8, 8, 8, 8, 8, 8, 8, 8, 8, 8, 8, 8, 8, 8, 8, 8, 8, 8, 8, 8, 8, 8, 8, 8, 8, 8, 8, 8, 8, 8, 8, 8, 8, 8, 8, 8, 8, 8, 8, 8, 8, 8, 8, 8, 8, 8, 8, 8, 8, 8, 8, 8, 8, 8, 8, 8, 8, 8, 8, 8, 8, 8, 8, 8, 8, 8])) x21) fun x22 =>
        bindO (cvtI IntKind.i64 x22) fun x23 =>
        bindO (binV BinOp.add (getL l17 1) x23) fun x24 =>
        M.ret x24) (fun _ _ =>
        M.fail) (fun r20 => M.ret r20)) (fun _ _ =>
      M.fail) (fun r13 => M.ret r13)) (fun _ _ =>
    M.fail) (fun r6 => M.ret r6)
def F.bits_Len64.plan : Plan := (seq leaf (fork [0, 2] [0, 2, 3, 4, 5, 6] [] (seq leaf (cond (seq leaf leaf) leaf)) (fork [0, 2] [0, 2, 7, 8, 9, 10, 11, 12] [] (seq leaf (cond (seq leaf leaf) leaf)) (fork [0, 2] [0, 2, 13, 14, 15, 16, 17, 18] [] (seq leaf (cond (seq leaf leaf) leaf)) (seq leaf leaf)))))
theorem F.bits_Len64.lift : LiftOk Tryd.prog 99 (ap1 F.bits_Len64) :=
  lift1 (g := evFn Tryd.prog tnil tnil 99 Tryd.f99 F.bits_Len64.plan) (evFn_sound tnil_ok tnil_ok Tryd.func99 (by kernel_rfl)) (fun x0 => by kernel_rfl)

/-- internal/strconv.log10Pow2 -/
noncomputable def F.strconv_log10Pow2 (a0 : Value) : M Value :=
  bindO (binV BinOp.mul a0 (Value.int IntKind.i64 78913)) fun x1 =>
  bindO (shV BinOp.shr x1 (Value.int IntKind.u64 18)) fun x2 =>
  M.ret x2
def F.strconv_log10Pow2.plan : Plan := (seq leaf (seq leaf leaf))
theorem F.strconv_log10Pow2.lift : LiftOk Tryd.prog 98 (ap1 F.strconv_log10Pow2) :=
  lift1 (g := evFn Tryd.prog tnil tnil 98 Tryd.f98 F.strconv_log10Pow2.plan) (evFn_sound tnil_ok tnil_ok Tryd.func98 (by kernel_rfl)) (fun x0 => by kernel_rfl)

/-- internal/strconv.bool2[int] -/
noncomputable def F.strconv_bool2_inst (a0 : Value) : M Value :=
  condM a0 (
    M.ret (Value.int IntKind.i64 1)) (
    M.ret (Value.int IntKind.i64 0))
def F.strconv_bool2_inst.plan : Plan := (seq leaf (seq (seq leaf (cond (seq leaf leaf) leaf)) (seq leaf leaf)))
theorem F.strconv_bool2_inst.lift : LiftOk Tryd.prog 100 (ap1 F.strconv_bool2_inst) :=
  lift1 (g := evFn Tryd.prog tnil tnil 100 Tryd.f100 F.strconv_bool2_inst.plan) (evFn_sound tnil_ok tnil_ok Tryd.func100 (by kernel_rfl)) (fun x0 => by kernel_rfl)

/-- internal/strconv.numDigits -/
noncomputable def F.strconv_numDigits (a0 : Value) : M Value :=
  M.bind (F.bits_Len64 a0) fun x1 =>
  M.bind (F.strconv_log10Pow2 x1) fun x2 =>
  bindO (idxR 20 1 (Value.pointer (some { block := 1, off := 0, spot := none })) x2) fun x3 =>
  M.bind (rdM (ld1 x3)) fun x4 =>
  bindO (binV BinOp.geq a0 x4) fun x5 =>
  M.bind (F.strconv_bool2_inst x5) fun x6 =>
  bindO (binV BinOp.add x2 x6) fun x7 =>
  M.ret x7
def F.strconv_numDigits.plan : Plan := (seq leaf (seq leaf (seq leaf leaf)))
theorem F.strconv_numDigits.lift : LiftOk Tryd.prog 94 (ap1 F.strconv_numDigits) :=
  lift1 (g := evFn Tryd.prog (tcons 98 (ap1 F.strconv_log10Pow2) (tcons 99 (ap1 F.bits_Len64) (tcons 100 (ap1 F.strconv_bool2_inst) tnil))) tnil 94 Tryd.f94 F.strconv_numDigits.plan) (evFn_sound (tcons_ok F.strconv_log10Pow2.lift (tcons_ok F.bits_Len64.lift (tcons_ok F.strconv_bool2_inst.lift tnil_ok))) tnil_ok Tryd.func94 (by kernel_rfl)) (fun x0 => by kernel_rfl)

/-- internal/strconv.formatBase10 -/
noncomputable def F.strconv_formatBase10 (a0 a1 : Value) : M Value :=
  bindO (lenL a0) fun x1 =>
  M.bind (loopM (fun l2 =>
    bindO (binV BinOp.geq (getL l2 1) (Value.int IntKind.i64 8)) fun x3 =>
    condM x3 (
      bindO (binV BinOp.rem (getL l2 0) (Value.int IntKind.u64 100000000)) fun x4 =>
      bindO (cvtI IntKind.u32 x4) fun x5 =>
      bindO (binV BinOp.quo (getL l2 0) (Value.int IntKind.u64 100000000)) fun x6 =>
      bindO (binV BinOp.quo x5 (Value.int IntKind.u32 10000)) fun x7 =>
      bindO (binV BinOp.rem x5 (Value.int IntKind.u32 10000)) fun x8 =>
      bindO (binV BinOp.quo x8 (Value.int IntKind.u32 100)) fun x9 =>
      bindO (binV BinOp.mul x9 (Value.int IntKind.u32 2)) fun x10 =>
      bindO (binV BinOp.rem x8 (Value.int IntKind.u32 100)) fun x11 =>
      bindO (binV BinOp.mul x11 (Value.int IntKind.u32 2)) fun x12 =>
      bindO (binV BinOp.quo x7 (Value.int IntKind.u32 100)) fun x13 =>
      bindO (binV BinOp.mul x13 (Value.int IntKind.u32 2)) fun x14 =>
      bindO (binV BinOp.rem x7 (Value.int IntKind.u32 100)) fun x15 =>
      bindO (binV BinOp.mul x15 (Value.int IntKind.u32 2)) fun x16 =>
      drewM <|
      bindO (binV BinOp.sub (getL l2 1) (Value.int IntKind.i64 1)) fun x17 =>
      bindO (binV BinOp.sub (getL l2 1) (Value.int IntKind.i64 2)) fun x18 =>
      bindO (binV BinOp.add x12 (Value.int IntKind.u32 1)) fun x19 =>
      bindO (idxS (Value.string (ByteArray.mk #[48, 48, 48, 49, 48, 50, 48, 51, 48, 52, 48, 53, 48, 54, 48, 55, 48, 56, 48, 57, 49, 48, 49, 49, 49, 50, 49, 51, 49, 52, 49, 53, 49, 54, 49, 55, 49, 56, 49, 57, 50, 48, 50, 49, 50, 50, 50, 51, 50, 52, 50, 53, 50, 54, 50, 55, 50, 56, 50, 57, 51, 48, 51, 49, 51, 50, 51, 51, 51, 52, 51, 53, 51, 54, 51, 55, 51, 56, 51, 57, 52, 48, 52, 49, 52, 50, 52, 51, 52, 52, 52, 53, 52, 54, 52, 55, 52, 56, 52, 57, 53, 48, 53, 49, 53, 50, 53, 51, 53, 52, 53, 53, 53, 54, 53, 55, 53, 56, 53, 57, 54, 48, 54, 49, 54, 50, 54, 51, 54, 52, 54, 53, 54, 54, 54, 55, 54, 56, 54, 57, 55, 48, 55, 49, 55, 50, 55, 51, 55, 52, 55, 53, 55, 54, 55, 55, 55, 56, 55, 57, 56, 48, 56, 49, 56, 50, 56, 51, 56, 52, 56, 53, 56, 54, 56, 55, 56, 56, 56, 57, 57, 48, 57, 49, 57, 50, 57, 51, 57, 52, 57, 53, 57, 54, 57, 55, 57, 56, 57, 57])) x19) fun x20 =>
      bindO (idxS (Value.string (ByteArray.mk #[48, 48, 48, 49, 48, 50, 48, 51, 48, 52, 48, 53, 48, 54, 48, 55, 48, 56, 48, 57, 49, 48, 49, 49, 49, 50, 49, 51, 49, 52, 49, 53, 49, 54, 49, 55, 49, 56, 49, 57, 50, 48, 50, 49, 50, 50, 50, 51, 50, 52, 50, 53, 50, 54, 50, 55, 50, 56, 50, 57, 51, 48, 51, 49, 51, 50, 51, 51, 51, 52, 51, 53, 51, 54, 51, 55, 51, 56, 51, 57, 52, 48, 52, 49, 52, 50, 52, 51, 52, 52, 52, 53, 52, 54, 52, 55, 52, 56, 52, 57, 53, 48, 53, 49, 53, 50, 53, 51, 53, 52, 53, 53, 53, 54, 53, 55, 53, 56, 53, 57, 54, 48, 54, 49, 54, 50, 54, 51, 54, 52, 54, 53, 54, 54, 54, 55, 54, 56, 54, 57, 55, 48, 55, 49, 55, 50, 55, 51, 55, 52, 55, 53, 55, 54, 55, 55, 55, 56, 55, 57, 56, 48, 56, 49, 56, 50, 56, 51, 56, 52, 56, 53, 56, 54, 56, 55, 56, 56, 56, 57, 57, 48, 57, 49, 57, 50, 57, 51, 57, 52, 57, 53, 57, 54, 57, 55, 57, 56, 57, 57])) x12) fun x21 =>
      bindO (idxA 1 a0 x17) fun x22 =>
      M.bind (stM 1 x22 x20) fun _ =>
      bindO (idxA 1 a0 x18) fun x24 =>
      M.bind (stM 1 x24 x21) fun _ =>
      drewM <|
      bindO (binV BinOp.sub (getL l2 1) (Value.int IntKind.i64 3)) fun x26 =>
      bindO (binV BinOp.sub (getL l2 1) (Value.int IntKind.i64 4)) fun x27 =>
      bindO (binV BinOp.add x10 (Value.int IntKind.u32 1)) fun x28 =>
      bindO (idxS (Value.string (ByteArray.mk #[48, 48, 48, 49, 48, 50, 48, 51, 48, 52, 48, 53, 48, 54, 48, 55, 48, 56, 48, 57, 49, 48, 49, 49, 49, 50, 49, 51, 49, 52, 49, 53, 49, 54, 49, 55, 49, 56, 49, 57, 50, 48, 50, 49, 50, 50, 50, 51, 50, 52, 50, 53, 50, 54, 50, 55, 50, 56, 50, 57, 51, 48, 51, 49, 51, 50, 51, 51, 51, 52, 51, 53, 51, 54, 51, 55, 51, 56, 51, 57, 52, 48, 52, 49, 52, 50, 52, 51, 52, 52, 52, 53, 52, 54, 52, 55, 52, 56, 52, 57, 53, 48, 53, 49, 53, 50, 53, 51, 53, 52, 53, 53, 53, 54, 53, 55, 53, 56, 53, 57, 54, 48, 54, 49, 54, 50, 54, 51, 54, 52, 54, 53, 54, 54, 54, 55, 54, 56, 54, 57, 55, 48, 55, 49, 55, 50, 55, 51, 55, 52, 55, 53, 55, 54, 55, 55, 55, 56, 55, 57, 56, 48, 56, 49, 56, 50, 56, 51, 56, 52, 56, 53, 56, 54, 56, 55, 56, 56, 56, 57, 57, 48, 57, 49, 57, 50, 57, 51, 57, 52, 57, 53, 57, 54, 57, 55, 57, 56, 57, 57])) x28) fun x29 =>
      bindO (idxS (Value.string (ByteArray.mk #[48, 48, 48, 49, 48, 50, 48, 51, 48, 52, 48, 53, 48, 54, 48, 55, 48, 56, 48, 57, 49, 48, 49, 49, 49, 50, 49, 51, 49, 52, 49, 53, 49, 54, 49, 55, 49, 56, 49, 57, 50, 48, 50, 49, 50, 50, 50, 51, 50, 52, 50, 53, 50, 54, 50, 55, 50, 56, 50, 57, 51, 48, 51, 49, 51, 50, 51, 51, 51, 52, 51, 53, 51, 54, 51, 55, 51, 56, 51, 57, 52, 48, 52, 49, 52, 50, 52, 51, 52, 52, 52, 53, 52, 54, 52, 55, 52, 56, 52, 57, 53, 48, 53, 49, 53, 50, 53, 51, 53, 52, 53, 53, 53, 54, 53, 55, 53, 56, 53, 57, 54, 48, 54, 49, 54, 50, 54, 51, 54, 52, 54, 53, 54, 54, 54, 55, 54, 56, 54, 57, 55, 48, 55, 49, 55, 50, 55, 51, 55, 52, 55, 53, 55, 54, 55, 55, 55, 56, 55, 57, 56, 48, 56, 49, 56, 50, 56, 51, 56, 52, 56, 53, 56, 54, 56, 55, 56, 56, 56, 57, 57, 48, 57, 49, 57, 50, 57, 51, 57, 52, 57, 53, 57, 54, 57, 55, 57, 56, 57, 57])) x10) fun x30 =>
      bindO (idxA 1 a0 x26) fun x31 =>
      M.bind (stM 1 x31 x29) fun _ =>
      bindO (idxA 1 a0 x27) fun x33 =>
      M.bind (stM 1 x33 x30) fun _ =>
      drewM <|
      bindO (binV BinOp.sub (getL l2 1) (Value.int IntKind.i64 5)) fun x35 =>
      bindO (binV BinOp.sub (getL l2 1) (Value.int IntKind.i64 6)) fun x36 =>
      bindO (binV BinOp.add x16 (Value.int IntKind.u32 1)) fun x37 =>
      bindO (idxS (Value.string (ByteArray.mk #[48, 48, 48, 49, 48, 50, 48, 51, 48, 52, 48, 53, 48, 54, 48, 55, 48, 56, 48, 57, 49, 48, 49, 49, 49, 50, 49, 51, 49, 52, 49, 53, 49, 54, 49, 55, 49, 56, 49, 57, 50, 48, 50, 49, 50, 50, 50, 51, 50, 52, 50, 53, 50, 54, 50, 55, 50, 56, 50, 57, 51, 48, 51, 49, 51, 50, 51, 51, 51, 52, 51, 53, 51, 54, 51, 55, 51, 56, 51, 57, 52, 48, 52, 49, 52, 50, 52, 51, 52, 52, 52, 53, 52, 54, 52, 55, 52, 56, 52, 57, 53, 48, 53, 49, 53, 50, 53, 51, 53, 52, 53, 53, 53, 54, 53, 55, 53, 56, 53, 57, 54, 48, 54, 49, 54, 50, 54, 51, 54, 52, 54, 53, 54, 54, 54, 55, 54, 56, 54, 57, 55, 48, 55, 49, 55, 50, 55, 51, 55, 52, 55, 53, 55, 54, 55, 55, 55, 56, 55, 57, 56, 48, 56, 49, 56, 50, 56, 51, 56, 52, 56, 53, 56, 54, 56, 55, 56, 56, 56, 57, 57, 48, 57, 49, 57, 50, 57, 51, 57, 52, 57, 53, 57, 54, 57, 55, 57, 56, 57, 57])) x37) fun x38 =>
      bindO (idxS (Value.string (ByteArray.mk #[48, 48, 48, 49, 48, 50, 48, 51, 48, 52, 48, 53, 48, 54, 48, 55, 48, 56, 48, 57, 49, 48, 49, 49, 49, 50, 49, 51, 49, 52, 49, 53, 49, 54, 49, 55, 49, 56, 49, 57, 50, 48, 50, 49, 50, 50, 50, 51, 50, 52, 50, 53, 50, 54, 50, 55, 50, 56, 50, 57, 51, 48, 51, 49, 51, 50, 51, 51, 51, 52, 51, 53, 51, 54, 51, 55, 51, 56, 51, 57, 52, 48, 52, 49, 52, 50, 52, 51, 52, 52, 52, 53, 52, 54, 52, 55, 52, 56, 52, 57, 53, 48, 53, 49, 53, 50, 53, 51, 53, 52, 53, 53, 53, 54, 53, 55, 53, 56, 53, 57, 54, 48, 54, 49, 54, 50, 54, 51, 54, 52, 54, 53, 54, 54, 54, 55, 54, 56, 54, 57, 55, 48, 55, 49, 55, 50, 55, 51, 55, 52, 55, 53, 55, 54, 55, 55, 55, 56, 55, 57, 56, 48, 56, 49, 56, 50, 56, 51, 56, 52, 56, 53, 56, 54, 56, 55, 56, 56, 56, 57, 57, 48, 57, 49, 57, 50, 57, 51, 57, 52, 57, 53, 57, 54, 57, 55, 57, 56, 57, 57])) x16) fun x39 =>
      bindO (idxA 1 a0 x35) fun x40 =>
      M.bind (stM 1 x40 x38) fun _ =>
      bindO (idxA 1 a0 x36) fun x42 =>
      M.bind (stM 1 x42 x39) fun _ =>
      drewM <|
      bindO (binV BinOp.sub (getL l2 1) (Value.int IntKind.i64 7)) fun x44 =>
      bindO (binV BinOp.sub (getL l2 1) (Value.int IntKind.i64 8)) fun x45 =>
      bindO (binV BinOp.add x14 (Value.int IntKind.u32 1)) fun x46 =>
      bindO (idxS (Value.string (ByteArray.mk #[48, 48, 48, 49, 48, 50, 48, 51, 48, 52, 48, 53, 48, 54, 48, 55, 48, 56, 48, 57, 49, 48, 49, 49, 49, 50, 49, 51, 49, 52, 49, 53, 49, 54, 49, 55, 49, 56, 49, 57, 50, 48, 50, 49, 50, 50, 50, 51, 50, 52, 50, 53, 50, 54, 50, 55, 50, 56, 50, 57, 51, 48, 51, 49, 51, 50, 51, 51, 51, 52, 51, 53, 51, 54, 51, 55, 51, 56, 51, 57, 52, 48, 52, 49, 52, 50, 52, 51, 52, 52, 52, 53, 52, 54, 52, 55, 52, 56, 52, 57, 53, 48, 53, 49, 53, 50, 53, 51, 53, 52, 53, 53, 53, 54, 53, 55, 53, 56, 53, 57, 54, 48, 54, 49, 54, 50, 54, 51, 54, 52, 54, 53, 54, 54, 54, 55, 54, 56, 54, 57, 55, 48, 55, 49, 55, 50, 55, 51, 55, 52, 55, 53, 55, 54, 55, 55, 55, 56, 55, 57, 56, 48, 56, 49, 56, 50, 56, 51, 56, 52, 56, 53, 56, 54, 56, 55, 56, 56, 56, 57, 57, 48, 57, 49, 57, 50, 57, 51, 57, 52, 57, 53, 57, 54, 57, 55, 57, 56, 57, 57])) x46) fun x47 =>
      bindO (idxS (Value.string (ByteArray.mk #[48, 48, 48, 49, 48, 50, 48, 51, 48, 52, 48, 53, 48, 54, 48, 55, 48, 56, 48, 57, 49, 48, 49, 49, 49, 50, 49, 51, 49, 52, 49, 53, 49, 54, 49, 55, 49, 56, 49, 57, 50, 48, 50, 49, 50, 50, 50, 51, 50, 52, 50, 53, 50, 54, 50, 55, 50, 56, 50, 57, 51, 48, 51, 49, 51, 50, 51, 51, 51, 52, 51, 53, 51, 54, 51, 55, 51, 56, 51, 57, 52, 48, 52, 49, 52, 50, 52, 51, 52, 52, 52, 53, 52, 54, 52, 55, 52, 56, 52, 57, 53, 48, 53, 49, 53, 50, 53, 51, 53, 52, 53, 53, 53, 54, 53, 55, 53, 56, 53, 57, 54, 48, 54, 49, 54, 50, 54, 51, 54, 52, 54, 53, 54, 54, 54, 55, 54, 56, 54, 57, 55, 48, 55, 49, 55, 50, 55, 51, 55, 52, 55, 53, 55, 54, 55, 55, 55, 56, 55, 57, 56, 48, 56, 49, 56, 50, 56, 51, 56, 52, 56, 53, 56, 54, 56, 55, 56, 56, 56, 57, 57, 48, 57, 49, 57, 50, 57, 51, 57, 52, 57, 53, 57, 54, 57, 55, 57, 56, 57, 57])) x14) fun x48 =>
      bindO (idxA 1 a0 x44) fun x49 =>
      M.bind (stM 1 x49 x47) fun _ =>
      bindO (idxA 1 a0 x45) fun x51 =>
      M.bind (stM 1 x51 x48) fun _ =>
      bindO (binV BinOp.sub (getL l2 1) (Value.int IntKind.i64 8)) fun x53 =>
      M.ret (Out.norm [x6, x53])) (
      M.ret (Out.exit 0 [(getL l2 0), (getL l2 1)]))) [a1, x1]) fun o55 =>
  outK o55 (fun _ => M.fail) (fun i56 l54 =>
    bif Nat.beq i56 0 then (
      bindO (cvtI IntKind.u32 (getL l54 0)) fun x58 =>
      M.bind (
        bindO (binV BinOp.geq (getL l54 1) (Value.int IntKind.i64 4)) fun x59 =>
        condM x59 (
          bindO (binV BinOp.rem x58 (Value.int IntKind.u32 10000)) fun x60 =>
          bindO (binV BinOp.quo x58 (Value.int IntKind.u32 10000)) fun x61 =>
          bindO (binV BinOp.quo x60 (Value.int IntKind.u32 100)) fun x62 =>
          bindO (binV BinOp.mul x62 (Value.int IntKind.u32 2)) fun x63 =>
          bindO (binV BinOp.rem x60 (Value.int IntKind.u32 100)) fun x64 =>
          bindO (binV BinOp.mul x64 (Value.int IntKind.u32 2)) fun x65 =>
          drewM <|
          bindO (binV BinOp.sub (getL l54 1) (Value.int IntKind.i64 1)) fun x66 =>
          bindO (binV BinOp.sub (getL l54 1) (Value.int IntKind.i64 2)) fun x67 =>
          bindO (binV BinOp.add x65 (Value.int IntKind.u32 1)) fun x68 =>
          bindO (idxS (Value.string (ByteArray.mk #[48, 48, 48, 49, 48, 50, 48, 51, 48, 52, 48, 53, 48, 54, 48, 55, 48, 56, 48, 57, 49, 48, 49, 49, 49, 50, 49, 51, 49, 52, 49, 53, 49, 54, 49, 55, 49, 56, 49, 57, 50, 48, 50, 49, 50, 50, 50, 51, 50, 52, 50, 53, 50, 54, 50, 55, 50, 56, 50, 57, 51, 48, 51, 49, 51, 50, 51, 51, 51, 52, 51, 53, 51, 54, 51, 55, 51, 56, 51, 57, 52, 48, 52, 49, 52, 50, 52, 51, 52, 52, 52, 53, 52, 54, 52, 55, 52, 56, 52, 57, 53, 48, 53, 49, 53, 50, 53, 51, 53, 52, 53, 53, 53, 54, 53, 55, 53, 56, 53, 57, 54, 48, 54, 49, 54, 50, 54, 51, 54, 52, 54, 53, 54, 54, 54, 55, 54, 56, 54, 57, 55, 48, 55, 49, 55, 50, 55, 51, 55, 52, 55, 53, 55, 54, 55, 55, 55, 56, 55, 57, 56, 48, 56, 49, 56, 50, 56, 51, 56, 52, 56, 53, 56, 54, 56, 55, 56, 56, 56, 57, 57, 48, 57, 49, 57, 50, 57, 51, 57, 52, 57, 53, 57, 54, 57, 55, 57, 56, 57, 57])) x68) fun x69 =>
          bindO (idxS (Value.string (ByteArray.mk #[48, 48, 48, 49, 48, 50, 48, 51, 48, 52, 48, 53, 48, 54, 48, 55, 48, 56, 48, 57, 49, 48, 49, 49, 49, 50, 49, 51, 49, 52, 49, 53, 49, 54, 49, 55, 49, 56, 49, 57, 50, 48, 50, 49, 50, 50, 50, 51, 50, 52, 50, 53, 50, 54, 50, 55, 50, 56, 50, 57, 51, 48, 51, 49, 51, 50, 51, 51, 51, 52, 51, 53, 51, 54, 51, 55, 51, 56, 51, 57, 52, 48, 52, 49, 52, 50, 52, 51, 52, 52, 52, 53, 52, 54, 52, 55, 52, 56, 52, 57, 53, 48, 53, 49, 53, 50, 53, 51, 53, 52, 53, 53, 53, 54, 53, 55, 53, 56, 53, 57, 54, 48, 54, 49, 54, 50, 54, 51, 54, 52, 54, 53, 54, 54, 54, 55, 54, 56, 54, 57, 55, 48, 55, 49, 55, 50, 55, 51, 55, 52, 55, 53, 55, 54, 55, 55, 55, 56, 55, 57, 56, 48, 56, 49, 56, 50, 56, 51, 56, 52, 56, 53, 56, 54, 56, 55, 56, 56, 56, 57, 57, 48, 57, 49, 57, 50, 57, 51, 57, 52, 57, 53, 57, 54, 57, 55, 57, 56, 57, 57])) x65) fun x70 =>
          bindO (idxA 1 a0 x66) fun x71 =>
          M.bind (stM 1 x71 x69) fun _ =>
          bindO (idxA 1 a0 x67) fun x73 =>
          M.bind (stM 1 x73 x70) fun _ =>
          drewM <|
          bindO (binV BinOp.sub (getL l54 1) (Value.int IntKind.i64 3)) fun x75 =>
          bindO (binV BinOp.sub (getL l54 1) (Value.int IntKind.i64 4)) fun x76 =>
          bindO (binV BinOp.add x63 (Value.int IntKind.u32 1)) fun x77 =>
          bindO (idxS (Value.string (ByteArray.mk #[48, 48, 48, 49, 48, 50, 48, 51, 48, 52, 48, 53, 48, 54, 48, 55, 48, 56, 48, 57, 49, 48, 49, 49, 49, 50, 49, 51, 49, 52, 49, 53, 49, 54, 49, 55, 49, 56, 49, 57, 50, 48, 50, 49, 50, 50, 50, 51, 50, 52, 50, 53, 50, 54, 50, 55, 50, 56, 50, 57, 51, 48, 51, 49, 51, 50, 51, 51, 51, 52, 51, 53, 51, 54, 51, 55, 51, 56, 51, 57, 52, 48, 52, 49, 52, 50, 52, 51, 52, 52, 52, 53, 52, 54, 52, 55, 52, 56, 52, 57, 53, 48, 53, 49, 53, 50, 53, 51, 53, 52, 53, 53, 53, 54, 53, 55, 53, 56, 53, 57, 54, 48, 54, 49, 54, 50, 54, 51, 54, 52, 54, 53, 54, 54, 54, 55, 54, 56, 54, 57, 55, 48, 55, 49, 55, 50, 55, 51, 55, 52, 55, 53, 55, 54, 55, 55, 55, 56, 55, 57, 56, 48, 56, 49, 56, 50, 56, 51, 56, 52, 56, 53, 56, 54, 56, 55, 56, 56, 56, 57, 57, 48, 57, 49, 57, 50, 57, 51, 57, 52, 57, 53, 57, 54, 57, 55, 57, 56, 57, 57])) x77) fun x78 =>
          bindO (idxS (Value.string (ByteArray.mk #[48, 48, 48, 49, 48, 50, 48, 51, 48, 52, 48, 53, 48, 54, 48, 55, 48, 56, 48, 57, 49, 48, 49, 49, 49, 50, 49, 51, 49, 52, 49, 53, 49, 54, 49, 55, 49, 56, 49, 57, 50, 48, 50, 49, 50, 50, 50, 51, 50, 52, 50, 53, 50, 54, 50, 55, 50, 56, 50, 57, 51, 48, 51, 49, 51, 50, 51, 51, 51, 52, 51, 53, 51, 54, 51, 55, 51, 56, 51, 57, 52, 48, 52, 49, 52, 50, 52, 51, 52, 52, 52, 53, 52, 54, 52, 55, 52, 56, 52, 57, 53, 48, 53, 49, 53, 50, 53, 51, 53, 52, 53, 53, 53, 54, 53, 55, 53, 56, 53, 57, 54, 48, 54, 49, 54, 50, 54, 51, 54, 52, 54, 53, 54, 54, 54, 55, 54, 56, 54, 57, 55, 48, 55, 49, 55, 50, 55, 51, 55, 52, 55, 53, 55, 54, 55, 55, 55, 56, 55, 57, 56, 48, 56, 49, 56, 50, 56, 51, 56, 52, 56, 53, 56, 54, 56, 55, 56, 56, 56, 57, 57, 48, 57, 49, 57, 50, 57, 51, 57, 52, 57, 53, 57, 54, 57, 55, 57, 56, 57, 57])) x63) fun x79 =>
          bindO (idxA 1 a0 x75) fun x80 =>
          M.bind (stM 1 x80 x78) fun _ =>
          bindO (idxA 1 a0 x76) fun x82 =>
          M.bind (stM 1 x82 x79) fun _ =>
          bindO (binV BinOp.sub (getL l54 1) (Value.int IntKind.i64 4)) fun x84 =>
          M.ret (Out.norm [x84, x61])) (
          M.ret (Out.norm [(getL l54 1), x58]))) fun o86 =>
      outK o86 (fun l85 =>
        M.bind (
          bindO (binV BinOp.geq (getL l85 0) (Value.int IntKind.i64 2)) fun x89 =>
          condM x89 (
            bindO (binV BinOp.rem (getL l85 1) (Value.int IntKind.u32 100)) fun x90 =>
            bindO (binV BinOp.mul x90 (Value.int IntKind.u32 2)) fun x91 =>
            bindO (binV BinOp.quo (getL l85 1) (Value.int IntKind.u32 100)) fun x92 =>
            drewM <|
            bindO (binV BinOp.sub (getL l85 0) (Value.int IntKind.i64 1)) fun x93 =>
            bindO (binV BinOp.sub (getL l85 0) (Value.int IntKind.i64 2)) fun x94 =>
            bindO (binV BinOp.add x91 (Value.int IntKind.u32 1)) fun x95 =>
            bindO (idxS (Value.string (ByteArray.mk #[48, 48, 48, 49, 48, 50, 48, 51, 48, 52, 48, 53, 48, 54, 48, 55, 48, 56, 48, 57, 49, 48, 49, 49, 49, 50, 49, 51, 49, 52, 49, 53, 49, 54, 49, 55, 49, 56, 49, 57, 50, 48, 50, 49, 50, 50, 50, 51, 50, 52, 50, 53, 50, 54, 50, 55, 50, 56, 50, 57, 51, 48, 51, 49, 51, 50, 51, 51, 51, 52, 51, 53, 51, 54, 51, 55, 51, 56, 51, 57, 52, 48, 52, 49, 52, 50, 52, 51, 52, 52, 52, 53, 52, 54, 52, 55, 52, 56, 52, 57, 53, 48, 53, 49, 53, 50, 53, 51, 53, 52, 53, 53, 53, 54, 53, 55, 53, 56, 53, 57, 54, 48, 54, 49, 54, 50, 54, 51, 54, 52, 54, 53, 54, 54, 54, 55, 54, 56, 54, 57, 55, 48, 55, 49, 55, 50, 55, 51, 55, 52, 55, 53, 55, 54, 55, 55, 55, 56, 55, 57, 56, 48, 56, 49, 56, 50, 56, 51, 56, 52, 56, 53, 56, 54, 56, 55, 56, 56, 56, 57, 57, 48, 57, 49, 57, 50, 57, 51, 57, 52, 57, 53, 57, 54, 57, 55, 57, 56, 57, 57])) x95) fun x96 =>
            bindO (idxS (Value.string (ByteArray.mk #[48, 48, 48, 49, 48, 50, 48, 51, 48, 52, 48, 53, 48, 54, 48, 55, 48, 56, 48, 57, 49, 48, 49, 49, 49, 50, 49, 51, 49, 52, 49, 53, 49, 54, 49, 55, 49, 56, 49, 57, 50, 48, 50, 49, 50, 50, 50, 51, 50, 52, 50, 53, 50, 54, 50, 55, 50, 56, 50, 57, 51, 48, 51, 49, 51, 50, 51, 51, 51, 52, 51, 53, 51, 54, 51, 55, 51, 56, 51, 57, 52, 48, 52, 49, 52, 50, 52, 51, 52, 52, 52, 53, 52, 54, 52, 55, 52, 56, 52, 57, 53, 48, 53, 49, 53, 50, 53, 51, 53, 52, 53, 53, 53, 54, 53, 55, 53, 56, 53, 57, 54, 48, 54, 49, 54, 50, 54, 51, 54, 52, 54, 53, 54, 54, 54, 55, 54, 56, 54, 57, 55, 48, 55, 49, 55, 50, 55, 51, 55, 52, 55, 53, 55, 54, 55, 55, 55, 56, 55, 57, 56, 48, 56, 49, 56, 50, 56, 51, 56, 52, 56, 53, 56, 54, 56, 55, 56, 56, 56, 57, 57, 48, 57, 49, 57, 50, 57, 51, 57, 52, 57, 53, 57, 54, 57, 55, 57, 56, 57, 57])) x91) fun x97 =>
            bindO (idxA 1 a0 x93) fun x98 =>
            M.bind (stM 1 x98 x96) fun _ =>
            bindO (idxA 1 a0 x94) fun x100 =>
            M.bind (stM 1 x100 x97) fun _ =>
            bindO (binV BinOp.sub (getL l85 0) (Value.int IntKind.i64 2)) fun x102 =>
            M.ret (Out.norm [x102, x92])) (
            M.ret (Out.norm [(getL l85 0), (getL l85 1)]))) fun o104 =>
        outK o104 (fun l103 =>
          bindO (binV BinOp.gtr (getL l103 0) (Value.int IntKind.i64 0)) fun x107 =>
          condM x107 (
            bindO (binV BinOp.add (Value.int IntKind.u32 48) (getL l103 1)) fun x108 =>
            bindO (cvtI IntKind.u8 x108) fun x109 =>
            bindO (idxA 1 a0 (Value.int IntKind.i64 0)) fun x110 =>
            M.bind (stM 1 x110 x109) fun _ =>
            M.ret (Value.tuple #[])) (
            M.ret (Value.tuple #[]))) (fun _ _ =>
          M.fail) (fun r106 => M.ret r106)) (fun _ _ =>
        M.fail) (fun r88 => M.ret r88)) else
    M.fail) (fun r57 => M.ret r57)
def F.strconv_formatBase10.plan : Plan := (seq leaf (seq (body (loop [1, 4] [1, 4, 5, 6, 7, 8, 9, 10, 11, 19, 20, 21, 22, 23, 24, 25, 26, 27, 28, 29, 30, 31, 32, 33, 34, 35, 36, 37, 38, 39, 40, 41, 42, 43, 44, 45, 46, 47, 48, 49, 50, 51, 52, 53, 54, 55, 56, 57, 58, 59, 60, 61, 62, 63, 64, 65, 66, 67, 68, 69, 70, 71, 72, 73, 74, 75, 76, 77, 78, 79, 80, 81, 82, 83, 84, 85, 86, 87, 88, 89, 90, 91, 92, 93, 94, 95] [0] (seq (seq leaf (cond leaf leaf)) (body (seq leaf (seq leaf (seq leaf (seq leaf (seq leaf (seq leaf (seq leaf (seq leaf (seq leaf leaf))))))))))))) (seq leaf (fork [4, 12] [4, 12, 13, 14, 15, 98, 99, 100, 101, 102, 103, 104, 105, 106, 107, 108, 109, 110, 111, 112, 113, 114, 115, 116, 117, 118, 119, 120, 121, 122, 123, 124, 125, 126, 127, 128, 129, 130, 131, 132, 133, 134, 135, 136, 137] [] (seq leaf (cond (seq leaf (seq leaf (seq leaf (seq leaf (seq leaf leaf))))) leaf)) (fork [4, 12] [4, 12, 16, 138, 139, 140, 141, 142, 143, 144, 145, 146, 147, 148, 149, 150, 151, 152, 153, 154, 155, 156, 157, 158, 159] [] (seq leaf (cond (seq leaf (seq leaf (seq leaf leaf))) leaf)) (seq leaf (cond leaf leaf)))))))
theorem F.strconv_formatBase10.lift : LiftOk Tryd.prog 95 (ap2 F.strconv_formatBase10) :=
  lift2 (g := evFn Tryd.prog tnil tnil 95 Tryd.f95 F.strconv_formatBase10.plan) (evFn_sound tnil_ok tnil_ok Tryd.func95 (by kernel_rfl)) (fun x0 x1 => by kernel_rfl)

end Go.Proofs.YtiggkhmopnhfaaaDoor
