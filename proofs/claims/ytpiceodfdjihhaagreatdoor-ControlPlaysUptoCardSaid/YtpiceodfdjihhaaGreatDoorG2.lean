/-
  THE FUNCTIONAL FORMS of the functions of this seat's translation, and that each function comes to its form: printed by a program of the prover's own (lift.py).
-/
import Derived.Test.YtpiceodfdjihhaaGreatDoorG1
namespace Go.Proofs.YtpiceodfdjihhaaGreatDoor
open Go.Lift Go.Lift.Plan
/-- (*granary/control.Control).enter -/
noncomputable def F.control_Control_enter (a0 a1 : Value) : M Value :=
  bindO (nilChk a0) fun x1 =>
  bindO (fieldA 7 x1) fun x2 =>
  M.bind (stM 1 x2 a1) fun _ =>
  M.bind (F.control_Control_send a0) fun x4 =>
  M.ret x4
def F.control_Control_enter.plan : Plan := (seq leaf (seq leaf (seq leaf leaf)))
theorem F.control_Control_enter.lift : LiftOk Tryz.prog 58 (ap2 F.control_Control_enter) :=
  lift2 (g := evFn Tryz.prog (tcons 66 (ap1 F.control_Control_send) tnil) tnil 58 Tryz.f58 F.control_Control_enter.plan) (evFn_sound (tcons_ok F.control_Control_send.lift tnil_ok) tnil_ok Tryz.func58 (by kernel_rfl)) (fun x0 x1 => by kernel_rfl)

/-- (*granary/control.Control).Begin -/
noncomputable def F.control_Control_Begin (a0 a1 a2 : Value) : M Value :=
  bindO (eqV (EqSh.one EqK.ptr) a0 (Value.pointer none)) fun x1 =>
  condM x1 (
    M.ret (Value.tuple #[(Value.slice none 0 0), (Value.int IntKind.i64 2)])) (
    bindO (nilChk a0) fun x2 =>
    bindO (fieldA 7 x2) fun x3 =>
    M.bind (rdM (ld1 x3)) fun x4 =>
    bindO (neV (EqSh.one EqK.ifn) x4 Value.nilIface) fun x5 =>
    condM x5 (
      M.ret (Value.tuple #[(Value.slice none 0 0), (Value.int IntKind.i64 150)])) (
      bindO (nilChk a0) fun x6 =>
      bindO (fieldA 0 x6) fun x7 =>
      M.bind (rdM (ld1 x7)) fun x8 =>
      M.bind (F.control_newLedger x8) fun x9 =>
      M.bind (newM 115 #[(Value.slice none 0 0), (Value.slice none 0 0), (Value.int IntKind.i64 0), (Value.int IntKind.i64 0)]) fun x10 =>
      M.bind (stM 4 x10 x9) fun _ =>
      M.bind (
        bindO (binV BinOp.eql a1 (Value.int IntKind.i64 1)) fun x12 =>
        condM x12 (
          M.bind (rdM (ldA 4 x10)) fun x13 =>
          bindO (buildV #[(Value.slice none 0 0), (Value.slice none 0 0), (Value.int IntKind.i64 0), (Value.int IntKind.i64 0)] [(0, 4, x13)]) fun x14 =>
          M.bind (newM 119 (Value.cells x14)) fun x15 =>
          M.ret (Out.norm [(Value.iface 117 x15)])) (
          bindO (binV BinOp.eql a1 (Value.int IntKind.i64 2)) fun x16 =>
          condM x16 (
            M.bind (rdM (ldA 4 x10)) fun x17 =>
            bindO (buildV #[(Value.slice none 0 0), (Value.slice none 0 0), (Value.int IntKind.i64 0), (Value.int IntKind.i64 0)] [(0, 4, x17)]) fun x18 =>
            M.bind (newM 121 (Value.cells x18)) fun x19 =>
            M.ret (Out.norm [(Value.iface 120 x19)])) (
            bindO (binV BinOp.eql a1 (Value.int IntKind.i64 3)) fun x20 =>
            condM x20 (
              M.bind (rdM (ldA 4 x10)) fun x21 =>
              bindO (buildV #[(Value.slice none 0 0), (Value.slice none 0 0), (Value.int IntKind.i64 0), (Value.int IntKind.i64 0)] [(0, 4, x21)]) fun x22 =>
              M.bind (newM 123 (Value.cells x22)) fun x23 =>
              M.ret (Out.norm [(Value.iface 122 x23)])) (
              M.ret (Out.ret (Value.tuple #[(Value.slice none 0 0), (Value.int IntKind.i64 152)])))))) fun o25 =>
      outK o25 (fun l24 =>
        M.bind (
          bindO (binV BinOp.eql a1 (Value.int IntKind.i64 3)) fun x28 =>
          condM x28 (
            M.ret (Out.norm [(Value.int IntKind.i64 0), (Value.int IntKind.i64 0)])) (
            M.ret (Out.norm [(Value.int IntKind.i64 1), (Value.int IntKind.i64 999999)]))) fun o30 =>
        outK o30 (fun l29 =>
          bindO (binV BinOp.lss a2 (getL l29 0)) fun x33 =>
          M.bind (guardM x33 false (M.ret a2)) fun x34 =>
          M.bind (guardM x33 false (M.ret (getL l29 1))) fun x35 =>
          M.bind (guardM x33 false (optM (binV BinOp.gtr x34 x35))) fun x36 =>
          bindO (pickV x33 (Value.bool true) x36) fun x37 =>
          condM x37 (
            M.ret (Value.tuple #[(Value.slice none 0 0), (Value.int IntKind.i64 80)])) (
            bindO (nilChk a0) fun x38 =>
            bindO (fieldA 4 x38) fun x39 =>
            bindO (fieldA 0 x39) fun x40 =>
            M.bind (rdM (ld1 x40)) fun x41 =>
            bindO (binV BinOp.geq x41 (Value.int IntKind.i64 9007199254740992)) fun x42 =>
            condM x42 (
              M.ret (Value.tuple #[(Value.slice none 0 0), (Value.int IntKind.i64 3)])) (
              bindO (nilChk a0) fun x43 =>
              bindO (fieldA 4 x43) fun x44 =>
              bindO (fieldA 0 x44) fun x45 =>
              M.bind (rdM (ld1 x45)) fun x46 =>
              bindO (binV BinOp.add x46 (Value.int IntKind.i64 1)) fun x47 =>
              bindO (buildV #[(Value.int IntKind.i64 0), (Value.int IntKind.i64 0), (Value.int IntKind.i64 0)] [(0, 1, x47), (1, 1, a1), (2, 1, a2)]) fun x48 =>
              bindO (nilChk a0) fun x49 =>
              bindO (fieldA 4 x49) fun x50 =>
              M.bind (stM 3 x50 x48) fun _ =>
              M.bind (F.control_Control_enter a0 (getL l24 0)) fun x52 =>
              M.ret (Value.tuple #[x52, (Value.int IntKind.i64 0)])))) (fun _ _ =>
          M.fail) (fun r32 => M.ret r32)) (fun _ _ =>
        M.fail) (fun r27 => M.ret r27)))
def F.control_Control_Begin.plan : Plan := (seq leaf (seq (seq leaf (cond (seq leaf leaf) leaf)) (seq (seq leaf (cond (seq leaf leaf) leaf)) (seq leaf (seq leaf (fork [9] [6, 7, 9, 24, 25, 26, 27, 28, 29, 30, 31, 32, 33, 34, 35, 36, 37, 38, 39, 40, 41, 42] [] (seq leaf (body (seq leaf (cond leaf (seq leaf (cond leaf (seq leaf (cond leaf (seq leaf leaf))))))))) (seq leaf (fork [10, 11] [10, 11, 43, 44] [] (seq leaf (cond leaf leaf)) (seq (seq leaf (cond (seq leaf leaf) leaf)) (seq (seq leaf (cond (seq leaf leaf) leaf)) (seq leaf (seq leaf leaf))))))))))))
theorem F.control_Control_Begin.lift : LiftOk Tryz.prog 23 (ap3 F.control_Control_Begin) :=
  lift3 (g := evFn Tryz.prog (tcons 57 (ap1 F.control_newLedger) (tcons 58 (ap2 F.control_Control_enter) tnil)) tnil 23 Tryz.f23 F.control_Control_Begin.plan) (evFn_sound (tcons_ok F.control_newLedger.lift (tcons_ok F.control_Control_enter.lift tnil_ok)) tnil_ok Tryz.func23 (by kernel_rfl)) (fun x0 x1 x2 => by kernel_rfl)

/-- (*granary/granaryref15.Control).message -/
noncomputable def F.granaryref15_Control_message (a0 a1 : Value) : M Value :=
  M.bind (newM 38 #[(Value.int IntKind.i64 0), (Value.int IntKind.i64 0), (Value.int IntKind.i64 0), (Value.int IntKind.i64 0), (Value.int IntKind.i64 0), (Value.int IntKind.i64 0), (Value.int IntKind.i64 0), (Value.int IntKind.i64 0), (Value.int IntKind.i64 0), (Value.string ByteArray.empty), (Value.string ByteArray.empty)]) fun x1 =>
  drewM <|
  getM fun _ =>
  bindO (nilChk a0) fun x3 =>
  bindO (fieldA 26 x3) fun x4 =>
  M.bind (rdM (ld1 x4)) fun x5 =>
  bindO (idxR 5 1 (Value.pointer (some { block := 2, off := 0, spot := none })) x5) fun x6 =>
  M.bind (rdM (ld1 x6)) fun x7 =>
  bindO (nilChk a0) fun x8 =>
  bindO (fieldA 23 x8) fun x9 =>
  M.bind (rdM (ld1 x9)) fun x10 =>
  bindO (nilChk a0) fun x11 =>
  bindO (fieldA 26 x11) fun x12 =>
  M.bind (rdM (ld1 x12)) fun x13 =>
  bindO (idxR 5 1 (Value.pointer (some { block := 3, off := 0, spot := none })) x13) fun x14 =>
  M.bind (rdM (ld1 x14)) fun x15 =>
  bindO (buildV #[(Value.int IntKind.i64 0), (Value.int IntKind.i64 0), (Value.int IntKind.i64 0), (Value.int IntKind.i64 0), (Value.int IntKind.i64 0), (Value.int IntKind.i64 0), (Value.int IntKind.i64 0), (Value.int IntKind.i64 0), (Value.int IntKind.i64 0), (Value.string ByteArray.empty), (Value.string ByteArray.empty)] [(0, 1, x7), (1, 1, (Value.int IntKind.i64 64)), (2, 1, a1), (3, 1, x10), (5, 1, x15)]) fun x16 =>
  M.bind (newM 38 #[(Value.int IntKind.i64 0), (Value.int IntKind.i64 0), (Value.int IntKind.i64 0), (Value.int IntKind.i64 0), (Value.int IntKind.i64 0), (Value.int IntKind.i64 0), (Value.int IntKind.i64 0), (Value.int IntKind.i64 0), (Value.int IntKind.i64 0), (Value.string ByteArray.empty), (Value.string ByteArray.empty)]) fun x17 =>
  getM fun W18 =>
  M.bind (stM 11 x17 x16) fun _ =>
  getM fun _ =>
  reqM (ld1 x4 W18 = some x5) <|
  reqM (ld1 x6 W18 = some x7) <|
  reqM (ld1 x9 W18 = some x10) <|
  reqM (ld1 x12 W18 = some x13) <|
  reqM (ld1 x14 W18 = some x15) <|
  M.bind (
    bindO (nilChk a0) fun x21 =>
    bindO (fieldA 26 x21) fun x22 =>
    M.bind (rdM (ld1 x22)) fun x23 =>
    bindO (binV BinOp.neq x23 (Value.int IntKind.i64 4)) fun x24 =>
    condM x24 (
      bindO (nilChk a0) fun x25 =>
      bindO (fieldA 23 x25) fun x26 =>
      M.bind (rdM (ld1 x26)) fun x27 =>
      bindO (fieldA 4 x17) fun x28 =>
      M.bind (stM 1 x28 x27) fun _ =>
      M.ret (Out.norm [])) (
      M.ret (Out.norm []))) fun o31 =>
  outK o31 (fun _ =>
    M.bind (
      bindO (nilChk a0) fun x34 =>
      bindO (fieldA 26 x34) fun x35 =>
      M.bind (rdM (ld1 x35)) fun x36 =>
      bindO (binV BinOp.eql x36 (Value.int IntKind.i64 1)) fun x37 =>
      M.bind (guardM x37 false (M.ret a0)) fun x38 =>
      M.bind (guardM x37 false (optM (nilChk x38))) fun x39 =>
      M.bind (guardM x37 false (optM (fieldA 26 x39))) fun x40 =>
      M.bind (guardM x37 false (rdM (ld1 x40))) fun x41 =>
      M.bind (guardM x37 false (optM (binV BinOp.eql x41 (Value.int IntKind.i64 2)))) fun x42 =>
      bindO (pickV x37 (Value.bool true) x42) fun x43 =>
      condM x43 (
        bindO (nilChk a0) fun x44 =>
        bindO (fieldA 25 x44) fun x45 =>
        M.bind (rdM (ld1 x45)) fun x46 =>
        bindO (fieldA 6 x17) fun x47 =>
        M.bind (stM 1 x47 x46) fun _ =>
        M.ret (Out.norm [])) (
        M.ret (Out.norm []))) fun o50 =>
    outK o50 (fun _ =>
      M.bind (rdM (ldA 11 x17)) fun x53 =>
      M.bind (stM 11 x1 x53) fun _ =>
      M.bind (rdM (ldA 11 x1)) fun x55 =>
      M.ret x55) (fun _ _ =>
      M.fail) (fun r52 => M.ret r52)) (fun _ _ =>
    M.fail) (fun r33 => M.ret r33)
def F.granaryref15_Control_message.plan : Plan := (seq leaf (seq leaf (fork [] [24, 25, 26, 27, 28, 29, 30, 31, 32, 33] [] (seq leaf (cond leaf leaf)) (fork [] [34, 35, 36, 37, 38, 39, 40, 41, 42, 43, 44, 45, 46, 47, 48, 49, 50] [] (seq leaf (cond leaf leaf)) (seq leaf leaf)))))
theorem F.granaryref15_Control_message.lift : LiftOk Tryz.prog 80 (ap2 F.granaryref15_Control_message) :=
  lift2 (g := evFn Tryz.prog tnil tnil 80 Tryz.f80 F.granaryref15_Control_message.plan) (evFn_sound tnil_ok tnil_ok Tryz.func80 (by kernel_rfl)) (fun x0 x1 => by kernel_rfl)

/-- (*granary/granaryref15.Control).again -/
noncomputable def F.granaryref15_Control_again (a0 : Value) : M Value :=
  M.bind (loopM (fun l1 =>
    bindO (nilChk a0) fun x2 =>
    bindO (fieldA 29 x2) fun x3 =>
    M.bind (rdM (ld1 x3)) fun x4 =>
    bindO (lenL x4) fun x5 =>
    bindO (binV BinOp.lss (getL l1 1) x5) fun x6 =>
    condM x6 (
      M.bind (
        bindO (nilChk a0) fun x7 =>
        bindO (fieldA 29 x7) fun x8 =>
        M.bind (rdM (ld1 x8)) fun x9 =>
        bindO (idxA 1 x9 (getL l1 1)) fun x10 =>
        M.bind (rdM (ld1 x10)) fun x11 =>
        bindO (notV x11) fun x12 =>
        condM x12 (
          M.bind (F.granaryref15_Control_message a0 (getL l1 1)) fun x13 =>
          M.bind (bslM 38 1 (Builtin.zeroCells #[(Value.int IntKind.i64 0), (Value.int IntKind.i64 0), (Value.int IntKind.i64 0), (Value.int IntKind.i64 0), (Value.int IntKind.i64 0), (Value.int IntKind.i64 0), (Value.int IntKind.i64 0), (Value.int IntKind.i64 0), (Value.int IntKind.i64 0), (Value.string ByteArray.empty), (Value.string ByteArray.empty)] 1) [(0, 11, x13)]) fun x14 =>
          M.bind (appM 38 11 104 #[(Value.int IntKind.i64 0), (Value.int IntKind.i64 0), (Value.int IntKind.i64 0), (Value.int IntKind.i64 0), (Value.int IntKind.i64 0), (Value.int IntKind.i64 0), (Value.int IntKind.i64 0), (Value.int IntKind.i64 0), (Value.int IntKind.i64 0), (Value.string ByteArray.empty), (Value.string ByteArray.empty)] (getL l1 0) x14) fun x15 =>
          M.ret (Out.norm [x15])) (
          M.ret (Out.norm [(getL l1 0)]))) fun o17 =>
      outK o17 (fun l16 =>
        bindO (binV BinOp.add (getL l1 1) (Value.int IntKind.i64 1)) fun x20 =>
        M.ret (Out.norm [(getL l16 0), x20])) (fun _ _ =>
        M.fail) (fun r19 => M.ret (Out.ret r19))) (
      M.ret (Out.exit 0 [(getL l1 0), (getL l1 1)]))) [(Value.slice none 0 0), (Value.int IntKind.i64 0)]) fun o23 =>
  outK o23 (fun _ => M.fail) (fun i24 l22 =>
    bif Nat.beq i24 0 then (
      M.ret (getL l22 0)) else
    M.fail) (fun r25 => M.ret r25)
def F.granaryref15_Control_again.plan : Plan := (seq leaf (seq leaf (seq (seq leaf (body (loop [3, 4] [3, 4, 5, 6, 7, 8, 9, 10, 11, 12, 13, 14, 15, 16, 17, 18, 19, 20, 21, 22, 23, 24, 25, 26, 27] [0] (seq (seq leaf (cond leaf leaf)) (fork [3] [3, 14, 15, 16, 17, 18, 19, 20, 21, 22, 23, 24, 25, 26, 27] [] (body (seq leaf (cond leaf leaf))) leaf))))) (seq leaf leaf))))
theorem F.granaryref15_Control_again.lift : LiftOk Tryz.prog 67 (ap1 F.granaryref15_Control_again) :=
  lift1 (g := evFn Tryz.prog (tcons 80 (ap2 F.granaryref15_Control_message) tnil) tnil 67 Tryz.f67 F.granaryref15_Control_again.plan) (evFn_sound (tcons_ok F.granaryref15_Control_message.lift tnil_ok) tnil_ok Tryz.func67 (by kernel_rfl)) (fun x0 => by kernel_rfl)

/-- (*granary/granaryref15.Control).begin -/
noncomputable def F.granaryref15_Control_begin (a0 a1 : Value) : M Value :=
  bindO (nilChk a0) fun x1 =>
  bindO (fieldA 26 x1) fun x2 =>
  M.bind (stM 1 x2 a1) fun _ =>
  bindO (nilChk a0) fun x4 =>
  bindO (fieldA 27 x4) fun x5 =>
  M.bind (stM 1 x5 (Value.int IntKind.i64 0)) fun _ =>
  bindO (nilChk a0) fun x7 =>
  bindO (fieldA 28 x7) fun x8 =>
  M.bind (stM 1 x8 (Value.int IntKind.i64 1)) fun _ =>
  bindO (nilChk a0) fun x10 =>
  bindO (fieldA 29 x10) fun x11 =>
  M.bind (stM 1 x11 (Value.slice none 0 0)) fun _ =>
  bindO (nilChk a0) fun x13 =>
  bindO (fieldA 30 x13) fun x14 =>
  M.bind (stM 1 x14 (Value.slice none 0 0)) fun _ =>
  M.bind (loopM (fun l16 =>
    bindO (nilChk a0) fun x17 =>
    bindO (fieldA 0 x17) fun x18 =>
    bindO (fieldA 22 x18) fun x19 =>
    M.bind (rdM (ld1 x19)) fun x20 =>
    bindO (lenL x20) fun x21 =>
    bindO (binV BinOp.lss (getL l16 0) x21) fun x22 =>
    condM x22 (
      bindO (nilChk a0) fun x23 =>
      bindO (fieldA 29 x23) fun x24 =>
      M.bind (rdM (ld1 x24)) fun x25 =>
      M.bind (bslM 4 1 (Builtin.zeroCells #[(Value.bool false)] 1) [(0, 1, (Value.bool false))]) fun x26 =>
      M.bind (appM 4 1 1 #[(Value.bool false)] x25 x26) fun x27 =>
      bindO (nilChk a0) fun x28 =>
      bindO (fieldA 29 x28) fun x29 =>
      M.bind (stM 1 x29 x27) fun _ =>
      bindO (nilChk a0) fun x31 =>
      bindO (fieldA 30 x31) fun x32 =>
      M.bind (rdM (ld1 x32)) fun x33 =>
      M.bind (bslM 3 1 (Builtin.zeroCells #[(Value.int IntKind.i64 0)] 1) [(0, 1, (Value.int IntKind.i64 (-1)))]) fun x34 =>
      M.bind (appM 3 1 8 #[(Value.int IntKind.i64 0)] x33 x34) fun x35 =>
      bindO (nilChk a0) fun x36 =>
      bindO (fieldA 30 x36) fun x37 =>
      M.bind (stM 1 x37 x35) fun _ =>
      bindO (binV BinOp.add (getL l16 0) (Value.int IntKind.i64 1)) fun x39 =>
      M.ret (Out.norm [x39])) (
      M.ret (Out.exit 0 [(getL l16 0)]))) [(Value.int IntKind.i64 0)]) fun o41 =>
  outK o41 (fun _ => M.fail) (fun i42 _ =>
    bif Nat.beq i42 0 then (
      M.bind (F.granaryref15_Control_again a0) fun x44 =>
      M.ret x44) else
    M.fail) (fun r43 => M.ret r43)
def F.granaryref15_Control_begin.plan : Plan := (seq leaf (seq leaf (seq leaf (seq leaf (seq leaf (seq leaf (seq (seq leaf (body (loop [5] [5, 22, 23, 24, 25, 26, 27, 28, 29, 30, 31, 32, 33, 34, 35, 36, 37, 38, 39, 40, 41, 42, 43, 44, 45, 46, 47, 48, 49] [0] (seq (seq leaf (cond leaf leaf)) (seq (body (seq leaf leaf)) leaf))))) (seq leaf leaf))))))))
theorem F.granaryref15_Control_begin.lift : LiftOk Tryz.prog 59 (ap2 F.granaryref15_Control_begin) :=
  lift2 (g := evFn Tryz.prog (tcons 67 (ap1 F.granaryref15_Control_again) tnil) tnil 59 Tryz.f59 F.granaryref15_Control_begin.plan) (evFn_sound (tcons_ok F.granaryref15_Control_again.lift tnil_ok) tnil_ok Tryz.func59 (by kernel_rfl)) (fun x0 x1 => by kernel_rfl)

/-- (*granary/granaryref15.Control).Begin -/
noncomputable def F.granaryref15_Control_Begin (a0 a1 a2 : Value) : M Value :=
  bindO (eqV (EqSh.one EqK.ptr) a0 (Value.pointer none)) fun x1 =>
  condM x1 (
    M.ret (Value.tuple #[(Value.slice none 0 0), (Value.int IntKind.i64 2)])) (
    bindO (nilChk a0) fun x2 =>
    bindO (fieldA 26 x2) fun x3 =>
    M.bind (rdM (ld1 x3)) fun x4 =>
    bindO (binV BinOp.neq x4 (Value.int IntKind.i64 0)) fun x5 =>
    condM x5 (
      M.ret (Value.tuple #[(Value.slice none 0 0), (Value.int IntKind.i64 150)])) (
      bindO (binV BinOp.lss a1 (Value.int IntKind.i64 1)) fun x6 =>
      M.bind (guardM x6 false (M.ret a1)) fun x7 =>
      M.bind (guardM x6 false (optM (binV BinOp.gtr x7 (Value.int IntKind.i64 3)))) fun x8 =>
      bindO (pickV x6 (Value.bool true) x8) fun x9 =>
      condM x9 (
        M.ret (Value.tuple #[(Value.slice none 0 0), (Value.int IntKind.i64 152)])) (
        bindO (binV BinOp.eql a1 (Value.int IntKind.i64 3)) fun x10 =>
        M.bind (guardM x10 true (M.ret a2)) fun x11 =>
        M.bind (guardM x10 true (optM (binV BinOp.neq x11 (Value.int IntKind.i64 0)))) fun x12 =>
        bindO (pickV x10 x12 (Value.bool false)) fun x13 =>
        M.bind (guardM x13 false (M.ret a1)) fun x14 =>
        M.bind (guardM x13 false (optM (binV BinOp.neq x14 (Value.int IntKind.i64 3)))) fun x15 =>
        M.bind (guardM x13 false (M.ret x15)) fun x16 =>
        M.bind (guardM x16 true (M.ret a2)) fun x17 =>
        M.bind (guardM x16 true (optM (binV BinOp.lss x17 (Value.int IntKind.i64 1)))) fun x18 =>
        M.bind (guardM x16 true (M.ret x18)) fun x19 =>
        M.bind (guardM x19 false (M.ret a2)) fun x20 =>
        M.bind (guardM x19 false (optM (binV BinOp.gtr x20 (Value.int IntKind.i64 999999)))) fun x21 =>
        M.bind (guardM x16 true (optM (pickV x19 (Value.bool true) x21))) fun x22 =>
        M.bind (guardM x13 false (optM (pickV x16 x22 (Value.bool false)))) fun x23 =>
        bindO (pickV x13 (Value.bool true) x23) fun x24 =>
        condM x24 (
          M.ret (Value.tuple #[(Value.slice none 0 0), (Value.int IntKind.i64 80)])) (
          bindO (nilChk a0) fun x25 =>
          bindO (fieldA 23 x25) fun x26 =>
          M.bind (rdM (ld1 x26)) fun x27 =>
          bindO (binV BinOp.geq x27 (Value.int IntKind.i64 9007199254740992)) fun x28 =>
          condM x28 (
            M.ret (Value.tuple #[(Value.slice none 0 0), (Value.int IntKind.i64 3)])) (
            bindO (nilChk a0) fun x29 =>
            bindO (fieldA 23 x29) fun x30 =>
            M.bind (rdM (ld1 x30)) fun x31 =>
            bindO (binV BinOp.add x31 (Value.int IntKind.i64 1)) fun x32 =>
            bindO (nilChk a0) fun x33 =>
            bindO (fieldA 23 x33) fun x34 =>
            M.bind (stM 1 x34 x32) fun _ =>
            bindO (nilChk a0) fun x36 =>
            bindO (fieldA 24 x36) fun x37 =>
            M.bind (stM 1 x37 a1) fun _ =>
            bindO (nilChk a0) fun x39 =>
            bindO (fieldA 25 x39) fun x40 =>
            M.bind (stM 1 x40 a2) fun _ =>
            bindO (binV BinOp.eql a1 (Value.int IntKind.i64 1)) fun x42 =>
            condM x42 (
              M.bind (F.granaryref15_Control_begin a0 (Value.int IntKind.i64 1)) fun x43 =>
              M.ret (Value.tuple #[x43, (Value.int IntKind.i64 0)])) (
              bindO (binV BinOp.eql a1 (Value.int IntKind.i64 2)) fun x44 =>
              condM x44 (
                M.bind (F.granaryref15_Control_begin a0 (Value.int IntKind.i64 2)) fun x45 =>
                M.ret (Value.tuple #[x45, (Value.int IntKind.i64 0)])) (
                M.bind (F.granaryref15_Control_begin a0 (Value.int IntKind.i64 4)) fun x46 =>
                M.ret (Value.tuple #[x46, (Value.int IntKind.i64 0)]))))))))
def F.granaryref15_Control_Begin.plan : Plan := (seq leaf (seq (seq leaf (cond (seq leaf leaf) leaf)) (seq (seq leaf (cond (seq leaf leaf) leaf)) (seq (seq leaf (cond (seq leaf leaf) leaf)) (seq (seq leaf (cond (seq leaf leaf) leaf)) (seq (seq leaf (cond (seq leaf leaf) leaf)) (seq leaf (seq leaf (seq leaf (seq (seq leaf (body (seq leaf (cond (seq leaf leaf) (seq leaf (cond (seq leaf leaf) leaf)))))) (seq leaf leaf)))))))))))
theorem F.granaryref15_Control_Begin.lift : LiftOk Tryz.prog 24 (ap3 F.granaryref15_Control_Begin) :=
  lift3 (g := evFn Tryz.prog (tcons 59 (ap2 F.granaryref15_Control_begin) tnil) tnil 24 Tryz.f24 F.granaryref15_Control_Begin.plan) (evFn_sound (tcons_ok F.granaryref15_Control_begin.lift tnil_ok) tnil_ok Tryz.func24 (by kernel_rfl)) (fun x0 x1 x2 => by kernel_rfl)

/-- granary/granarylaw15.sameMsg -/
noncomputable def F.granarylaw15_sameMsg (a0 a1 : Value) : M Value :=
  M.bind (newM 38 (Value.cells a0)) fun x1 =>
  M.bind (newM 38 (Value.cells a1)) fun x2 =>
  drewM <|
  getM fun W3 =>
  bindO (fieldA 0 x1) fun x4 =>
  M.bind (rdM (ld1 x4)) fun x5 =>
  bindO (fieldA 0 x2) fun x6 =>
  M.bind (rdM (ld1 x6)) fun x7 =>
  bindO (binV BinOp.neq x5 x7) fun x8 =>
  M.bind (guardM x8 false (optM (fieldA 1 x1))) fun x9 =>
  M.bind (guardM x8 false (rdM (ld1 x9))) fun x10 =>
  M.bind (guardM x8 false (optM (fieldA 1 x2))) fun x11 =>
  M.bind (guardM x8 false (rdM (ld1 x11))) fun x12 =>
  M.bind (guardM x8 false (optM (binV BinOp.neq x10 x12))) fun x13 =>
  bindO (pickV x8 (Value.bool true) x13) fun x14 =>
  M.bind (guardM x14 false (optM (fieldA 2 x1))) fun x15 =>
  M.bind (guardM x14 false (rdM (ld1 x15))) fun x16 =>
  M.bind (guardM x14 false (optM (fieldA 2 x2))) fun x17 =>
  M.bind (guardM x14 false (rdM (ld1 x17))) fun x18 =>
  M.bind (guardM x14 false (optM (binV BinOp.neq x16 x18))) fun x19 =>
  bindO (pickV x14 (Value.bool true) x19) fun x20 =>
  M.bind (guardM x20 false (optM (fieldA 3 x1))) fun x21 =>
  M.bind (guardM x20 false (rdM (ld1 x21))) fun x22 =>
  M.bind (guardM x20 false (optM (fieldA 3 x2))) fun x23 =>
  M.bind (guardM x20 false (rdM (ld1 x23))) fun x24 =>
  M.bind (guardM x20 false (optM (binV BinOp.neq x22 x24))) fun x25 =>
  bindO (pickV x20 (Value.bool true) x25) fun x26 =>
  M.bind (guardM x26 false (optM (fieldA 8 x1))) fun x27 =>
  M.bind (guardM x26 false (rdM (ld1 x27))) fun x28 =>
  M.bind (guardM x26 false (F.granarylaw15_num x28)) fun x29 =>
  getM fun _ =>
  M.bind (guardM x26 false (optM (fieldA 8 x2))) fun x31 =>
  M.bind (guardM x26 false (rdM (ld1 x31))) fun x32 =>
  M.bind (guardM x26 false (F.granarylaw15_num x32)) fun x33 =>
  getM fun _ =>
  M.bind (guardM x26 false (optM (binV BinOp.neq x29 x33))) fun x35 =>
  bindO (pickV x26 (Value.bool true) x35) fun x36 =>
  reqM (x26 = Value.bool false → ld1 x31 W3 = some x32) <|
  condM x36 (
    M.ret (Value.bool false)) (
    bindO (fieldA 4 x1) fun x37 =>
    M.bind (rdM (ld1 x37)) fun x38 =>
    bindO (fieldA 4 x2) fun x39 =>
    M.bind (rdM (ld1 x39)) fun x40 =>
    bindO (binV BinOp.eql x38 x40) fun x41 =>
    M.bind (guardM x41 true (optM (fieldA 5 x1))) fun x42 =>
    M.bind (guardM x41 true (rdM (ld1 x42))) fun x43 =>
    M.bind (guardM x41 true (optM (fieldA 5 x2))) fun x44 =>
    M.bind (guardM x41 true (rdM (ld1 x44))) fun x45 =>
    M.bind (guardM x41 true (optM (binV BinOp.eql x43 x45))) fun x46 =>
    bindO (pickV x41 x46 (Value.bool false)) fun x47 =>
    M.bind (guardM x47 true (optM (fieldA 6 x1))) fun x48 =>
    M.bind (guardM x47 true (rdM (ld1 x48))) fun x49 =>
    M.bind (guardM x47 true (optM (fieldA 6 x2))) fun x50 =>
    M.bind (guardM x47 true (rdM (ld1 x50))) fun x51 =>
    M.bind (guardM x47 true (optM (binV BinOp.eql x49 x51))) fun x52 =>
    bindO (pickV x47 x52 (Value.bool false)) fun x53 =>
    M.bind (guardM x53 true (optM (fieldA 7 x1))) fun x54 =>
    M.bind (guardM x53 true (rdM (ld1 x54))) fun x55 =>
    M.bind (guardM x53 true (optM (fieldA 7 x2))) fun x56 =>
    M.bind (guardM x53 true (rdM (ld1 x56))) fun x57 =>
    M.bind (guardM x53 true (optM (binV BinOp.eql x55 x57))) fun x58 =>
    bindO (pickV x53 x58 (Value.bool false)) fun x59 =>
    M.bind (guardM x59 true (optM (fieldA 9 x1))) fun x60 =>
    M.bind (guardM x59 true (rdM (ld1 x60))) fun x61 =>
    M.bind (guardM x59 true (optM (fieldA 9 x2))) fun x62 =>
    M.bind (guardM x59 true (rdM (ld1 x62))) fun x63 =>
    M.bind (guardM x59 true (optM (binV BinOp.eql x61 x63))) fun x64 =>
    bindO (pickV x59 x64 (Value.bool false)) fun x65 =>
    M.bind (guardM x65 true (optM (fieldA 10 x1))) fun x66 =>
    M.bind (guardM x65 true (rdM (ld1 x66))) fun x67 =>
    M.bind (guardM x65 true (optM (fieldA 10 x2))) fun x68 =>
    M.bind (guardM x65 true (rdM (ld1 x68))) fun x69 =>
    M.bind (guardM x65 true (optM (binV BinOp.eql x67 x69))) fun x70 =>
    bindO (pickV x65 x70 (Value.bool false)) fun x71 =>
    M.ret x71)
def F.granarylaw15_sameMsg.plan : Plan := (seq leaf (seq (seq leaf (cond (seq leaf leaf) leaf)) (seq leaf leaf)))
theorem F.granarylaw15_sameMsg.lift : LiftOk Tryz.prog 71 (ap2 F.granarylaw15_sameMsg) :=
  lift2 (g := evFn Tryz.prog (tcons 22 (ap1 F.granarylaw15_num) tnil) tnil 71 Tryz.f71 F.granarylaw15_sameMsg.plan) (evFn_sound (tcons_ok F.granarylaw15_num.lift tnil_ok) tnil_ok Tryz.func71 (by kernel_rfl)) (fun x0 x1 => by kernel_rfl)

/-- granary/granarylaw15.SameMsgs -/
noncomputable def F.granarylaw15_SameMsgs (a0 a1 : Value) : M Value :=
  bindO (lenL a0) fun x1 =>
  bindO (lenL a1) fun x2 =>
  bindO (binV BinOp.neq x1 x2) fun x3 =>
  condM x3 (
    M.ret (Value.bool false)) (
    M.bind (loopM (fun l4 =>
      bindO (lenL a0) fun x5 =>
      bindO (binV BinOp.lss (getL l4 0) x5) fun x6 =>
      condM x6 (
        drewM <|
        bindO (idxA 11 a0 (getL l4 0)) fun x7 =>
        M.bind (rdM (ldA 11 x7)) fun x8 =>
        bindO (idxA 11 a1 (getL l4 0)) fun x9 =>
        M.bind (rdM (ldA 11 x9)) fun x10 =>
        M.bind (F.granarylaw15_sameMsg x8 x10) fun x11 =>
        bindO (notV x11) fun x12 =>
        condM x12 (
          M.ret (Out.ret (Value.bool false))) (
          bindO (binV BinOp.add (getL l4 0) (Value.int IntKind.i64 1)) fun x13 =>
          M.ret (Out.norm [x13]))) (
        M.ret (Out.exit 0 [(getL l4 0)]))) [(Value.int IntKind.i64 0)]) fun o15 =>
    outK o15 (fun _ => M.fail) (fun i16 _ =>
      bif Nat.beq i16 0 then (
        M.ret (Value.bool true)) else
      M.fail) (fun r17 => M.ret r17))
def F.granarylaw15_SameMsgs.plan : Plan := (seq leaf (seq (seq leaf (cond (seq leaf leaf) leaf)) (seq (seq leaf (body (loop [5] [4, 5, 11, 12, 13, 14, 15, 16, 17, 18, 19, 20, 21, 22, 23, 24, 25, 26] [0] (seq (seq leaf (cond leaf leaf)) (seq (body (seq leaf (cond (seq leaf leaf) leaf))) leaf))))) (seq leaf leaf))))
theorem F.granarylaw15_SameMsgs.lift : LiftOk Tryz.prog 45 (ap2 F.granarylaw15_SameMsgs) :=
  lift2 (g := evFn Tryz.prog (tcons 71 (ap2 F.granarylaw15_sameMsg) tnil) tnil 45 Tryz.f45 F.granarylaw15_SameMsgs.plan) (evFn_sound (tcons_ok F.granarylaw15_sameMsg.lift tnil_ok) tnil_ok Tryz.func45 (by kernel_rfl)) (fun x0 x1 => by kernel_rfl)

/-- (*granary/granarylaw15.Letters).write -/
noncomputable def F.granarylaw15_Letters_write (a0 : Value) : M Value :=
  bindO (nilChk a0) fun x1 =>
  bindO (fieldA 3 x1) fun x2 =>
  M.bind (rdM (ld1 x2)) fun x3 =>
  bindO (idxA 1 x3 (Value.int IntKind.i64 0)) fun x4 =>
  M.bind (rdM (ld1 x4)) fun x5 =>
  bindO (nilChk a0) fun x6 =>
  bindO (fieldA 3 x6) fun x7 =>
  M.bind (rdM (ld1 x7)) fun x8 =>
  bindO (sliceV 1 x8 (some (Value.int IntKind.i64 1)) none) fun x9 =>
  bindO (nilChk a0) fun x10 =>
  bindO (fieldA 3 x10) fun x11 =>
  M.bind (stM 1 x11 x9) fun _ =>
  bindO (nilChk a0) fun x13 =>
  bindO (fieldA 4 x13) fun x14 =>
  M.bind (rdM (ld1 x14)) fun x15 =>
  bindO (sliceV 1 x15 (some (Value.int IntKind.i64 1)) none) fun x16 =>
  bindO (nilChk a0) fun x17 =>
  bindO (fieldA 4 x17) fun x18 =>
  M.bind (stM 1 x18 x16) fun _ =>
  bindO (nilChk a0) fun x20 =>
  bindO (fieldA 2 x20) fun x21 =>
  M.bind (rdM (ld1 x21)) fun x22 =>
  bindO (lenL x22) fun x23 =>
  bindO (binV BinOp.add (Value.int IntKind.i64 5000000) x23) fun x24 =>
  M.bind (loopM (fun l25 =>
    bindO (lenL x5) fun x26 =>
    bindO (binV BinOp.lss (getL l25 0) x26) fun x27 =>
    condM x27 (
      bindO (buildV #[(Value.int IntKind.i64 0), (Value.int IntKind.i64 0), (Value.int IntKind.i64 0), (Value.int IntKind.i64 0), (Value.int IntKind.i64 0), (Value.int IntKind.i64 0), (Value.int IntKind.i64 0), (Value.int IntKind.i64 0), (Value.int IntKind.i64 0), (Value.string ByteArray.empty), (Value.string ByteArray.empty)] [(0, 1, x24)]) fun x28 =>
      bindO (idxA 11 x5 (getL l25 0)) fun x29 =>
      M.bind (stM 11 x29 x28) fun _ =>
      bindO (binV BinOp.add (getL l25 0) (Value.int IntKind.i64 1)) fun x31 =>
      M.ret (Out.norm [x31])) (
      M.ret (Out.exit 0 [(getL l25 0)]))) [(Value.int IntKind.i64 0)]) fun o33 =>
  outK o33 (fun _ => M.fail) (fun i34 _ =>
    bif Nat.beq i34 0 then (
      bindO (buildV #[(Value.int IntKind.i64 0), (Value.int IntKind.i64 0), (Value.int IntKind.i64 0), (Value.int IntKind.i64 0), (Value.int IntKind.i64 0), (Value.int IntKind.i64 0), (Value.int IntKind.i64 0), (Value.int IntKind.i64 0), (Value.int IntKind.i64 0), (Value.string ByteArray.empty), (Value.string ByteArray.empty)] [(0, 1, x24)]) fun x36 =>
      M.bind (bslM 38 1 (Builtin.zeroCells #[(Value.int IntKind.i64 0), (Value.int IntKind.i64 0), (Value.int IntKind.i64 0), (Value.int IntKind.i64 0), (Value.int IntKind.i64 0), (Value.int IntKind.i64 0), (Value.int IntKind.i64 0), (Value.int IntKind.i64 0), (Value.int IntKind.i64 0), (Value.string ByteArray.empty), (Value.string ByteArray.empty)] 1) [(0, 11, x36)]) fun x37 =>
      M.bind (appM 38 11 104 #[(Value.int IntKind.i64 0), (Value.int IntKind.i64 0), (Value.int IntKind.i64 0), (Value.int IntKind.i64 0), (Value.int IntKind.i64 0), (Value.int IntKind.i64 0), (Value.int IntKind.i64 0), (Value.int IntKind.i64 0), (Value.int IntKind.i64 0), (Value.string ByteArray.empty), (Value.string ByteArray.empty)] x5 x37) fun x38 =>
      M.bind (loopM (fun l39 =>
        bindO (binV BinOp.lss (getL l39 1) (Value.int IntKind.i64 64)) fun x40 =>
        condM x40 (
          bindO (buildV #[(Value.int IntKind.i64 0), (Value.int IntKind.i64 0), (Value.int IntKind.i64 0), (Value.int IntKind.i64 0), (Value.int IntKind.i64 0), (Value.int IntKind.i64 0), (Value.int IntKind.i64 0), (Value.int IntKind.i64 0), (Value.int IntKind.i64 0), (Value.string ByteArray.empty), (Value.string ByteArray.empty)] [(0, 1, x24)]) fun x41 =>
          M.bind (bslM 38 1 (Builtin.zeroCells #[(Value.int IntKind.i64 0), (Value.int IntKind.i64 0), (Value.int IntKind.i64 0), (Value.int IntKind.i64 0), (Value.int IntKind.i64 0), (Value.int IntKind.i64 0), (Value.int IntKind.i64 0), (Value.int IntKind.i64 0), (Value.int IntKind.i64 0), (Value.string ByteArray.empty), (Value.string ByteArray.empty)] 1) [(0, 11, x41)]) fun x42 =>
          M.bind (appM 38 11 104 #[(Value.int IntKind.i64 0), (Value.int IntKind.i64 0), (Value.int IntKind.i64 0), (Value.int IntKind.i64 0), (Value.int IntKind.i64 0), (Value.int IntKind.i64 0), (Value.int IntKind.i64 0), (Value.int IntKind.i64 0), (Value.int IntKind.i64 0), (Value.string ByteArray.empty), (Value.string ByteArray.empty)] (getL l39 0) x42) fun x43 =>
          bindO (binV BinOp.add (getL l39 1) (Value.int IntKind.i64 1)) fun x44 =>
          M.ret (Out.norm [x43, x44])) (
          M.ret (Out.exit 2 [(getL l39 0), (getL l39 1)]))) [x38, (Value.int IntKind.i64 0)]) fun o46 =>
      outK o46 (fun _ => M.fail) (fun i47 l45 =>
        bif Nat.beq i47 2 then (
          bindO (nilChk a0) fun x49 =>
          bindO (fieldA 0 x49) fun x50 =>
          M.bind (rdM (ld1 x50)) fun x51 =>
          M.bind (bslM 44 1 (Builtin.zeroCells #[(Value.slice none 0 0)] 1) [(0, 1, x5)]) fun x52 =>
          M.bind (appM 44 1 24 #[(Value.slice none 0 0)] x51 x52) fun x53 =>
          bindO (nilChk a0) fun x54 =>
          bindO (fieldA 0 x54) fun x55 =>
          M.bind (stM 1 x55 x53) fun _ =>
          bindO (nilChk a0) fun x57 =>
          bindO (fieldA 1 x57) fun x58 =>
          M.bind (rdM (ld1 x58)) fun x59 =>
          M.bind (bslM 44 1 (Builtin.zeroCells #[(Value.slice none 0 0)] 1) [(0, 1, (getL l45 0))]) fun x60 =>
          M.bind (appM 44 1 24 #[(Value.slice none 0 0)] x59 x60) fun x61 =>
          bindO (nilChk a0) fun x62 =>
          bindO (fieldA 1 x62) fun x63 =>
          M.bind (stM 1 x63 x61) fun _ =>
          bindO (nilChk a0) fun x65 =>
          bindO (fieldA 2 x65) fun x66 =>
          M.bind (rdM (ld1 x66)) fun x67 =>
          M.bind (bslM 3 1 (Builtin.zeroCells #[(Value.int IntKind.i64 0)] 1) [(0, 1, x24)]) fun x68 =>
          M.bind (appM 3 1 8 #[(Value.int IntKind.i64 0)] x67 x68) fun x69 =>
          bindO (nilChk a0) fun x70 =>
          bindO (fieldA 2 x70) fun x71 =>
          M.bind (stM 1 x71 x69) fun _ =>
          M.ret (Value.tuple #[])) else
        M.fail) (fun r48 => M.ret r48)) else
    M.fail) (fun r35 => M.ret r35)
def F.granarylaw15_Letters_write.plan : Plan := (seq leaf (seq leaf (seq leaf (seq leaf (seq (seq leaf (body (loop [4] [4, 35, 36, 37, 38, 39, 40, 41, 42, 43, 44, 45] [0] (seq (seq leaf (cond leaf leaf)) (seq (body leaf) leaf))))) (seq leaf (seq (seq leaf (body (loop [5, 6] [5, 6, 51, 52, 53, 54, 55, 56, 57, 58, 59] [2] (seq (seq leaf (cond leaf leaf)) (seq (body leaf) leaf))))) (seq leaf (seq leaf leaf)))))))))
theorem F.granarylaw15_Letters_write.lift : LiftOk Tryz.prog 48 (ap1 F.granarylaw15_Letters_write) :=
  lift1 (g := evFn Tryz.prog tnil tnil 48 Tryz.f48 F.granarylaw15_Letters_write.plan) (evFn_sound tnil_ok tnil_ok Tryz.func48 (by kernel_rfl)) (fun x0 => by kernel_rfl)

/-- (*granary/granarylaw15.Letters).Keep -/
noncomputable def F.granarylaw15_Letters_Keep (a0 a1 : Value) : M Value :=
  bindO (nilChk a0) fun x1 =>
  bindO (fieldA 3 x1) fun x2 =>
  M.bind (rdM (ld1 x2)) fun x3 =>
  M.bind (bslM 44 1 (Builtin.zeroCells #[(Value.slice none 0 0)] 1) [(0, 1, a1)]) fun x4 =>
  M.bind (appM 44 1 24 #[(Value.slice none 0 0)] x3 x4) fun x5 =>
  bindO (nilChk a0) fun x6 =>
  bindO (fieldA 3 x6) fun x7 =>
  M.bind (stM 1 x7 x5) fun _ =>
  drewM <|
  getM fun _ =>
  bindO (nilChk a0) fun x10 =>
  bindO (fieldA 4 x10) fun x11 =>
  M.bind (rdM (ld1 x11)) fun x12 =>
  M.bind (appM 38 11 104 #[(Value.int IntKind.i64 0), (Value.int IntKind.i64 0), (Value.int IntKind.i64 0), (Value.int IntKind.i64 0), (Value.int IntKind.i64 0), (Value.int IntKind.i64 0), (Value.int IntKind.i64 0), (Value.int IntKind.i64 0), (Value.int IntKind.i64 0), (Value.string ByteArray.empty), (Value.string ByteArray.empty)] (Value.slice none 0 0) a1) fun x13 =>
  getM fun W14 =>
  M.bind (bslM 44 1 (Builtin.zeroCells #[(Value.slice none 0 0)] 1) [(0, 1, x13)]) fun x15 =>
  getM fun W16 =>
  M.bind (appM 44 1 24 #[(Value.slice none 0 0)] x12 x15) fun x17 =>
  getM fun _ =>
  bindO (nilChk a0) fun x19 =>
  bindO (fieldA 4 x19) fun x20 =>
  M.bind (stM 1 x20 x17) fun _ =>
  getM fun _ =>
  reqM (ld1 x11 W14 = some x12) <|
  reqM (ld1 x11 W16 = some x12) <|
  bindO (nilChk a0) fun x23 =>
  bindO (fieldA 3 x23) fun x24 =>
  M.bind (rdM (ld1 x24)) fun x25 =>
  bindO (lenL x25) fun x26 =>
  bindO (binV BinOp.gtr x26 (Value.int IntKind.i64 4)) fun x27 =>
  condM x27 (
    M.bind (F.granarylaw15_Letters_write a0) fun _ =>
    M.ret (Value.tuple #[])) (
    M.ret (Value.tuple #[]))
def F.granarylaw15_Letters_Keep.plan : Plan := (seq leaf (seq leaf (seq leaf (cond leaf leaf))))
theorem F.granarylaw15_Letters_Keep.lift : LiftOk Tryz.prog 60 (ap2 F.granarylaw15_Letters_Keep) :=
  lift2 (g := evFn Tryz.prog (tcons 48 (ap1 F.granarylaw15_Letters_write) tnil) tnil 60 Tryz.f60 F.granarylaw15_Letters_Keep.plan) (evFn_sound (tcons_ok F.granarylaw15_Letters_write.lift tnil_ok) tnil_ok Tryz.func60 (by kernel_rfl)) (fun x0 x1 => by kernel_rfl)

/-- (*granary/granarylaw15.World).out -/
noncomputable def F.granarylaw15_World_out (a0 a1 a2 a3 a4 a5 : Value) : M Value :=
  M.bind (F.granarylaw15_SameMsgs a1 a3) fun x1 =>
  M.bind (guardM x1 true (M.ret a2)) fun x2 =>
  M.bind (guardM x1 true (F.granarylaw15_num x2)) fun x3 =>
  M.bind (guardM x1 true (M.ret a4)) fun x4 =>
  M.bind (guardM x1 true (optM (binV BinOp.eql x3 x4))) fun x5 =>
  bindO (pickV x1 x5 (Value.bool false)) fun x6 =>
  M.bind (loopM (fun l7 =>
    bindO (lenL a3) fun x8 =>
    bindO (binV BinOp.lss (getL l7 0) x8) fun x9 =>
    condM x9 (
      M.bind (
        drewM <|
        bindO (idxA 11 a3 (getL l7 0)) fun x10 =>
        bindO (fieldA 2 x10) fun x11 =>
        M.bind (rdM (ld1 x11)) fun x12 =>
        bindO (binV BinOp.geq x12 (Value.int IntKind.i64 0)) fun x13 =>
        M.bind (guardM x13 true (M.ret a3)) fun x14 =>
        M.bind (guardM x13 true (M.ret (getL l7 0))) fun x15 =>
        M.bind (guardM x13 true (optM (idxA 11 x14 x15))) fun x16 =>
        M.bind (guardM x13 true (optM (fieldA 2 x16))) fun x17 =>
        M.bind (guardM x13 true (rdM (ld1 x17))) fun x18 =>
        M.bind (guardM x13 true (M.ret a0)) fun x19 =>
        M.bind (guardM x13 true (optM (nilChk x19))) fun x20 =>
        M.bind (guardM x13 true (optM (fieldA 25 x20))) fun x21 =>
        M.bind (guardM x13 true (rdM (ld1 x21))) fun x22 =>
        M.bind (guardM x13 true (optM (lenL x22))) fun x23 =>
        M.bind (guardM x13 true (optM (binV BinOp.lss x18 x23))) fun x24 =>
        bindO (pickV x13 x24 (Value.bool false)) fun x25 =>
        condM x25 (
          drewM <|
          bindO (nilChk a0) fun x26 =>
          bindO (fieldA 25 x26) fun x27 =>
          M.bind (rdM (ld1 x27)) fun x28 =>
          bindO (idxA 11 a3 (getL l7 0)) fun x29 =>
          bindO (fieldA 2 x29) fun x30 =>
          M.bind (rdM (ld1 x30)) fun x31 =>
          bindO (idxA 11 a3 (getL l7 0)) fun x32 =>
          M.bind (rdM (ldA 11 x32)) fun x33 =>
          bindO (idxA 11 x28 x31) fun x34 =>
          M.bind (stM 11 x34 x33) fun _ =>
          M.ret (Out.norm [])) (
          M.ret (Out.norm []))) fun o37 =>
      outK o37 (fun _ =>
        bindO (binV BinOp.add (getL l7 0) (Value.int IntKind.i64 1)) fun x40 =>
        M.ret (Out.norm [x40])) (fun _ _ =>
        M.fail) (fun r39 => M.ret (Out.ret r39))) (
      M.ret (Out.exit 0 [(getL l7 0)]))) [(Value.int IntKind.i64 0)]) fun o43 =>
  outK o43 (fun _ => M.fail) (fun i44 _ =>
    bif Nat.beq i44 0 then (
      bindO (nilChk a0) fun x46 =>
      bindO (fieldA 31 x46) fun x47 =>
      M.bind (F.granarylaw15_Letters_Keep x47 a1) fun _ =>
      M.bind (guardM x6 false (M.ret a5)) fun x49 =>
      M.bind (guardM x6 false (optM (notV x49))) fun x50 =>
      bindO (pickV x6 (Value.bool true) x50) fun x51 =>
      M.ret x51) else
    M.fail) (fun r45 => M.ret r45)
def F.granarylaw15_World_out.plan : Plan := (seq leaf (seq leaf (seq (seq leaf (body (loop [14] [14, 24, 25, 26, 27, 28, 29, 30, 31, 32, 33, 34, 35, 36, 37, 38, 39, 40, 41, 42, 43, 44, 45, 46, 47, 48, 49, 50, 51, 52, 53, 54, 55, 56, 57, 58, 59, 60, 61, 62] [0] (seq (seq leaf (cond leaf leaf)) (fork [] [30, 31, 32, 33, 34, 35, 36, 37, 38, 39, 40, 41, 42, 43, 44, 45, 46, 47, 48, 49, 50, 51, 52, 53, 54, 55, 56, 57, 58, 59, 60, 61, 62] [] (body (seq leaf (cond leaf leaf))) leaf))))) (seq leaf (seq leaf leaf)))))
theorem F.granarylaw15_World_out.lift : LiftOk Tryz.prog 25 (ap6 F.granarylaw15_World_out) :=
  lift6 (g := evFn Tryz.prog (tcons 22 (ap1 F.granarylaw15_num) (tcons 45 (ap2 F.granarylaw15_SameMsgs) (tcons 60 (ap2 F.granarylaw15_Letters_Keep) tnil))) tnil 25 Tryz.f25 F.granarylaw15_World_out.plan) (evFn_sound (tcons_ok F.granarylaw15_num.lift (tcons_ok F.granarylaw15_SameMsgs.lift (tcons_ok F.granarylaw15_Letters_Keep.lift tnil_ok))) tnil_ok Tryz.func25 (by kernel_rfl)) (fun x0 x1 x2 x3 x4 x5 => by kernel_rfl)

/-- (*granary/control.fetching).fits -/
noncomputable def F.control_fetching_fits (_a0 a1 a2 : Value) : M Value :=
  M.bind (newM 104 (Value.cells a1)) fun x1 =>
  M.bind (newM 38 (Value.cells a2)) fun x2 =>
  bindO (fieldA 0 x2) fun x3 =>
  M.bind (rdM (ld1 x3)) fun x4 =>
  bindO (binV BinOp.eql x4 (Value.int IntKind.i64 4)) fun x5 =>
  M.bind (guardM x5 true (optM (fieldA 4 x2))) fun x6 =>
  M.bind (guardM x5 true (rdM (ld1 x6))) fun x7 =>
  M.bind (guardM x5 true (optM (fieldA 0 x1))) fun x8 =>
  M.bind (guardM x5 true (rdM (ld1 x8))) fun x9 =>
  M.bind (guardM x5 true (optM (binV BinOp.eql x7 x9))) fun x10 =>
  bindO (pickV x5 x10 (Value.bool false)) fun x11 =>
  M.bind (guardM x11 true (optM (fieldA 6 x2))) fun x12 =>
  M.bind (guardM x11 true (rdM (ld1 x12))) fun x13 =>
  M.bind (guardM x11 true (optM (fieldA 2 x1))) fun x14 =>
  M.bind (guardM x11 true (rdM (ld1 x14))) fun x15 =>
  M.bind (guardM x11 true (optM (binV BinOp.eql x13 x15))) fun x16 =>
  bindO (pickV x11 x16 (Value.bool false)) fun x17 =>
  M.ret x17
def F.control_fetching_fits.plan : Plan := (seq leaf (seq leaf leaf))
theorem F.control_fetching_fits.lift : LiftOk Tryz.prog 128 (ap3 F.control_fetching_fits) :=
  lift3 (g := evFn Tryz.prog tnil tnil 128 Tryz.f128 F.control_fetching_fits.plan) (evFn_sound tnil_ok tnil_ok Tryz.func128 (by kernel_rfl)) (fun x0 x1 x2 => by kernel_rfl)

/-- (*granary/control.swapping).fits -/
noncomputable def F.control_swapping_fits (_a0 a1 a2 : Value) : M Value :=
  M.bind (newM 104 (Value.cells a1)) fun x1 =>
  M.bind (newM 38 (Value.cells a2)) fun x2 =>
  bindO (fieldA 0 x2) fun x3 =>
  M.bind (rdM (ld1 x3)) fun x4 =>
  bindO (binV BinOp.eql x4 (Value.int IntKind.i64 6)) fun x5 =>
  M.bind (guardM x5 true (optM (fieldA 4 x2))) fun x6 =>
  M.bind (guardM x5 true (rdM (ld1 x6))) fun x7 =>
  M.bind (guardM x5 true (optM (fieldA 0 x1))) fun x8 =>
  M.bind (guardM x5 true (rdM (ld1 x8))) fun x9 =>
  M.bind (guardM x5 true (optM (binV BinOp.eql x7 x9))) fun x10 =>
  bindO (pickV x5 x10 (Value.bool false)) fun x11 =>
  M.bind (guardM x11 true (optM (fieldA 5 x2))) fun x12 =>
  M.bind (guardM x11 true (rdM (ld1 x12))) fun x13 =>
  M.bind (guardM x11 true (optM (binV BinOp.eql x13 (Value.int IntKind.i64 1)))) fun x14 =>
  bindO (pickV x11 x14 (Value.bool false)) fun x15 =>
  M.bind (guardM x15 true (optM (fieldA 8 x2))) fun x16 =>
  M.bind (guardM x15 true (rdM (ld1 x16))) fun x17 =>
  M.bind (guardM x15 true (optM (binV BinOp.neq x17 (Value.int IntKind.i64 0)))) fun x18 =>
  M.bind (guardM x15 true (M.ret x18)) fun x19 =>
  M.bind (guardM x19 false (optM (fieldA 6 x2))) fun x20 =>
  M.bind (guardM x19 false (rdM (ld1 x20))) fun x21 =>
  M.bind (guardM x19 false (optM (fieldA 2 x1))) fun x22 =>
  M.bind (guardM x19 false (rdM (ld1 x22))) fun x23 =>
  M.bind (guardM x19 false (optM (binV BinOp.eql x21 x23))) fun x24 =>
  M.bind (guardM x15 true (optM (pickV x19 (Value.bool true) x24))) fun x25 =>
  bindO (pickV x15 x25 (Value.bool false)) fun x26 =>
  M.ret x26
def F.control_swapping_fits.plan : Plan := (seq leaf (seq leaf leaf))
theorem F.control_swapping_fits.lift : LiftOk Tryz.prog 133 (ap3 F.control_swapping_fits) :=
  lift3 (g := evFn Tryz.prog tnil tnil 133 Tryz.f133 F.control_swapping_fits.plan) (evFn_sound tnil_ok tnil_ok Tryz.func133 (by kernel_rfl)) (fun x0 x1 x2 => by kernel_rfl)

/-- (*granary/control.looking).fits -/
noncomputable def F.control_looking_fits (_a0 a1 a2 : Value) : M Value :=
  M.bind (newM 104 (Value.cells a1)) fun _ =>
  M.bind (newM 38 (Value.cells a2)) fun x2 =>
  bindO (fieldA 0 x2) fun x3 =>
  M.bind (rdM (ld1 x3)) fun x4 =>
  bindO (binV BinOp.eql x4 (Value.int IntKind.i64 10)) fun x5 =>
  M.ret x5
def F.control_looking_fits.plan : Plan := (seq leaf (seq leaf leaf))
theorem F.control_looking_fits.lift : LiftOk Tryz.prog 139 (ap3 F.control_looking_fits) :=
  lift3 (g := evFn Tryz.prog tnil tnil 139 Tryz.f139 F.control_looking_fits.plan) (evFn_sound tnil_ok tnil_ok Tryz.func139 (by kernel_rfl)) (fun x0 x1 x2 => by kernel_rfl)

/-- (*granary/control.backing).fits -/
noncomputable def F.control_backing_fits (_a0 a1 a2 : Value) : M Value :=
  M.bind (newM 104 (Value.cells a1)) fun x1 =>
  M.bind (newM 38 (Value.cells a2)) fun x2 =>
  bindO (fieldA 0 x2) fun x3 =>
  M.bind (rdM (ld1 x3)) fun x4 =>
  bindO (binV BinOp.eql x4 (Value.int IntKind.i64 8)) fun x5 =>
  M.bind (guardM x5 true (optM (fieldA 4 x2))) fun x6 =>
  M.bind (guardM x5 true (rdM (ld1 x6))) fun x7 =>
  M.bind (guardM x5 true (optM (fieldA 0 x1))) fun x8 =>
  M.bind (guardM x5 true (rdM (ld1 x8))) fun x9 =>
  M.bind (guardM x5 true (optM (binV BinOp.eql x7 x9))) fun x10 =>
  bindO (pickV x5 x10 (Value.bool false)) fun x11 =>
  M.bind (guardM x11 true (optM (fieldA 5 x2))) fun x12 =>
  M.bind (guardM x11 true (rdM (ld1 x12))) fun x13 =>
  M.bind (guardM x11 true (optM (binV BinOp.eql x13 (Value.int IntKind.i64 2)))) fun x14 =>
  bindO (pickV x11 x14 (Value.bool false)) fun x15 =>
  M.ret x15
def F.control_backing_fits.plan : Plan := (seq leaf (seq leaf leaf))
theorem F.control_backing_fits.lift : LiftOk Tryz.prog 145 (ap3 F.control_backing_fits) :=
  lift3 (g := evFn Tryz.prog tnil tnil 145 Tryz.f145 F.control_backing_fits.plan) (evFn_sound tnil_ok tnil_ok Tryz.func145 (by kernel_rfl)) (fun x0 x1 x2 => by kernel_rfl)

/-- (*granary/control.Control).back -/
noncomputable def F.control_Control_back (a0 : Value) : M Value :=
  bindO (nilChk a0) fun x1 =>
  bindO (fieldA 0 x1) fun x2 =>
  M.bind (rdM (ld1 x2)) fun x3 =>
  M.bind (F.control_newLedger x3) fun x4 =>
  bindO (buildV #[(Value.slice none 0 0), (Value.slice none 0 0), (Value.int IntKind.i64 0), (Value.int IntKind.i64 0)] [(0, 4, x4)]) fun x5 =>
  M.bind (newM 149 (Value.cells x5)) fun x6 =>
  M.bind (F.control_Control_enter a0 (Value.iface 148 x6)) fun x7 =>
  M.ret x7
def F.control_Control_back.plan : Plan := (seq leaf (seq leaf leaf))
theorem F.control_Control_back.lift : LiftOk Tryz.prog 68 (ap1 F.control_Control_back) :=
  lift1 (g := evFn Tryz.prog (tcons 57 (ap1 F.control_newLedger) (tcons 58 (ap2 F.control_Control_enter) tnil)) tnil 68 Tryz.f68 F.control_Control_back.plan) (evFn_sound (tcons_ok F.control_newLedger.lift (tcons_ok F.control_Control_enter.lift tnil_ok)) tnil_ok Tryz.func68 (by kernel_rfl)) (fun x0 => by kernel_rfl)

/-- (*granary/control.fetching).refused -/
noncomputable def F.control_fetching_refused (_a0 a1 : Value) : M Value :=
  M.bind (F.control_Control_back a1) fun x1 =>
  M.ret x1
def F.control_fetching_refused.plan : Plan := (seq leaf (seq leaf leaf))
theorem F.control_fetching_refused.lift : LiftOk Tryz.prog 130 (ap2 F.control_fetching_refused) :=
  lift2 (g := evFn Tryz.prog (tcons 68 (ap1 F.control_Control_back) tnil) tnil 130 Tryz.f130 F.control_fetching_refused.plan) (evFn_sound (tcons_ok F.control_Control_back.lift tnil_ok) tnil_ok Tryz.func130 (by kernel_rfl)) (fun x0 x1 => by kernel_rfl)

/-- (*granary/control.swapping).refused -/
noncomputable def F.control_swapping_refused (_a0 a1 : Value) : M Value :=
  M.bind (F.control_Control_back a1) fun x1 =>
  M.ret x1
def F.control_swapping_refused.plan : Plan := (seq leaf (seq leaf leaf))
theorem F.control_swapping_refused.lift : LiftOk Tryz.prog 136 (ap2 F.control_swapping_refused) :=
  lift2 (g := evFn Tryz.prog (tcons 68 (ap1 F.control_Control_back) tnil) tnil 136 Tryz.f136 F.control_swapping_refused.plan) (evFn_sound (tcons_ok F.control_Control_back.lift tnil_ok) tnil_ok Tryz.func136 (by kernel_rfl)) (fun x0 x1 => by kernel_rfl)

/-- (*granary/control.looking).refused -/
noncomputable def F.control_looking_refused (_a0 _a1 : Value) : M Value :=
  M.ret (Value.slice none 0 0)
def F.control_looking_refused.plan : Plan := (seq leaf (seq leaf leaf))
theorem F.control_looking_refused.lift : LiftOk Tryz.prog 142 (ap2 F.control_looking_refused) :=
  lift2 (g := evFn Tryz.prog tnil tnil 142 Tryz.f142 F.control_looking_refused.plan) (evFn_sound tnil_ok tnil_ok Tryz.func142 (by kernel_rfl)) (fun x0 x1 => by kernel_rfl)

/-- (*granary/control.backing).refused -/
noncomputable def F.control_backing_refused (_a0 _a1 : Value) : M Value :=
  M.ret (Value.slice none 0 0)
def F.control_backing_refused.plan : Plan := (seq leaf (seq leaf leaf))
theorem F.control_backing_refused.lift : LiftOk Tryz.prog 148 (ap2 F.control_backing_refused) :=
  lift2 (g := evFn Tryz.prog tnil tnil 148 Tryz.f148 F.control_backing_refused.plan) (evFn_sound tnil_ok tnil_ok Tryz.func148 (by kernel_rfl)) (fun x0 x1 => by kernel_rfl)

/-- slices.Index[[]bool,bool] -/
noncomputable def F.slices_Index_inst (a0 a1 : Value) : M Value :=
  bindO (lenL a0) fun x1 =>
  M.bind (loopM (fun l2 =>
    bindO (binV BinOp.lss (getL l2 0) x1) fun x3 =>
    condM x3 (
      bindO (idxA 1 a0 (getL l2 0)) fun x4 =>
      M.bind (rdM (ld1 x4)) fun x5 =>
      bindO (eqV (EqSh.one EqK.bool) a1 x5) fun x6 =>
      condM x6 (
        M.ret (Out.ret (getL l2 0))) (
        bindO (binV BinOp.add (getL l2 0) (Value.int IntKind.i64 1)) fun x7 =>
        M.ret (Out.norm [x7]))) (
      M.ret (Out.exit 0 [(getL l2 0)]))) [(Value.int IntKind.i64 0)]) fun o9 =>
  outK o9 (fun _ => M.fail) (fun i10 _ =>
    bif Nat.beq i10 0 then (
      M.ret (Value.int IntKind.i64 (-1))) else
    M.fail) (fun r11 => M.ret r11)
def F.slices_Index_inst.plan : Plan := (seq leaf (seq (seq leaf (body (loop [8] [4, 5, 8, 9, 10, 11, 12, 13, 14, 15, 16, 17, 18] [0] (seq leaf (seq (cond leaf leaf) (seq (body (seq leaf (seq leaf (cond (seq leaf leaf) leaf)))) leaf)))))) (seq leaf leaf)))
theorem F.slices_Index_inst.lift : LiftOk Tryz.prog 78 (ap2 F.slices_Index_inst) :=
  lift2 (g := evFn Tryz.prog tnil tnil 78 Tryz.f78 F.slices_Index_inst.plan) (evFn_sound tnil_ok tnil_ok Tryz.func78 (by kernel_rfl)) (fun x0 x1 => by kernel_rfl)

/-- slices.Contains[[]bool,bool] -/
noncomputable def F.slices_Contains_inst (a0 a1 : Value) : M Value :=
  M.bind (F.slices_Index_inst a0 a1) fun x1 =>
  bindO (binV BinOp.geq x1 (Value.int IntKind.i64 0)) fun x2 =>
  M.ret x2
def F.slices_Contains_inst.plan : Plan := (seq leaf (seq leaf leaf))
theorem F.slices_Contains_inst.lift : LiftOk Tryz.prog 61 (ap2 F.slices_Contains_inst) :=
  lift2 (g := evFn Tryz.prog (tcons 78 (ap2 F.slices_Index_inst) tnil) tnil 61 Tryz.f61 F.slices_Contains_inst.plan) (evFn_sound (tcons_ok F.slices_Index_inst.lift tnil_ok) tnil_ok Tryz.func61 (by kernel_rfl)) (fun x0 x1 => by kernel_rfl)

/-- (*granary/control.fetching).done -/
noncomputable def F.control_fetching_done (_a0 a1 : Value) : M Value :=
  bindO (nilChk a1) fun x1 =>
  bindO (fieldA 0 x1) fun x2 =>
  M.bind (rdM (ld1 x2)) fun x3 =>
  M.bind (F.control_newLedger x3) fun x4 =>
  bindO (buildV #[(Value.slice none 0 0), (Value.slice none 0 0), (Value.int IntKind.i64 0), (Value.int IntKind.i64 0)] [(0, 4, x4)]) fun x5 =>
  M.bind (newM 121 (Value.cells x5)) fun x6 =>
  M.bind (F.control_Control_enter a1 (Value.iface 120 x6)) fun x7 =>
  M.ret x7
def F.control_fetching_done.plan : Plan := (seq leaf (seq leaf leaf))
theorem F.control_fetching_done.lift : LiftOk Tryz.prog 127 (ap2 F.control_fetching_done) :=
  lift2 (g := evFn Tryz.prog (tcons 57 (ap1 F.control_newLedger) (tcons 58 (ap2 F.control_Control_enter) tnil)) tnil 127 Tryz.f127 F.control_fetching_done.plan) (evFn_sound (tcons_ok F.control_newLedger.lift (tcons_ok F.control_Control_enter.lift tnil_ok)) tnil_ok Tryz.func127 (by kernel_rfl)) (fun x0 x1 => by kernel_rfl)

/-- slices.Clone[[]int,int] -/
noncomputable def F.slices_Clone_inst (a0 : Value) : M Value :=
  bindO (eqV (EqSh.one EqK.sl) a0 (Value.slice none 0 0)) fun x1 =>
  condM x1 (
    M.ret (Value.slice none 0 0)) (
    M.bind (bslM 3 0 (Builtin.zeroCells #[(Value.int IntKind.i64 0)] 0) []) fun x2 =>
    M.bind (appM 3 1 8 #[(Value.int IntKind.i64 0)] x2 a0) fun x3 =>
    M.ret x3)
def F.slices_Clone_inst.plan : Plan := (seq leaf (seq (seq leaf (cond (seq leaf leaf) leaf)) (seq leaf leaf)))
theorem F.slices_Clone_inst.lift : LiftOk Tryz.prog 70 (ap1 F.slices_Clone_inst) :=
  lift1 (g := evFn Tryz.prog tnil tnil 70 Tryz.f70 F.slices_Clone_inst.plan) (evFn_sound tnil_ok tnil_ok Tryz.func70 (by kernel_rfl)) (fun x0 => by kernel_rfl)

/-- What this function's calls through interface values come to. -/
noncomputable def F.control_Control_end.inv : Tab := (tcons 126 (ap1 F.control_ledger_book) tnil)
theorem F.control_Control_end.inv_ok : TabOk Tryz.prog F.control_Control_end.inv := (tcons_ok F.control_ledger_book.lift tnil_ok)
theorem F.control_Control_end.inv_117_book (v : Value) : invV Tryz.prog F.control_Control_end.inv "granary/control.book" (.iface 117 v) [] = (match fieldA 0 v with | some p => F.control_ledger_book p | none => M.fail) := by kernel_rfl
theorem F.control_Control_end.inv_120_book (v : Value) : invV Tryz.prog F.control_Control_end.inv "granary/control.book" (.iface 120 v) [] = (match fieldA 0 v with | some p => F.control_ledger_book p | none => M.fail) := by kernel_rfl
theorem F.control_Control_end.inv_122_book (v : Value) : invV Tryz.prog F.control_Control_end.inv "granary/control.book" (.iface 122 v) [] = (match fieldA 0 v with | some p => F.control_ledger_book p | none => M.fail) := by kernel_rfl
theorem F.control_Control_end.inv_148_book (v : Value) : invV Tryz.prog F.control_Control_end.inv "granary/control.book" (.iface 148 v) [] = (match fieldA 0 v with | some p => F.control_ledger_book p | none => M.fail) := by kernel_rfl
/-- (*granary/control.Control).end -/
noncomputable def F.control_Control_end (a0 a1 : Value) : M Value :=
  bindO (nilChk a0) fun x1 =>
  bindO (fieldA 7 x1) fun x2 =>
  M.bind (rdM (ld1 x2)) fun x3 =>
  M.bind (invV Tryz.prog F.control_Control_end.inv "granary/control.book" x3 []) fun x4 =>
  drewM <|
  getM fun _ =>
  bindO (nilChk a0) fun x6 =>
  bindO (fieldA 4 x6) fun x7 =>
  bindO (fieldA 0 x7) fun x8 =>
  M.bind (rdM (ld1 x8)) fun x9 =>
  bindO (nilChk a0) fun x10 =>
  bindO (fieldA 4 x10) fun x11 =>
  bindO (fieldA 1 x11) fun x12 =>
  M.bind (rdM (ld1 x12)) fun x13 =>
  bindO (nilChk a0) fun x14 =>
  bindO (fieldA 4 x14) fun x15 =>
  bindO (fieldA 2 x15) fun x16 =>
  M.bind (rdM (ld1 x16)) fun x17 =>
  bindO (nilChk x4) fun x18 =>
  bindO (fieldA 1 x18) fun x19 =>
  M.bind (rdM (ld1 x19)) fun x20 =>
  M.bind (F.slices_Clone_inst x20) fun x21 =>
  getM fun W22 =>
  M.bind (F.control_ledger_missing x4) fun x23 =>
  getM fun W24 =>
  bindO (buildV #[(Value.int IntKind.i64 0), (Value.int IntKind.i64 0), (Value.int IntKind.i64 0), (Value.int IntKind.i64 0), (Value.slice none 0 0), (Value.slice none 0 0)] [(0, 1, x9), (1, 1, x13), (2, 1, x17), (3, 1, a1), (4, 1, x21), (5, 1, x23)]) fun x25 =>
  bindO (nilChk a0) fun x26 =>
  bindO (fieldA 9 x26) fun x27 =>
  M.bind (stM 6 x27 x25) fun _ =>
  getM fun _ =>
  reqM (ld1 x8 W22 = some x9) <|
  reqM (ld1 x8 W24 = some x9) <|
  reqM (ld1 x12 W22 = some x13) <|
  reqM (ld1 x12 W24 = some x13) <|
  reqM (ld1 x16 W22 = some x17) <|
  reqM (ld1 x16 W24 = some x17) <|
  bindO (nilChk a0) fun x30 =>
  bindO (fieldA 8 x30) fun x31 =>
  M.bind (stM 1 x31 (Value.bool true)) fun _ =>
  bindO (nilChk a0) fun x33 =>
  bindO (fieldA 7 x33) fun x34 =>
  M.bind (stM 1 x34 Value.nilIface) fun _ =>
  M.ret (Value.slice none 0 0)
def F.control_Control_end.plan : Plan := (seq leaf (seq leaf (seq leaf (seq leaf (seq leaf (seq leaf leaf))))))
theorem F.control_Control_end.lift : LiftOk Tryz.prog 69 (ap2 F.control_Control_end) :=
  lift2 (g := evFn Tryz.prog (tcons 70 (ap1 F.slices_Clone_inst) (tcons 79 (ap1 F.control_ledger_missing) tnil)) F.control_Control_end.inv 69 Tryz.f69 F.control_Control_end.plan) (evFn_sound (tcons_ok F.slices_Clone_inst.lift (tcons_ok F.control_ledger_missing.lift tnil_ok)) F.control_Control_end.inv_ok Tryz.func69 (by kernel_rfl)) (fun x0 x1 => by kernel_rfl)

/-- (*granary/control.swapping).done -/
noncomputable def F.control_swapping_done (_a0 a1 : Value) : M Value :=
  M.bind (F.control_Control_end a1 (Value.int IntKind.i64 1)) fun x1 =>
  M.ret x1
def F.control_swapping_done.plan : Plan := (seq leaf (seq leaf leaf))
theorem F.control_swapping_done.lift : LiftOk Tryz.prog 132 (ap2 F.control_swapping_done) :=
  lift2 (g := evFn Tryz.prog (tcons 69 (ap2 F.control_Control_end) tnil) tnil 132 Tryz.f132 F.control_swapping_done.plan) (evFn_sound (tcons_ok F.control_Control_end.lift tnil_ok) tnil_ok Tryz.func132 (by kernel_rfl)) (fun x0 x1 => by kernel_rfl)

/-- (*granary/control.looking).done -/
noncomputable def F.control_looking_done (_a0 a1 : Value) : M Value :=
  M.bind (F.control_Control_end a1 (Value.int IntKind.i64 1)) fun x1 =>
  M.ret x1
def F.control_looking_done.plan : Plan := (seq leaf (seq leaf leaf))
theorem F.control_looking_done.lift : LiftOk Tryz.prog 138 (ap2 F.control_looking_done) :=
  lift2 (g := evFn Tryz.prog (tcons 69 (ap2 F.control_Control_end) tnil) tnil 138 Tryz.f138 F.control_looking_done.plan) (evFn_sound (tcons_ok F.control_Control_end.lift tnil_ok) tnil_ok Tryz.func138 (by kernel_rfl)) (fun x0 x1 => by kernel_rfl)

/-- (*granary/control.backing).done -/
noncomputable def F.control_backing_done (_a0 a1 : Value) : M Value :=
  M.bind (F.control_Control_end a1 (Value.int IntKind.i64 2)) fun x1 =>
  M.ret x1
def F.control_backing_done.plan : Plan := (seq leaf (seq leaf leaf))
theorem F.control_backing_done.lift : LiftOk Tryz.prog 144 (ap2 F.control_backing_done) :=
  lift2 (g := evFn Tryz.prog (tcons 69 (ap2 F.control_Control_end) tnil) tnil 144 Tryz.f144 F.control_backing_done.plan) (evFn_sound (tcons_ok F.control_Control_end.lift tnil_ok) tnil_ok Tryz.func144 (by kernel_rfl)) (fun x0 x1 => by kernel_rfl)

/-- What this function's calls through interface values come to. -/
noncomputable def F.control_Control_Take.inv : Tab := (tcons 126 (ap1 F.control_ledger_book) (tcons 127 (ap2 F.control_fetching_done) (tcons 128 (ap3 F.control_fetching_fits) (tcons 130 (ap2 F.control_fetching_refused) (tcons 132 (ap2 F.control_swapping_done) (tcons 133 (ap3 F.control_swapping_fits) (tcons 136 (ap2 F.control_swapping_refused) (tcons 138 (ap2 F.control_looking_done) (tcons 139 (ap3 F.control_looking_fits) (tcons 142 (ap2 F.control_looking_refused) (tcons 144 (ap2 F.control_backing_done) (tcons 145 (ap3 F.control_backing_fits) (tcons 148 (ap2 F.control_backing_refused) tnil)))))))))))))
theorem F.control_Control_Take.inv_ok : TabOk Tryz.prog F.control_Control_Take.inv := (tcons_ok F.control_ledger_book.lift (tcons_ok F.control_fetching_done.lift (tcons_ok F.control_fetching_fits.lift (tcons_ok F.control_fetching_refused.lift (tcons_ok F.control_swapping_done.lift (tcons_ok F.control_swapping_fits.lift (tcons_ok F.control_swapping_refused.lift (tcons_ok F.control_looking_done.lift (tcons_ok F.control_looking_fits.lift (tcons_ok F.control_looking_refused.lift (tcons_ok F.control_backing_done.lift (tcons_ok F.control_backing_fits.lift (tcons_ok F.control_backing_refused.lift tnil_ok)))))))))))))
theorem F.control_Control_Take.inv_117_book (v : Value) : invV Tryz.prog F.control_Control_Take.inv "granary/control.book" (.iface 117 v) [] = (match fieldA 0 v with | some p => F.control_ledger_book p | none => M.fail) := by kernel_rfl
theorem F.control_Control_Take.inv_117_done (v x0 : Value) : invV Tryz.prog F.control_Control_Take.inv "granary/control.done" (.iface 117 v) [x0] = F.control_fetching_done v x0 := by kernel_rfl
theorem F.control_Control_Take.inv_117_fits (v x0 x1 : Value) : invV Tryz.prog F.control_Control_Take.inv "granary/control.fits" (.iface 117 v) [x0, x1] = F.control_fetching_fits v x0 x1 := by kernel_rfl
theorem F.control_Control_Take.inv_117_refused (v x0 : Value) : invV Tryz.prog F.control_Control_Take.inv "granary/control.refused" (.iface 117 v) [x0] = F.control_fetching_refused v x0 := by kernel_rfl
theorem F.control_Control_Take.inv_120_book (v : Value) : invV Tryz.prog F.control_Control_Take.inv "granary/control.book" (.iface 120 v) [] = (match fieldA 0 v with | some p => F.control_ledger_book p | none => M.fail) := by kernel_rfl
theorem F.control_Control_Take.inv_120_done (v x0 : Value) : invV Tryz.prog F.control_Control_Take.inv "granary/control.done" (.iface 120 v) [x0] = F.control_swapping_done v x0 := by kernel_rfl
theorem F.control_Control_Take.inv_120_fits (v x0 x1 : Value) : invV Tryz.prog F.control_Control_Take.inv "granary/control.fits" (.iface 120 v) [x0, x1] = F.control_swapping_fits v x0 x1 := by kernel_rfl
theorem F.control_Control_Take.inv_120_refused (v x0 : Value) : invV Tryz.prog F.control_Control_Take.inv "granary/control.refused" (.iface 120 v) [x0] = F.control_swapping_refused v x0 := by kernel_rfl
theorem F.control_Control_Take.inv_122_book (v : Value) : invV Tryz.prog F.control_Control_Take.inv "granary/control.book" (.iface 122 v) [] = (match fieldA 0 v with | some p => F.control_ledger_book p | none => M.fail) := by kernel_rfl
theorem F.control_Control_Take.inv_122_done (v x0 : Value) : invV Tryz.prog F.control_Control_Take.inv "granary/control.done" (.iface 122 v) [x0] = F.control_looking_done v x0 := by kernel_rfl
theorem F.control_Control_Take.inv_122_fits (v x0 x1 : Value) : invV Tryz.prog F.control_Control_Take.inv "granary/control.fits" (.iface 122 v) [x0, x1] = F.control_looking_fits v x0 x1 := by kernel_rfl
theorem F.control_Control_Take.inv_122_refused (v x0 : Value) : invV Tryz.prog F.control_Control_Take.inv "granary/control.refused" (.iface 122 v) [x0] = F.control_looking_refused v x0 := by kernel_rfl
theorem F.control_Control_Take.inv_148_book (v : Value) : invV Tryz.prog F.control_Control_Take.inv "granary/control.book" (.iface 148 v) [] = (match fieldA 0 v with | some p => F.control_ledger_book p | none => M.fail) := by kernel_rfl
theorem F.control_Control_Take.inv_148_done (v x0 : Value) : invV Tryz.prog F.control_Control_Take.inv "granary/control.done" (.iface 148 v) [x0] = F.control_backing_done v x0 := by kernel_rfl
theorem F.control_Control_Take.inv_148_fits (v x0 x1 : Value) : invV Tryz.prog F.control_Control_Take.inv "granary/control.fits" (.iface 148 v) [x0, x1] = F.control_backing_fits v x0 x1 := by kernel_rfl
theorem F.control_Control_Take.inv_148_refused (v x0 : Value) : invV Tryz.prog F.control_Control_Take.inv "granary/control.refused" (.iface 148 v) [x0] = F.control_backing_refused v x0 := by kernel_rfl
/-- (*granary/control.Control).Take -/
noncomputable def F.control_Control_Take (a0 a1 : Value) : M Value :=
  M.bind (newM 38 (Value.cells a1)) fun x1 =>
  bindO (eqV (EqSh.one EqK.ptr) a0 (Value.pointer none)) fun x2 =>
  condM x2 (
    M.ret (Value.tuple #[(Value.slice none 0 0), (Value.int IntKind.i64 2)])) (
    drewM <|
    bindO (nilChk a0) fun x3 =>
    bindO (fieldA 7 x3) fun x4 =>
    M.bind (rdM (ld1 x4)) fun x5 =>
    bindO (eqV (EqSh.one EqK.ifn) x5 Value.nilIface) fun x6 =>
    M.bind (guardM x6 false (optM (fieldA 1 x1))) fun x7 =>
    M.bind (guardM x6 false (rdM (ld1 x7))) fun x8 =>
    M.bind (guardM x6 false (optM (binV BinOp.lss x8 (Value.int IntKind.i64 0)))) fun x9 =>
    bindO (pickV x6 (Value.bool true) x9) fun x10 =>
    M.bind (guardM x10 false (optM (fieldA 1 x1))) fun x11 =>
    M.bind (guardM x10 false (rdM (ld1 x11))) fun x12 =>
    M.bind (guardM x10 false (M.ret a0)) fun x13 =>
    M.bind (guardM x10 false (optM (nilChk x13))) fun x14 =>
    M.bind (guardM x10 false (optM (fieldA 0 x14))) fun x15 =>
    M.bind (guardM x10 false (rdM (ld1 x15))) fun x16 =>
    M.bind (guardM x10 false (optM (binV BinOp.geq x12 x16))) fun x17 =>
    bindO (pickV x10 (Value.bool true) x17) fun x18 =>
    M.bind (guardM x18 false (optM (fieldA 3 x1))) fun x19 =>
    M.bind (guardM x18 false (rdM (ld1 x19))) fun x20 =>
    M.bind (guardM x18 false (M.ret a0)) fun x21 =>
    M.bind (guardM x18 false (optM (nilChk x21))) fun x22 =>
    M.bind (guardM x18 false (optM (fieldA 4 x22))) fun x23 =>
    M.bind (guardM x18 false (optM (fieldA 0 x23))) fun x24 =>
    M.bind (guardM x18 false (rdM (ld1 x24))) fun x25 =>
    M.bind (guardM x18 false (optM (binV BinOp.neq x20 x25))) fun x26 =>
    bindO (pickV x18 (Value.bool true) x26) fun x27 =>
    M.bind (guardM x27 false (M.ret a0)) fun x28 =>
    M.bind (guardM x27 false (optM (nilChk x28))) fun x29 =>
    M.bind (guardM x27 false (optM (fieldA 7 x29))) fun x30 =>
    M.bind (guardM x27 false (rdM (ld1 x30))) fun x31 =>
    M.bind (guardM x27 false (M.ret a0)) fun x32 =>
    M.bind (guardM x27 false (optM (nilChk x32))) fun x33 =>
    M.bind (guardM x27 false (optM (fieldA 4 x33))) fun x34 =>
    M.bind (guardM x27 false (rdM (ldA 3 x34))) fun x35 =>
    M.bind (guardM x27 false (rdM (ldA 11 x1))) fun x36 =>
    M.bind (guardM x27 false (optM (nilChk x31))) fun _ =>
    M.bind (guardM x27 false (M.ret x31)) fun x38 =>
    M.bind (guardM x27 false (invV Tryz.prog F.control_Control_Take.inv "granary/control.fits" x38 [x35, x36])) fun x39 =>
    M.bind (guardM x27 false (optM (notV x39))) fun x40 =>
    bindO (pickV x27 (Value.bool true) x40) fun x41 =>
    condM x41 (
      M.ret (Value.tuple #[(Value.slice none 0 0), (Value.int IntKind.i64 0)])) (
      bindO (nilChk a0) fun x42 =>
      bindO (fieldA 7 x42) fun x43 =>
      M.bind (rdM (ld1 x43)) fun x44 =>
      M.bind (invV Tryz.prog F.control_Control_Take.inv "granary/control.book" x44 []) fun x45 =>
      drewM <|
      bindO (nilChk x45) fun x46 =>
      bindO (fieldA 0 x46) fun x47 =>
      M.bind (rdM (ld1 x47)) fun x48 =>
      bindO (fieldA 1 x1) fun x49 =>
      M.bind (rdM (ld1 x49)) fun x50 =>
      bindO (idxA 1 x48 x50) fun x51 =>
      M.bind (rdM (ld1 x51)) fun x52 =>
      condM x52 (
        M.ret (Value.tuple #[(Value.slice none 0 0), (Value.int IntKind.i64 0)])) (
        bindO (fieldA 8 x1) fun x53 =>
        M.bind (rdM (ld1 x53)) fun x54 =>
        bindO (binV BinOp.neq x54 (Value.int IntKind.i64 0)) fun x55 =>
        condM x55 (
          bindO (nilChk a0) fun x56 =>
          bindO (fieldA 7 x56) fun x57 =>
          M.bind (rdM (ld1 x57)) fun x58 =>
          M.bind (invV Tryz.prog F.control_Control_Take.inv "granary/control.refused" x58 [a0]) fun x59 =>
          M.ret (Value.tuple #[x59, (Value.int IntKind.i64 0)])) (
          drewM <|
          bindO (nilChk x45) fun x60 =>
          bindO (fieldA 0 x60) fun x61 =>
          M.bind (rdM (ld1 x61)) fun x62 =>
          bindO (fieldA 1 x1) fun x63 =>
          M.bind (rdM (ld1 x63)) fun x64 =>
          bindO (idxA 1 x62 x64) fun x65 =>
          M.bind (stM 1 x65 (Value.bool true)) fun _ =>
          M.bind (
            bindO (fieldA 0 x1) fun x67 =>
            M.bind (rdM (ld1 x67)) fun x68 =>
            bindO (binV BinOp.neq x68 (Value.int IntKind.i64 4)) fun x69 =>
            condM x69 (
              drewM <|
              bindO (nilChk x45) fun x70 =>
              bindO (fieldA 1 x70) fun x71 =>
              M.bind (rdM (ld1 x71)) fun x72 =>
              bindO (fieldA 1 x1) fun x73 =>
              M.bind (rdM (ld1 x73)) fun x74 =>
              bindO (fieldA 6 x1) fun x75 =>
              M.bind (rdM (ld1 x75)) fun x76 =>
              bindO (idxA 1 x72 x74) fun x77 =>
              M.bind (stM 1 x77 x76) fun _ =>
              M.ret (Out.norm [])) (
              M.ret (Out.norm []))) fun o80 =>
          outK o80 (fun _ =>
            bindO (nilChk x45) fun x83 =>
            bindO (fieldA 0 x83) fun x84 =>
            M.bind (rdM (ld1 x84)) fun x85 =>
            M.bind (F.slices_Contains_inst x85 (Value.bool false)) fun x86 =>
            condM x86 (
              M.ret (Value.tuple #[(Value.slice none 0 0), (Value.int IntKind.i64 0)])) (
              bindO (nilChk a0) fun x87 =>
              bindO (fieldA 7 x87) fun x88 =>
              M.bind (rdM (ld1 x88)) fun x89 =>
              M.bind (invV Tryz.prog F.control_Control_Take.inv "granary/control.done" x89 [a0]) fun x90 =>
              M.ret (Value.tuple #[x90, (Value.int IntKind.i64 0)]))) (fun _ _ =>
            M.fail) (fun r82 => M.ret r82)))))
def F.control_Control_Take.plan : Plan := (seq leaf (seq (seq leaf (cond (seq leaf leaf) leaf)) (seq (seq leaf (cond (seq leaf leaf) leaf)) (seq leaf (seq (seq leaf (cond (seq leaf leaf) leaf)) (seq (seq leaf (cond (seq leaf leaf) leaf)) (seq leaf (fork [] [82, 83, 84, 85, 86, 87, 88, 89, 90, 91, 92, 93] [] (seq leaf (cond leaf leaf)) (seq (seq leaf (cond (seq leaf leaf) leaf)) (seq leaf leaf))))))))))
theorem F.control_Control_Take.lift : LiftOk Tryz.prog 26 (ap2 F.control_Control_Take) :=
  lift2 (g := evFn Tryz.prog (tcons 61 (ap2 F.slices_Contains_inst) tnil) F.control_Control_Take.inv 26 Tryz.f26 F.control_Control_Take.plan) (evFn_sound (tcons_ok F.slices_Contains_inst.lift tnil_ok) F.control_Control_Take.inv_ok Tryz.func26 (by kernel_rfl)) (fun x0 x1 => by kernel_rfl)

/-- (*granary/granaryref15.Control).counts -/
noncomputable def F.granaryref15_Control_counts (a0 a1 : Value) : M Value :=
  M.bind (newM 38 (Value.cells a1)) fun x1 =>
  drewM <|
  bindO (nilChk a0) fun x2 =>
  bindO (fieldA 26 x2) fun x3 =>
  M.bind (rdM (ld1 x3)) fun x4 =>
  bindO (binV BinOp.eql x4 (Value.int IntKind.i64 0)) fun x5 =>
  M.bind (guardM x5 false (optM (fieldA 1 x1))) fun x6 =>
  M.bind (guardM x5 false (rdM (ld1 x6))) fun x7 =>
  M.bind (guardM x5 false (optM (binV BinOp.lss x7 (Value.int IntKind.i64 0)))) fun x8 =>
  bindO (pickV x5 (Value.bool true) x8) fun x9 =>
  M.bind (guardM x9 false (optM (fieldA 1 x1))) fun x10 =>
  M.bind (guardM x9 false (rdM (ld1 x10))) fun x11 =>
  M.bind (guardM x9 false (M.ret a0)) fun x12 =>
  M.bind (guardM x9 false (optM (nilChk x12))) fun x13 =>
  M.bind (guardM x9 false (optM (fieldA 0 x13))) fun x14 =>
  M.bind (guardM x9 false (optM (fieldA 22 x14))) fun x15 =>
  M.bind (guardM x9 false (rdM (ld1 x15))) fun x16 =>
  M.bind (guardM x9 false (optM (lenL x16))) fun x17 =>
  M.bind (guardM x9 false (optM (binV BinOp.geq x11 x17))) fun x18 =>
  bindO (pickV x9 (Value.bool true) x18) fun x19 =>
  M.bind (guardM x19 false (optM (fieldA 0 x1))) fun x20 =>
  M.bind (guardM x19 false (rdM (ld1 x20))) fun x21 =>
  M.bind (guardM x19 false (M.ret a0)) fun x22 =>
  M.bind (guardM x19 false (optM (nilChk x22))) fun x23 =>
  M.bind (guardM x19 false (optM (fieldA 26 x23))) fun x24 =>
  M.bind (guardM x19 false (rdM (ld1 x24))) fun x25 =>
  M.bind (guardM x19 false (optM (idxR 5 1 (Value.pointer (some { block := 0, off := 0, spot := none })) x25))) fun x26 =>
  M.bind (guardM x19 false (rdM (ld1 x26))) fun x27 =>
  M.bind (guardM x19 false (optM (binV BinOp.neq x21 x27))) fun x28 =>
  bindO (pickV x19 (Value.bool true) x28) fun x29 =>
  M.bind (guardM x29 false (optM (fieldA 3 x1))) fun x30 =>
  M.bind (guardM x29 false (rdM (ld1 x30))) fun x31 =>
  M.bind (guardM x29 false (M.ret a0)) fun x32 =>
  M.bind (guardM x29 false (optM (nilChk x32))) fun x33 =>
  M.bind (guardM x29 false (optM (fieldA 23 x33))) fun x34 =>
  M.bind (guardM x29 false (rdM (ld1 x34))) fun x35 =>
  M.bind (guardM x29 false (optM (binV BinOp.neq x31 x35))) fun x36 =>
  bindO (pickV x29 (Value.bool true) x36) fun x37 =>
  condM x37 (
    M.ret (Value.bool false)) (
    bindO (nilChk a0) fun x38 =>
    bindO (fieldA 26 x38) fun x39 =>
    M.bind (rdM (ld1 x39)) fun x40 =>
    bindO (binV BinOp.eql x40 (Value.int IntKind.i64 1)) fun x41 =>
    condM x41 (
      drewM <|
      bindO (fieldA 4 x1) fun x42 =>
      M.bind (rdM (ld1 x42)) fun x43 =>
      bindO (nilChk a0) fun x44 =>
      bindO (fieldA 23 x44) fun x45 =>
      M.bind (rdM (ld1 x45)) fun x46 =>
      bindO (binV BinOp.eql x43 x46) fun x47 =>
      M.bind (guardM x47 true (optM (fieldA 6 x1))) fun x48 =>
      M.bind (guardM x47 true (rdM (ld1 x48))) fun x49 =>
      M.bind (guardM x47 true (M.ret a0)) fun x50 =>
      M.bind (guardM x47 true (optM (nilChk x50))) fun x51 =>
      M.bind (guardM x47 true (optM (fieldA 25 x51))) fun x52 =>
      M.bind (guardM x47 true (rdM (ld1 x52))) fun x53 =>
      M.bind (guardM x47 true (optM (binV BinOp.eql x49 x53))) fun x54 =>
      bindO (pickV x47 x54 (Value.bool false)) fun x55 =>
      M.ret x55) (
      bindO (binV BinOp.eql x40 (Value.int IntKind.i64 2)) fun x56 =>
      condM x56 (
        drewM <|
        bindO (fieldA 4 x1) fun x57 =>
        M.bind (rdM (ld1 x57)) fun x58 =>
        bindO (nilChk a0) fun x59 =>
        bindO (fieldA 23 x59) fun x60 =>
        M.bind (rdM (ld1 x60)) fun x61 =>
        bindO (binV BinOp.eql x58 x61) fun x62 =>
        M.bind (guardM x62 true (optM (fieldA 5 x1))) fun x63 =>
        M.bind (guardM x62 true (rdM (ld1 x63))) fun x64 =>
        M.bind (guardM x62 true (optM (binV BinOp.eql x64 (Value.int IntKind.i64 1)))) fun x65 =>
        bindO (pickV x62 x65 (Value.bool false)) fun x66 =>
        M.bind (guardM x66 true (optM (fieldA 8 x1))) fun x67 =>
        M.bind (guardM x66 true (rdM (ld1 x67))) fun x68 =>
        M.bind (guardM x66 true (optM (binV BinOp.neq x68 (Value.int IntKind.i64 0)))) fun x69 =>
        M.bind (guardM x66 true (M.ret x69)) fun x70 =>
        M.bind (guardM x70 false (optM (fieldA 6 x1))) fun x71 =>
        M.bind (guardM x70 false (rdM (ld1 x71))) fun x72 =>
        M.bind (guardM x70 false (M.ret a0)) fun x73 =>
        M.bind (guardM x70 false (optM (nilChk x73))) fun x74 =>
        M.bind (guardM x70 false (optM (fieldA 25 x74))) fun x75 =>
        M.bind (guardM x70 false (rdM (ld1 x75))) fun x76 =>
        M.bind (guardM x70 false (optM (binV BinOp.eql x72 x76))) fun x77 =>
        M.bind (guardM x66 true (optM (pickV x70 (Value.bool true) x77))) fun x78 =>
        bindO (pickV x66 x78 (Value.bool false)) fun x79 =>
        M.ret x79) (
        bindO (binV BinOp.eql x40 (Value.int IntKind.i64 3)) fun x80 =>
        condM x80 (
          drewM <|
          bindO (fieldA 4 x1) fun x81 =>
          M.bind (rdM (ld1 x81)) fun x82 =>
          bindO (nilChk a0) fun x83 =>
          bindO (fieldA 23 x83) fun x84 =>
          M.bind (rdM (ld1 x84)) fun x85 =>
          bindO (binV BinOp.eql x82 x85) fun x86 =>
          M.bind (guardM x86 true (optM (fieldA 5 x1))) fun x87 =>
          M.bind (guardM x86 true (rdM (ld1 x87))) fun x88 =>
          M.bind (guardM x86 true (optM (binV BinOp.eql x88 (Value.int IntKind.i64 2)))) fun x89 =>
          bindO (pickV x86 x89 (Value.bool false)) fun x90 =>
          M.ret x90) (
          M.ret (Value.bool true)))))
def F.granaryref15_Control_counts.plan : Plan := (seq leaf (seq (seq leaf (cond (seq leaf leaf) leaf)) (seq (seq leaf (body (seq leaf (cond (seq leaf leaf) (seq leaf (cond (seq leaf leaf) (seq leaf (cond (seq leaf leaf) leaf)))))))) (seq leaf leaf))))
theorem F.granaryref15_Control_counts.lift : LiftOk Tryz.prog 62 (ap2 F.granaryref15_Control_counts) :=
  lift2 (g := evFn Tryz.prog tnil tnil 62 Tryz.f62 F.granaryref15_Control_counts.plan) (evFn_sound tnil_ok tnil_ok Tryz.func62 (by kernel_rfl)) (fun x0 x1 => by kernel_rfl)

/-- (*granary/granaryref15.Control).end -/
noncomputable def F.granaryref15_Control_end (a0 a1 : Value) : M Value :=
  drewM <|
  getM fun _ =>
  bindO (nilChk a0) fun x2 =>
  bindO (fieldA 23 x2) fun x3 =>
  M.bind (rdM (ld1 x3)) fun x4 =>
  bindO (nilChk a0) fun x5 =>
  bindO (fieldA 24 x5) fun x6 =>
  M.bind (rdM (ld1 x6)) fun x7 =>
  bindO (nilChk a0) fun x8 =>
  bindO (fieldA 25 x8) fun x9 =>
  M.bind (rdM (ld1 x9)) fun x10 =>
  bindO (buildV #[(Value.int IntKind.i64 0), (Value.int IntKind.i64 0), (Value.int IntKind.i64 0), (Value.int IntKind.i64 0), (Value.slice none 0 0), (Value.slice none 0 0)] [(0, 1, x4), (1, 1, x7), (2, 1, x10), (3, 1, a1)]) fun x11 =>
  M.bind (newM 83 #[(Value.int IntKind.i64 0), (Value.int IntKind.i64 0), (Value.int IntKind.i64 0), (Value.int IntKind.i64 0), (Value.slice none 0 0), (Value.slice none 0 0)]) fun x12 =>
  getM fun W13 =>
  M.bind (stM 6 x12 x11) fun _ =>
  getM fun _ =>
  reqM (ld1 x3 W13 = some x4) <|
  reqM (ld1 x6 W13 = some x7) <|
  reqM (ld1 x9 W13 = some x10) <|
  M.bind (loopM (fun l16 =>
    bindO (nilChk a0) fun x17 =>
    bindO (fieldA 29 x17) fun x18 =>
    M.bind (rdM (ld1 x18)) fun x19 =>
    bindO (lenL x19) fun x20 =>
    bindO (binV BinOp.lss (getL l16 0) x20) fun x21 =>
    condM x21 (
      M.bind (
        drewM <|
        getM fun _ =>
        bindO (fieldA 4 x12) fun x23 =>
        M.bind (rdM (ld1 x23)) fun x24 =>
        bindO (nilChk a0) fun x25 =>
        bindO (fieldA 30 x25) fun x26 =>
        M.bind (rdM (ld1 x26)) fun x27 =>
        bindO (idxA 1 x27 (getL l16 0)) fun x28 =>
        M.bind (rdM (ld1 x28)) fun x29 =>
        M.bind (bslM 3 1 (Builtin.zeroCells #[(Value.int IntKind.i64 0)] 1) [(0, 1, x29)]) fun x30 =>
        getM fun W31 =>
        M.bind (appM 3 1 8 #[(Value.int IntKind.i64 0)] x24 x30) fun x32 =>
        getM fun _ =>
        bindO (fieldA 4 x12) fun x34 =>
        M.bind (stM 1 x34 x32) fun _ =>
        getM fun _ =>
        reqM (ld1 x23 W31 = some x24) <|
        bindO (nilChk a0) fun x37 =>
        bindO (fieldA 29 x37) fun x38 =>
        M.bind (rdM (ld1 x38)) fun x39 =>
        bindO (idxA 1 x39 (getL l16 0)) fun x40 =>
        M.bind (rdM (ld1 x40)) fun x41 =>
        bindO (notV x41) fun x42 =>
        condM x42 (
          bindO (fieldA 5 x12) fun x43 =>
          M.bind (rdM (ld1 x43)) fun x44 =>
          M.bind (bslM 3 1 (Builtin.zeroCells #[(Value.int IntKind.i64 0)] 1) [(0, 1, (getL l16 0))]) fun x45 =>
          M.bind (appM 3 1 8 #[(Value.int IntKind.i64 0)] x44 x45) fun x46 =>
          bindO (fieldA 5 x12) fun x47 =>
          M.bind (stM 1 x47 x46) fun _ =>
          M.ret (Out.norm [])) (
          M.ret (Out.norm []))) fun o50 =>
      outK o50 (fun _ =>
        bindO (binV BinOp.add (getL l16 0) (Value.int IntKind.i64 1)) fun x53 =>
        M.ret (Out.norm [x53])) (fun _ _ =>
        M.fail) (fun r52 => M.ret (Out.ret r52))) (
      M.ret (Out.exit 0 [(getL l16 0)]))) [(Value.int IntKind.i64 0)]) fun o56 =>
  outK o56 (fun _ => M.fail) (fun i57 _ =>
    bif Nat.beq i57 0 then (
      M.bind (rdM (ldA 6 x12)) fun x59 =>
      bindO (nilChk a0) fun x60 =>
      bindO (fieldA 32 x60) fun x61 =>
      M.bind (stM 6 x61 x59) fun _ =>
      bindO (nilChk a0) fun x63 =>
      bindO (fieldA 31 x63) fun x64 =>
      M.bind (stM 1 x64 (Value.bool true)) fun _ =>
      bindO (nilChk a0) fun x66 =>
      bindO (fieldA 26 x66) fun x67 =>
      M.bind (stM 1 x67 (Value.int IntKind.i64 0)) fun _ =>
      M.ret (Value.slice none 0 0)) else
    M.fail) (fun r58 => M.ret r58)
def F.granaryref15_Control_end.plan : Plan := (seq leaf (seq leaf (seq (seq leaf (body (loop [6] [6, 21, 22, 23, 24, 25, 26, 27, 28, 29, 30, 31, 32, 33, 34, 35, 36, 37, 38, 39, 40, 41, 42, 43, 44, 45, 46, 47, 48, 49, 50, 51, 52, 53, 54, 55] [0] (seq (seq leaf (cond leaf leaf)) (fork [] [30, 31, 32, 33, 34, 35, 36, 37, 38, 39, 40, 41, 42, 43, 44, 45, 46, 47, 48, 49, 50, 51, 52, 53, 54, 55] [] (body (seq leaf (seq leaf (cond leaf leaf)))) leaf))))) (seq leaf (seq leaf (seq leaf (seq leaf leaf)))))))
theorem F.granaryref15_Control_end.lift : LiftOk Tryz.prog 63 (ap2 F.granaryref15_Control_end) :=
  lift2 (g := evFn Tryz.prog tnil tnil 63 Tryz.f63 F.granaryref15_Control_end.plan) (evFn_sound tnil_ok tnil_ok Tryz.func63 (by kernel_rfl)) (fun x0 x1 => by kernel_rfl)

/-- (*granary/granaryref15.Control).Take -/
noncomputable def F.granaryref15_Control_Take (a0 a1 : Value) : M Value :=
  M.bind (newM 38 (Value.cells a1)) fun x1 =>
  bindO (eqV (EqSh.one EqK.ptr) a0 (Value.pointer none)) fun x2 =>
  condM x2 (
    M.ret (Value.tuple #[(Value.slice none 0 0), (Value.int IntKind.i64 2)])) (
    drewM <|
    M.bind (rdM (ldA 11 x1)) fun x3 =>
    M.bind (F.granaryref15_Control_counts a0 x3) fun x4 =>
    bindO (notV x4) fun x5 =>
    M.bind (guardM x5 false (M.ret a0)) fun x6 =>
    M.bind (guardM x5 false (optM (nilChk x6))) fun x7 =>
    M.bind (guardM x5 false (optM (fieldA 29 x7))) fun x8 =>
    M.bind (guardM x5 false (rdM (ld1 x8))) fun x9 =>
    M.bind (guardM x5 false (optM (fieldA 1 x1))) fun x10 =>
    M.bind (guardM x5 false (rdM (ld1 x10))) fun x11 =>
    M.bind (guardM x5 false (optM (idxA 1 x9 x11))) fun x12 =>
    M.bind (guardM x5 false (rdM (ld1 x12))) fun x13 =>
    bindO (pickV x5 (Value.bool true) x13) fun x14 =>
    condM x14 (
      M.ret (Value.tuple #[(Value.slice none 0 0), (Value.int IntKind.i64 0)])) (
      bindO (fieldA 8 x1) fun x15 =>
      M.bind (rdM (ld1 x15)) fun x16 =>
      bindO (binV BinOp.neq x16 (Value.int IntKind.i64 0)) fun x17 =>
      condM x17 (
        bindO (nilChk a0) fun x18 =>
        bindO (fieldA 26 x18) fun x19 =>
        M.bind (rdM (ld1 x19)) fun x20 =>
        bindO (binV BinOp.eql x20 (Value.int IntKind.i64 1)) fun x21 =>
        M.bind (guardM x21 false (M.ret a0)) fun x22 =>
        M.bind (guardM x21 false (optM (nilChk x22))) fun x23 =>
        M.bind (guardM x21 false (optM (fieldA 26 x23))) fun x24 =>
        M.bind (guardM x21 false (rdM (ld1 x24))) fun x25 =>
        M.bind (guardM x21 false (optM (binV BinOp.eql x25 (Value.int IntKind.i64 2)))) fun x26 =>
        bindO (pickV x21 (Value.bool true) x26) fun x27 =>
        condM x27 (
          M.bind (F.granaryref15_Control_begin a0 (Value.int IntKind.i64 3)) fun x28 =>
          M.ret (Value.tuple #[x28, (Value.int IntKind.i64 0)])) (
          M.ret (Value.tuple #[(Value.slice none 0 0), (Value.int IntKind.i64 0)]))) (
        drewM <|
        bindO (nilChk a0) fun x29 =>
        bindO (fieldA 29 x29) fun x30 =>
        M.bind (rdM (ld1 x30)) fun x31 =>
        bindO (fieldA 1 x1) fun x32 =>
        M.bind (rdM (ld1 x32)) fun x33 =>
        bindO (idxA 1 x31 x33) fun x34 =>
        M.bind (stM 1 x34 (Value.bool true)) fun _ =>
        M.bind (
          bindO (nilChk a0) fun x36 =>
          bindO (fieldA 26 x36) fun x37 =>
          M.bind (rdM (ld1 x37)) fun x38 =>
          bindO (binV BinOp.neq x38 (Value.int IntKind.i64 1)) fun x39 =>
          condM x39 (
            drewM <|
            bindO (nilChk a0) fun x40 =>
            bindO (fieldA 30 x40) fun x41 =>
            M.bind (rdM (ld1 x41)) fun x42 =>
            bindO (fieldA 1 x1) fun x43 =>
            M.bind (rdM (ld1 x43)) fun x44 =>
            bindO (fieldA 6 x1) fun x45 =>
            M.bind (rdM (ld1 x45)) fun x46 =>
            bindO (idxA 1 x42 x44) fun x47 =>
            M.bind (stM 1 x47 x46) fun _ =>
            M.ret (Out.norm [])) (
            M.ret (Out.norm []))) fun o50 =>
        outK o50 (fun _ =>
          M.bind (loopM (fun l53 =>
            bindO (nilChk a0) fun x54 =>
            bindO (fieldA 29 x54) fun x55 =>
            M.bind (rdM (ld1 x55)) fun x56 =>
            bindO (lenL x56) fun x57 =>
            bindO (binV BinOp.lss (getL l53 0) x57) fun x58 =>
            condM x58 (
              bindO (nilChk a0) fun x59 =>
              bindO (fieldA 29 x59) fun x60 =>
              M.bind (rdM (ld1 x60)) fun x61 =>
              bindO (idxA 1 x61 (getL l53 0)) fun x62 =>
              M.bind (rdM (ld1 x62)) fun x63 =>
              bindO (notV x63) fun x64 =>
              condM x64 (
                M.ret (Out.ret (Value.tuple #[(Value.slice none 0 0), (Value.int IntKind.i64 0)]))) (
                bindO (binV BinOp.add (getL l53 0) (Value.int IntKind.i64 1)) fun x65 =>
                M.ret (Out.norm [x65]))) (
              M.ret (Out.exit 0 [(getL l53 0)]))) [(Value.int IntKind.i64 0)]) fun o67 =>
          outK o67 (fun _ => M.fail) (fun i68 _ =>
            bif Nat.beq i68 0 then (
              bindO (nilChk a0) fun x70 =>
              bindO (fieldA 26 x70) fun x71 =>
              M.bind (rdM (ld1 x71)) fun x72 =>
              bindO (binV BinOp.eql x72 (Value.int IntKind.i64 1)) fun x73 =>
              condM x73 (
                M.bind (F.granaryref15_Control_begin a0 (Value.int IntKind.i64 2)) fun x74 =>
                M.ret (Value.tuple #[x74, (Value.int IntKind.i64 0)])) (
                bindO (binV BinOp.eql x72 (Value.int IntKind.i64 3)) fun x75 =>
                condM x75 (
                  M.bind (F.granaryref15_Control_end a0 (Value.int IntKind.i64 2)) fun x76 =>
                  M.ret (Value.tuple #[x76, (Value.int IntKind.i64 0)])) (
                  M.bind (F.granaryref15_Control_end a0 (Value.int IntKind.i64 1)) fun x77 =>
                  M.ret (Value.tuple #[x77, (Value.int IntKind.i64 0)])))) else
            M.fail) (fun r69 => M.ret r69)) (fun _ _ =>
          M.fail) (fun r52 => M.ret r52))))
def F.granaryref15_Control_Take.plan : Plan := (seq leaf (seq (seq leaf (cond (seq leaf leaf) leaf)) (seq (seq leaf (cond (seq leaf leaf) leaf)) (seq (seq leaf (cond (seq (seq leaf (cond (seq leaf leaf) leaf)) (seq leaf leaf)) leaf)) (seq leaf (fork [] [47, 48, 49, 50, 51, 52, 53, 54, 55, 56, 57, 58, 59, 60] [] (seq leaf (cond leaf leaf)) (seq (seq leaf (body (loop [6] [4, 5, 6, 61, 62, 63, 64, 65, 66, 67, 68, 69, 70, 71, 72, 73, 74, 75, 76, 77] [0] (seq (seq leaf (cond leaf leaf)) (seq (body (seq leaf (cond (seq leaf leaf) leaf))) leaf))))) (seq (seq leaf (body (seq leaf (cond (seq leaf leaf) (seq leaf (cond (seq leaf leaf) leaf)))))) (seq leaf leaf)))))))))
theorem F.granaryref15_Control_Take.lift : LiftOk Tryz.prog 27 (ap2 F.granaryref15_Control_Take) :=
  lift2 (g := evFn Tryz.prog (tcons 59 (ap2 F.granaryref15_Control_begin) (tcons 62 (ap2 F.granaryref15_Control_counts) (tcons 63 (ap2 F.granaryref15_Control_end) tnil))) tnil 27 Tryz.f27 F.granaryref15_Control_Take.plan) (evFn_sound (tcons_ok F.granaryref15_Control_begin.lift (tcons_ok F.granaryref15_Control_counts.lift (tcons_ok F.granaryref15_Control_end.lift tnil_ok))) tnil_ok Tryz.func27 (by kernel_rfl)) (fun x0 x1 => by kernel_rfl)

/-- granary/granarylaw15.Answer -/
noncomputable def F.granarylaw15_Answer (a0 a1 : Value) : M Value :=
  M.bind (newM 38 (Value.cells a0)) fun x1 =>
  M.bind (newM 38 #[(Value.int IntKind.i64 0), (Value.int IntKind.i64 0), (Value.int IntKind.i64 0), (Value.int IntKind.i64 0), (Value.int IntKind.i64 0), (Value.int IntKind.i64 0), (Value.int IntKind.i64 0), (Value.int IntKind.i64 0), (Value.int IntKind.i64 0), (Value.string ByteArray.empty), (Value.string ByteArray.empty)]) fun x2 =>
  bindO (fieldA 0 x1) fun x3 =>
  M.bind (rdM (ld1 x3)) fun x4 =>
  bindO (binV BinOp.add x4 (Value.int IntKind.i64 1)) fun x5 =>
  bindO (fieldA 2 x1) fun x6 =>
  M.bind (rdM (ld1 x6)) fun x7 =>
  bindO (fieldA 1 x1) fun x8 =>
  M.bind (rdM (ld1 x8)) fun x9 =>
  bindO (fieldA 3 x1) fun x10 =>
  M.bind (rdM (ld1 x10)) fun x11 =>
  bindO (fieldA 4 x1) fun x12 =>
  M.bind (rdM (ld1 x12)) fun x13 =>
  bindO (fieldA 5 x1) fun x14 =>
  M.bind (rdM (ld1 x14)) fun x15 =>
  bindO (buildV #[(Value.int IntKind.i64 0), (Value.int IntKind.i64 0), (Value.int IntKind.i64 0), (Value.int IntKind.i64 0), (Value.int IntKind.i64 0), (Value.int IntKind.i64 0), (Value.int IntKind.i64 0), (Value.int IntKind.i64 0), (Value.int IntKind.i64 0), (Value.string ByteArray.empty), (Value.string ByteArray.empty)] [(0, 1, x5), (1, 1, x7), (2, 1, x9), (3, 1, x11), (4, 1, x13), (5, 1, x15), (6, 1, a1)]) fun x16 =>
  M.bind (newM 38 #[(Value.int IntKind.i64 0), (Value.int IntKind.i64 0), (Value.int IntKind.i64 0), (Value.int IntKind.i64 0), (Value.int IntKind.i64 0), (Value.int IntKind.i64 0), (Value.int IntKind.i64 0), (Value.int IntKind.i64 0), (Value.int IntKind.i64 0), (Value.string ByteArray.empty), (Value.string ByteArray.empty)]) fun x17 =>
  M.bind (stM 11 x17 x16) fun _ =>
  M.bind (
    bindO (binV BinOp.lss a1 (Value.int IntKind.i64 0)) fun x19 =>
    condM x19 (
      bindO (fieldA 6 x17) fun x20 =>
      M.bind (stM 1 x20 (Value.int IntKind.i64 0)) fun _ =>
      bindO (binV BinOp.add a1 (Value.int IntKind.i64 1)) fun x22 =>
      bindO (negV x22) fun x23 =>
      M.bind (F.granarylaw15_mod x23 (Value.int IntKind.i64 65535)) fun x24 =>
      bindO (binV BinOp.add (Value.int IntKind.i64 1) x24) fun x25 =>
      bindO (fieldA 8 x17) fun x26 =>
      M.bind (stM 1 x26 x25) fun _ =>
      M.ret (Out.norm [])) (
      M.ret (Out.norm []))) fun o29 =>
  outK o29 (fun _ =>
    M.bind (
      bindO (fieldA 0 x1) fun x32 =>
      M.bind (rdM (ld1 x32)) fun x33 =>
      bindO (binV BinOp.eql x33 (Value.int IntKind.i64 3)) fun x34 =>
      M.bind (guardM x34 false (optM (fieldA 0 x1))) fun x35 =>
      M.bind (guardM x34 false (rdM (ld1 x35))) fun x36 =>
      M.bind (guardM x34 false (optM (binV BinOp.eql x36 (Value.int IntKind.i64 5)))) fun x37 =>
      M.bind (guardM x34 false (M.ret x37)) fun x38 =>
      M.bind (guardM x38 true (M.ret a1)) fun x39 =>
      M.bind (guardM x38 true (optM (binV BinOp.eql x39 (Value.int IntKind.i64 0)))) fun x40 =>
      M.bind (guardM x34 false (optM (pickV x38 x40 (Value.bool false)))) fun x41 =>
      bindO (pickV x34 (Value.bool true) x41) fun x42 =>
      condM x42 (
        bindO (fieldA 6 x1) fun x43 =>
        M.bind (rdM (ld1 x43)) fun x44 =>
        bindO (fieldA 6 x17) fun x45 =>
        M.bind (stM 1 x45 x44) fun _ =>
        M.ret (Out.norm [])) (
        M.ret (Out.norm []))) fun o48 =>
    outK o48 (fun _ =>
      M.bind (rdM (ldA 11 x17)) fun x51 =>
      M.bind (stM 11 x2 x51) fun _ =>
      M.bind (rdM (ldA 11 x2)) fun x53 =>
      M.ret x53) (fun _ _ =>
      M.fail) (fun r50 => M.ret r50)) (fun _ _ =>
    M.fail) (fun r31 => M.ret r31)
def F.granarylaw15_Answer.plan : Plan := (seq leaf (seq leaf (fork [] [21, 22, 23, 24, 25, 26, 27, 28, 29] [] (seq leaf (cond (seq leaf leaf) leaf)) (fork [] [30, 31, 32, 33, 34, 35, 36, 37, 38, 39, 40, 41, 42, 43, 44] [] (seq leaf (cond leaf leaf)) (seq leaf leaf)))))
theorem F.granarylaw15_Answer.lift : LiftOk Tryz.prog 28 (ap2 F.granarylaw15_Answer) :=
  lift2 (g := evFn Tryz.prog (tcons 16 (ap2 F.granarylaw15_mod) tnil) tnil 28 Tryz.f28 F.granarylaw15_Answer.plan) (evFn_sound (tcons_ok F.granarylaw15_mod.lift tnil_ok) tnil_ok Tryz.func28 (by kernel_rfl)) (fun x0 x1 => by kernel_rfl)

/-- (*granary/control.fetching).late -/
noncomputable def F.control_fetching_late (_a0 a1 : Value) : M Value :=
  M.bind (F.control_Control_back a1) fun x1 =>
  M.ret x1
def F.control_fetching_late.plan : Plan := (seq leaf (seq leaf leaf))
theorem F.control_fetching_late.lift : LiftOk Tryz.prog 64 (ap2 F.control_fetching_late) :=
  lift2 (g := evFn Tryz.prog (tcons 68 (ap1 F.control_Control_back) tnil) tnil 64 Tryz.f64 F.control_fetching_late.plan) (evFn_sound (tcons_ok F.control_Control_back.lift tnil_ok) tnil_ok Tryz.func64 (by kernel_rfl)) (fun x0 x1 => by kernel_rfl)

/-- (*granary/control.ledger).due -/
noncomputable def F.control_ledger_due (a0 a1 : Value) : M Value :=
  bindO (nilChk a0) fun x1 =>
  bindO (fieldA 2 x1) fun x2 =>
  M.bind (rdM (ld1 x2)) fun x3 =>
  bindO (binV BinOp.rem x3 a1) fun x4 =>
  bindO (binV BinOp.eql x4 (Value.int IntKind.i64 0)) fun x5 =>
  M.ret x5
def F.control_ledger_due.plan : Plan := (seq leaf (seq leaf leaf))
theorem F.control_ledger_due.lift : LiftOk Tryz.prog 65 (ap2 F.control_ledger_due) :=
  lift2 (g := evFn Tryz.prog tnil tnil 65 Tryz.f65 F.control_ledger_due.plan) (evFn_sound tnil_ok tnil_ok Tryz.func65 (by kernel_rfl)) (fun x0 x1 => by kernel_rfl)

/-- (*granary/control.swapping).late -/
noncomputable def F.control_swapping_late (_a0 a1 : Value) : M Value :=
  M.bind (F.control_Control_back a1) fun x1 =>
  M.ret x1
def F.control_swapping_late.plan : Plan := (seq leaf (seq leaf leaf))
theorem F.control_swapping_late.lift : LiftOk Tryz.prog 134 (ap2 F.control_swapping_late) :=
  lift2 (g := evFn Tryz.prog (tcons 68 (ap1 F.control_Control_back) tnil) tnil 134 Tryz.f134 F.control_swapping_late.plan) (evFn_sound (tcons_ok F.control_Control_back.lift tnil_ok) tnil_ok Tryz.func134 (by kernel_rfl)) (fun x0 x1 => by kernel_rfl)

/-- (*granary/control.looking).late -/
noncomputable def F.control_looking_late (_a0 a1 : Value) : M Value :=
  M.bind (F.control_Control_end a1 (Value.int IntKind.i64 3)) fun x1 =>
  M.ret x1
def F.control_looking_late.plan : Plan := (seq leaf (seq leaf leaf))
theorem F.control_looking_late.lift : LiftOk Tryz.prog 140 (ap2 F.control_looking_late) :=
  lift2 (g := evFn Tryz.prog (tcons 69 (ap2 F.control_Control_end) tnil) tnil 140 Tryz.f140 F.control_looking_late.plan) (evFn_sound (tcons_ok F.control_Control_end.lift tnil_ok) tnil_ok Tryz.func140 (by kernel_rfl)) (fun x0 x1 => by kernel_rfl)

/-- (*granary/control.backing).late -/
noncomputable def F.control_backing_late (_a0 a1 : Value) : M Value :=
  M.bind (F.control_Control_end a1 (Value.int IntKind.i64 3)) fun x1 =>
  M.ret x1
def F.control_backing_late.plan : Plan := (seq leaf (seq leaf leaf))
theorem F.control_backing_late.lift : LiftOk Tryz.prog 146 (ap2 F.control_backing_late) :=
  lift2 (g := evFn Tryz.prog (tcons 69 (ap2 F.control_Control_end) tnil) tnil 146 Tryz.f146 F.control_backing_late.plan) (evFn_sound (tcons_ok F.control_Control_end.lift tnil_ok) tnil_ok Tryz.func146 (by kernel_rfl)) (fun x0 x1 => by kernel_rfl)

/-- What this function's calls through interface values come to. -/
noncomputable def F.control_Control_Tick.inv : Tab := (tcons 64 (ap2 F.control_fetching_late) (tcons 126 (ap1 F.control_ledger_book) (tcons 134 (ap2 F.control_swapping_late) (tcons 140 (ap2 F.control_looking_late) (tcons 146 (ap2 F.control_backing_late) tnil)))))
theorem F.control_Control_Tick.inv_ok : TabOk Tryz.prog F.control_Control_Tick.inv := (tcons_ok F.control_fetching_late.lift (tcons_ok F.control_ledger_book.lift (tcons_ok F.control_swapping_late.lift (tcons_ok F.control_looking_late.lift (tcons_ok F.control_backing_late.lift tnil_ok)))))
theorem F.control_Control_Tick.inv_117_book (v : Value) : invV Tryz.prog F.control_Control_Tick.inv "granary/control.book" (.iface 117 v) [] = (match fieldA 0 v with | some p => F.control_ledger_book p | none => M.fail) := by kernel_rfl
theorem F.control_Control_Tick.inv_117_late (v x0 : Value) : invV Tryz.prog F.control_Control_Tick.inv "granary/control.late" (.iface 117 v) [x0] = F.control_fetching_late v x0 := by kernel_rfl
theorem F.control_Control_Tick.inv_120_book (v : Value) : invV Tryz.prog F.control_Control_Tick.inv "granary/control.book" (.iface 120 v) [] = (match fieldA 0 v with | some p => F.control_ledger_book p | none => M.fail) := by kernel_rfl
theorem F.control_Control_Tick.inv_120_late (v x0 : Value) : invV Tryz.prog F.control_Control_Tick.inv "granary/control.late" (.iface 120 v) [x0] = F.control_swapping_late v x0 := by kernel_rfl
theorem F.control_Control_Tick.inv_122_book (v : Value) : invV Tryz.prog F.control_Control_Tick.inv "granary/control.book" (.iface 122 v) [] = (match fieldA 0 v with | some p => F.control_ledger_book p | none => M.fail) := by kernel_rfl
theorem F.control_Control_Tick.inv_122_late (v x0 : Value) : invV Tryz.prog F.control_Control_Tick.inv "granary/control.late" (.iface 122 v) [x0] = F.control_looking_late v x0 := by kernel_rfl
theorem F.control_Control_Tick.inv_148_book (v : Value) : invV Tryz.prog F.control_Control_Tick.inv "granary/control.book" (.iface 148 v) [] = (match fieldA 0 v with | some p => F.control_ledger_book p | none => M.fail) := by kernel_rfl
theorem F.control_Control_Tick.inv_148_late (v x0 : Value) : invV Tryz.prog F.control_Control_Tick.inv "granary/control.late" (.iface 148 v) [x0] = F.control_backing_late v x0 := by kernel_rfl
/-- (*granary/control.Control).Tick -/
noncomputable def F.control_Control_Tick (a0 : Value) : M Value :=
  bindO (eqV (EqSh.one EqK.ptr) a0 (Value.pointer none)) fun x1 =>
  condM x1 (
    M.ret (Value.tuple #[(Value.slice none 0 0), (Value.int IntKind.i64 2)])) (
    bindO (nilChk a0) fun x2 =>
    bindO (fieldA 7 x2) fun x3 =>
    M.bind (rdM (ld1 x3)) fun x4 =>
    bindO (eqV (EqSh.one EqK.ifn) x4 Value.nilIface) fun x5 =>
    condM x5 (
      M.ret (Value.tuple #[(Value.slice none 0 0), (Value.int IntKind.i64 0)])) (
      bindO (nilChk a0) fun x6 =>
      bindO (fieldA 7 x6) fun x7 =>
      M.bind (rdM (ld1 x7)) fun x8 =>
      bindO (asrV true (Value.pointer none) 117 x8) fun x9 =>
      bindO (extV 0 x9) fun x10 =>
      bindO (extV 1 x9) fun x11 =>
      condM x11 (
        bindO (nilChk x10) fun x12 =>
        bindO (fieldA 0 x12) fun x13 =>
        bindO (fieldA 2 x13) fun x14 =>
        M.bind (rdM (ld1 x14)) fun x15 =>
        bindO (binV BinOp.add x15 (Value.int IntKind.i64 1)) fun x16 =>
        bindO (nilChk x10) fun x17 =>
        bindO (fieldA 0 x17) fun x18 =>
        bindO (fieldA 2 x18) fun x19 =>
        M.bind (stM 1 x19 x16) fun _ =>
        drewM <|
        bindO (nilChk x10) fun x21 =>
        bindO (fieldA 0 x21) fun x22 =>
        bindO (fieldA 2 x22) fun x23 =>
        M.bind (rdM (ld1 x23)) fun x24 =>
        bindO (nilChk a0) fun x25 =>
        bindO (fieldA 3 x25) fun x26 =>
        M.bind (rdM (ld1 x26)) fun x27 =>
        bindO (binV BinOp.geq x24 x27) fun x28 =>
        condM x28 (
          M.bind (F.control_fetching_late x10 a0) fun x29 =>
          M.ret (Value.tuple #[x29, (Value.int IntKind.i64 0)])) (
          drewM <|
          bindO (nilChk x10) fun x30 =>
          bindO (fieldA 0 x30) fun x31 =>
          bindO (nilChk a0) fun x32 =>
          bindO (fieldA 1 x32) fun x33 =>
          M.bind (rdM (ld1 x33)) fun x34 =>
          M.bind (F.control_ledger_due x31 x34) fun x35 =>
          condM x35 (
            M.bind (F.control_Control_send a0) fun x36 =>
            M.ret (Value.tuple #[x36, (Value.int IntKind.i64 0)])) (
            M.ret (Value.tuple #[(Value.slice none 0 0), (Value.int IntKind.i64 0)])))) (
        bindO (nilChk a0) fun x37 =>
        bindO (fieldA 7 x37) fun x38 =>
        M.bind (rdM (ld1 x38)) fun x39 =>
        M.bind (invV Tryz.prog F.control_Control_Tick.inv "granary/control.book" x39 []) fun x40 =>
        bindO (nilChk x40) fun x41 =>
        bindO (fieldA 2 x41) fun x42 =>
        M.bind (rdM (ld1 x42)) fun x43 =>
        bindO (binV BinOp.add x43 (Value.int IntKind.i64 1)) fun x44 =>
        bindO (nilChk x40) fun x45 =>
        bindO (fieldA 2 x45) fun x46 =>
        M.bind (stM 1 x46 x44) fun _ =>
        bindO (nilChk a0) fun x48 =>
        bindO (fieldA 1 x48) fun x49 =>
        M.bind (rdM (ld1 x49)) fun x50 =>
        M.bind (F.control_ledger_due x40 x50) fun x51 =>
        bindO (notV x51) fun x52 =>
        condM x52 (
          M.ret (Value.tuple #[(Value.slice none 0 0), (Value.int IntKind.i64 0)])) (
          drewM <|
          bindO (nilChk x40) fun x53 =>
          bindO (fieldA 3 x53) fun x54 =>
          M.bind (rdM (ld1 x54)) fun x55 =>
          bindO (nilChk a0) fun x56 =>
          bindO (fieldA 2 x56) fun x57 =>
          M.bind (rdM (ld1 x57)) fun x58 =>
          bindO (binV BinOp.geq x55 x58) fun x59 =>
          condM x59 (
            bindO (nilChk a0) fun x60 =>
            bindO (fieldA 7 x60) fun x61 =>
            M.bind (rdM (ld1 x61)) fun x62 =>
            M.bind (invV Tryz.prog F.control_Control_Tick.inv "granary/control.late" x62 [a0]) fun x63 =>
            M.ret (Value.tuple #[x63, (Value.int IntKind.i64 0)])) (
            bindO (nilChk x40) fun x64 =>
            bindO (fieldA 3 x64) fun x65 =>
            M.bind (rdM (ld1 x65)) fun x66 =>
            bindO (binV BinOp.add x66 (Value.int IntKind.i64 1)) fun x67 =>
            bindO (nilChk x40) fun x68 =>
            bindO (fieldA 3 x68) fun x69 =>
            M.bind (stM 1 x69 x67) fun _ =>
            M.bind (F.control_Control_send a0) fun x71 =>
            M.ret (Value.tuple #[x71, (Value.int IntKind.i64 0)]))))))
def F.control_Control_Tick.plan : Plan := (seq leaf (seq (seq leaf (cond (seq leaf leaf) leaf)) (seq (seq leaf (cond (seq leaf leaf) leaf)) (seq (seq leaf (seq leaf (cond (seq leaf (seq (body (seq leaf (cond (seq leaf leaf) (seq leaf (cond (seq leaf leaf) leaf))))) (seq leaf leaf))) leaf))) (seq leaf (seq leaf (seq (body (seq leaf (cond (seq leaf leaf) (seq leaf (cond (seq leaf leaf) leaf))))) (seq leaf (seq leaf leaf)))))))))
theorem F.control_Control_Tick.lift : LiftOk Tryz.prog 29 (ap1 F.control_Control_Tick) :=
  lift1 (g := evFn Tryz.prog (tcons 64 (ap2 F.control_fetching_late) (tcons 65 (ap2 F.control_ledger_due) (tcons 66 (ap1 F.control_Control_send) tnil))) F.control_Control_Tick.inv 29 Tryz.f29 F.control_Control_Tick.plan) (evFn_sound (tcons_ok F.control_fetching_late.lift (tcons_ok F.control_ledger_due.lift (tcons_ok F.control_Control_send.lift tnil_ok))) F.control_Control_Tick.inv_ok Tryz.func29 (by kernel_rfl)) (fun x0 => by kernel_rfl)

/-- (*granary/granaryref15.Control).Tick -/
noncomputable def F.granaryref15_Control_Tick (a0 : Value) : M Value :=
  bindO (eqV (EqSh.one EqK.ptr) a0 (Value.pointer none)) fun x1 =>
  condM x1 (
    M.ret (Value.tuple #[(Value.slice none 0 0), (Value.int IntKind.i64 2)])) (
    bindO (nilChk a0) fun x2 =>
    bindO (fieldA 26 x2) fun x3 =>
    M.bind (rdM (ld1 x3)) fun x4 =>
    bindO (binV BinOp.eql x4 (Value.int IntKind.i64 0)) fun x5 =>
    condM x5 (
      M.ret (Value.tuple #[(Value.slice none 0 0), (Value.int IntKind.i64 0)])) (
      bindO (nilChk a0) fun x6 =>
      bindO (fieldA 27 x6) fun x7 =>
      M.bind (rdM (ld1 x7)) fun x8 =>
      bindO (binV BinOp.add x8 (Value.int IntKind.i64 1)) fun x9 =>
      bindO (nilChk a0) fun x10 =>
      bindO (fieldA 27 x10) fun x11 =>
      M.bind (stM 1 x11 x9) fun _ =>
      drewM <|
      bindO (nilChk a0) fun x13 =>
      bindO (fieldA 26 x13) fun x14 =>
      M.bind (rdM (ld1 x14)) fun x15 =>
      bindO (binV BinOp.eql x15 (Value.int IntKind.i64 1)) fun x16 =>
      M.bind (guardM x16 true (M.ret a0)) fun x17 =>
      M.bind (guardM x16 true (optM (nilChk x17))) fun x18 =>
      M.bind (guardM x16 true (optM (fieldA 27 x18))) fun x19 =>
      M.bind (guardM x16 true (rdM (ld1 x19))) fun x20 =>
      M.bind (guardM x16 true (M.ret a0)) fun x21 =>
      M.bind (guardM x16 true (optM (nilChk x21))) fun x22 =>
      M.bind (guardM x16 true (optM (fieldA 0 x22))) fun x23 =>
      M.bind (guardM x16 true (optM (fieldA 17 x23))) fun x24 =>
      M.bind (guardM x16 true (rdM (ld1 x24))) fun x25 =>
      M.bind (guardM x16 true (optM (binV BinOp.eql x20 x25))) fun x26 =>
      bindO (pickV x16 x26 (Value.bool false)) fun x27 =>
      condM x27 (
        M.bind (F.granaryref15_Control_begin a0 (Value.int IntKind.i64 3)) fun x28 =>
        M.ret (Value.tuple #[x28, (Value.int IntKind.i64 0)])) (
        drewM <|
        bindO (nilChk a0) fun x29 =>
        bindO (fieldA 27 x29) fun x30 =>
        M.bind (rdM (ld1 x30)) fun x31 =>
        bindO (nilChk a0) fun x32 =>
        bindO (fieldA 0 x32) fun x33 =>
        bindO (fieldA 15 x33) fun x34 =>
        M.bind (rdM (ld1 x34)) fun x35 =>
        bindO (binV BinOp.rem x31 x35) fun x36 =>
        bindO (binV BinOp.neq x36 (Value.int IntKind.i64 0)) fun x37 =>
        condM x37 (
          M.ret (Value.tuple #[(Value.slice none 0 0), (Value.int IntKind.i64 0)])) (
          drewM <|
          bindO (nilChk a0) fun x38 =>
          bindO (fieldA 26 x38) fun x39 =>
          M.bind (rdM (ld1 x39)) fun x40 =>
          bindO (binV BinOp.eql x40 (Value.int IntKind.i64 1)) fun x41 =>
          M.bind (guardM x41 false (M.ret a0)) fun x42 =>
          M.bind (guardM x41 false (optM (nilChk x42))) fun x43 =>
          M.bind (guardM x41 false (optM (fieldA 28 x43))) fun x44 =>
          M.bind (guardM x41 false (rdM (ld1 x44))) fun x45 =>
          M.bind (guardM x41 false (M.ret a0)) fun x46 =>
          M.bind (guardM x41 false (optM (nilChk x46))) fun x47 =>
          M.bind (guardM x41 false (optM (fieldA 0 x47))) fun x48 =>
          M.bind (guardM x41 false (optM (fieldA 16 x48))) fun x49 =>
          M.bind (guardM x41 false (rdM (ld1 x49))) fun x50 =>
          M.bind (guardM x41 false (optM (binV BinOp.lss x45 x50))) fun x51 =>
          bindO (pickV x41 (Value.bool true) x51) fun x52 =>
          condM x52 (
            bindO (nilChk a0) fun x53 =>
            bindO (fieldA 28 x53) fun x54 =>
            M.bind (rdM (ld1 x54)) fun x55 =>
            bindO (binV BinOp.add x55 (Value.int IntKind.i64 1)) fun x56 =>
            bindO (nilChk a0) fun x57 =>
            bindO (fieldA 28 x57) fun x58 =>
            M.bind (stM 1 x58 x56) fun _ =>
            M.bind (F.granaryref15_Control_again a0) fun x60 =>
            M.ret (Value.tuple #[x60, (Value.int IntKind.i64 0)])) (
            bindO (nilChk a0) fun x61 =>
            bindO (fieldA 26 x61) fun x62 =>
            M.bind (rdM (ld1 x62)) fun x63 =>
            bindO (binV BinOp.eql x63 (Value.int IntKind.i64 2)) fun x64 =>
            condM x64 (
              M.bind (F.granaryref15_Control_begin a0 (Value.int IntKind.i64 3)) fun x65 =>
              M.ret (Value.tuple #[x65, (Value.int IntKind.i64 0)])) (
              M.bind (F.granaryref15_Control_end a0 (Value.int IntKind.i64 3)) fun x66 =>
              M.ret (Value.tuple #[x66, (Value.int IntKind.i64 0)])))))))
def F.granaryref15_Control_Tick.plan : Plan := (seq leaf (seq (seq leaf (cond (seq leaf leaf) leaf)) (seq (seq leaf (cond (seq leaf leaf) leaf)) (seq leaf (seq (seq leaf (cond (seq leaf leaf) leaf)) (seq (seq leaf (cond (seq leaf leaf) leaf)) (seq (seq leaf (cond (seq leaf (seq leaf leaf)) leaf)) (seq (seq leaf (cond (seq leaf leaf) leaf)) (seq leaf leaf)))))))))
theorem F.granaryref15_Control_Tick.lift : LiftOk Tryz.prog 30 (ap1 F.granaryref15_Control_Tick) :=
  lift1 (g := evFn Tryz.prog (tcons 59 (ap2 F.granaryref15_Control_begin) (tcons 63 (ap2 F.granaryref15_Control_end) (tcons 67 (ap1 F.granaryref15_Control_again) tnil))) tnil 30 Tryz.f30 F.granaryref15_Control_Tick.plan) (evFn_sound (tcons_ok F.granaryref15_Control_begin.lift (tcons_ok F.granaryref15_Control_end.lift (tcons_ok F.granaryref15_Control_again.lift tnil_ok))) tnil_ok Tryz.func30 (by kernel_rfl)) (fun x0 => by kernel_rfl)

/-- granary/control.Resume -/
noncomputable def F.control_Resume (a0 a1 a2 a3 a4 : Value) : M Value :=
  M.bind (newM 28 (Value.cells a0)) fun x1 =>
  M.bind (rdM (ldA 23 x1)) fun x2 =>
  M.bind (F.control_New x2) fun x3 =>
  bindO (extV 0 x3) fun x4 =>
  bindO (extV 1 x3) fun x5 =>
  bindO (binV BinOp.neq x5 (Value.int IntKind.i64 0)) fun x6 =>
  condM x6 (
    M.ret (Value.tuple #[(Value.pointer none), (Value.slice none 0 0), x5])) (
    bindO (binV BinOp.lss a1 (Value.int IntKind.i64 0)) fun x7 =>
    M.bind (guardM x7 false (M.ret a1)) fun x8 =>
    M.bind (guardM x7 false (optM (binV BinOp.gtr x8 (Value.int IntKind.i64 9007199254740992)))) fun x9 =>
    bindO (pickV x7 (Value.bool true) x9) fun x10 =>
    M.bind (guardM x10 false (M.ret a4)) fun x11 =>
    M.bind (guardM x10 false (M.ret x11)) fun x12 =>
    M.bind (guardM x12 true (M.ret a1)) fun x13 =>
    M.bind (guardM x12 true (optM (binV BinOp.eql x13 (Value.int IntKind.i64 0)))) fun x14 =>
    M.bind (guardM x10 false (optM (pickV x12 x14 (Value.bool false)))) fun x15 =>
    bindO (pickV x10 (Value.bool true) x15) fun x16 =>
    condM x16 (
      M.ret (Value.tuple #[(Value.pointer none), (Value.slice none 0 0), (Value.int IntKind.i64 1)])) (
      bindO (nilChk x4) fun x17 =>
      bindO (fieldA 4 x17) fun x18 =>
      bindO (fieldA 0 x18) fun x19 =>
      M.bind (stM 1 x19 a1) fun _ =>
      bindO (notV a4) fun x21 =>
      condM x21 (
        M.ret (Value.tuple #[x4, (Value.slice none 0 0), (Value.int IntKind.i64 0)])) (
        bindO (binV BinOp.neq a2 (Value.int IntKind.i64 1)) fun x22 =>
        M.bind (guardM x22 true (M.ret a2)) fun x23 =>
        M.bind (guardM x22 true (optM (binV BinOp.neq x23 (Value.int IntKind.i64 2)))) fun x24 =>
        bindO (pickV x22 x24 (Value.bool false)) fun x25 =>
        condM x25 (
          M.ret (Value.tuple #[(Value.pointer none), (Value.slice none 0 0), (Value.int IntKind.i64 152)])) (
          bindO (binV BinOp.lss a3 (Value.int IntKind.i64 1)) fun x26 =>
          M.bind (guardM x26 false (M.ret a3)) fun x27 =>
          M.bind (guardM x26 false (optM (binV BinOp.gtr x27 (Value.int IntKind.i64 999999)))) fun x28 =>
          bindO (pickV x26 (Value.bool true) x28) fun x29 =>
          condM x29 (
            M.ret (Value.tuple #[(Value.pointer none), (Value.slice none 0 0), (Value.int IntKind.i64 80)])) (
            bindO (nilChk x4) fun x30 =>
            bindO (fieldA 4 x30) fun x31 =>
            bindO (fieldA 1 x31) fun x32 =>
            M.bind (stM 1 x32 a2) fun _ =>
            bindO (nilChk x4) fun x34 =>
            bindO (fieldA 4 x34) fun x35 =>
            bindO (fieldA 2 x35) fun x36 =>
            M.bind (stM 1 x36 a3) fun _ =>
            M.bind (F.control_Control_back x4) fun x38 =>
            M.ret (Value.tuple #[x4, x38, (Value.int IntKind.i64 0)]))))))
def F.control_Resume.plan : Plan := (seq leaf (seq leaf (seq (seq leaf (cond (seq leaf leaf) leaf)) (seq (seq leaf (cond (seq leaf leaf) leaf)) (seq leaf (seq (seq leaf (cond (seq leaf leaf) leaf)) (seq (seq leaf (cond (seq leaf leaf) leaf)) (seq (seq leaf (cond (seq leaf leaf) leaf)) (seq leaf (seq leaf leaf))))))))))
theorem F.control_Resume.lift : LiftOk Tryz.prog 31 (ap5 F.control_Resume) :=
  lift5 (g := evFn Tryz.prog (tcons 18 (ap1 F.control_New) (tcons 68 (ap1 F.control_Control_back) tnil)) tnil 31 Tryz.f31 F.control_Resume.plan) (evFn_sound (tcons_ok F.control_New.lift (tcons_ok F.control_Control_back.lift tnil_ok)) tnil_ok Tryz.func31 (by kernel_rfl)) (fun x0 x1 x2 x3 x4 => by kernel_rfl)

/-- granary/granaryref15.Resume -/
noncomputable def F.granaryref15_Resume (a0 a1 a2 a3 a4 : Value) : M Value :=
  M.bind (newM 28 (Value.cells a0)) fun x1 =>
  M.bind (rdM (ldA 23 x1)) fun x2 =>
  M.bind (F.granaryref6_Check x2) fun x3 =>
  bindO (binV BinOp.neq x3 (Value.int IntKind.i64 0)) fun x4 =>
  condM x4 (
    M.ret (Value.tuple #[(Value.pointer none), (Value.slice none 0 0), x3])) (
    bindO (binV BinOp.lss a1 (Value.int IntKind.i64 0)) fun x5 =>
    M.bind (guardM x5 false (M.ret a1)) fun x6 =>
    M.bind (guardM x5 false (optM (binV BinOp.gtr x6 (Value.int IntKind.i64 9007199254740992)))) fun x7 =>
    bindO (pickV x5 (Value.bool true) x7) fun x8 =>
    M.bind (guardM x8 false (M.ret a4)) fun x9 =>
    M.bind (guardM x8 false (M.ret x9)) fun x10 =>
    M.bind (guardM x10 true (M.ret a1)) fun x11 =>
    M.bind (guardM x10 true (optM (binV BinOp.eql x11 (Value.int IntKind.i64 0)))) fun x12 =>
    M.bind (guardM x8 false (optM (pickV x10 x12 (Value.bool false)))) fun x13 =>
    bindO (pickV x8 (Value.bool true) x13) fun x14 =>
    condM x14 (
      M.ret (Value.tuple #[(Value.pointer none), (Value.slice none 0 0), (Value.int IntKind.i64 1)])) (
      M.bind (rdM (ldA 23 x1)) fun x15 =>
      bindO (buildV #[(Value.string ByteArray.empty), (Value.int IntKind.i64 0), (Value.int IntKind.i64 0), (Value.int IntKind.i64 0), (Value.int IntKind.i64 0), (Value.int IntKind.i64 0), (Value.int IntKind.i64 0), (Value.int IntKind.i64 0), (Value.int IntKind.i64 0), (Value.int IntKind.i64 0), (Value.int IntKind.i64 0), (Value.int IntKind.i64 0), (Value.int IntKind.i64 0), (Value.int IntKind.i64 0), (Value.int IntKind.i64 0), (Value.int IntKind.i64 0), (Value.int IntKind.i64 0), (Value.int IntKind.i64 0), (Value.int IntKind.i64 0), (Value.int IntKind.i64 0), (Value.int IntKind.i64 0), (Value.int IntKind.i64 0), (Value.slice none 0 0), (Value.int IntKind.i64 0), (Value.int IntKind.i64 0), (Value.int IntKind.i64 0), (Value.int IntKind.i64 0), (Value.int IntKind.i64 0), (Value.int IntKind.i64 0), (Value.slice none 0 0), (Value.slice none 0 0), (Value.bool false), (Value.int IntKind.i64 0), (Value.int IntKind.i64 0), (Value.int IntKind.i64 0), (Value.int IntKind.i64 0), (Value.slice none 0 0), (Value.slice none 0 0)] [(0, 23, x15), (23, 1, a1)]) fun x16 =>
      M.bind (newM 113 (Value.cells x16)) fun x17 =>
      bindO (notV a4) fun x18 =>
      condM x18 (
        M.ret (Value.tuple #[x17, (Value.slice none 0 0), (Value.int IntKind.i64 0)])) (
        bindO (binV BinOp.neq a2 (Value.int IntKind.i64 1)) fun x19 =>
        M.bind (guardM x19 true (M.ret a2)) fun x20 =>
        M.bind (guardM x19 true (optM (binV BinOp.neq x20 (Value.int IntKind.i64 2)))) fun x21 =>
        bindO (pickV x19 x21 (Value.bool false)) fun x22 =>
        condM x22 (
          M.ret (Value.tuple #[(Value.pointer none), (Value.slice none 0 0), (Value.int IntKind.i64 152)])) (
          bindO (binV BinOp.lss a3 (Value.int IntKind.i64 1)) fun x23 =>
          M.bind (guardM x23 false (M.ret a3)) fun x24 =>
          M.bind (guardM x23 false (optM (binV BinOp.gtr x24 (Value.int IntKind.i64 999999)))) fun x25 =>
          bindO (pickV x23 (Value.bool true) x25) fun x26 =>
          condM x26 (
            M.ret (Value.tuple #[(Value.pointer none), (Value.slice none 0 0), (Value.int IntKind.i64 80)])) (
            bindO (nilChk x17) fun x27 =>
            bindO (fieldA 24 x27) fun x28 =>
            M.bind (stM 1 x28 a2) fun _ =>
            bindO (nilChk x17) fun x30 =>
            bindO (fieldA 25 x30) fun x31 =>
            M.bind (stM 1 x31 a3) fun _ =>
            M.bind (F.granaryref15_Control_begin x17 (Value.int IntKind.i64 3)) fun x33 =>
            M.ret (Value.tuple #[x17, x33, (Value.int IntKind.i64 0)]))))))
def F.granaryref15_Resume.plan : Plan := (seq leaf (seq leaf (seq (seq leaf (cond (seq leaf leaf) leaf)) (seq (seq leaf (cond (seq leaf leaf) leaf)) (seq leaf (seq (seq leaf (cond (seq leaf leaf) leaf)) (seq (seq leaf (cond (seq leaf leaf) leaf)) (seq (seq leaf (cond (seq leaf leaf) leaf)) (seq leaf (seq leaf (seq leaf leaf)))))))))))
theorem F.granaryref15_Resume.lift : LiftOk Tryz.prog 32 (ap5 F.granaryref15_Resume) :=
  lift5 (g := evFn Tryz.prog (tcons 56 (ap1 F.granaryref6_Check) (tcons 59 (ap2 F.granaryref15_Control_begin) tnil)) tnil 32 Tryz.f32 F.granaryref15_Resume.plan) (evFn_sound (tcons_ok F.granaryref6_Check.lift (tcons_ok F.granaryref15_Control_begin.lift tnil_ok)) tnil_ok Tryz.func32 (by kernel_rfl)) (fun x0 x1 x2 x3 x4 => by kernel_rfl)

/-- (*granary/control.fetching).stopped -/
noncomputable def F.control_fetching_stopped (_a0 a1 : Value) : M Value :=
  M.bind (F.control_Control_back a1) fun x1 =>
  M.ret x1
def F.control_fetching_stopped.plan : Plan := (seq leaf (seq leaf leaf))
theorem F.control_fetching_stopped.lift : LiftOk Tryz.prog 131 (ap2 F.control_fetching_stopped) :=
  lift2 (g := evFn Tryz.prog (tcons 68 (ap1 F.control_Control_back) tnil) tnil 131 Tryz.f131 F.control_fetching_stopped.plan) (evFn_sound (tcons_ok F.control_Control_back.lift tnil_ok) tnil_ok Tryz.func131 (by kernel_rfl)) (fun x0 x1 => by kernel_rfl)

/-- (*granary/control.swapping).stopped -/
noncomputable def F.control_swapping_stopped (_a0 a1 : Value) : M Value :=
  M.bind (F.control_Control_back a1) fun x1 =>
  M.ret x1
def F.control_swapping_stopped.plan : Plan := (seq leaf (seq leaf leaf))
theorem F.control_swapping_stopped.lift : LiftOk Tryz.prog 137 (ap2 F.control_swapping_stopped) :=
  lift2 (g := evFn Tryz.prog (tcons 68 (ap1 F.control_Control_back) tnil) tnil 137 Tryz.f137 F.control_swapping_stopped.plan) (evFn_sound (tcons_ok F.control_Control_back.lift tnil_ok) tnil_ok Tryz.func137 (by kernel_rfl)) (fun x0 x1 => by kernel_rfl)

/-- (*granary/control.looking).stopped -/
noncomputable def F.control_looking_stopped (_a0 a1 : Value) : M Value :=
  M.bind (F.control_Control_end a1 (Value.int IntKind.i64 3)) fun x1 =>
  M.ret x1
def F.control_looking_stopped.plan : Plan := (seq leaf (seq leaf leaf))
theorem F.control_looking_stopped.lift : LiftOk Tryz.prog 143 (ap2 F.control_looking_stopped) :=
  lift2 (g := evFn Tryz.prog (tcons 69 (ap2 F.control_Control_end) tnil) tnil 143 Tryz.f143 F.control_looking_stopped.plan) (evFn_sound (tcons_ok F.control_Control_end.lift tnil_ok) tnil_ok Tryz.func143 (by kernel_rfl)) (fun x0 x1 => by kernel_rfl)

/-- (*granary/control.backing).stopped -/
noncomputable def F.control_backing_stopped (_a0 _a1 : Value) : M Value :=
  M.ret (Value.slice none 0 0)
def F.control_backing_stopped.plan : Plan := (seq leaf (seq leaf leaf))
theorem F.control_backing_stopped.lift : LiftOk Tryz.prog 149 (ap2 F.control_backing_stopped) :=
  lift2 (g := evFn Tryz.prog tnil tnil 149 Tryz.f149 F.control_backing_stopped.plan) (evFn_sound tnil_ok tnil_ok Tryz.func149 (by kernel_rfl)) (fun x0 x1 => by kernel_rfl)

/-- What this function's calls through interface values come to. -/
noncomputable def F.control_Control_Stop.inv : Tab := (tcons 131 (ap2 F.control_fetching_stopped) (tcons 137 (ap2 F.control_swapping_stopped) (tcons 143 (ap2 F.control_looking_stopped) (tcons 149 (ap2 F.control_backing_stopped) tnil))))
theorem F.control_Control_Stop.inv_ok : TabOk Tryz.prog F.control_Control_Stop.inv := (tcons_ok F.control_fetching_stopped.lift (tcons_ok F.control_swapping_stopped.lift (tcons_ok F.control_looking_stopped.lift (tcons_ok F.control_backing_stopped.lift tnil_ok))))
theorem F.control_Control_Stop.inv_117_stopped (v x0 : Value) : invV Tryz.prog F.control_Control_Stop.inv "granary/control.stopped" (.iface 117 v) [x0] = F.control_fetching_stopped v x0 := by kernel_rfl
theorem F.control_Control_Stop.inv_120_stopped (v x0 : Value) : invV Tryz.prog F.control_Control_Stop.inv "granary/control.stopped" (.iface 120 v) [x0] = F.control_swapping_stopped v x0 := by kernel_rfl
theorem F.control_Control_Stop.inv_122_stopped (v x0 : Value) : invV Tryz.prog F.control_Control_Stop.inv "granary/control.stopped" (.iface 122 v) [x0] = F.control_looking_stopped v x0 := by kernel_rfl
theorem F.control_Control_Stop.inv_148_stopped (v x0 : Value) : invV Tryz.prog F.control_Control_Stop.inv "granary/control.stopped" (.iface 148 v) [x0] = F.control_backing_stopped v x0 := by kernel_rfl
/-- (*granary/control.Control).Stop -/
noncomputable def F.control_Control_Stop (a0 : Value) : M Value :=
  bindO (eqV (EqSh.one EqK.ptr) a0 (Value.pointer none)) fun x1 =>
  condM x1 (
    M.ret (Value.tuple #[(Value.slice none 0 0), (Value.int IntKind.i64 2)])) (
    bindO (nilChk a0) fun x2 =>
    bindO (fieldA 7 x2) fun x3 =>
    M.bind (rdM (ld1 x3)) fun x4 =>
    bindO (eqV (EqSh.one EqK.ifn) x4 Value.nilIface) fun x5 =>
    condM x5 (
      M.ret (Value.tuple #[(Value.slice none 0 0), (Value.int IntKind.i64 151)])) (
      bindO (nilChk a0) fun x6 =>
      bindO (fieldA 7 x6) fun x7 =>
      M.bind (rdM (ld1 x7)) fun x8 =>
      M.bind (invV Tryz.prog F.control_Control_Stop.inv "granary/control.stopped" x8 [a0]) fun x9 =>
      M.ret (Value.tuple #[x9, (Value.int IntKind.i64 0)])))
def F.control_Control_Stop.plan : Plan := (seq leaf (seq (seq leaf (cond (seq leaf leaf) leaf)) (seq (seq leaf (cond (seq leaf leaf) leaf)) (seq leaf leaf))))
theorem F.control_Control_Stop.lift : LiftOk Tryz.prog 33 (ap1 F.control_Control_Stop) :=
  lift1 (g := evFn Tryz.prog tnil F.control_Control_Stop.inv 33 Tryz.f33 F.control_Control_Stop.plan) (evFn_sound tnil_ok F.control_Control_Stop.inv_ok Tryz.func33 (by kernel_rfl)) (fun x0 => by kernel_rfl)

/-- (*granary/granaryref15.Control).Stop -/
noncomputable def F.granaryref15_Control_Stop (a0 : Value) : M Value :=
  bindO (eqV (EqSh.one EqK.ptr) a0 (Value.pointer none)) fun x1 =>
  condM x1 (
    M.ret (Value.tuple #[(Value.slice none 0 0), (Value.int IntKind.i64 2)])) (
    bindO (nilChk a0) fun x2 =>
    bindO (fieldA 26 x2) fun x3 =>
    M.bind (rdM (ld1 x3)) fun x4 =>
    bindO (binV BinOp.eql x4 (Value.int IntKind.i64 0)) fun x5 =>
    condM x5 (
      M.ret (Value.tuple #[(Value.slice none 0 0), (Value.int IntKind.i64 151)])) (
      bindO (binV BinOp.eql x4 (Value.int IntKind.i64 3)) fun x6 =>
      condM x6 (
        M.ret (Value.tuple #[(Value.slice none 0 0), (Value.int IntKind.i64 0)])) (
        bindO (binV BinOp.eql x4 (Value.int IntKind.i64 4)) fun x7 =>
        condM x7 (
          M.bind (F.granaryref15_Control_end a0 (Value.int IntKind.i64 3)) fun x8 =>
          M.ret (Value.tuple #[x8, (Value.int IntKind.i64 0)])) (
          M.bind (F.granaryref15_Control_begin a0 (Value.int IntKind.i64 3)) fun x9 =>
          M.ret (Value.tuple #[x9, (Value.int IntKind.i64 0)])))))
def F.granaryref15_Control_Stop.plan : Plan := (seq leaf (seq (seq leaf (cond (seq leaf leaf) leaf)) (seq (seq leaf (body (seq leaf (cond (seq leaf leaf) (seq leaf (cond (seq leaf leaf) (seq leaf (cond (seq leaf leaf) leaf)))))))) (seq leaf leaf))))
theorem F.granaryref15_Control_Stop.lift : LiftOk Tryz.prog 34 (ap1 F.granaryref15_Control_Stop) :=
  lift1 (g := evFn Tryz.prog (tcons 59 (ap2 F.granaryref15_Control_begin) (tcons 63 (ap2 F.granaryref15_Control_end) tnil)) tnil 34 Tryz.f34 F.granaryref15_Control_Stop.plan) (evFn_sound (tcons_ok F.granaryref15_Control_begin.lift (tcons_ok F.granaryref15_Control_end.lift tnil_ok)) tnil_ok Tryz.func34 (by kernel_rfl)) (fun x0 => by kernel_rfl)

/-- What this function's calls through interface values come to. -/
noncomputable def F.control_Control_Revive.inv : Tab := (tcons 126 (ap1 F.control_ledger_book) tnil)
theorem F.control_Control_Revive.inv_ok : TabOk Tryz.prog F.control_Control_Revive.inv := (tcons_ok F.control_ledger_book.lift tnil_ok)
theorem F.control_Control_Revive.inv_117_book (v : Value) : invV Tryz.prog F.control_Control_Revive.inv "granary/control.book" (.iface 117 v) [] = (match fieldA 0 v with | some p => F.control_ledger_book p | none => M.fail) := by kernel_rfl
theorem F.control_Control_Revive.inv_120_book (v : Value) : invV Tryz.prog F.control_Control_Revive.inv "granary/control.book" (.iface 120 v) [] = (match fieldA 0 v with | some p => F.control_ledger_book p | none => M.fail) := by kernel_rfl
theorem F.control_Control_Revive.inv_122_book (v : Value) : invV Tryz.prog F.control_Control_Revive.inv "granary/control.book" (.iface 122 v) [] = (match fieldA 0 v with | some p => F.control_ledger_book p | none => M.fail) := by kernel_rfl
theorem F.control_Control_Revive.inv_148_book (v : Value) : invV Tryz.prog F.control_Control_Revive.inv "granary/control.book" (.iface 148 v) [] = (match fieldA 0 v with | some p => F.control_ledger_book p | none => M.fail) := by kernel_rfl
/-- (*granary/control.Control).Revive -/
noncomputable def F.control_Control_Revive (a0 : Value) : M Value :=
  bindO (eqV (EqSh.one EqK.ptr) a0 (Value.pointer none)) fun x1 =>
  condM x1 (
    M.ret (Value.tuple #[(Value.slice none 0 0), (Value.int IntKind.i64 2)])) (
    bindO (nilChk a0) fun x2 =>
    bindO (fieldA 7 x2) fun x3 =>
    M.bind (rdM (ld1 x3)) fun x4 =>
    bindO (eqV (EqSh.one EqK.ifn) x4 Value.nilIface) fun x5 =>
    condM x5 (
      M.ret (Value.tuple #[(Value.slice none 0 0), (Value.int IntKind.i64 151)])) (
      bindO (nilChk a0) fun x6 =>
      bindO (fieldA 4 x6) fun x7 =>
      bindO (fieldA 1 x7) fun x8 =>
      M.bind (rdM (ld1 x8)) fun x9 =>
      bindO (binV BinOp.eql x9 (Value.int IntKind.i64 3)) fun x10 =>
      condM x10 (
        drewM <|
        getM fun W11 =>
        bindO (nilChk a0) fun x12 =>
        bindO (fieldA 7 x12) fun x13 =>
        M.bind (rdM (ld1 x13)) fun x14 =>
        M.bind (invV Tryz.prog F.control_Control_Revive.inv "granary/control.book" x14 []) fun x15 =>
        getM fun _ =>
        bindO (nilChk a0) fun x17 =>
        bindO (fieldA 0 x17) fun x18 =>
        M.bind (rdM (ld1 x18)) fun x19 =>
        M.bind (F.control_newLedger x19) fun x20 =>
        getM fun _ =>
        bindO (nilChk x15) fun x22 =>
        M.bind (stM 4 x22 x20) fun _ =>
        getM fun _ =>
        reqM (ld1 x18 W11 = some x19) <|
        M.bind (F.control_Control_end a0 (Value.int IntKind.i64 3)) fun x25 =>
        M.ret (Value.tuple #[x25, (Value.int IntKind.i64 0)])) (
        M.bind (F.control_Control_back a0) fun x26 =>
        M.ret (Value.tuple #[x26, (Value.int IntKind.i64 0)]))))
def F.control_Control_Revive.plan : Plan := (seq leaf (seq (seq leaf (cond (seq leaf leaf) leaf)) (seq (seq leaf (cond (seq leaf leaf) leaf)) (seq (seq leaf (cond (seq leaf (seq leaf leaf)) leaf)) (seq leaf leaf)))))
theorem F.control_Control_Revive.lift : LiftOk Tryz.prog 35 (ap1 F.control_Control_Revive) :=
  lift1 (g := evFn Tryz.prog (tcons 57 (ap1 F.control_newLedger) (tcons 68 (ap1 F.control_Control_back) (tcons 69 (ap2 F.control_Control_end) tnil))) F.control_Control_Revive.inv 35 Tryz.f35 F.control_Control_Revive.plan) (evFn_sound (tcons_ok F.control_newLedger.lift (tcons_ok F.control_Control_back.lift (tcons_ok F.control_Control_end.lift tnil_ok))) F.control_Control_Revive.inv_ok Tryz.func35 (by kernel_rfl)) (fun x0 => by kernel_rfl)

end Go.Proofs.YtpiceodfdjihhaaGreatDoor
