/-
  THE FUNCTIONAL FORMS of the functions of this seat's translation, and that each function comes to its form: printed by a program of the prover's own (lift.py).
-/
import Derived.Test.YtojnickeblbgoaaGreatDoorG1
namespace Go.Proofs.YtojnickeblbgoaaGreatDoor
open Go.Lift Go.Lift.Plan
/-- (*granary/disk.Disk).do -/
noncomputable def F.disk_Disk_do (a0 a1 : Value) : M Value :=
  M.bind (newM 141 (Value.cells a1)) fun x1 =>
  M.bind (F.disk_Disk_act a0) fun x2 =>
  bindO (binV BinOp.neq x2 (Value.int IntKind.i64 0)) fun x3 =>
  condM x3 (
    M.ret x2) (
    drewM <|
    bindO (nilChk a0) fun x4 =>
    bindO (fieldA 6 x4) fun x5 =>
    M.bind (rdM (ld1 x5)) fun x6 =>
    bindO (fieldA 1 x1) fun x7 =>
    M.bind (rdM (ld1 x7)) fun x8 =>
    bindO (idxA 3 x6 x8) fun x9 =>
    drewM <|
    M.bind (rdM (ldA 7 x1)) fun x10 =>
    bindO (nilChk x9) fun x11 =>
    bindO (fieldA 1 x11) fun x12 =>
    M.bind (rdM (ld1 x12)) fun x13 =>
    bindO (nilChk a0) fun x14 =>
    bindO (fieldA 7 x14) fun x15 =>
    M.bind (rdM (ld1 x15)) fun x16 =>
    M.bind (F.disk_apply x10 x13 x16) fun x17 =>
    bindO (nilChk x9) fun x18 =>
    bindO (fieldA 1 x18) fun x19 =>
    M.bind (stM 1 x19 x17) fun _ =>
    drewM <|
    getM fun _ =>
    bindO (nilChk a0) fun x22 =>
    bindO (fieldA 9 x22) fun x23 =>
    M.bind (rdM (ld1 x23)) fun x24 =>
    M.bind (rdM (ldA 7 x1)) fun x25 =>
    M.bind (bslM 141 1 (Builtin.zeroCells #[(Value.int IntKind.i64 0), (Value.int IntKind.i64 0), (Value.string ByteArray.empty), (Value.int IntKind.i64 0), (Value.string ByteArray.empty), (Value.string ByteArray.empty), (Value.int IntKind.i64 0)] 1) [(0, 7, x25)]) fun x26 =>
    getM fun W27 =>
    M.bind (appM 141 7 80 #[(Value.int IntKind.i64 0), (Value.int IntKind.i64 0), (Value.string ByteArray.empty), (Value.int IntKind.i64 0), (Value.string ByteArray.empty), (Value.string ByteArray.empty), (Value.int IntKind.i64 0)] x24 x26) fun x28 =>
    getM fun _ =>
    bindO (nilChk a0) fun x30 =>
    bindO (fieldA 9 x30) fun x31 =>
    M.bind (stM 1 x31 x28) fun _ =>
    getM fun _ =>
    reqM (ld1 x23 W27 = some x24) <|
    M.ret (Value.int IntKind.i64 0))
def F.disk_Disk_do.plan : Plan := (seq leaf (seq (seq leaf (seq leaf (cond (seq leaf leaf) leaf))) (seq leaf (seq leaf (seq leaf (seq leaf leaf))))))
theorem F.disk_Disk_do.lift : LiftOk Tryz.prog 90 (ap2 F.disk_Disk_do) :=
  lift2 (g := evFn Tryz.prog (tcons 99 (ap3 F.disk_apply) (tcons 114 (ap1 F.disk_Disk_act) tnil)) tnil 90 Tryz.f90 F.disk_Disk_do.plan) (evFn_sound (tcons_ok F.disk_apply.lift (tcons_ok F.disk_Disk_act.lift tnil_ok)) tnil_ok Tryz.func90 (by kernel_rfl)) (fun x0 x1 => by kernel_rfl)

/-- (*granary/disk.Disk).add -/
noncomputable def F.disk_Disk_add (a0 a1 a2 : Value) : M Value :=
  M.bind (F.disk_Disk_ready a0) fun x1 =>
  bindO (binV BinOp.neq x1 (Value.int IntKind.i64 0)) fun x2 =>
  condM x2 (
    M.ret x1) (
    M.bind (F.disk_parse a1) fun x3 =>
    bindO (extV 0 x3) fun x4 =>
    bindO (extV 1 x3) fun x5 =>
    bindO (notV x5) fun x6 =>
    condM x6 (
      M.ret (Value.int IntKind.i64 11)) (
      M.bind (F.disk_Disk_walk a0 x4) fun x7 =>
      bindO (extV 0 x7) fun x8 =>
      bindO (extV 1 x7) fun x9 =>
      M.bind (newM 85 #[(Value.int IntKind.i64 0), (Value.string ByteArray.empty), (Value.int IntKind.i64 0)]) fun x10 =>
      M.bind (stM 3 x10 x8) fun _ =>
      bindO (binV BinOp.neq x9 (Value.int IntKind.i64 0)) fun x12 =>
      condM x12 (
        M.ret x9) (
        bindO (fieldA 2 x10) fun x13 =>
        M.bind (rdM (ld1 x13)) fun x14 =>
        bindO (binV BinOp.geq x14 (Value.int IntKind.i64 0)) fun x15 =>
        condM x15 (
          M.ret (Value.int IntKind.i64 13)) (
          bindO (nilChk a0) fun x16 =>
          bindO (fieldA 6 x16) fun x17 =>
          M.bind (rdM (ld1 x17)) fun x18 =>
          bindO (buildV #[(Value.int IntKind.i64 0), (Value.string ByteArray.empty), (Value.string ByteArray.empty)] [(0, 1, a2)]) fun x19 =>
          M.bind (bslM 94 1 (Builtin.zeroCells #[(Value.int IntKind.i64 0), (Value.string ByteArray.empty), (Value.string ByteArray.empty)] 1) [(0, 3, x19)]) fun x20 =>
          M.bind (appM 94 3 40 #[(Value.int IntKind.i64 0), (Value.string ByteArray.empty), (Value.string ByteArray.empty)] x18 x20) fun x21 =>
          bindO (nilChk a0) fun x22 =>
          bindO (fieldA 6 x22) fun x23 =>
          M.bind (stM 1 x23 x21) fun _ =>
          drewM <|
          bindO (fieldA 0 x10) fun x25 =>
          bindO (fieldA 0 x25) fun x26 =>
          M.bind (rdM (ld1 x26)) fun x27 =>
          bindO (fieldA 0 x10) fun x28 =>
          bindO (fieldA 1 x28) fun x29 =>
          M.bind (rdM (ld1 x29)) fun x30 =>
          bindO (nilChk a0) fun x31 =>
          bindO (fieldA 6 x31) fun x32 =>
          M.bind (rdM (ld1 x32)) fun x33 =>
          bindO (lenL x33) fun x34 =>
          bindO (binV BinOp.sub x34 (Value.int IntKind.i64 1)) fun x35 =>
          bindO (buildV #[(Value.int IntKind.i64 0), (Value.int IntKind.i64 0), (Value.string ByteArray.empty), (Value.int IntKind.i64 0), (Value.string ByteArray.empty), (Value.string ByteArray.empty), (Value.int IntKind.i64 0)] [(0, 1, (Value.int IntKind.i64 2)), (1, 1, x27), (4, 1, x30), (6, 1, x35)]) fun x36 =>
          M.bind (F.disk_Disk_do a0 x36) fun x37 =>
          M.ret x37))))
def F.disk_Disk_add.plan : Plan := (seq leaf (seq (seq leaf (seq leaf (cond (seq leaf leaf) leaf))) (seq leaf (seq (seq leaf (cond (seq leaf leaf) leaf)) (seq leaf (seq (seq leaf (cond (seq leaf leaf) leaf)) (seq (seq leaf (cond (seq leaf leaf) leaf)) (seq leaf (seq leaf leaf)))))))))
theorem F.disk_Disk_add.lift : LiftOk Tryz.prog 88 (ap3 F.disk_Disk_add) :=
  lift3 (g := evFn Tryz.prog (tcons 85 (ap1 F.disk_Disk_ready) (tcons 86 (ap1 F.disk_parse) (tcons 90 (ap2 F.disk_Disk_do) (tcons 92 (ap2 F.disk_Disk_walk) tnil)))) tnil 88 Tryz.f88 F.disk_Disk_add.plan) (evFn_sound (tcons_ok F.disk_Disk_ready.lift (tcons_ok F.disk_parse.lift (tcons_ok F.disk_Disk_do.lift (tcons_ok F.disk_Disk_walk.lift tnil_ok)))) tnil_ok Tryz.func88 (by kernel_rfl)) (fun x0 x1 x2 => by kernel_rfl)

/-- (*granary/disk.Disk).Mkdir -/
noncomputable def F.disk_Disk_Mkdir (a0 a1 : Value) : M Value :=
  M.bind (F.disk_Disk_add a0 a1 (Value.int IntKind.i64 1)) fun x1 =>
  M.ret x1
def F.disk_Disk_Mkdir.plan : Plan := (seq leaf (seq leaf leaf))
theorem F.disk_Disk_Mkdir.lift : LiftOk Tryz.prog 39 (ap2 F.disk_Disk_Mkdir) :=
  lift2 (g := evFn Tryz.prog (tcons 88 (ap3 F.disk_Disk_add) tnil) tnil 39 Tryz.f39 F.disk_Disk_Mkdir.plan) (evFn_sound (tcons_ok F.disk_Disk_add.lift tnil_ok) tnil_ok Tryz.func39 (by kernel_rfl)) (fun x0 x1 => by kernel_rfl)

/-- (*granary/granaryref1.Disk).act -/
noncomputable def F.granaryref1_Disk_act (a0 : Value) : M Value :=
  bindO (nilChk a0) fun x1 =>
  bindO (fieldA 3 x1) fun x2 =>
  M.bind (rdM (ld1 x2)) fun x3 =>
  bindO (binV BinOp.eql x3 (Value.int IntKind.i64 0)) fun x4 =>
  condM x4 (
    bindO (nilChk a0) fun x5 =>
    bindO (fieldA 4 x5) fun x6 =>
    M.bind (stM 1 x6 (Value.bool true)) fun _ =>
    M.ret (Value.int IntKind.i64 10)) (
    M.bind (
      bindO (nilChk a0) fun x8 =>
      bindO (fieldA 3 x8) fun x9 =>
      M.bind (rdM (ld1 x9)) fun x10 =>
      bindO (binV BinOp.gtr x10 (Value.int IntKind.i64 0)) fun x11 =>
      condM x11 (
        bindO (nilChk a0) fun x12 =>
        bindO (fieldA 3 x12) fun x13 =>
        M.bind (rdM (ld1 x13)) fun x14 =>
        bindO (binV BinOp.sub x14 (Value.int IntKind.i64 1)) fun x15 =>
        bindO (nilChk a0) fun x16 =>
        bindO (fieldA 3 x16) fun x17 =>
        M.bind (stM 1 x17 x15) fun _ =>
        M.ret (Out.norm [])) (
        M.ret (Out.norm []))) fun o20 =>
    outK o20 (fun _ =>
      bindO (nilChk a0) fun x23 =>
      bindO (fieldA 1 x23) fun x24 =>
      M.bind (rdM (ld1 x24)) fun x25 =>
      bindO (binV BinOp.add x25 (Value.int IntKind.i64 1)) fun x26 =>
      bindO (nilChk a0) fun x27 =>
      bindO (fieldA 1 x27) fun x28 =>
      M.bind (stM 1 x28 x26) fun _ =>
      M.ret (Value.int IntKind.i64 0)) (fun _ _ =>
      M.fail) (fun r22 => M.ret r22))
def F.granaryref1_Disk_act.plan : Plan := (seq leaf (seq (seq leaf (cond (seq leaf (seq leaf leaf)) leaf)) (fork [] [11, 12, 13, 14, 15, 16, 17, 18, 19, 20, 21, 22] [] (seq leaf (cond leaf leaf)) (seq leaf (seq leaf leaf)))))
theorem F.granaryref1_Disk_act.lift : LiftOk Tryz.prog 115 (ap1 F.granaryref1_Disk_act) :=
  lift1 (g := evFn Tryz.prog tnil tnil 115 Tryz.f115 F.granaryref1_Disk_act.plan) (evFn_sound tnil_ok tnil_ok Tryz.func115 (by kernel_rfl)) (fun x0 => by kernel_rfl)

/-- granary/granaryref1.having -/
noncomputable def F.granaryref1_having (a0 a1 a2 : Value) : M Value :=
  M.bind (loopM (fun l1 =>
    bindO (lenL a0) fun x2 =>
    bindO (binV BinOp.lss (getL l1 2) x2) fun x3 =>
    condM x3 (
      M.bind (
        M.bind (
          bindO (notV (getL l1 1)) fun x4 =>
          M.bind (guardM x4 true (M.ret a0)) fun x5 =>
          M.bind (guardM x4 true (M.ret (getL l1 2))) fun x6 =>
          M.bind (guardM x4 true (optM (idxA 2 x5 x6))) fun x7 =>
          M.bind (guardM x4 true (optM (fieldA 0 x7))) fun x8 =>
          M.bind (guardM x4 true (rdM (ld1 x8))) fun x9 =>
          M.bind (guardM x4 true (M.ret a1)) fun x10 =>
          M.bind (guardM x4 true (optM (binV BinOp.geq x9 x10))) fun x11 =>
          bindO (pickV x4 x11 (Value.bool false)) fun x12 =>
          condM x12 (
            bindO (buildV #[(Value.string ByteArray.empty), (Value.int IntKind.i64 0)] [(0, 1, a1), (1, 1, a2)]) fun x13 =>
            M.bind (bslM 113 1 (Builtin.zeroCells #[(Value.string ByteArray.empty), (Value.int IntKind.i64 0)] 1) [(0, 2, x13)]) fun x14 =>
            M.bind (appM 113 2 24 #[(Value.string ByteArray.empty), (Value.int IntKind.i64 0)] (getL l1 0) x14) fun x15 =>
            M.ret (Out.norm [x15, (Value.bool true)])) (
            M.ret (Out.norm [(getL l1 0), (getL l1 1)]))) fun o17 =>
        outK o17 (fun l16 =>
          bindO (idxA 2 a0 (getL l1 2)) fun x20 =>
          bindO (fieldA 0 x20) fun x21 =>
          M.bind (rdM (ld1 x21)) fun x22 =>
          bindO (binV BinOp.neq x22 a1) fun x23 =>
          condM x23 (
            bindO (idxA 2 a0 (getL l1 2)) fun x24 =>
            M.bind (rdM (ldA 2 x24)) fun x25 =>
            M.bind (bslM 113 1 (Builtin.zeroCells #[(Value.string ByteArray.empty), (Value.int IntKind.i64 0)] 1) [(0, 2, x25)]) fun x26 =>
            M.bind (appM 113 2 24 #[(Value.string ByteArray.empty), (Value.int IntKind.i64 0)] (getL l16 0) x26) fun x27 =>
            M.ret (Out.norm [x27, (getL l16 1)])) (
            M.ret (Out.norm [(getL l16 0), (getL l16 1)]))) (fun _ _ =>
          M.fail) (fun r19 => M.ret (Out.ret r19))) fun o30 =>
      outK o30 (fun l29 =>
        bindO (binV BinOp.add (getL l1 2) (Value.int IntKind.i64 1)) fun x33 =>
        M.ret (Out.norm [(getL l29 0), (getL l29 1), x33])) (fun _ _ =>
        M.fail) (fun r32 => M.ret (Out.ret r32))) (
      M.ret (Out.exit 0 [(getL l1 0), (getL l1 1), (getL l1 2)]))) [(Value.slice none 0 0), (Value.bool false), (Value.int IntKind.i64 0)]) fun o36 =>
  outK o36 (fun _ => M.fail) (fun k37 l35 =>
    bif Nat.beq k37 0 then (
      M.bind (
        bindO (notV (getL l35 1)) fun x39 =>
        condM x39 (
          bindO (buildV #[(Value.string ByteArray.empty), (Value.int IntKind.i64 0)] [(0, 1, a1), (1, 1, a2)]) fun x40 =>
          M.bind (bslM 113 1 (Builtin.zeroCells #[(Value.string ByteArray.empty), (Value.int IntKind.i64 0)] 1) [(0, 2, x40)]) fun x41 =>
          M.bind (appM 113 2 24 #[(Value.string ByteArray.empty), (Value.int IntKind.i64 0)] (getL l35 0) x41) fun x42 =>
          M.ret (Out.norm [x42])) (
          M.ret (Out.norm [(getL l35 0)]))) fun o44 =>
      outK o44 (fun l43 =>
        M.ret (getL l43 0)) (fun _ _ =>
        M.fail) (fun r46 => M.ret r46)) else
    M.fail) (fun r38 => M.ret r38)
def F.granaryref1_having.plan : Plan := (seq leaf (seq leaf (seq leaf (seq (seq leaf (body (loop [7, 8, 9] [7, 8, 9, 10, 11, 12, 13, 14, 15, 16, 17, 18, 19, 20, 21, 22, 23, 24, 25, 26, 27, 28, 29, 30, 31, 32, 33, 34, 35, 36, 37, 38, 39, 40, 41, 42, 43, 44, 45, 46] [0] (seq (seq leaf (cond leaf leaf)) (fork [7, 8] [7, 8, 16, 17, 18, 19, 20, 21, 22, 23, 24, 25, 26, 27, 28, 29, 30, 31, 32, 33, 34, 35, 36, 37, 38, 39, 40, 41, 42, 43, 44, 45, 46] [] (body (fork [7, 8] [7, 8, 16, 17, 18, 19, 20, 21, 22, 23, 24, 25, 26, 27, 28, 29, 30, 31, 32] [] (seq leaf (cond (seq leaf leaf) leaf)) (seq leaf (cond leaf leaf)))) leaf))))) (fork [7] [7, 47, 48, 49, 50, 51, 52, 53, 54] [] (seq leaf (cond leaf leaf)) (seq leaf leaf))))))
theorem F.granaryref1_having.lift : LiftOk Tryz.prog 117 (ap3 F.granaryref1_having) :=
  lift3 (g := evFn Tryz.prog tnil tnil 117 Tryz.f117 F.granaryref1_having.plan) (evFn_sound tnil_ok tnil_ok Tryz.func117 (by kernel_rfl)) (fun x0 x1 x2 => by kernel_rfl)

/-- granary/granaryref1.without -/
noncomputable def F.granaryref1_without (a0 a1 : Value) : M Value :=
  M.bind (loopM (fun l1 =>
    bindO (lenL a0) fun x2 =>
    bindO (binV BinOp.lss (getL l1 1) x2) fun x3 =>
    condM x3 (
      M.bind (
        bindO (idxA 2 a0 (getL l1 1)) fun x4 =>
        bindO (fieldA 0 x4) fun x5 =>
        M.bind (rdM (ld1 x5)) fun x6 =>
        bindO (binV BinOp.neq x6 a1) fun x7 =>
        condM x7 (
          bindO (idxA 2 a0 (getL l1 1)) fun x8 =>
          M.bind (rdM (ldA 2 x8)) fun x9 =>
          M.bind (bslM 113 1 (Builtin.zeroCells #[(Value.string ByteArray.empty), (Value.int IntKind.i64 0)] 1) [(0, 2, x9)]) fun x10 =>
          M.bind (appM 113 2 24 #[(Value.string ByteArray.empty), (Value.int IntKind.i64 0)] (getL l1 0) x10) fun x11 =>
          M.ret (Out.norm [x11])) (
          M.ret (Out.norm [(getL l1 0)]))) fun o13 =>
      outK o13 (fun l12 =>
        bindO (binV BinOp.add (getL l1 1) (Value.int IntKind.i64 1)) fun x16 =>
        M.ret (Out.norm [(getL l12 0), x16])) (fun _ _ =>
        M.fail) (fun r15 => M.ret (Out.ret r15))) (
      M.ret (Out.exit 0 [(getL l1 0), (getL l1 1)]))) [(Value.slice none 0 0), (Value.int IntKind.i64 0)]) fun o19 =>
  outK o19 (fun _ => M.fail) (fun k20 l18 =>
    bif Nat.beq k20 0 then (
      M.ret (getL l18 0)) else
    M.fail) (fun r21 => M.ret r21)
def F.granaryref1_without.plan : Plan := (seq leaf (seq leaf (seq (seq leaf (body (loop [5, 6] [5, 6, 7, 8, 9, 10, 11, 12, 13, 14, 15, 16, 17, 18, 19, 20, 21, 22, 23, 24, 25, 26] [0] (seq (seq leaf (cond leaf leaf)) (fork [5] [5, 13, 14, 15, 16, 17, 18, 19, 20, 21, 22, 23, 24, 25, 26] [] (body (seq leaf (cond leaf leaf))) leaf))))) (seq leaf leaf))))
theorem F.granaryref1_without.lift : LiftOk Tryz.prog 118 (ap2 F.granaryref1_without) :=
  lift2 (g := evFn Tryz.prog tnil tnil 118 Tryz.f118 F.granaryref1_without.plan) (evFn_sound tnil_ok tnil_ok Tryz.func118 (by kernel_rfl)) (fun x0 x1 => by kernel_rfl)

/-- granary/granaryref1.done -/
noncomputable def F.granaryref1_done (a0 a1 : Value) : M Value :=
  M.bind (newM 105 (Value.cells a0)) fun x1 =>
  M.bind (newM 144 (Value.cells a1)) fun x2 =>
  M.bind (newM 105 #[(Value.string ByteArray.empty), (Value.slice none 0 0)]) fun x3 =>
  M.bind (
    bindO (fieldA 1 x2) fun x4 =>
    M.bind (rdM (ld1 x4)) fun x5 =>
    bindO (binV BinOp.eql x5 (Value.int IntKind.i64 1)) fun x6 =>
    condM x6 (
      bindO (fieldA 0 x1) fun x7 =>
      M.bind (rdM (ld1 x7)) fun x8 =>
      bindO (fieldA 5 x2) fun x9 =>
      M.bind (rdM (ld1 x9)) fun x10 =>
      bindO (binV BinOp.add x8 x10) fun x11 =>
      bindO (fieldA 0 x1) fun x12 =>
      M.bind (stM 1 x12 x11) fun _ =>
      M.ret (Out.norm [])) (
      bindO (binV BinOp.eql x5 (Value.int IntKind.i64 2)) fun x14 =>
      condM x14 (
        bindO (fieldA 0 x1) fun x15 =>
        M.bind (rdM (ld1 x15)) fun x16 =>
        bindO (fieldA 2 x2) fun x17 =>
        M.bind (rdM (ld1 x17)) fun x18 =>
        bindO (sliceS x16 none (some x18)) fun x19 =>
        bindO (fieldA 0 x1) fun x20 =>
        M.bind (stM 1 x20 x19) fun _ =>
        M.ret (Out.norm [])) (
        bindO (binV BinOp.eql x5 (Value.int IntKind.i64 3)) fun x22 =>
        condM x22 (
          bindO (fieldA 1 x1) fun x23 =>
          M.bind (rdM (ld1 x23)) fun x24 =>
          bindO (fieldA 3 x2) fun x25 =>
          M.bind (rdM (ld1 x25)) fun x26 =>
          bindO (fieldA 2 x2) fun x27 =>
          M.bind (rdM (ld1 x27)) fun x28 =>
          M.bind (F.granaryref1_having x24 x26 x28) fun x29 =>
          bindO (fieldA 1 x1) fun x30 =>
          M.bind (stM 1 x30 x29) fun _ =>
          M.ret (Out.norm [])) (
          bindO (binV BinOp.eql x5 (Value.int IntKind.i64 4)) fun x32 =>
          condM x32 (
            bindO (fieldA 1 x1) fun x33 =>
            M.bind (rdM (ld1 x33)) fun x34 =>
            bindO (fieldA 3 x2) fun x35 =>
            M.bind (rdM (ld1 x35)) fun x36 =>
            M.bind (F.granaryref1_without x34 x36) fun x37 =>
            bindO (fieldA 1 x1) fun x38 =>
            M.bind (stM 1 x38 x37) fun _ =>
            M.ret (Out.norm [])) (
            bindO (binV BinOp.eql x5 (Value.int IntKind.i64 5)) fun x40 =>
            condM x40 (
              bindO (fieldA 1 x1) fun x41 =>
              M.bind (rdM (ld1 x41)) fun x42 =>
              bindO (fieldA 3 x2) fun x43 =>
              M.bind (rdM (ld1 x43)) fun x44 =>
              M.bind (F.granaryref1_find x42 x44) fun x45 =>
              bindO (fieldA 1 x1) fun x46 =>
              M.bind (rdM (ld1 x46)) fun x47 =>
              bindO (fieldA 3 x2) fun x48 =>
              M.bind (rdM (ld1 x48)) fun x49 =>
              M.bind (F.granaryref1_without x47 x49) fun x50 =>
              bindO (fieldA 4 x2) fun x51 =>
              M.bind (rdM (ld1 x51)) fun x52 =>
              M.bind (F.granaryref1_having x50 x52 x45) fun x53 =>
              bindO (fieldA 1 x1) fun x54 =>
              M.bind (stM 1 x54 x53) fun _ =>
              M.ret (Out.norm [])) (
              M.ret (Out.norm []))))))) fun o57 =>
  outK o57 (fun _ =>
    M.bind (rdM (ldA 2 x1)) fun x60 =>
    M.bind (stM 2 x3 x60) fun _ =>
    M.bind (rdM (ldA 2 x3)) fun x62 =>
    M.ret x62) (fun _ _ =>
    M.fail) (fun r59 => M.ret r59)
def F.granaryref1_done.plan : Plan := (seq leaf (fork [] [5, 6, 7, 8, 9, 10, 11, 12, 13, 14, 15, 16, 17, 18, 19, 20, 21, 22, 23, 24, 25, 26, 27, 28, 29, 30, 31, 32, 33, 34, 35, 36, 37, 38, 39, 40, 41, 42, 43, 44, 45, 46, 47, 48, 49, 50, 51, 52, 53, 54, 55, 56, 57, 58, 59, 60] [] (seq leaf (body (seq leaf (cond leaf (seq leaf (cond leaf (seq leaf (cond leaf (seq leaf (cond leaf (seq leaf (cond (seq leaf (seq leaf leaf)) leaf)))))))))))) (seq leaf leaf)))
theorem F.granaryref1_done.lift : LiftOk Tryz.prog 102 (ap2 F.granaryref1_done) :=
  lift2 (g := evFn Tryz.prog (tcons 116 (ap2 F.granaryref1_find) (tcons 117 (ap3 F.granaryref1_having) (tcons 118 (ap2 F.granaryref1_without) tnil))) tnil 102 Tryz.f102 F.granaryref1_done.plan) (evFn_sound (tcons_ok F.granaryref1_find.lift (tcons_ok F.granaryref1_having.lift (tcons_ok F.granaryref1_without.lift tnil_ok))) tnil_ok Tryz.func102 (by kernel_rfl)) (fun x0 x1 => by kernel_rfl)

/-- (*granary/granaryref1.Disk).change -/
noncomputable def F.granaryref1_Disk_change (a0 a1 : Value) : M Value :=
  M.bind (newM 144 (Value.cells a1)) fun x1 =>
  M.bind (F.granaryref1_Disk_act a0) fun x2 =>
  bindO (binV BinOp.neq x2 (Value.int IntKind.i64 0)) fun x3 =>
  condM x3 (
    M.ret x2) (
    drewM <|
    getM fun _ =>
    bindO (nilChk a0) fun x5 =>
    bindO (fieldA 5 x5) fun x6 =>
    M.bind (rdM (ld1 x6)) fun x7 =>
    bindO (fieldA 0 x1) fun x8 =>
    M.bind (rdM (ld1 x8)) fun x9 =>
    bindO (nilChk a0) fun x10 =>
    bindO (fieldA 5 x10) fun x11 =>
    M.bind (rdM (ld1 x11)) fun x12 =>
    bindO (fieldA 0 x1) fun x13 =>
    M.bind (rdM (ld1 x13)) fun x14 =>
    bindO (idxA 5 x12 x14) fun x15 =>
    bindO (fieldA 1 x15) fun x16 =>
    M.bind (rdM (ldA 2 x16)) fun x17 =>
    M.bind (rdM (ldA 6 x1)) fun x18 =>
    M.bind (F.granaryref1_done x17 x18) fun x19 =>
    getM fun W20 =>
    bindO (idxA 5 x7 x9) fun x21 =>
    bindO (fieldA 1 x21) fun x22 =>
    M.bind (stM 2 x22 x19) fun _ =>
    getM fun _ =>
    reqM (ld1 x6 W20 = some x7) <|
    reqM (ld1 x8 W20 = some x9) <|
    drewM <|
    getM fun _ =>
    bindO (nilChk a0) fun x26 =>
    bindO (fieldA 6 x26) fun x27 =>
    M.bind (rdM (ld1 x27)) fun x28 =>
    M.bind (rdM (ldA 6 x1)) fun x29 =>
    M.bind (bslM 144 1 (Builtin.zeroCells #[(Value.int IntKind.i64 0), (Value.int IntKind.i64 0), (Value.int IntKind.i64 0), (Value.string ByteArray.empty), (Value.string ByteArray.empty), (Value.string ByteArray.empty)] 1) [(0, 6, x29)]) fun x30 =>
    getM fun W31 =>
    M.bind (appM 144 6 72 #[(Value.int IntKind.i64 0), (Value.int IntKind.i64 0), (Value.int IntKind.i64 0), (Value.string ByteArray.empty), (Value.string ByteArray.empty), (Value.string ByteArray.empty)] x28 x30) fun x32 =>
    getM fun _ =>
    bindO (nilChk a0) fun x34 =>
    bindO (fieldA 6 x34) fun x35 =>
    M.bind (stM 1 x35 x32) fun _ =>
    getM fun _ =>
    reqM (ld1 x27 W31 = some x28) <|
    M.ret (Value.int IntKind.i64 0))
def F.granaryref1_Disk_change.plan : Plan := (seq leaf (seq leaf (seq (seq leaf (cond (seq leaf leaf) leaf)) (seq leaf (seq leaf (seq leaf leaf))))))
theorem F.granaryref1_Disk_change.lift : LiftOk Tryz.prog 91 (ap2 F.granaryref1_Disk_change) :=
  lift2 (g := evFn Tryz.prog (tcons 102 (ap2 F.granaryref1_done) (tcons 115 (ap1 F.granaryref1_Disk_act) tnil)) tnil 91 Tryz.f91 F.granaryref1_Disk_change.plan) (evFn_sound (tcons_ok F.granaryref1_done.lift (tcons_ok F.granaryref1_Disk_act.lift tnil_ok)) tnil_ok Tryz.func91 (by kernel_rfl)) (fun x0 x1 => by kernel_rfl)

/-- (*granary/granaryref1.Disk).make -/
noncomputable def F.granaryref1_Disk_make (a0 a1 a2 : Value) : M Value :=
  M.bind (F.granaryref1_Disk_names a0 a1 (Value.bool true)) fun x1 =>
  bindO (extV 0 x1) fun x2 =>
  bindO (extV 1 x1) fun x3 =>
  bindO (binV BinOp.neq x3 (Value.int IntKind.i64 0)) fun x4 =>
  condM x4 (
    M.ret x3) (
    M.bind (F.granaryref1_Disk_spot a0 x2) fun x5 =>
    bindO (extV 0 x5) fun x6 =>
    bindO (extV 1 x5) fun x7 =>
    M.bind (newM 100 #[(Value.int IntKind.i64 0), (Value.string ByteArray.empty), (Value.int IntKind.i64 0)]) fun x8 =>
    M.bind (stM 3 x8 x6) fun _ =>
    bindO (binV BinOp.neq x7 (Value.int IntKind.i64 0)) fun x10 =>
    condM x10 (
      M.ret x7) (
      bindO (fieldA 2 x8) fun x11 =>
      M.bind (rdM (ld1 x11)) fun x12 =>
      bindO (binV BinOp.geq x12 (Value.int IntKind.i64 0)) fun x13 =>
      condM x13 (
        M.ret (Value.int IntKind.i64 13)) (
        bindO (nilChk a0) fun x14 =>
        bindO (fieldA 5 x14) fun x15 =>
        M.bind (rdM (ld1 x15)) fun x16 =>
        bindO (buildV #[(Value.int IntKind.i64 0), (Value.string ByteArray.empty), (Value.slice none 0 0), (Value.string ByteArray.empty), (Value.slice none 0 0)] [(0, 1, a2)]) fun x17 =>
        M.bind (bslM 107 1 (Builtin.zeroCells #[(Value.int IntKind.i64 0), (Value.string ByteArray.empty), (Value.slice none 0 0), (Value.string ByteArray.empty), (Value.slice none 0 0)] 1) [(0, 5, x17)]) fun x18 =>
        M.bind (appM 107 5 88 #[(Value.int IntKind.i64 0), (Value.string ByteArray.empty), (Value.slice none 0 0), (Value.string ByteArray.empty), (Value.slice none 0 0)] x16 x18) fun x19 =>
        bindO (nilChk a0) fun x20 =>
        bindO (fieldA 5 x20) fun x21 =>
        M.bind (stM 1 x21 x19) fun _ =>
        drewM <|
        bindO (fieldA 0 x8) fun x23 =>
        M.bind (rdM (ld1 x23)) fun x24 =>
        bindO (fieldA 1 x8) fun x25 =>
        M.bind (rdM (ld1 x25)) fun x26 =>
        bindO (nilChk a0) fun x27 =>
        bindO (fieldA 5 x27) fun x28 =>
        M.bind (rdM (ld1 x28)) fun x29 =>
        bindO (lenL x29) fun x30 =>
        bindO (binV BinOp.sub x30 (Value.int IntKind.i64 1)) fun x31 =>
        bindO (buildV #[(Value.int IntKind.i64 0), (Value.int IntKind.i64 0), (Value.int IntKind.i64 0), (Value.string ByteArray.empty), (Value.string ByteArray.empty), (Value.string ByteArray.empty)] [(0, 1, x24), (1, 1, (Value.int IntKind.i64 3)), (3, 1, x26), (2, 1, x31)]) fun x32 =>
        M.bind (F.granaryref1_Disk_change a0 x32) fun x33 =>
        M.ret x33)))
def F.granaryref1_Disk_make.plan : Plan := (seq leaf (seq leaf (seq (seq leaf (cond (seq leaf leaf) leaf)) (seq leaf (seq (seq leaf (cond (seq leaf leaf) leaf)) (seq (seq leaf (cond (seq leaf leaf) leaf)) (seq leaf (seq leaf leaf))))))))
theorem F.granaryref1_Disk_make.lift : LiftOk Tryz.prog 89 (ap3 F.granaryref1_Disk_make) :=
  lift3 (g := evFn Tryz.prog (tcons 87 (ap3 F.granaryref1_Disk_names) (tcons 91 (ap2 F.granaryref1_Disk_change) (tcons 94 (ap2 F.granaryref1_Disk_spot) tnil))) tnil 89 Tryz.f89 F.granaryref1_Disk_make.plan) (evFn_sound (tcons_ok F.granaryref1_Disk_names.lift (tcons_ok F.granaryref1_Disk_change.lift (tcons_ok F.granaryref1_Disk_spot.lift tnil_ok))) tnil_ok Tryz.func89 (by kernel_rfl)) (fun x0 x1 x2 => by kernel_rfl)

/-- (*granary/granaryref1.Disk).Mkdir -/
noncomputable def F.granaryref1_Disk_Mkdir (a0 a1 : Value) : M Value :=
  M.bind (F.granaryref1_Disk_make a0 a1 (Value.int IntKind.i64 1)) fun x1 =>
  M.ret x1
def F.granaryref1_Disk_Mkdir.plan : Plan := (seq leaf (seq leaf leaf))
theorem F.granaryref1_Disk_Mkdir.lift : LiftOk Tryz.prog 40 (ap2 F.granaryref1_Disk_Mkdir) :=
  lift2 (g := evFn Tryz.prog (tcons 89 (ap3 F.granaryref1_Disk_make) tnil) tnil 40 Tryz.f40 F.granaryref1_Disk_Mkdir.plan) (evFn_sound (tcons_ok F.granaryref1_Disk_make.lift tnil_ok) tnil_ok Tryz.func40 (by kernel_rfl)) (fun x0 x1 => by kernel_rfl)

/-- (*granary/disk.Disk).Create -/
noncomputable def F.disk_Disk_Create (a0 a1 : Value) : M Value :=
  M.bind (F.disk_Disk_add a0 a1 (Value.int IntKind.i64 2)) fun x1 =>
  M.ret x1
def F.disk_Disk_Create.plan : Plan := (seq leaf (seq leaf leaf))
theorem F.disk_Disk_Create.lift : LiftOk Tryz.prog 41 (ap2 F.disk_Disk_Create) :=
  lift2 (g := evFn Tryz.prog (tcons 88 (ap3 F.disk_Disk_add) tnil) tnil 41 Tryz.f41 F.disk_Disk_Create.plan) (evFn_sound (tcons_ok F.disk_Disk_add.lift tnil_ok) tnil_ok Tryz.func41 (by kernel_rfl)) (fun x0 x1 => by kernel_rfl)

/-- (*granary/granaryref1.Disk).Create -/
noncomputable def F.granaryref1_Disk_Create (a0 a1 : Value) : M Value :=
  M.bind (F.granaryref1_Disk_make a0 a1 (Value.int IntKind.i64 2)) fun x1 =>
  M.ret x1
def F.granaryref1_Disk_Create.plan : Plan := (seq leaf (seq leaf leaf))
theorem F.granaryref1_Disk_Create.lift : LiftOk Tryz.prog 42 (ap2 F.granaryref1_Disk_Create) :=
  lift2 (g := evFn Tryz.prog (tcons 89 (ap3 F.granaryref1_Disk_make) tnil) tnil 42 Tryz.f42 F.granaryref1_Disk_Create.plan) (evFn_sound (tcons_ok F.granaryref1_Disk_make.lift tnil_ok) tnil_ok Tryz.func42 (by kernel_rfl)) (fun x0 x1 => by kernel_rfl)

/-- (*granary/disk.Disk).Used -/
noncomputable def F.disk_Disk_Used (a0 : Value) : M Value :=
  bindO (eqV (EqSh.one EqK.ptr) a0 (Value.pointer none)) fun x1 =>
  condM x1 (
    M.ret (Value.int IntKind.i64 0)) (
    bindO (nilChk a0) fun x2 =>
    bindO (fieldA 7 x2) fun x3 =>
    M.bind (rdM (ld1 x3)) fun x4 =>
    M.bind (rngM x4) fun x5 =>
    M.bind (loopM (fun l6 =>
      M.bind (nxtM x5) fun x7 =>
      bindO (extV 0 x7) fun x8 =>
      condM x8 (
        M.bind (rdM (entV x5)) fun x9 =>
        bindO (extV 1 x9) fun x10 =>
        bindO (nilChk a0) fun x11 =>
        bindO (fieldA 6 x11) fun x12 =>
        M.bind (rdM (ld1 x12)) fun x13 =>
        bindO (idxA 3 x13 x10) fun x14 =>
        bindO (fieldA 1 x14) fun x15 =>
        M.bind (rdM (ld1 x15)) fun x16 =>
        bindO (lenS x16) fun x17 =>
        bindO (binV BinOp.add (getL l6 0) x17) fun x18 =>
        M.ret (Out.norm [x18])) (
        M.ret (Out.exit 0 [(getL l6 0)]))) [(Value.int IntKind.i64 0)]) fun o20 =>
    outK o20 (fun _ => M.fail) (fun k21 l19 =>
      bif Nat.beq k21 0 then (
        M.ret (getL l19 0)) else
      M.fail) (fun r22 => M.ret r22))
def F.disk_Disk_Used.plan : Plan := (seq leaf (seq (seq leaf (cond (seq leaf leaf) leaf)) (seq leaf (seq (seq leaf (body (loop [3] [3, 5, 13, 14, 15, 16, 17, 18, 19, 20, 21, 22, 23, 24, 25, 26, 27] [0] (seq leaf (seq (cond leaf leaf) (body (seq leaf leaf))))))) (seq leaf leaf)))))
theorem F.disk_Disk_Used.lift : LiftOk Tryz.prog 55 (ap1 F.disk_Disk_Used) :=
  lift1 (g := evFn Tryz.prog tnil tnil 55 Tryz.f55 F.disk_Disk_Used.plan) (evFn_sound tnil_ok tnil_ok Tryz.func55 (by kernel_rfl)) (fun x0 => by kernel_rfl)

/-- (*granary/disk.Disk).Append -/
noncomputable def F.disk_Disk_Append (a0 a1 a2 : Value) : M Value :=
  M.bind (F.disk_Disk_find a0 a1 (Value.int IntKind.i64 2)) fun x1 =>
  bindO (extV 0 x1) fun x2 =>
  bindO (extV 1 x1) fun x3 =>
  M.bind (newM 85 #[(Value.int IntKind.i64 0), (Value.string ByteArray.empty), (Value.int IntKind.i64 0)]) fun x4 =>
  M.bind (stM 3 x4 x2) fun _ =>
  bindO (binV BinOp.neq x3 (Value.int IntKind.i64 0)) fun x6 =>
  condM x6 (
    M.ret x3) (
    drewM <|
    getM fun W7 =>
    M.bind (F.disk_Disk_Used a0) fun x8 =>
    getM fun _ =>
    bindO (lenS a2) fun x10 =>
    bindO (binV BinOp.add x8 x10) fun x11 =>
    bindO (nilChk a0) fun x12 =>
    bindO (fieldA 0 x12) fun x13 =>
    M.bind (rdM (ld1 x13)) fun x14 =>
    bindO (binV BinOp.gtr x11 x14) fun x15 =>
    reqM (ld1 x13 W7 = some x14) <|
    condM x15 (
      M.ret (Value.int IntKind.i64 15)) (
      bindO (fieldA 2 x4) fun x16 =>
      M.bind (rdM (ld1 x16)) fun x17 =>
      bindO (buildV #[(Value.int IntKind.i64 0), (Value.int IntKind.i64 0), (Value.string ByteArray.empty), (Value.int IntKind.i64 0), (Value.string ByteArray.empty), (Value.string ByteArray.empty), (Value.int IntKind.i64 0)] [(0, 1, (Value.int IntKind.i64 0)), (1, 1, x17), (2, 1, a2)]) fun x18 =>
      M.bind (F.disk_Disk_do a0 x18) fun x19 =>
      M.ret x19))
def F.disk_Disk_Append.plan : Plan := (seq leaf (seq leaf (seq (seq leaf (cond (seq leaf leaf) leaf)) (seq (seq leaf (cond (seq leaf leaf) leaf)) (seq leaf leaf)))))
theorem F.disk_Disk_Append.lift : LiftOk Tryz.prog 43 (ap3 F.disk_Disk_Append) :=
  lift3 (g := evFn Tryz.prog (tcons 55 (ap1 F.disk_Disk_Used) (tcons 72 (ap3 F.disk_Disk_find) (tcons 90 (ap2 F.disk_Disk_do) tnil))) tnil 43 Tryz.f43 F.disk_Disk_Append.plan) (evFn_sound (tcons_ok F.disk_Disk_Used.lift (tcons_ok F.disk_Disk_find.lift (tcons_ok F.disk_Disk_do.lift tnil_ok))) tnil_ok Tryz.func43 (by kernel_rfl)) (fun x0 x1 x2 => by kernel_rfl)

/-- (*granary/granaryref1.Disk).weight, the calls of itself left open -/
noncomputable def F.granaryref1_Disk_weight.step (rec : Value → Value → M Value) (a0 a1 : Value) : M Value :=
  bindO (nilChk a0) fun x1 =>
  bindO (fieldA 5 x1) fun x2 =>
  M.bind (rdM (ld1 x2)) fun x3 =>
  bindO (idxA 5 x3 a1) fun x4 =>
  bindO (fieldA 1 x4) fun x5 =>
  bindO (fieldA 1 x5) fun x6 =>
  M.bind (rdM (ld1 x6)) fun x7 =>
  M.bind (loopM (fun l8 =>
    bindO (lenL x7) fun x9 =>
    bindO (binV BinOp.lss (getL l8 1) x9) fun x10 =>
    condM x10 (
      M.bind (
        drewM <|
        getM fun _ =>
        bindO (nilChk a0) fun x12 =>
        bindO (fieldA 5 x12) fun x13 =>
        M.bind (rdM (ld1 x13)) fun x14 =>
        bindO (idxA 2 x7 (getL l8 1)) fun x15 =>
        bindO (fieldA 1 x15) fun x16 =>
        M.bind (rdM (ld1 x16)) fun x17 =>
        bindO (idxA 5 x14 x17) fun x18 =>
        M.bind (rdM (ldA 5 x18)) fun x19 =>
        M.bind (newM 107 #[(Value.int IntKind.i64 0), (Value.string ByteArray.empty), (Value.slice none 0 0), (Value.string ByteArray.empty), (Value.slice none 0 0)]) fun x20 =>
        getM fun W21 =>
        M.bind (stM 5 x20 x19) fun _ =>
        getM fun _ =>
        reqM (ld1 x13 W21 = some x14) <|
        reqM (ld1 x16 W21 = some x17) <|
        reqM (ldA 5 x18 W21 = some x19) <|
        bindO (fieldA 1 x20) fun x24 =>
        bindO (fieldA 0 x24) fun x25 =>
        M.bind (rdM (ld1 x25)) fun x26 =>
        bindO (lenS x26) fun x27 =>
        bindO (binV BinOp.add (getL l8 0) x27) fun x28 =>
        bindO (fieldA 0 x20) fun x29 =>
        M.bind (rdM (ld1 x29)) fun x30 =>
        bindO (binV BinOp.eql x30 (Value.int IntKind.i64 1)) fun x31 =>
        condM x31 (
          bindO (idxA 2 x7 (getL l8 1)) fun x32 =>
          bindO (fieldA 1 x32) fun x33 =>
          M.bind (rdM (ld1 x33)) fun x34 =>
          M.bind (rec a0 x34) fun x35 =>
          bindO (binV BinOp.add x28 x35) fun x36 =>
          M.ret (Out.norm [x36])) (
          M.ret (Out.norm [x28]))) fun o38 =>
      outK o38 (fun l37 =>
        bindO (binV BinOp.add (getL l8 1) (Value.int IntKind.i64 1)) fun x41 =>
        M.ret (Out.norm [(getL l37 0), x41])) (fun _ _ =>
        M.fail) (fun r40 => M.ret (Out.ret r40))) (
      M.ret (Out.exit 0 [(getL l8 0), (getL l8 1)]))) [(Value.int IntKind.i64 0), (Value.int IntKind.i64 0)]) fun o44 =>
  outK o44 (fun _ => M.fail) (fun k45 l43 =>
    bif Nat.beq k45 0 then (
      M.ret (getL l43 0)) else
    M.fail) (fun r46 => M.ret r46)
def F.granaryref1_Disk_weight.plan : Plan := (seq leaf (seq leaf (seq leaf (seq (seq leaf (body (loop [5, 7] [5, 7, 8, 9, 19, 20, 21, 22, 23, 24, 25, 26, 27, 28, 29, 30, 31, 32, 33, 34, 35, 36, 37, 38, 39, 40, 41, 42, 43, 44, 45, 46, 47, 48, 49, 50, 51, 52, 53, 54] [0] (seq (seq leaf (cond leaf leaf)) (fork [5] [5, 8, 9, 25, 26, 27, 28, 29, 30, 31, 32, 33, 34, 35, 36, 37, 38, 39, 40, 41, 42, 43, 44, 45, 46, 47, 48, 49, 50, 51, 52, 53, 54] [] (body (seq leaf (seq leaf (seq leaf (cond (seq leaf leaf) leaf))))) leaf))))) (seq leaf leaf)))))
theorem F.granaryref1_Disk_weight.step_lift {rec : Value → Value → M Value} (hrec : LiftOk Tryz.prog 97 (ap2 rec)) : LiftOk Tryz.prog 97 (ap2 (F.granaryref1_Disk_weight.step rec)) :=
  lift2 (g := evFn Tryz.prog (tcons 97 (ap2 rec) tnil) tnil 97 Tryz.f97 F.granaryref1_Disk_weight.plan) (evFn_sound (tcons_ok hrec tnil_ok) tnil_ok Tryz.func97 (by kernel_rfl)) (fun x0 x1 => by kernel_rfl)
noncomputable def F.granaryref1_Disk_weight.it : Nat → Value → Value → M Value
  | 0 => fun _ _ => M.fail
  | n + 1 => F.granaryref1_Disk_weight.step (F.granaryref1_Disk_weight.it n)
theorem F.granaryref1_Disk_weight.it_lift : ∀ n, LiftOk Tryz.prog 97 (ap2 (F.granaryref1_Disk_weight.it n))
  | 0 => lift_fail fun args => by unfold ap2; split <;> rfl
  | n + 1 => F.granaryref1_Disk_weight.step_lift (F.granaryref1_Disk_weight.it_lift n)
/-- (*granary/granaryref1.Disk).weight -/
noncomputable def F.granaryref1_Disk_weight (x0 x1 : Value) : M Value := recL (fun n => ap2 (F.granaryref1_Disk_weight.it n)) [x0, x1]
theorem F.granaryref1_Disk_weight.lift : LiftOk Tryz.prog 97 (ap2 F.granaryref1_Disk_weight) := lift2 (recL_lift F.granaryref1_Disk_weight.it_lift) fun _ _ => rfl
theorem F.granaryref1_Disk_weight.own : Own Tryz.prog 97 := ⟨⟨Tryz.f97, Tryz.func97, by kernel_rfl, by kernel_rfl⟩, by kernel_rfl⟩
theorem F.granaryref1_Disk_weight.run {n : Nat} {x0 x1 : Value} {w : World} {Q : Value → World → Prop} (h : Run (F.granaryref1_Disk_weight.it n x0 x1) w Q) : Run (F.granaryref1_Disk_weight x0 x1) w Q := recL_run F.granaryref1_Disk_weight.it_lift F.granaryref1_Disk_weight.own (n := n) h

/-- (*granary/granaryref1.Disk).Used -/
noncomputable def F.granaryref1_Disk_Used (a0 : Value) : M Value :=
  bindO (eqV (EqSh.one EqK.ptr) a0 (Value.pointer none)) fun x1 =>
  condM x1 (
    M.ret (Value.int IntKind.i64 0)) (
    M.bind (F.granaryref1_Disk_weight a0 (Value.int IntKind.i64 0)) fun x2 =>
    M.ret x2)
def F.granaryref1_Disk_Used.plan : Plan := (seq leaf (seq (seq leaf (cond (seq leaf leaf) leaf)) (seq leaf leaf)))
theorem F.granaryref1_Disk_Used.lift : LiftOk Tryz.prog 56 (ap1 F.granaryref1_Disk_Used) :=
  lift1 (g := evFn Tryz.prog (tcons 97 (ap2 F.granaryref1_Disk_weight) tnil) tnil 56 Tryz.f56 F.granaryref1_Disk_Used.plan) (evFn_sound (tcons_ok F.granaryref1_Disk_weight.lift tnil_ok) tnil_ok Tryz.func56 (by kernel_rfl)) (fun x0 => by kernel_rfl)

/-- (*granary/granaryref1.Disk).Append -/
noncomputable def F.granaryref1_Disk_Append (a0 a1 a2 : Value) : M Value :=
  M.bind (F.granaryref1_Disk_at a0 a1 (Value.int IntKind.i64 2)) fun x1 =>
  bindO (extV 0 x1) fun x2 =>
  bindO (extV 1 x1) fun x3 =>
  M.bind (newM 100 #[(Value.int IntKind.i64 0), (Value.string ByteArray.empty), (Value.int IntKind.i64 0)]) fun x4 =>
  M.bind (stM 3 x4 x2) fun _ =>
  bindO (binV BinOp.neq x3 (Value.int IntKind.i64 0)) fun x6 =>
  condM x6 (
    M.ret x3) (
    M.bind (F.granaryref1_Disk_Used a0) fun x7 =>
    bindO (lenS a2) fun x8 =>
    bindO (nilChk a0) fun x9 =>
    bindO (fieldA 0 x9) fun x10 =>
    M.bind (rdM (ld1 x10)) fun x11 =>
    bindO (binV BinOp.sub x11 x7) fun x12 =>
    bindO (binV BinOp.gtr x8 x12) fun x13 =>
    condM x13 (
      M.ret (Value.int IntKind.i64 15)) (
      bindO (fieldA 2 x4) fun x14 =>
      M.bind (rdM (ld1 x14)) fun x15 =>
      bindO (buildV #[(Value.int IntKind.i64 0), (Value.int IntKind.i64 0), (Value.int IntKind.i64 0), (Value.string ByteArray.empty), (Value.string ByteArray.empty), (Value.string ByteArray.empty)] [(0, 1, x15), (1, 1, (Value.int IntKind.i64 1)), (5, 1, a2)]) fun x16 =>
      M.bind (F.granaryref1_Disk_change a0 x16) fun x17 =>
      M.ret x17))
def F.granaryref1_Disk_Append.plan : Plan := (seq leaf (seq leaf (seq (seq leaf (cond (seq leaf leaf) leaf)) (seq leaf (seq (seq leaf (cond (seq leaf leaf) leaf)) (seq leaf leaf))))))
theorem F.granaryref1_Disk_Append.lift : LiftOk Tryz.prog 44 (ap3 F.granaryref1_Disk_Append) :=
  lift3 (g := evFn Tryz.prog (tcons 56 (ap1 F.granaryref1_Disk_Used) (tcons 76 (ap3 F.granaryref1_Disk_at) (tcons 91 (ap2 F.granaryref1_Disk_change) tnil))) tnil 44 Tryz.f44 F.granaryref1_Disk_Append.plan) (evFn_sound (tcons_ok F.granaryref1_Disk_Used.lift (tcons_ok F.granaryref1_Disk_at.lift (tcons_ok F.granaryref1_Disk_change.lift tnil_ok))) tnil_ok Tryz.func44 (by kernel_rfl)) (fun x0 x1 x2 => by kernel_rfl)

/-- (*granary/disk.Disk).Truncate -/
noncomputable def F.disk_Disk_Truncate (a0 a1 a2 : Value) : M Value :=
  M.bind (F.disk_Disk_ready a0) fun x1 =>
  bindO (binV BinOp.neq x1 (Value.int IntKind.i64 0)) fun x2 =>
  condM x2 (
    M.ret x1) (
    M.bind (F.disk_parse a1) fun x3 =>
    bindO (extV 0 x3) fun _ =>
    bindO (extV 1 x3) fun x5 =>
    bindO (notV x5) fun x6 =>
    condM x6 (
      M.ret (Value.int IntKind.i64 11)) (
      bindO (binV BinOp.lss a2 (Value.int IntKind.i64 0)) fun x7 =>
      condM x7 (
        M.ret (Value.int IntKind.i64 1)) (
        M.bind (F.disk_Disk_find a0 a1 (Value.int IntKind.i64 2)) fun x8 =>
        bindO (extV 0 x8) fun x9 =>
        bindO (extV 1 x8) fun x10 =>
        M.bind (newM 85 #[(Value.int IntKind.i64 0), (Value.string ByteArray.empty), (Value.int IntKind.i64 0)]) fun x11 =>
        M.bind (stM 3 x11 x9) fun _ =>
        bindO (binV BinOp.neq x10 (Value.int IntKind.i64 0)) fun x13 =>
        condM x13 (
          M.ret x10) (
          drewM <|
          bindO (nilChk a0) fun x14 =>
          bindO (fieldA 6 x14) fun x15 =>
          M.bind (rdM (ld1 x15)) fun x16 =>
          bindO (fieldA 2 x11) fun x17 =>
          M.bind (rdM (ld1 x17)) fun x18 =>
          bindO (idxA 3 x16 x18) fun x19 =>
          bindO (fieldA 1 x19) fun x20 =>
          M.bind (rdM (ld1 x20)) fun x21 =>
          bindO (lenS x21) fun x22 =>
          bindO (binV BinOp.gtr a2 x22) fun x23 =>
          condM x23 (
            M.ret (Value.int IntKind.i64 16)) (
            bindO (fieldA 2 x11) fun x24 =>
            M.bind (rdM (ld1 x24)) fun x25 =>
            bindO (buildV #[(Value.int IntKind.i64 0), (Value.int IntKind.i64 0), (Value.string ByteArray.empty), (Value.int IntKind.i64 0), (Value.string ByteArray.empty), (Value.string ByteArray.empty), (Value.int IntKind.i64 0)] [(0, 1, (Value.int IntKind.i64 1)), (1, 1, x25), (3, 1, a2)]) fun x26 =>
            M.bind (F.disk_Disk_do a0 x26) fun x27 =>
            M.ret x27)))))
def F.disk_Disk_Truncate.plan : Plan := (seq leaf (seq (seq leaf (seq leaf (cond (seq leaf leaf) leaf))) (seq (seq leaf (seq leaf (cond (seq leaf leaf) leaf))) (seq (seq leaf (cond (seq leaf leaf) leaf)) (seq leaf (seq (seq leaf (cond (seq leaf leaf) leaf)) (seq (seq leaf (cond (seq leaf leaf) leaf)) (seq leaf leaf))))))))
theorem F.disk_Disk_Truncate.lift : LiftOk Tryz.prog 45 (ap3 F.disk_Disk_Truncate) :=
  lift3 (g := evFn Tryz.prog (tcons 72 (ap3 F.disk_Disk_find) (tcons 85 (ap1 F.disk_Disk_ready) (tcons 86 (ap1 F.disk_parse) (tcons 90 (ap2 F.disk_Disk_do) tnil)))) tnil 45 Tryz.f45 F.disk_Disk_Truncate.plan) (evFn_sound (tcons_ok F.disk_Disk_find.lift (tcons_ok F.disk_Disk_ready.lift (tcons_ok F.disk_parse.lift (tcons_ok F.disk_Disk_do.lift tnil_ok)))) tnil_ok Tryz.func45 (by kernel_rfl)) (fun x0 x1 x2 => by kernel_rfl)

/-- (*granary/granaryref1.Disk).Truncate -/
noncomputable def F.granaryref1_Disk_Truncate (a0 a1 a2 : Value) : M Value :=
  M.bind (F.granaryref1_Disk_names a0 a1 (Value.bool true)) fun x1 =>
  bindO (extV 0 x1) fun _ =>
  bindO (extV 1 x1) fun x3 =>
  bindO (binV BinOp.neq x3 (Value.int IntKind.i64 0)) fun x4 =>
  condM x4 (
    M.ret x3) (
    bindO (binV BinOp.lss a2 (Value.int IntKind.i64 0)) fun x5 =>
    condM x5 (
      M.ret (Value.int IntKind.i64 1)) (
      M.bind (F.granaryref1_Disk_at a0 a1 (Value.int IntKind.i64 2)) fun x6 =>
      bindO (extV 0 x6) fun x7 =>
      bindO (extV 1 x6) fun x8 =>
      M.bind (newM 100 #[(Value.int IntKind.i64 0), (Value.string ByteArray.empty), (Value.int IntKind.i64 0)]) fun x9 =>
      M.bind (stM 3 x9 x7) fun _ =>
      bindO (binV BinOp.neq x8 (Value.int IntKind.i64 0)) fun x11 =>
      condM x11 (
        M.ret x8) (
        drewM <|
        bindO (nilChk a0) fun x12 =>
        bindO (fieldA 5 x12) fun x13 =>
        M.bind (rdM (ld1 x13)) fun x14 =>
        bindO (fieldA 2 x9) fun x15 =>
        M.bind (rdM (ld1 x15)) fun x16 =>
        bindO (idxA 5 x14 x16) fun x17 =>
        bindO (fieldA 1 x17) fun x18 =>
        bindO (fieldA 0 x18) fun x19 =>
        M.bind (rdM (ld1 x19)) fun x20 =>
        bindO (lenS x20) fun x21 =>
        bindO (binV BinOp.gtr a2 x21) fun x22 =>
        condM x22 (
          M.ret (Value.int IntKind.i64 16)) (
          bindO (fieldA 2 x9) fun x23 =>
          M.bind (rdM (ld1 x23)) fun x24 =>
          bindO (buildV #[(Value.int IntKind.i64 0), (Value.int IntKind.i64 0), (Value.int IntKind.i64 0), (Value.string ByteArray.empty), (Value.string ByteArray.empty), (Value.string ByteArray.empty)] [(0, 1, x24), (1, 1, (Value.int IntKind.i64 2)), (2, 1, a2)]) fun x25 =>
          M.bind (F.granaryref1_Disk_change a0 x25) fun x26 =>
          M.ret x26))))
def F.granaryref1_Disk_Truncate.plan : Plan := (seq leaf (seq leaf (seq (seq leaf (cond (seq leaf leaf) leaf)) (seq (seq leaf (cond (seq leaf leaf) leaf)) (seq leaf (seq (seq leaf (cond (seq leaf leaf) leaf)) (seq (seq leaf (cond (seq leaf leaf) leaf)) (seq leaf leaf))))))))
theorem F.granaryref1_Disk_Truncate.lift : LiftOk Tryz.prog 46 (ap3 F.granaryref1_Disk_Truncate) :=
  lift3 (g := evFn Tryz.prog (tcons 76 (ap3 F.granaryref1_Disk_at) (tcons 87 (ap3 F.granaryref1_Disk_names) (tcons 91 (ap2 F.granaryref1_Disk_change) tnil))) tnil 46 Tryz.f46 F.granaryref1_Disk_Truncate.plan) (evFn_sound (tcons_ok F.granaryref1_Disk_at.lift (tcons_ok F.granaryref1_Disk_names.lift (tcons_ok F.granaryref1_Disk_change.lift tnil_ok))) tnil_ok Tryz.func46 (by kernel_rfl)) (fun x0 x1 x2 => by kernel_rfl)

/-- (*granary/disk.Disk).Rename -/
noncomputable def F.disk_Disk_Rename (a0 a1 a2 : Value) : M Value :=
  M.bind (F.disk_Disk_ready a0) fun x1 =>
  bindO (binV BinOp.neq x1 (Value.int IntKind.i64 0)) fun x2 =>
  condM x2 (
    M.ret x1) (
    M.bind (F.disk_parse a1) fun x3 =>
    bindO (extV 0 x3) fun x4 =>
    bindO (extV 1 x3) fun x5 =>
    M.bind (F.disk_parse a2) fun x6 =>
    bindO (extV 0 x6) fun x7 =>
    bindO (extV 1 x6) fun x8 =>
    bindO (notV x5) fun x9 =>
    M.bind (guardM x9 false (M.ret x8)) fun x10 =>
    M.bind (guardM x9 false (optM (notV x10))) fun x11 =>
    bindO (pickV x9 (Value.bool true) x11) fun x12 =>
    M.bind (guardM x12 false (M.ret a1)) fun x13 =>
    M.bind (guardM x12 false (optM (binV BinOp.eql x13 (Value.string (ByteArray.mk #[]))))) fun x14 =>
    bindO (pickV x12 (Value.bool true) x14) fun x15 =>
    M.bind (guardM x15 false (M.ret a2)) fun x16 =>
    M.bind (guardM x15 false (optM (binV BinOp.eql x16 (Value.string (ByteArray.mk #[]))))) fun x17 =>
    bindO (pickV x15 (Value.bool true) x17) fun x18 =>
    condM x18 (
      M.ret (Value.int IntKind.i64 11)) (
      drewM <|
      bindO (lenL x4) fun x19 =>
      bindO (binV BinOp.sub x19 (Value.int IntKind.i64 1)) fun x20 =>
      bindO (sliceV 1 x4 none (some x20)) fun x21 =>
      M.bind (F.disk_Path x21) fun x22 =>
      bindO (lenL x7) fun x23 =>
      bindO (binV BinOp.sub x23 (Value.int IntKind.i64 1)) fun x24 =>
      bindO (sliceV 1 x7 none (some x24)) fun x25 =>
      M.bind (F.disk_Path x25) fun x26 =>
      bindO (binV BinOp.neq x22 x26) fun x27 =>
      M.bind (guardM x27 false (M.ret x4)) fun x28 =>
      M.bind (guardM x27 false (optM (lenL x28))) fun x29 =>
      M.bind (guardM x27 false (M.ret x7)) fun x30 =>
      M.bind (guardM x27 false (optM (lenL x30))) fun x31 =>
      M.bind (guardM x27 false (optM (binV BinOp.neq x29 x31))) fun x32 =>
      bindO (pickV x27 (Value.bool true) x32) fun x33 =>
      condM x33 (
        M.ret (Value.int IntKind.i64 18)) (
        M.bind (F.disk_Disk_walk a0 x4) fun x34 =>
        bindO (extV 0 x34) fun x35 =>
        bindO (extV 1 x34) fun x36 =>
        M.bind (newM 85 #[(Value.int IntKind.i64 0), (Value.string ByteArray.empty), (Value.int IntKind.i64 0)]) fun x37 =>
        M.bind (stM 3 x37 x35) fun _ =>
        bindO (binV BinOp.neq x36 (Value.int IntKind.i64 0)) fun x39 =>
        condM x39 (
          M.ret x36) (
          bindO (fieldA 2 x37) fun x40 =>
          M.bind (rdM (ld1 x40)) fun x41 =>
          bindO (binV BinOp.lss x41 (Value.int IntKind.i64 0)) fun x42 =>
          condM x42 (
            M.ret (Value.int IntKind.i64 12)) (
            M.bind (F.disk_Disk_walk a0 x7) fun x43 =>
            bindO (extV 0 x43) fun x44 =>
            bindO (extV 1 x43) fun _ =>
            M.bind (newM 85 #[(Value.int IntKind.i64 0), (Value.string ByteArray.empty), (Value.int IntKind.i64 0)]) fun x46 =>
            M.bind (stM 3 x46 x44) fun _ =>
            drewM <|
            bindO (fieldA 2 x46) fun x48 =>
            M.bind (rdM (ld1 x48)) fun x49 =>
            bindO (binV BinOp.geq x49 (Value.int IntKind.i64 0)) fun x50 =>
            M.bind (guardM x50 true (optM (fieldA 0 x46))) fun x51 =>
            M.bind (guardM x50 true (rdM (ldA 2 x51))) fun x52 =>
            M.bind (guardM x50 true (optM (fieldA 0 x37))) fun x53 =>
            M.bind (guardM x50 true (rdM (ldA 2 x53))) fun x54 =>
            M.bind (guardM x50 true (optM (eqV (EqSh.offs [(EqK.int, 0), (EqK.str, 1)]) x52 x54))) fun x55 =>
            M.bind (guardM x50 true (M.ret x55)) fun x56 =>
            M.bind (guardM x56 false (M.ret a0)) fun x57 =>
            M.bind (guardM x56 false (optM (nilChk x57))) fun x58 =>
            M.bind (guardM x56 false (optM (fieldA 6 x58))) fun x59 =>
            M.bind (guardM x56 false (rdM (ld1 x59))) fun x60 =>
            M.bind (guardM x56 false (optM (fieldA 2 x37))) fun x61 =>
            M.bind (guardM x56 false (rdM (ld1 x61))) fun x62 =>
            M.bind (guardM x56 false (optM (idxA 3 x60 x62))) fun x63 =>
            M.bind (guardM x56 false (optM (fieldA 0 x63))) fun x64 =>
            M.bind (guardM x56 false (rdM (ld1 x64))) fun x65 =>
            M.bind (guardM x56 false (optM (binV BinOp.neq x65 (Value.int IntKind.i64 2)))) fun x66 =>
            M.bind (guardM x50 true (optM (pickV x56 (Value.bool true) x66))) fun x67 =>
            M.bind (guardM x50 true (M.ret x67)) fun x68 =>
            M.bind (guardM x68 false (M.ret a0)) fun x69 =>
            M.bind (guardM x68 false (optM (nilChk x69))) fun x70 =>
            M.bind (guardM x68 false (optM (fieldA 6 x70))) fun x71 =>
            M.bind (guardM x68 false (rdM (ld1 x71))) fun x72 =>
            M.bind (guardM x68 false (optM (fieldA 2 x46))) fun x73 =>
            M.bind (guardM x68 false (rdM (ld1 x73))) fun x74 =>
            M.bind (guardM x68 false (optM (idxA 3 x72 x74))) fun x75 =>
            M.bind (guardM x68 false (optM (fieldA 0 x75))) fun x76 =>
            M.bind (guardM x68 false (rdM (ld1 x76))) fun x77 =>
            M.bind (guardM x68 false (optM (binV BinOp.neq x77 (Value.int IntKind.i64 2)))) fun x78 =>
            M.bind (guardM x50 true (optM (pickV x68 (Value.bool true) x78))) fun x79 =>
            bindO (pickV x50 x79 (Value.bool false)) fun x80 =>
            condM x80 (
              M.ret (Value.int IntKind.i64 13)) (
              bindO (fieldA 0 x37) fun x81 =>
              bindO (fieldA 0 x81) fun x82 =>
              M.bind (rdM (ld1 x82)) fun x83 =>
              bindO (fieldA 0 x37) fun x84 =>
              bindO (fieldA 1 x84) fun x85 =>
              M.bind (rdM (ld1 x85)) fun x86 =>
              bindO (fieldA 0 x46) fun x87 =>
              bindO (fieldA 1 x87) fun x88 =>
              M.bind (rdM (ld1 x88)) fun x89 =>
              bindO (buildV #[(Value.int IntKind.i64 0), (Value.int IntKind.i64 0), (Value.string ByteArray.empty), (Value.int IntKind.i64 0), (Value.string ByteArray.empty), (Value.string ByteArray.empty), (Value.int IntKind.i64 0)] [(0, 1, (Value.int IntKind.i64 4)), (1, 1, x83), (4, 1, x86), (5, 1, x89)]) fun x90 =>
              M.bind (F.disk_Disk_do a0 x90) fun x91 =>
              M.ret x91))))))
def F.disk_Disk_Rename.plan : Plan := (seq leaf (seq (seq leaf (seq leaf (cond (seq leaf leaf) leaf))) (seq leaf (seq leaf (seq (seq leaf (cond (seq leaf leaf) leaf)) (seq (seq leaf (cond (seq leaf leaf) leaf)) (seq leaf (seq (seq leaf (cond (seq leaf leaf) leaf)) (seq (seq leaf (cond (seq leaf leaf) leaf)) (seq leaf (seq (seq leaf (cond (seq leaf leaf) leaf)) (seq leaf leaf))))))))))))
theorem F.disk_Disk_Rename.lift : LiftOk Tryz.prog 47 (ap3 F.disk_Disk_Rename) :=
  lift3 (g := evFn Tryz.prog (tcons 10 (ap1 F.disk_Path) (tcons 85 (ap1 F.disk_Disk_ready) (tcons 86 (ap1 F.disk_parse) (tcons 90 (ap2 F.disk_Disk_do) (tcons 92 (ap2 F.disk_Disk_walk) tnil))))) tnil 47 Tryz.f47 F.disk_Disk_Rename.plan) (evFn_sound (tcons_ok F.disk_Path.lift (tcons_ok F.disk_Disk_ready.lift (tcons_ok F.disk_parse.lift (tcons_ok F.disk_Disk_do.lift (tcons_ok F.disk_Disk_walk.lift tnil_ok))))) tnil_ok Tryz.func47 (by kernel_rfl)) (fun x0 x1 x2 => by kernel_rfl)

/-- granary/granaryref1.sameDir -/
noncomputable def F.granaryref1_sameDir (a0 a1 : Value) : M Value :=
  bindO (lenL a0) fun x1 =>
  bindO (lenL a1) fun x2 =>
  bindO (binV BinOp.neq x1 x2) fun x3 =>
  condM x3 (
    M.ret (Value.bool false)) (
    M.bind (loopM (fun l4 =>
      bindO (binV BinOp.add (getL l4 0) (Value.int IntKind.i64 1)) fun x5 =>
      bindO (lenL a0) fun x6 =>
      bindO (binV BinOp.lss x5 x6) fun x7 =>
      condM x7 (
        drewM <|
        bindO (idxA 1 a0 (getL l4 0)) fun x8 =>
        M.bind (rdM (ld1 x8)) fun x9 =>
        bindO (idxA 1 a1 (getL l4 0)) fun x10 =>
        M.bind (rdM (ld1 x10)) fun x11 =>
        bindO (binV BinOp.neq x9 x11) fun x12 =>
        condM x12 (
          M.ret (Out.ret (Value.bool false))) (
          bindO (binV BinOp.add (getL l4 0) (Value.int IntKind.i64 1)) fun x13 =>
          M.ret (Out.norm [x13]))) (
        M.ret (Out.exit 0 [(getL l4 0)]))) [(Value.int IntKind.i64 0)]) fun o15 =>
    outK o15 (fun _ => M.fail) (fun k16 _ =>
      bif Nat.beq k16 0 then (
        M.ret (Value.bool true)) else
      M.fail) (fun r17 => M.ret r17))
def F.granaryref1_sameDir.plan : Plan := (seq leaf (seq (seq leaf (cond (seq leaf leaf) leaf)) (seq (seq leaf (body (loop [5] [4, 5, 11, 12, 13, 14, 15, 16, 17, 18, 19, 20, 21, 22, 23, 24, 25, 26] [0] (seq (seq leaf (cond leaf leaf)) (seq (body (seq leaf (cond (seq leaf leaf) leaf))) leaf))))) (seq leaf leaf))))
theorem F.granaryref1_sameDir.lift : LiftOk Tryz.prog 93 (ap2 F.granaryref1_sameDir) :=
  lift2 (g := evFn Tryz.prog tnil tnil 93 Tryz.f93 F.granaryref1_sameDir.plan) (evFn_sound tnil_ok tnil_ok Tryz.func93 (by kernel_rfl)) (fun x0 x1 => by kernel_rfl)

/-- (*granary/granaryref1.Disk).Rename -/
noncomputable def F.granaryref1_Disk_Rename (a0 a1 a2 : Value) : M Value :=
  M.bind (F.granaryref1_Disk_names a0 a1 (Value.bool false)) fun x1 =>
  bindO (extV 0 x1) fun x2 =>
  bindO (extV 1 x1) fun x3 =>
  bindO (binV BinOp.neq x3 (Value.int IntKind.i64 0)) fun x4 =>
  condM x4 (
    M.ret x3) (
    M.bind (F.granaryref1_Disk_names a0 a2 (Value.bool false)) fun x5 =>
    bindO (extV 0 x5) fun x6 =>
    bindO (extV 1 x5) fun x7 =>
    bindO (binV BinOp.neq x7 (Value.int IntKind.i64 0)) fun x8 =>
    condM x8 (
      M.ret x7) (
      M.bind (F.granaryref1_sameDir x2 x6) fun x9 =>
      bindO (notV x9) fun x10 =>
      condM x10 (
        M.ret (Value.int IntKind.i64 18)) (
        M.bind (F.granaryref1_Disk_spot a0 x2) fun x11 =>
        bindO (extV 0 x11) fun x12 =>
        bindO (extV 1 x11) fun x13 =>
        M.bind (newM 100 #[(Value.int IntKind.i64 0), (Value.string ByteArray.empty), (Value.int IntKind.i64 0)]) fun x14 =>
        M.bind (stM 3 x14 x12) fun _ =>
        bindO (binV BinOp.neq x13 (Value.int IntKind.i64 0)) fun x16 =>
        condM x16 (
          M.ret x13) (
          bindO (fieldA 2 x14) fun x17 =>
          M.bind (rdM (ld1 x17)) fun x18 =>
          bindO (binV BinOp.lss x18 (Value.int IntKind.i64 0)) fun x19 =>
          condM x19 (
            M.ret (Value.int IntKind.i64 12)) (
            M.bind (F.granaryref1_Disk_spot a0 x6) fun x20 =>
            bindO (extV 0 x20) fun x21 =>
            bindO (extV 1 x20) fun _ =>
            M.bind (newM 100 #[(Value.int IntKind.i64 0), (Value.string ByteArray.empty), (Value.int IntKind.i64 0)]) fun x23 =>
            M.bind (stM 3 x23 x21) fun _ =>
            M.bind (
              bindO (fieldA 2 x23) fun x25 =>
              M.bind (rdM (ld1 x25)) fun x26 =>
              bindO (binV BinOp.geq x26 (Value.int IntKind.i64 0)) fun x27 =>
              condM x27 (
                drewM <|
                bindO (nilChk a0) fun x28 =>
                bindO (fieldA 5 x28) fun x29 =>
                M.bind (rdM (ld1 x29)) fun x30 =>
                bindO (fieldA 2 x14) fun x31 =>
                M.bind (rdM (ld1 x31)) fun x32 =>
                bindO (idxA 5 x30 x32) fun x33 =>
                bindO (fieldA 0 x33) fun x34 =>
                M.bind (rdM (ld1 x34)) fun x35 =>
                bindO (binV BinOp.eql x35 (Value.int IntKind.i64 2)) fun x36 =>
                M.bind (guardM x36 true (M.ret a0)) fun x37 =>
                M.bind (guardM x36 true (optM (nilChk x37))) fun x38 =>
                M.bind (guardM x36 true (optM (fieldA 5 x38))) fun x39 =>
                M.bind (guardM x36 true (rdM (ld1 x39))) fun x40 =>
                M.bind (guardM x36 true (optM (fieldA 2 x23))) fun x41 =>
                M.bind (guardM x36 true (rdM (ld1 x41))) fun x42 =>
                M.bind (guardM x36 true (optM (idxA 5 x40 x42))) fun x43 =>
                M.bind (guardM x36 true (optM (fieldA 0 x43))) fun x44 =>
                M.bind (guardM x36 true (rdM (ld1 x44))) fun x45 =>
                M.bind (guardM x36 true (optM (binV BinOp.eql x45 (Value.int IntKind.i64 2)))) fun x46 =>
                bindO (pickV x36 x46 (Value.bool false)) fun x47 =>
                M.bind (guardM x47 true (optM (fieldA 1 x14))) fun x48 =>
                M.bind (guardM x47 true (rdM (ld1 x48))) fun x49 =>
                M.bind (guardM x47 true (optM (fieldA 1 x23))) fun x50 =>
                M.bind (guardM x47 true (rdM (ld1 x50))) fun x51 =>
                M.bind (guardM x47 true (optM (binV BinOp.neq x49 x51))) fun x52 =>
                bindO (pickV x47 x52 (Value.bool false)) fun x53 =>
                bindO (notV x53) fun x54 =>
                condM x54 (
                  M.ret (Out.ret (Value.int IntKind.i64 13))) (
                  M.ret (Out.norm []))) (
                M.ret (Out.norm []))) fun o56 =>
            outK o56 (fun _ =>
              bindO (fieldA 0 x14) fun x59 =>
              M.bind (rdM (ld1 x59)) fun x60 =>
              bindO (fieldA 1 x14) fun x61 =>
              M.bind (rdM (ld1 x61)) fun x62 =>
              bindO (fieldA 1 x23) fun x63 =>
              M.bind (rdM (ld1 x63)) fun x64 =>
              bindO (buildV #[(Value.int IntKind.i64 0), (Value.int IntKind.i64 0), (Value.int IntKind.i64 0), (Value.string ByteArray.empty), (Value.string ByteArray.empty), (Value.string ByteArray.empty)] [(0, 1, x60), (1, 1, (Value.int IntKind.i64 5)), (3, 1, x62), (4, 1, x64)]) fun x65 =>
              M.bind (F.granaryref1_Disk_change a0 x65) fun x66 =>
              M.ret x66) (fun _ _ =>
              M.fail) (fun r58 => M.ret r58))))))
def F.granaryref1_Disk_Rename.plan : Plan := (seq leaf (seq leaf (seq (seq leaf (cond (seq leaf leaf) leaf)) (seq leaf (seq (seq leaf (cond (seq leaf leaf) leaf)) (seq leaf (seq (seq leaf (cond (seq leaf leaf) leaf)) (seq leaf (seq (seq leaf (cond (seq leaf leaf) leaf)) (seq (seq leaf (cond (seq leaf leaf) leaf)) (seq leaf (fork [] [6, 16, 58, 59, 60, 61, 62, 63, 64, 65, 66, 67, 68, 69, 70, 71, 72, 73, 74, 75, 76, 77, 78, 79, 80, 81, 82, 83, 84, 85, 86, 87, 88, 89, 90, 91] [] (seq leaf (cond (seq leaf (seq leaf (cond (seq leaf leaf) leaf))) leaf)) (seq leaf leaf)))))))))))))
theorem F.granaryref1_Disk_Rename.lift : LiftOk Tryz.prog 48 (ap3 F.granaryref1_Disk_Rename) :=
  lift3 (g := evFn Tryz.prog (tcons 87 (ap3 F.granaryref1_Disk_names) (tcons 91 (ap2 F.granaryref1_Disk_change) (tcons 93 (ap2 F.granaryref1_sameDir) (tcons 94 (ap2 F.granaryref1_Disk_spot) tnil)))) tnil 48 Tryz.f48 F.granaryref1_Disk_Rename.plan) (evFn_sound (tcons_ok F.granaryref1_Disk_names.lift (tcons_ok F.granaryref1_Disk_change.lift (tcons_ok F.granaryref1_sameDir.lift (tcons_ok F.granaryref1_Disk_spot.lift tnil_ok)))) tnil_ok Tryz.func48 (by kernel_rfl)) (fun x0 x1 x2 => by kernel_rfl)

/-- (*granary/disk.Disk).Remove -/
noncomputable def F.disk_Disk_Remove (a0 a1 : Value) : M Value :=
  M.bind (F.disk_Disk_find a0 a1 (Value.int IntKind.i64 0)) fun x1 =>
  bindO (extV 0 x1) fun x2 =>
  bindO (extV 1 x1) fun x3 =>
  M.bind (newM 85 #[(Value.int IntKind.i64 0), (Value.string ByteArray.empty), (Value.int IntKind.i64 0)]) fun x4 =>
  M.bind (stM 3 x4 x2) fun _ =>
  bindO (binV BinOp.eql a1 (Value.string (ByteArray.mk #[]))) fun x6 =>
  M.bind (guardM x6 true (M.ret x3)) fun x7 =>
  M.bind (guardM x6 true (optM (binV BinOp.eql x7 (Value.int IntKind.i64 0)))) fun x8 =>
  M.bind (guardM x6 true (M.ret x8)) fun x9 =>
  M.bind (guardM x9 false (M.ret x3)) fun x10 =>
  M.bind (guardM x9 false (optM (binV BinOp.eql x10 (Value.int IntKind.i64 12)))) fun x11 =>
  M.bind (guardM x6 true (optM (pickV x9 (Value.bool true) x11))) fun x12 =>
  bindO (pickV x6 x12 (Value.bool false)) fun x13 =>
  condM x13 (
    M.ret (Value.int IntKind.i64 11)) (
    bindO (binV BinOp.neq x3 (Value.int IntKind.i64 0)) fun x14 =>
    condM x14 (
      M.ret x3) (
      bindO (nilChk a0) fun x15 =>
      bindO (fieldA 7 x15) fun x16 =>
      M.bind (rdM (ld1 x16)) fun x17 =>
      M.bind (rngM x17) fun x18 =>
      M.bind (loopM (fun _ =>
        M.bind (nxtM x18) fun x20 =>
        bindO (extV 0 x20) fun x21 =>
        condM x21 (
          M.bind (rdM (entV x18)) fun x22 =>
          bindO (extV 0 x22) fun x23 =>
          M.bind (newM 83 #[(Value.int IntKind.i64 0), (Value.string ByteArray.empty)]) fun x24 =>
          M.bind (stM 2 x24 x23) fun _ =>
          bindO (fieldA 0 x24) fun x26 =>
          M.bind (rdM (ld1 x26)) fun x27 =>
          bindO (fieldA 2 x4) fun x28 =>
          M.bind (rdM (ld1 x28)) fun x29 =>
          bindO (binV BinOp.eql x27 x29) fun x30 =>
          condM x30 (
            M.ret (Out.ret (Value.int IntKind.i64 17))) (
            M.ret (Out.norm []))) (
          M.ret (Out.exit 0 []))) []) fun o32 =>
      outK o32 (fun _ => M.fail) (fun k33 _ =>
        bif Nat.beq k33 0 then (
          bindO (fieldA 0 x4) fun x35 =>
          bindO (fieldA 0 x35) fun x36 =>
          M.bind (rdM (ld1 x36)) fun x37 =>
          bindO (fieldA 0 x4) fun x38 =>
          bindO (fieldA 1 x38) fun x39 =>
          M.bind (rdM (ld1 x39)) fun x40 =>
          bindO (buildV #[(Value.int IntKind.i64 0), (Value.int IntKind.i64 0), (Value.string ByteArray.empty), (Value.int IntKind.i64 0), (Value.string ByteArray.empty), (Value.string ByteArray.empty), (Value.int IntKind.i64 0)] [(0, 1, (Value.int IntKind.i64 3)), (1, 1, x37), (4, 1, x40)]) fun x41 =>
          M.bind (F.disk_Disk_do a0 x41) fun x42 =>
          M.ret x42) else
        M.fail) (fun r34 => M.ret r34)))
def F.disk_Disk_Remove.plan : Plan := (seq leaf (seq leaf (seq (seq leaf (cond (seq leaf leaf) leaf)) (seq (seq leaf (cond (seq leaf leaf) leaf)) (seq (seq leaf (body (loop [] [4, 7, 32, 33, 34, 35, 36, 37, 38, 39, 40] [0] (seq leaf (seq (cond leaf leaf) (body (seq leaf (seq leaf (cond (seq leaf leaf) leaf))))))))) (seq leaf leaf))))))
theorem F.disk_Disk_Remove.lift : LiftOk Tryz.prog 49 (ap2 F.disk_Disk_Remove) :=
  lift2 (g := evFn Tryz.prog (tcons 72 (ap3 F.disk_Disk_find) (tcons 90 (ap2 F.disk_Disk_do) tnil)) tnil 49 Tryz.f49 F.disk_Disk_Remove.plan) (evFn_sound (tcons_ok F.disk_Disk_find.lift (tcons_ok F.disk_Disk_do.lift tnil_ok)) tnil_ok Tryz.func49 (by kernel_rfl)) (fun x0 x1 => by kernel_rfl)

/-- (*granary/granaryref1.Disk).Remove -/
noncomputable def F.granaryref1_Disk_Remove (a0 a1 : Value) : M Value :=
  M.bind (F.granaryref1_Disk_names a0 a1 (Value.bool false)) fun x1 =>
  bindO (extV 0 x1) fun _ =>
  bindO (extV 1 x1) fun x3 =>
  bindO (binV BinOp.neq x3 (Value.int IntKind.i64 0)) fun x4 =>
  condM x4 (
    M.ret x3) (
    M.bind (F.granaryref1_Disk_at a0 a1 (Value.int IntKind.i64 0)) fun x5 =>
    bindO (extV 0 x5) fun x6 =>
    bindO (extV 1 x5) fun x7 =>
    M.bind (newM 100 #[(Value.int IntKind.i64 0), (Value.string ByteArray.empty), (Value.int IntKind.i64 0)]) fun x8 =>
    M.bind (stM 3 x8 x6) fun _ =>
    bindO (binV BinOp.neq x7 (Value.int IntKind.i64 0)) fun x10 =>
    condM x10 (
      M.ret x7) (
      drewM <|
      bindO (nilChk a0) fun x11 =>
      bindO (fieldA 5 x11) fun x12 =>
      M.bind (rdM (ld1 x12)) fun x13 =>
      bindO (fieldA 2 x8) fun x14 =>
      M.bind (rdM (ld1 x14)) fun x15 =>
      bindO (idxA 5 x13 x15) fun x16 =>
      bindO (fieldA 1 x16) fun x17 =>
      bindO (fieldA 1 x17) fun x18 =>
      M.bind (rdM (ld1 x18)) fun x19 =>
      bindO (lenL x19) fun x20 =>
      bindO (binV BinOp.gtr x20 (Value.int IntKind.i64 0)) fun x21 =>
      condM x21 (
        M.ret (Value.int IntKind.i64 17)) (
        bindO (fieldA 0 x8) fun x22 =>
        M.bind (rdM (ld1 x22)) fun x23 =>
        bindO (fieldA 1 x8) fun x24 =>
        M.bind (rdM (ld1 x24)) fun x25 =>
        bindO (buildV #[(Value.int IntKind.i64 0), (Value.int IntKind.i64 0), (Value.int IntKind.i64 0), (Value.string ByteArray.empty), (Value.string ByteArray.empty), (Value.string ByteArray.empty)] [(0, 1, x23), (1, 1, (Value.int IntKind.i64 4)), (3, 1, x25)]) fun x26 =>
        M.bind (F.granaryref1_Disk_change a0 x26) fun x27 =>
        M.ret x27)))
def F.granaryref1_Disk_Remove.plan : Plan := (seq leaf (seq leaf (seq (seq leaf (cond (seq leaf leaf) leaf)) (seq leaf (seq (seq leaf (cond (seq leaf leaf) leaf)) (seq (seq leaf (cond (seq leaf leaf) leaf)) (seq leaf leaf)))))))
theorem F.granaryref1_Disk_Remove.lift : LiftOk Tryz.prog 50 (ap2 F.granaryref1_Disk_Remove) :=
  lift2 (g := evFn Tryz.prog (tcons 76 (ap3 F.granaryref1_Disk_at) (tcons 87 (ap3 F.granaryref1_Disk_names) (tcons 91 (ap2 F.granaryref1_Disk_change) tnil))) tnil 50 Tryz.f50 F.granaryref1_Disk_Remove.plan) (evFn_sound (tcons_ok F.granaryref1_Disk_at.lift (tcons_ok F.granaryref1_Disk_names.lift (tcons_ok F.granaryref1_Disk_change.lift tnil_ok))) tnil_ok Tryz.func50 (by kernel_rfl)) (fun x0 x1 => by kernel_rfl)

/-- (*granary/disk.Disk).settle -/
noncomputable def F.disk_Disk_settle (a0 a1 : Value) : M Value :=
  M.bind (F.disk_Disk_act a0) fun x1 =>
  bindO (binV BinOp.neq x1 (Value.int IntKind.i64 0)) fun x2 =>
  condM x2 (
    M.ret x1) (
    bindO (nilChk a0) fun x3 =>
    bindO (fieldA 6 x3) fun x4 =>
    M.bind (rdM (ld1 x4)) fun x5 =>
    bindO (idxA 3 x5 a1) fun x6 =>
    bindO (nilChk a0) fun x7 =>
    bindO (fieldA 9 x7) fun x8 =>
    M.bind (rdM (ld1 x8)) fun x9 =>
    bindO (lenL x9) fun x10 =>
    M.bind (loopM (fun l11 =>
      bindO (binV BinOp.lss (getL l11 1) x10) fun x12 =>
      condM x12 (
        M.bind (
          bindO (idxA 7 x9 (getL l11 1)) fun x13 =>
          M.bind (rdM (ldA 7 x13)) fun x14 =>
          M.bind (newM 141 #[(Value.int IntKind.i64 0), (Value.int IntKind.i64 0), (Value.string ByteArray.empty), (Value.int IntKind.i64 0), (Value.string ByteArray.empty), (Value.string ByteArray.empty), (Value.int IntKind.i64 0)]) fun x15 =>
          M.bind (stM 7 x15 x14) fun _ =>
          bindO (fieldA 1 x15) fun x17 =>
          M.bind (rdM (ld1 x17)) fun x18 =>
          bindO (binV BinOp.neq x18 a1) fun x19 =>
          condM x19 (
            M.bind (rdM (ldA 7 x15)) fun x20 =>
            M.bind (bslM 141 1 (Builtin.zeroCells #[(Value.int IntKind.i64 0), (Value.int IntKind.i64 0), (Value.string ByteArray.empty), (Value.int IntKind.i64 0), (Value.string ByteArray.empty), (Value.string ByteArray.empty), (Value.int IntKind.i64 0)] 1) [(0, 7, x20)]) fun x21 =>
            M.bind (appM 141 7 80 #[(Value.int IntKind.i64 0), (Value.int IntKind.i64 0), (Value.string ByteArray.empty), (Value.int IntKind.i64 0), (Value.string ByteArray.empty), (Value.string ByteArray.empty), (Value.int IntKind.i64 0)] (getL l11 0) x21) fun x22 =>
            M.ret (Out.norm [x22])) (
            drewM <|
            M.bind (rdM (ldA 7 x15)) fun x23 =>
            bindO (nilChk x6) fun x24 =>
            bindO (fieldA 2 x24) fun x25 =>
            M.bind (rdM (ld1 x25)) fun x26 =>
            bindO (nilChk a0) fun x27 =>
            bindO (fieldA 8 x27) fun x28 =>
            M.bind (rdM (ld1 x28)) fun x29 =>
            M.bind (F.disk_apply x23 x26 x29) fun x30 =>
            bindO (nilChk x6) fun x31 =>
            bindO (fieldA 2 x31) fun x32 =>
            M.bind (stM 1 x32 x30) fun _ =>
            M.ret (Out.norm [(getL l11 0)]))) fun o35 =>
        outK o35 (fun l34 =>
          bindO (binV BinOp.add (getL l11 1) (Value.int IntKind.i64 1)) fun x38 =>
          M.ret (Out.norm [(getL l34 0), x38])) (fun _ _ =>
          M.fail) (fun r37 => M.ret (Out.ret r37))) (
        M.ret (Out.exit 0 [(getL l11 0), (getL l11 1)]))) [(Value.slice none 0 0), (Value.int IntKind.i64 0)]) fun o41 =>
    outK o41 (fun _ => M.fail) (fun k42 l40 =>
      bif Nat.beq k42 0 then (
        bindO (nilChk a0) fun x44 =>
        bindO (fieldA 9 x44) fun x45 =>
        M.bind (stM 1 x45 (getL l40 0)) fun _ =>
        M.ret (Value.int IntKind.i64 0)) else
      M.fail) (fun r43 => M.ret r43))
def F.disk_Disk_settle.plan : Plan := (seq leaf (seq (seq leaf (seq leaf (cond (seq leaf leaf) leaf))) (seq leaf (seq leaf (seq (seq leaf (body (loop [7, 26] [7, 9, 26, 27, 28, 29, 30, 31, 32, 33, 34, 35, 36, 37, 38, 39, 40, 41, 42, 43, 44, 45, 46, 47, 48, 49, 50, 51] [0] (seq leaf (seq (cond leaf leaf) (fork [7] [7, 9, 28, 29, 30, 31, 32, 33, 34, 35, 36, 37, 38, 39, 40, 41, 42, 43, 44, 45, 46, 47, 48, 49, 50] [] (body (seq leaf (seq (seq leaf (cond (seq leaf leaf) leaf)) leaf))) leaf)))))) (seq leaf (seq leaf leaf)))))))
theorem F.disk_Disk_settle.lift : LiftOk Tryz.prog 95 (ap2 F.disk_Disk_settle) :=
  lift2 (g := evFn Tryz.prog (tcons 99 (ap3 F.disk_apply) (tcons 114 (ap1 F.disk_Disk_act) tnil)) tnil 95 Tryz.f95 F.disk_Disk_settle.plan) (evFn_sound (tcons_ok F.disk_apply.lift (tcons_ok F.disk_Disk_act.lift tnil_ok)) tnil_ok Tryz.func95 (by kernel_rfl)) (fun x0 x1 => by kernel_rfl)

/-- (*granary/disk.Disk).Sync -/
noncomputable def F.disk_Disk_Sync (a0 a1 : Value) : M Value :=
  M.bind (F.disk_Disk_find a0 a1 (Value.int IntKind.i64 2)) fun x1 =>
  bindO (extV 0 x1) fun x2 =>
  bindO (extV 1 x1) fun x3 =>
  M.bind (newM 85 #[(Value.int IntKind.i64 0), (Value.string ByteArray.empty), (Value.int IntKind.i64 0)]) fun x4 =>
  M.bind (stM 3 x4 x2) fun _ =>
  bindO (binV BinOp.neq x3 (Value.int IntKind.i64 0)) fun x6 =>
  condM x6 (
    M.ret x3) (
    bindO (fieldA 2 x4) fun x7 =>
    M.bind (rdM (ld1 x7)) fun x8 =>
    M.bind (F.disk_Disk_settle a0 x8) fun x9 =>
    M.ret x9)
def F.disk_Disk_Sync.plan : Plan := (seq leaf (seq leaf (seq (seq leaf (cond (seq leaf leaf) leaf)) (seq leaf leaf))))
theorem F.disk_Disk_Sync.lift : LiftOk Tryz.prog 51 (ap2 F.disk_Disk_Sync) :=
  lift2 (g := evFn Tryz.prog (tcons 72 (ap3 F.disk_Disk_find) (tcons 95 (ap2 F.disk_Disk_settle) tnil)) tnil 51 Tryz.f51 F.disk_Disk_Sync.plan) (evFn_sound (tcons_ok F.disk_Disk_find.lift (tcons_ok F.disk_Disk_settle.lift tnil_ok)) tnil_ok Tryz.func51 (by kernel_rfl)) (fun x0 x1 => by kernel_rfl)

/-- (*granary/granaryref1.Disk).safe -/
noncomputable def F.granaryref1_Disk_safe (a0 a1 : Value) : M Value :=
  M.bind (F.granaryref1_Disk_act a0) fun x1 =>
  bindO (binV BinOp.neq x1 (Value.int IntKind.i64 0)) fun x2 =>
  condM x2 (
    M.ret x1) (
    M.bind (loopM (fun l3 =>
      bindO (nilChk a0) fun x4 =>
      bindO (fieldA 6 x4) fun x5 =>
      M.bind (rdM (ld1 x5)) fun x6 =>
      bindO (lenL x6) fun x7 =>
      bindO (binV BinOp.lss (getL l3 1) x7) fun x8 =>
      condM x8 (
        M.bind (
          bindO (nilChk a0) fun x9 =>
          bindO (fieldA 6 x9) fun x10 =>
          M.bind (rdM (ld1 x10)) fun x11 =>
          bindO (idxA 6 x11 (getL l3 1)) fun x12 =>
          M.bind (rdM (ldA 6 x12)) fun x13 =>
          M.bind (newM 144 #[(Value.int IntKind.i64 0), (Value.int IntKind.i64 0), (Value.int IntKind.i64 0), (Value.string ByteArray.empty), (Value.string ByteArray.empty), (Value.string ByteArray.empty)]) fun x14 =>
          M.bind (stM 6 x14 x13) fun _ =>
          bindO (fieldA 0 x14) fun x16 =>
          M.bind (rdM (ld1 x16)) fun x17 =>
          bindO (binV BinOp.eql x17 a1) fun x18 =>
          condM x18 (
            drewM <|
            getM fun _ =>
            bindO (nilChk a0) fun x20 =>
            bindO (fieldA 5 x20) fun x21 =>
            M.bind (rdM (ld1 x21)) fun x22 =>
            bindO (nilChk a0) fun x23 =>
            bindO (fieldA 5 x23) fun x24 =>
            M.bind (rdM (ld1 x24)) fun x25 =>
            bindO (idxA 5 x25 a1) fun x26 =>
            bindO (fieldA 3 x26) fun x27 =>
            M.bind (rdM (ldA 2 x27)) fun x28 =>
            M.bind (rdM (ldA 6 x14)) fun x29 =>
            M.bind (F.granaryref1_done x28 x29) fun x30 =>
            getM fun W31 =>
            bindO (idxA 5 x22 a1) fun x32 =>
            bindO (fieldA 3 x32) fun x33 =>
            M.bind (stM 2 x33 x30) fun _ =>
            getM fun _ =>
            reqM (ld1 x21 W31 = some x22) <|
            M.ret (Out.norm [(getL l3 0)])) (
            M.bind (rdM (ldA 6 x14)) fun x36 =>
            M.bind (bslM 144 1 (Builtin.zeroCells #[(Value.int IntKind.i64 0), (Value.int IntKind.i64 0), (Value.int IntKind.i64 0), (Value.string ByteArray.empty), (Value.string ByteArray.empty), (Value.string ByteArray.empty)] 1) [(0, 6, x36)]) fun x37 =>
            M.bind (appM 144 6 72 #[(Value.int IntKind.i64 0), (Value.int IntKind.i64 0), (Value.int IntKind.i64 0), (Value.string ByteArray.empty), (Value.string ByteArray.empty), (Value.string ByteArray.empty)] (getL l3 0) x37) fun x38 =>
            M.ret (Out.norm [x38]))) fun o40 =>
        outK o40 (fun l39 =>
          bindO (binV BinOp.add (getL l3 1) (Value.int IntKind.i64 1)) fun x43 =>
          M.ret (Out.norm [(getL l39 0), x43])) (fun _ _ =>
          M.fail) (fun r42 => M.ret (Out.ret r42))) (
        M.ret (Out.exit 0 [(getL l3 0), (getL l3 1)]))) [(Value.slice none 0 0), (Value.int IntKind.i64 0)]) fun o46 =>
    outK o46 (fun _ => M.fail) (fun k47 l45 =>
      bif Nat.beq k47 0 then (
        bindO (nilChk a0) fun x49 =>
        bindO (fieldA 6 x49) fun x50 =>
        M.bind (stM 1 x50 (getL l45 0)) fun _ =>
        M.ret (Value.int IntKind.i64 0)) else
      M.fail) (fun r48 => M.ret r48))
def F.granaryref1_Disk_safe.plan : Plan := (seq leaf (seq leaf (seq (seq leaf (cond (seq leaf leaf) leaf)) (seq leaf (seq (seq leaf (body (loop [6, 7] [6, 7, 8, 14, 15, 16, 17, 18, 19, 20, 21, 22, 23, 24, 25, 26, 27, 28, 29, 30, 31, 32, 33, 34, 35, 36, 37, 38, 39, 40, 41, 42, 43, 44, 45, 46, 47, 48, 49, 50, 51, 52, 53, 54] [0] (seq (seq leaf (cond leaf leaf)) (fork [6] [6, 8, 23, 24, 25, 26, 27, 28, 29, 30, 31, 32, 33, 34, 35, 36, 37, 38, 39, 40, 41, 42, 43, 44, 45, 46, 47, 48, 49, 50, 51, 52, 53, 54] [] (body (seq leaf (seq leaf (cond leaf leaf)))) leaf))))) (seq leaf (seq leaf leaf)))))))
theorem F.granaryref1_Disk_safe.lift : LiftOk Tryz.prog 96 (ap2 F.granaryref1_Disk_safe) :=
  lift2 (g := evFn Tryz.prog (tcons 102 (ap2 F.granaryref1_done) (tcons 115 (ap1 F.granaryref1_Disk_act) tnil)) tnil 96 Tryz.f96 F.granaryref1_Disk_safe.plan) (evFn_sound (tcons_ok F.granaryref1_done.lift (tcons_ok F.granaryref1_Disk_act.lift tnil_ok)) tnil_ok Tryz.func96 (by kernel_rfl)) (fun x0 x1 => by kernel_rfl)

/-- (*granary/granaryref1.Disk).Sync -/
noncomputable def F.granaryref1_Disk_Sync (a0 a1 : Value) : M Value :=
  M.bind (F.granaryref1_Disk_at a0 a1 (Value.int IntKind.i64 2)) fun x1 =>
  bindO (extV 0 x1) fun x2 =>
  bindO (extV 1 x1) fun x3 =>
  M.bind (newM 100 #[(Value.int IntKind.i64 0), (Value.string ByteArray.empty), (Value.int IntKind.i64 0)]) fun x4 =>
  M.bind (stM 3 x4 x2) fun _ =>
  bindO (binV BinOp.neq x3 (Value.int IntKind.i64 0)) fun x6 =>
  condM x6 (
    M.ret x3) (
    bindO (fieldA 2 x4) fun x7 =>
    M.bind (rdM (ld1 x7)) fun x8 =>
    M.bind (F.granaryref1_Disk_safe a0 x8) fun x9 =>
    M.ret x9)
def F.granaryref1_Disk_Sync.plan : Plan := (seq leaf (seq leaf (seq (seq leaf (cond (seq leaf leaf) leaf)) (seq leaf leaf))))
theorem F.granaryref1_Disk_Sync.lift : LiftOk Tryz.prog 52 (ap2 F.granaryref1_Disk_Sync) :=
  lift2 (g := evFn Tryz.prog (tcons 76 (ap3 F.granaryref1_Disk_at) (tcons 96 (ap2 F.granaryref1_Disk_safe) tnil)) tnil 52 Tryz.f52 F.granaryref1_Disk_Sync.plan) (evFn_sound (tcons_ok F.granaryref1_Disk_at.lift (tcons_ok F.granaryref1_Disk_safe.lift tnil_ok)) tnil_ok Tryz.func52 (by kernel_rfl)) (fun x0 x1 => by kernel_rfl)

/-- (*granary/disk.Disk).SyncDir -/
noncomputable def F.disk_Disk_SyncDir (a0 a1 : Value) : M Value :=
  M.bind (F.disk_Disk_find a0 a1 (Value.int IntKind.i64 1)) fun x1 =>
  bindO (extV 0 x1) fun x2 =>
  bindO (extV 1 x1) fun x3 =>
  M.bind (newM 85 #[(Value.int IntKind.i64 0), (Value.string ByteArray.empty), (Value.int IntKind.i64 0)]) fun x4 =>
  M.bind (stM 3 x4 x2) fun _ =>
  bindO (binV BinOp.neq x3 (Value.int IntKind.i64 0)) fun x6 =>
  condM x6 (
    M.ret x3) (
    bindO (fieldA 2 x4) fun x7 =>
    M.bind (rdM (ld1 x7)) fun x8 =>
    M.bind (F.disk_Disk_settle a0 x8) fun x9 =>
    M.ret x9)
def F.disk_Disk_SyncDir.plan : Plan := (seq leaf (seq leaf (seq (seq leaf (cond (seq leaf leaf) leaf)) (seq leaf leaf))))
theorem F.disk_Disk_SyncDir.lift : LiftOk Tryz.prog 53 (ap2 F.disk_Disk_SyncDir) :=
  lift2 (g := evFn Tryz.prog (tcons 72 (ap3 F.disk_Disk_find) (tcons 95 (ap2 F.disk_Disk_settle) tnil)) tnil 53 Tryz.f53 F.disk_Disk_SyncDir.plan) (evFn_sound (tcons_ok F.disk_Disk_find.lift (tcons_ok F.disk_Disk_settle.lift tnil_ok)) tnil_ok Tryz.func53 (by kernel_rfl)) (fun x0 x1 => by kernel_rfl)

/-- (*granary/granaryref1.Disk).SyncDir -/
noncomputable def F.granaryref1_Disk_SyncDir (a0 a1 : Value) : M Value :=
  M.bind (F.granaryref1_Disk_at a0 a1 (Value.int IntKind.i64 1)) fun x1 =>
  bindO (extV 0 x1) fun x2 =>
  bindO (extV 1 x1) fun x3 =>
  M.bind (newM 100 #[(Value.int IntKind.i64 0), (Value.string ByteArray.empty), (Value.int IntKind.i64 0)]) fun x4 =>
  M.bind (stM 3 x4 x2) fun _ =>
  bindO (binV BinOp.neq x3 (Value.int IntKind.i64 0)) fun x6 =>
  condM x6 (
    M.ret x3) (
    bindO (fieldA 2 x4) fun x7 =>
    M.bind (rdM (ld1 x7)) fun x8 =>
    M.bind (F.granaryref1_Disk_safe a0 x8) fun x9 =>
    M.ret x9)
def F.granaryref1_Disk_SyncDir.plan : Plan := (seq leaf (seq leaf (seq (seq leaf (cond (seq leaf leaf) leaf)) (seq leaf leaf))))
theorem F.granaryref1_Disk_SyncDir.lift : LiftOk Tryz.prog 54 (ap2 F.granaryref1_Disk_SyncDir) :=
  lift2 (g := evFn Tryz.prog (tcons 76 (ap3 F.granaryref1_Disk_at) (tcons 96 (ap2 F.granaryref1_Disk_safe) tnil)) tnil 54 Tryz.f54 F.granaryref1_Disk_SyncDir.plan) (evFn_sound (tcons_ok F.granaryref1_Disk_at.lift (tcons_ok F.granaryref1_Disk_safe.lift tnil_ok)) tnil_ok Tryz.func54 (by kernel_rfl)) (fun x0 x1 => by kernel_rfl)

/-- (*granary/granarylaw1.bench).writes -/
noncomputable def F.granarylaw1_bench_writes (a0 a1 : Value) : M Value :=
  M.bind (newM 35 (Value.cells a1)) fun x1 =>
  drewM <|
  bindO (fieldA 1 x1) fun x2 =>
  M.bind (rdM (ld1 x2)) fun x3 =>
  M.bind (F.granarylaw1_place x3) fun x4 =>
  bindO (nilChk a0) fun x5 =>
  bindO (fieldA 0 x5) fun x6 =>
  bindO (idxR 2 1 x6 x4) fun x7 =>
  M.bind (rdM (ld1 x7)) fun x8 =>
  drewM <|
  bindO (fieldA 1 x1) fun x9 =>
  M.bind (rdM (ld1 x9)) fun x10 =>
  M.bind (F.granarylaw1_place x10) fun x11 =>
  bindO (nilChk a0) fun x12 =>
  bindO (fieldA 2 x12) fun x13 =>
  bindO (idxR 2 1 x13 x11) fun x14 =>
  M.bind (rdM (ld1 x14)) fun x15 =>
  M.bind (
    bindO (fieldA 0 x1) fun x16 =>
    M.bind (rdM (ld1 x16)) fun x17 =>
    bindO (binV BinOp.eql x17 (Value.int IntKind.i64 1)) fun x18 =>
    condM x18 (
      bindO (fieldA 4 x1) fun x19 =>
      M.bind (rdM (ld1 x19)) fun x20 =>
      M.bind (F.disk_Disk_Mkdir x8 x20) fun x21 =>
      bindO (fieldA 4 x1) fun x22 =>
      M.bind (rdM (ld1 x22)) fun x23 =>
      M.bind (F.granaryref1_Disk_Mkdir x15 x23) fun x24 =>
      M.ret (Out.norm [x21, x24])) (
      bindO (binV BinOp.eql x17 (Value.int IntKind.i64 2)) fun x25 =>
      condM x25 (
        bindO (fieldA 4 x1) fun x26 =>
        M.bind (rdM (ld1 x26)) fun x27 =>
        M.bind (F.disk_Disk_Create x8 x27) fun x28 =>
        bindO (fieldA 4 x1) fun x29 =>
        M.bind (rdM (ld1 x29)) fun x30 =>
        M.bind (F.granaryref1_Disk_Create x15 x30) fun x31 =>
        M.ret (Out.norm [x28, x31])) (
        bindO (binV BinOp.eql x17 (Value.int IntKind.i64 3)) fun x32 =>
        condM x32 (
          bindO (fieldA 4 x1) fun x33 =>
          M.bind (rdM (ld1 x33)) fun x34 =>
          bindO (fieldA 5 x1) fun x35 =>
          M.bind (rdM (ld1 x35)) fun x36 =>
          M.bind (F.disk_Disk_Append x8 x34 x36) fun x37 =>
          bindO (fieldA 4 x1) fun x38 =>
          M.bind (rdM (ld1 x38)) fun x39 =>
          bindO (fieldA 5 x1) fun x40 =>
          M.bind (rdM (ld1 x40)) fun x41 =>
          M.bind (F.granaryref1_Disk_Append x15 x39 x41) fun x42 =>
          M.ret (Out.norm [x37, x42])) (
          bindO (binV BinOp.eql x17 (Value.int IntKind.i64 4)) fun x43 =>
          condM x43 (
            bindO (fieldA 4 x1) fun x44 =>
            M.bind (rdM (ld1 x44)) fun x45 =>
            bindO (fieldA 2 x1) fun x46 =>
            M.bind (rdM (ld1 x46)) fun x47 =>
            M.bind (F.disk_Disk_Truncate x8 x45 x47) fun x48 =>
            bindO (fieldA 4 x1) fun x49 =>
            M.bind (rdM (ld1 x49)) fun x50 =>
            bindO (fieldA 2 x1) fun x51 =>
            M.bind (rdM (ld1 x51)) fun x52 =>
            M.bind (F.granaryref1_Disk_Truncate x15 x50 x52) fun x53 =>
            M.ret (Out.norm [x48, x53])) (
            bindO (binV BinOp.eql x17 (Value.int IntKind.i64 5)) fun x54 =>
            condM x54 (
              bindO (fieldA 4 x1) fun x55 =>
              M.bind (rdM (ld1 x55)) fun x56 =>
              bindO (fieldA 5 x1) fun x57 =>
              M.bind (rdM (ld1 x57)) fun x58 =>
              M.bind (F.disk_Disk_Rename x8 x56 x58) fun x59 =>
              bindO (fieldA 4 x1) fun x60 =>
              M.bind (rdM (ld1 x60)) fun x61 =>
              bindO (fieldA 5 x1) fun x62 =>
              M.bind (rdM (ld1 x62)) fun x63 =>
              M.bind (F.granaryref1_Disk_Rename x15 x61 x63) fun x64 =>
              M.ret (Out.norm [x59, x64])) (
              bindO (binV BinOp.eql x17 (Value.int IntKind.i64 6)) fun x65 =>
              condM x65 (
                bindO (fieldA 4 x1) fun x66 =>
                M.bind (rdM (ld1 x66)) fun x67 =>
                M.bind (F.disk_Disk_Remove x8 x67) fun x68 =>
                bindO (fieldA 4 x1) fun x69 =>
                M.bind (rdM (ld1 x69)) fun x70 =>
                M.bind (F.granaryref1_Disk_Remove x15 x70) fun x71 =>
                M.ret (Out.norm [x68, x71])) (
                bindO (binV BinOp.eql x17 (Value.int IntKind.i64 7)) fun x72 =>
                condM x72 (
                  bindO (fieldA 4 x1) fun x73 =>
                  M.bind (rdM (ld1 x73)) fun x74 =>
                  M.bind (F.disk_Disk_Sync x8 x74) fun x75 =>
                  bindO (fieldA 4 x1) fun x76 =>
                  M.bind (rdM (ld1 x76)) fun x77 =>
                  M.bind (F.granaryref1_Disk_Sync x15 x77) fun x78 =>
                  M.ret (Out.norm [x75, x78])) (
                  bindO (binV BinOp.eql x17 (Value.int IntKind.i64 8)) fun x79 =>
                  condM x79 (
                    bindO (fieldA 4 x1) fun x80 =>
                    M.bind (rdM (ld1 x80)) fun x81 =>
                    M.bind (F.disk_Disk_SyncDir x8 x81) fun x82 =>
                    bindO (fieldA 4 x1) fun x83 =>
                    M.bind (rdM (ld1 x83)) fun x84 =>
                    M.bind (F.granaryref1_Disk_SyncDir x15 x84) fun x85 =>
                    M.ret (Out.norm [x82, x85])) (
                    M.ret (Out.norm [(Value.int IntKind.i64 0), (Value.int IntKind.i64 0)])))))))))) fun o87 =>
  outK o87 (fun l86 =>
    M.bind (F.granarylaw1_num (getL l86 0)) fun x90 =>
    bindO (binV BinOp.eql x90 (getL l86 1)) fun x91 =>
    M.ret x91) (fun _ _ =>
    M.fail) (fun r89 => M.ret r89)
def F.granarylaw1_bench_writes.plan : Plan := (seq leaf (seq leaf (seq leaf (seq leaf (seq leaf (fork [7, 8] [7, 8, 25, 26, 27, 28, 29, 30, 31, 32, 33, 34, 35, 36, 37, 38, 39, 40, 41, 42, 43, 44, 45, 46, 47, 48, 49, 50, 51, 52, 53, 54, 55, 56, 57, 58, 59, 60, 61, 62, 63, 64, 65, 66, 67, 68, 69, 70, 71, 72, 73, 74, 75, 76, 77, 78, 79, 80, 81, 82, 83, 84, 85, 86, 87, 88, 89, 90, 91, 92, 93, 94, 95, 96, 97, 98, 99, 100, 101, 102, 103, 104, 105, 106, 107, 108, 109, 110, 111, 112, 113, 114, 115, 116, 117, 118] [] (seq leaf (body (seq leaf (cond (seq leaf leaf) (seq leaf (cond (seq leaf leaf) (seq leaf (cond (seq leaf leaf) (seq leaf (cond (seq leaf leaf) (seq leaf (cond (seq leaf leaf) (seq leaf (cond (seq leaf leaf) (seq leaf (cond (seq leaf leaf) (seq leaf (cond (seq leaf leaf) leaf)))))))))))))))))) (seq leaf leaf)))))))
theorem F.granarylaw1_bench_writes.lift : LiftOk Tryz.prog 14 (ap2 F.granarylaw1_bench_writes) :=
  lift2 (g := evFn Tryz.prog (tcons 20 (ap1 F.granarylaw1_place) (tcons 23 (ap1 F.granarylaw1_num) (tcons 39 (ap2 F.disk_Disk_Mkdir) (tcons 40 (ap2 F.granaryref1_Disk_Mkdir) (tcons 41 (ap2 F.disk_Disk_Create) (tcons 42 (ap2 F.granaryref1_Disk_Create) (tcons 43 (ap3 F.disk_Disk_Append) (tcons 44 (ap3 F.granaryref1_Disk_Append) (tcons 45 (ap3 F.disk_Disk_Truncate) (tcons 46 (ap3 F.granaryref1_Disk_Truncate) (tcons 47 (ap3 F.disk_Disk_Rename) (tcons 48 (ap3 F.granaryref1_Disk_Rename) (tcons 49 (ap2 F.disk_Disk_Remove) (tcons 50 (ap2 F.granaryref1_Disk_Remove) (tcons 51 (ap2 F.disk_Disk_Sync) (tcons 52 (ap2 F.granaryref1_Disk_Sync) (tcons 53 (ap2 F.disk_Disk_SyncDir) (tcons 54 (ap2 F.granaryref1_Disk_SyncDir) tnil)))))))))))))))))) tnil 14 Tryz.f14 F.granarylaw1_bench_writes.plan) (evFn_sound (tcons_ok F.granarylaw1_place.lift (tcons_ok F.granarylaw1_num.lift (tcons_ok F.disk_Disk_Mkdir.lift (tcons_ok F.granaryref1_Disk_Mkdir.lift (tcons_ok F.disk_Disk_Create.lift (tcons_ok F.granaryref1_Disk_Create.lift (tcons_ok F.disk_Disk_Append.lift (tcons_ok F.granaryref1_Disk_Append.lift (tcons_ok F.disk_Disk_Truncate.lift (tcons_ok F.granaryref1_Disk_Truncate.lift (tcons_ok F.disk_Disk_Rename.lift (tcons_ok F.granaryref1_Disk_Rename.lift (tcons_ok F.disk_Disk_Remove.lift (tcons_ok F.granaryref1_Disk_Remove.lift (tcons_ok F.disk_Disk_Sync.lift (tcons_ok F.granaryref1_Disk_Sync.lift (tcons_ok F.disk_Disk_SyncDir.lift (tcons_ok F.granaryref1_Disk_SyncDir.lift tnil_ok)))))))))))))))))) tnil_ok Tryz.func14 (by kernel_rfl)) (fun x0 x1 => by kernel_rfl)

/-- granary/granarylaw1.DiskPaths -/
noncomputable def F.granarylaw1_DiskPaths (a0 : Value) : M Value :=
  M.bind (loopM (fun l1 =>
    bindO (lenL a0) fun x2 =>
    bindO (binV BinOp.lss (getL l1 1) x2) fun x3 =>
    condM x3 (
      bindO (idxA 1 a0 (getL l1 1)) fun x4 =>
      M.bind (rdM (ld1 x4)) fun x5 =>
      M.bind (bslM 9 1 (Builtin.zeroCells #[(Value.string ByteArray.empty)] 1) [(0, 1, x5)]) fun x6 =>
      M.bind (appM 9 1 16 #[(Value.string ByteArray.empty)] (getL l1 0) x6) fun x7 =>
      bindO (binV BinOp.add (getL l1 1) (Value.int IntKind.i64 1)) fun x8 =>
      M.ret (Out.norm [x7, x8])) (
      M.ret (Out.exit 0 [(getL l1 0), (getL l1 1)]))) [(Value.slice none 0 0), (Value.int IntKind.i64 0)]) fun o10 =>
  outK o10 (fun _ => M.fail) (fun k11 l9 =>
    bif Nat.beq k11 0 then (
      M.bind (F.disk_Path (getL l9 0)) fun x13 =>
      M.bind (F.granaryref1_Path a0) fun x14 =>
      bindO (binV BinOp.neq x13 x14) fun x15 =>
      condM x15 (
        M.ret (Value.bool false)) (
        M.bind (loopM (fun l16 =>
          bindO (lenL a0) fun x17 =>
          bindO (binV BinOp.lss (getL l16 0) x17) fun x18 =>
          condM x18 (
            drewM <|
            bindO (idxA 1 (getL l9 0) (getL l16 0)) fun x19 =>
            M.bind (rdM (ld1 x19)) fun x20 =>
            bindO (idxA 1 a0 (getL l16 0)) fun x21 =>
            M.bind (rdM (ld1 x21)) fun x22 =>
            bindO (binV BinOp.neq x20 x22) fun x23 =>
            condM x23 (
              M.ret (Out.ret (Value.bool false))) (
              bindO (binV BinOp.add (getL l16 0) (Value.int IntKind.i64 1)) fun x24 =>
              M.ret (Out.norm [x24]))) (
            M.ret (Out.exit 2 [(getL l16 0)]))) [(Value.int IntKind.i64 0)]) fun o26 =>
        outK o26 (fun _ => M.fail) (fun k27 _ =>
          bif Nat.beq k27 2 then (
            M.bind (loopM (fun l29 =>
              bindO (lenL (getL l9 0)) fun x30 =>
              bindO (binV BinOp.lss (getL l29 0) x30) fun x31 =>
              condM x31 (
                bindO (idxA 1 (getL l9 0) (getL l29 0)) fun x32 =>
                M.bind (rdM (ld1 x32)) fun x33 =>
                bindO (binV BinOp.add x33 (Value.string (ByteArray.mk #[120]))) fun x34 =>
                bindO (idxA 1 (getL l9 0) (getL l29 0)) fun x35 =>
                M.bind (stM 1 x35 x34) fun _ =>
                bindO (binV BinOp.add (getL l29 0) (Value.int IntKind.i64 1)) fun x37 =>
                M.ret (Out.norm [x37])) (
                M.ret (Out.exit 4 [(getL l29 0)]))) [(Value.int IntKind.i64 0)]) fun o39 =>
            outK o39 (fun _ => M.fail) (fun k40 _ =>
              bif Nat.beq k40 4 then (
                M.bind (F.disk_Path (getL l9 0)) fun x42 =>
                M.bind (F.granaryref1_Path (getL l9 0)) fun x43 =>
                bindO (binV BinOp.neq x42 x43) fun x44 =>
                condM x44 (
                  M.ret (Value.bool false)) (
                  bindO (buildV #[(Value.pointer none), (Value.pointer none), (Value.pointer none), (Value.pointer none)] []) fun x45 =>
                  M.bind (newM 31 (Value.cells x45)) fun x46 =>
                  M.bind (F.granarylaw1_bench_fresh x46 (Value.int IntKind.i64 0) (Value.int IntKind.i64 0)) fun x47 =>
                  M.bind (guardM x47 true (M.ret x46)) fun x48 =>
                  M.bind (guardM x47 true (M.ret x13)) fun x49 =>
                  M.bind (guardM x47 true (optM (buildV #[(Value.int IntKind.i64 0), (Value.int IntKind.i64 0), (Value.int IntKind.i64 0), (Value.int IntKind.i64 0), (Value.string ByteArray.empty), (Value.string ByteArray.empty)] [(0, 1, (Value.int IntKind.i64 11)), (4, 1, x49)]))) fun x50 =>
                  M.bind (guardM x47 true (F.granarylaw1_bench_looks x48 x50)) fun x51 =>
                  bindO (pickV x47 x51 (Value.bool false)) fun x52 =>
                  M.bind (guardM x52 true (M.ret x46)) fun x53 =>
                  M.bind (guardM x52 true (M.ret x13)) fun x54 =>
                  M.bind (guardM x52 true (optM (buildV #[(Value.int IntKind.i64 0), (Value.int IntKind.i64 0), (Value.int IntKind.i64 0), (Value.int IntKind.i64 0), (Value.string ByteArray.empty), (Value.string ByteArray.empty)] [(0, 1, (Value.int IntKind.i64 6)), (4, 1, x54)]))) fun x55 =>
                  M.bind (guardM x52 true (F.granarylaw1_bench_writes x53 x55)) fun x56 =>
                  bindO (pickV x52 x56 (Value.bool false)) fun x57 =>
                  M.bind (guardM x57 true (M.ret x46)) fun x58 =>
                  M.bind (guardM x57 true (M.ret x13)) fun x59 =>
                  M.bind (guardM x57 true (optM (buildV #[(Value.int IntKind.i64 0), (Value.int IntKind.i64 0), (Value.int IntKind.i64 0), (Value.int IntKind.i64 0), (Value.string ByteArray.empty), (Value.string ByteArray.empty)] [(0, 1, (Value.int IntKind.i64 1)), (4, 1, x59)]))) fun x60 =>
                  M.bind (guardM x57 true (F.granarylaw1_bench_writes x58 x60)) fun x61 =>
                  bindO (pickV x57 x61 (Value.bool false)) fun x62 =>
                  M.ret x62)) else
              M.fail) (fun r41 => M.ret r41)) else
          M.fail) (fun r28 => M.ret r28))) else
    M.fail) (fun r12 => M.ret r12)
def F.granarylaw1_DiskPaths.plan : Plan := (seq leaf (seq leaf (seq (seq leaf (body (loop [3, 4] [3, 4, 10, 11, 12, 13, 14, 15, 16, 17, 18, 19, 20, 21, 22] [0] (seq (seq leaf (cond leaf leaf)) (seq (body leaf) leaf))))) (seq leaf (seq (seq leaf (cond (seq leaf leaf) leaf)) (seq (seq leaf (body (loop [6] [2, 6, 29, 30, 31, 32, 33, 34, 35, 36, 37, 38, 39, 40, 41, 42, 43] [2] (seq (seq leaf (cond leaf leaf)) (seq (body (seq leaf (cond (seq leaf leaf) leaf))) leaf))))) (seq (seq leaf (body (loop [7] [7, 44, 45, 46, 47, 48, 49, 50, 51, 52, 53, 54, 55, 56, 57] [4] (seq (seq leaf (cond leaf leaf)) (seq (body leaf) leaf))))) (seq (seq leaf (cond (seq leaf leaf) leaf)) (seq leaf (seq leaf (seq leaf leaf)))))))))))
theorem F.granarylaw1_DiskPaths.lift : LiftOk Tryz.prog 3 (ap1 F.granarylaw1_DiskPaths) :=
  lift1 (g := evFn Tryz.prog (tcons 10 (ap1 F.disk_Path) (tcons 11 (ap1 F.granaryref1_Path) (tcons 12 (ap3 F.granarylaw1_bench_fresh) (tcons 13 (ap2 F.granarylaw1_bench_looks) (tcons 14 (ap2 F.granarylaw1_bench_writes) tnil))))) tnil 3 Tryz.f3 F.granarylaw1_DiskPaths.plan) (evFn_sound (tcons_ok F.disk_Path.lift (tcons_ok F.granaryref1_Path.lift (tcons_ok F.granarylaw1_bench_fresh.lift (tcons_ok F.granarylaw1_bench_looks.lift (tcons_ok F.granarylaw1_bench_writes.lift tnil_ok))))) tnil_ok Tryz.func3 (by kernel_rfl)) (fun x0 => by kernel_rfl)

/-- (*granary/granarylaw1.bench).begins -/
noncomputable def F.granarylaw1_bench_begins (a0 a1 : Value) : M Value :=
  M.bind (F.granarylaw1_bench_fresh a0 (Value.int IntKind.i64 0) a1) fun x1 =>
  bindO (notV x1) fun x2 =>
  condM x2 (
    M.ret (Value.bool false)) (
    M.bind (
      bindO (nilChk a0) fun x3 =>
      bindO (fieldA 2 x3) fun x4 =>
      bindO (idxR 2 1 x4 (Value.int IntKind.i64 0)) fun x5 =>
      M.bind (rdM (ld1 x5)) fun x6 =>
      bindO (eqV (EqSh.one EqK.ptr) x6 (Value.pointer none)) fun x7 =>
      condM x7 (
        M.bind (F.granarylaw1_bench_fresh a0 (Value.int IntKind.i64 0) (Value.int IntKind.i64 1000)) fun x8 =>
        bindO (notV x8) fun x9 =>
        condM x9 (
          M.ret (Out.ret (Value.bool false))) (
          M.ret (Out.norm []))) (
        M.ret (Out.norm []))) fun o11 =>
    outK o11 (fun _ =>
      M.bind (F.granarylaw1_bench_fresh a0 (Value.int IntKind.i64 1) a1) fun x14 =>
      M.ret x14) (fun _ _ =>
      M.fail) (fun r13 => M.ret r13))
def F.granarylaw1_bench_begins.plan : Plan := (seq leaf (seq leaf (seq (seq leaf (cond (seq leaf leaf) leaf)) (fork [] [4, 5, 11, 12, 13, 14, 15, 16, 17, 18, 19, 20] [] (seq leaf (cond (seq leaf (seq leaf (cond (seq leaf leaf) leaf))) leaf)) (seq leaf leaf)))))
theorem F.granarylaw1_bench_begins.lift : LiftOk Tryz.prog 15 (ap2 F.granarylaw1_bench_begins) :=
  lift2 (g := evFn Tryz.prog (tcons 12 (ap3 F.granarylaw1_bench_fresh) tnil) tnil 15 Tryz.f15 F.granarylaw1_bench_begins.plan) (evFn_sound (tcons_ok F.granarylaw1_bench_fresh.lift tnil_ok) tnil_ok Tryz.func15 (by kernel_rfl)) (fun x0 x1 => by kernel_rfl)

/-- (*granary/disk.Disk).Capacity -/
noncomputable def F.disk_Disk_Capacity (a0 : Value) : M Value :=
  bindO (eqV (EqSh.one EqK.ptr) a0 (Value.pointer none)) fun x1 =>
  condM x1 (
    M.ret (Value.int IntKind.i64 0)) (
    bindO (nilChk a0) fun x2 =>
    bindO (fieldA 0 x2) fun x3 =>
    M.bind (rdM (ld1 x3)) fun x4 =>
    M.ret x4)
def F.disk_Disk_Capacity.plan : Plan := (seq leaf (seq (seq leaf (cond (seq leaf leaf) leaf)) (seq leaf leaf)))
theorem F.disk_Disk_Capacity.lift : LiftOk Tryz.prog 57 (ap1 F.disk_Disk_Capacity) :=
  lift1 (g := evFn Tryz.prog tnil tnil 57 Tryz.f57 F.disk_Disk_Capacity.plan) (evFn_sound tnil_ok tnil_ok Tryz.func57 (by kernel_rfl)) (fun x0 => by kernel_rfl)

/-- (*granary/granaryref1.Disk).Capacity -/
noncomputable def F.granaryref1_Disk_Capacity (a0 : Value) : M Value :=
  bindO (eqV (EqSh.one EqK.ptr) a0 (Value.pointer none)) fun x1 =>
  condM x1 (
    M.ret (Value.int IntKind.i64 0)) (
    bindO (nilChk a0) fun x2 =>
    bindO (fieldA 0 x2) fun x3 =>
    M.bind (rdM (ld1 x3)) fun x4 =>
    M.ret x4)
def F.granaryref1_Disk_Capacity.plan : Plan := (seq leaf (seq (seq leaf (cond (seq leaf leaf) leaf)) (seq leaf leaf)))
theorem F.granaryref1_Disk_Capacity.lift : LiftOk Tryz.prog 58 (ap1 F.granaryref1_Disk_Capacity) :=
  lift1 (g := evFn Tryz.prog tnil tnil 58 Tryz.f58 F.granaryref1_Disk_Capacity.plan) (evFn_sound tnil_ok tnil_ok Tryz.func58 (by kernel_rfl)) (fun x0 => by kernel_rfl)

/-- (*granary/disk.Disk).Acts -/
noncomputable def F.disk_Disk_Acts (a0 : Value) : M Value :=
  bindO (eqV (EqSh.one EqK.ptr) a0 (Value.pointer none)) fun x1 =>
  condM x1 (
    M.ret (Value.int IntKind.i64 0)) (
    bindO (nilChk a0) fun x2 =>
    bindO (fieldA 1 x2) fun x3 =>
    M.bind (rdM (ld1 x3)) fun x4 =>
    M.ret x4)
def F.disk_Disk_Acts.plan : Plan := (seq leaf (seq (seq leaf (cond (seq leaf leaf) leaf)) (seq leaf leaf)))
theorem F.disk_Disk_Acts.lift : LiftOk Tryz.prog 59 (ap1 F.disk_Disk_Acts) :=
  lift1 (g := evFn Tryz.prog tnil tnil 59 Tryz.f59 F.disk_Disk_Acts.plan) (evFn_sound tnil_ok tnil_ok Tryz.func59 (by kernel_rfl)) (fun x0 => by kernel_rfl)

/-- (*granary/granaryref1.Disk).Acts -/
noncomputable def F.granaryref1_Disk_Acts (a0 : Value) : M Value :=
  bindO (eqV (EqSh.one EqK.ptr) a0 (Value.pointer none)) fun x1 =>
  condM x1 (
    M.ret (Value.int IntKind.i64 0)) (
    bindO (nilChk a0) fun x2 =>
    bindO (fieldA 1 x2) fun x3 =>
    M.bind (rdM (ld1 x3)) fun x4 =>
    M.ret x4)
def F.granaryref1_Disk_Acts.plan : Plan := (seq leaf (seq (seq leaf (cond (seq leaf leaf) leaf)) (seq leaf leaf)))
theorem F.granaryref1_Disk_Acts.lift : LiftOk Tryz.prog 60 (ap1 F.granaryref1_Disk_Acts) :=
  lift1 (g := evFn Tryz.prog tnil tnil 60 Tryz.f60 F.granaryref1_Disk_Acts.plan) (evFn_sound tnil_ok tnil_ok Tryz.func60 (by kernel_rfl)) (fun x0 => by kernel_rfl)

/-- (*granary/disk.Disk).Reads -/
noncomputable def F.disk_Disk_Reads (a0 : Value) : M Value :=
  bindO (eqV (EqSh.one EqK.ptr) a0 (Value.pointer none)) fun x1 =>
  condM x1 (
    M.ret (Value.int IntKind.i64 0)) (
    bindO (nilChk a0) fun x2 =>
    bindO (fieldA 2 x2) fun x3 =>
    M.bind (rdM (ld1 x3)) fun x4 =>
    M.ret x4)
def F.disk_Disk_Reads.plan : Plan := (seq leaf (seq (seq leaf (cond (seq leaf leaf) leaf)) (seq leaf leaf)))
theorem F.disk_Disk_Reads.lift : LiftOk Tryz.prog 61 (ap1 F.disk_Disk_Reads) :=
  lift1 (g := evFn Tryz.prog tnil tnil 61 Tryz.f61 F.disk_Disk_Reads.plan) (evFn_sound tnil_ok tnil_ok Tryz.func61 (by kernel_rfl)) (fun x0 => by kernel_rfl)

/-- (*granary/granaryref1.Disk).Reads -/
noncomputable def F.granaryref1_Disk_Reads (a0 : Value) : M Value :=
  bindO (eqV (EqSh.one EqK.ptr) a0 (Value.pointer none)) fun x1 =>
  condM x1 (
    M.ret (Value.int IntKind.i64 0)) (
    bindO (nilChk a0) fun x2 =>
    bindO (fieldA 2 x2) fun x3 =>
    M.bind (rdM (ld1 x3)) fun x4 =>
    M.ret x4)
def F.granaryref1_Disk_Reads.plan : Plan := (seq leaf (seq (seq leaf (cond (seq leaf leaf) leaf)) (seq leaf leaf)))
theorem F.granaryref1_Disk_Reads.lift : LiftOk Tryz.prog 62 (ap1 F.granaryref1_Disk_Reads) :=
  lift1 (g := evFn Tryz.prog tnil tnil 62 Tryz.f62 F.granaryref1_Disk_Reads.plan) (evFn_sound tnil_ok tnil_ok Tryz.func62 (by kernel_rfl)) (fun x0 => by kernel_rfl)

/-- (*granary/disk.Disk).Pending -/
noncomputable def F.disk_Disk_Pending (a0 : Value) : M Value :=
  bindO (eqV (EqSh.one EqK.ptr) a0 (Value.pointer none)) fun x1 =>
  condM x1 (
    M.ret (Value.int IntKind.i64 0)) (
    bindO (nilChk a0) fun x2 =>
    bindO (fieldA 9 x2) fun x3 =>
    M.bind (rdM (ld1 x3)) fun x4 =>
    bindO (lenL x4) fun x5 =>
    M.ret x5)
def F.disk_Disk_Pending.plan : Plan := (seq leaf (seq (seq leaf (cond (seq leaf leaf) leaf)) (seq leaf leaf)))
theorem F.disk_Disk_Pending.lift : LiftOk Tryz.prog 63 (ap1 F.disk_Disk_Pending) :=
  lift1 (g := evFn Tryz.prog tnil tnil 63 Tryz.f63 F.disk_Disk_Pending.plan) (evFn_sound tnil_ok tnil_ok Tryz.func63 (by kernel_rfl)) (fun x0 => by kernel_rfl)

/-- (*granary/granaryref1.Disk).Pending -/
noncomputable def F.granaryref1_Disk_Pending (a0 : Value) : M Value :=
  bindO (eqV (EqSh.one EqK.ptr) a0 (Value.pointer none)) fun x1 =>
  condM x1 (
    M.ret (Value.int IntKind.i64 0)) (
    bindO (nilChk a0) fun x2 =>
    bindO (fieldA 6 x2) fun x3 =>
    M.bind (rdM (ld1 x3)) fun x4 =>
    bindO (lenL x4) fun x5 =>
    M.ret x5)
def F.granaryref1_Disk_Pending.plan : Plan := (seq leaf (seq (seq leaf (cond (seq leaf leaf) leaf)) (seq leaf leaf)))
theorem F.granaryref1_Disk_Pending.lift : LiftOk Tryz.prog 64 (ap1 F.granaryref1_Disk_Pending) :=
  lift1 (g := evFn Tryz.prog tnil tnil 64 Tryz.f64 F.granaryref1_Disk_Pending.plan) (evFn_sound tnil_ok tnil_ok Tryz.func64 (by kernel_rfl)) (fun x0 => by kernel_rfl)

/-- (*granary/disk.Disk).Down -/
noncomputable def F.disk_Disk_Down (a0 : Value) : M Value :=
  bindO (neV (EqSh.one EqK.ptr) a0 (Value.pointer none)) fun x1 =>
  M.bind (guardM x1 true (M.ret a0)) fun x2 =>
  M.bind (guardM x1 true (optM (nilChk x2))) fun x3 =>
  M.bind (guardM x1 true (optM (fieldA 5 x3))) fun x4 =>
  M.bind (guardM x1 true (rdM (ld1 x4))) fun x5 =>
  bindO (pickV x1 x5 (Value.bool false)) fun x6 =>
  M.ret x6
def F.disk_Disk_Down.plan : Plan := (seq leaf (seq leaf leaf))
theorem F.disk_Disk_Down.lift : LiftOk Tryz.prog 65 (ap1 F.disk_Disk_Down) :=
  lift1 (g := evFn Tryz.prog tnil tnil 65 Tryz.f65 F.disk_Disk_Down.plan) (evFn_sound tnil_ok tnil_ok Tryz.func65 (by kernel_rfl)) (fun x0 => by kernel_rfl)

/-- (*granary/granaryref1.Disk).Down -/
noncomputable def F.granaryref1_Disk_Down (a0 : Value) : M Value :=
  bindO (eqV (EqSh.one EqK.ptr) a0 (Value.pointer none)) fun x1 =>
  condM x1 (
    M.ret (Value.bool false)) (
    bindO (nilChk a0) fun x2 =>
    bindO (fieldA 4 x2) fun x3 =>
    M.bind (rdM (ld1 x3)) fun x4 =>
    M.ret x4)
def F.granaryref1_Disk_Down.plan : Plan := (seq leaf (seq (seq leaf (cond (seq leaf leaf) leaf)) (seq leaf leaf)))
theorem F.granaryref1_Disk_Down.lift : LiftOk Tryz.prog 66 (ap1 F.granaryref1_Disk_Down) :=
  lift1 (g := evFn Tryz.prog tnil tnil 66 Tryz.f66 F.granaryref1_Disk_Down.plan) (evFn_sound tnil_ok tnil_ok Tryz.func66 (by kernel_rfl)) (fun x0 => by kernel_rfl)

/-- (*granary/granarylaw1.bench).counts -/
noncomputable def F.granarylaw1_bench_counts (a0 a1 : Value) : M Value :=
  M.bind (newM 35 (Value.cells a1)) fun x1 =>
  drewM <|
  bindO (fieldA 1 x1) fun x2 =>
  M.bind (rdM (ld1 x2)) fun x3 =>
  M.bind (F.granarylaw1_place x3) fun x4 =>
  bindO (nilChk a0) fun x5 =>
  bindO (fieldA 0 x5) fun x6 =>
  bindO (idxR 2 1 x6 x4) fun x7 =>
  M.bind (rdM (ld1 x7)) fun x8 =>
  drewM <|
  bindO (fieldA 1 x1) fun x9 =>
  M.bind (rdM (ld1 x9)) fun x10 =>
  M.bind (F.granarylaw1_place x10) fun x11 =>
  bindO (nilChk a0) fun x12 =>
  bindO (fieldA 2 x12) fun x13 =>
  bindO (idxR 2 1 x13 x11) fun x14 =>
  M.bind (rdM (ld1 x14)) fun x15 =>
  bindO (fieldA 0 x1) fun x16 =>
  M.bind (rdM (ld1 x16)) fun x17 =>
  bindO (binV BinOp.eql x17 (Value.int IntKind.i64 14)) fun x18 =>
  condM x18 (
    M.bind (F.disk_Disk_Used x8) fun x19 =>
    M.bind (F.granaryref1_Disk_Used x15) fun x20 =>
    bindO (binV BinOp.eql x19 x20) fun x21 =>
    M.ret x21) (
    bindO (binV BinOp.eql x17 (Value.int IntKind.i64 15)) fun x22 =>
    condM x22 (
      M.bind (F.disk_Disk_Capacity x8) fun x23 =>
      M.bind (F.granaryref1_Disk_Capacity x15) fun x24 =>
      bindO (binV BinOp.eql x23 x24) fun x25 =>
      M.ret x25) (
      bindO (binV BinOp.eql x17 (Value.int IntKind.i64 16)) fun x26 =>
      condM x26 (
        M.bind (F.disk_Disk_Acts x8) fun x27 =>
        M.bind (F.granaryref1_Disk_Acts x15) fun x28 =>
        bindO (binV BinOp.eql x27 x28) fun x29 =>
        M.ret x29) (
        bindO (binV BinOp.eql x17 (Value.int IntKind.i64 17)) fun x30 =>
        condM x30 (
          M.bind (F.disk_Disk_Reads x8) fun x31 =>
          M.bind (F.granaryref1_Disk_Reads x15) fun x32 =>
          bindO (binV BinOp.eql x31 x32) fun x33 =>
          M.ret x33) (
          bindO (binV BinOp.eql x17 (Value.int IntKind.i64 18)) fun x34 =>
          condM x34 (
            M.bind (F.disk_Disk_Pending x8) fun x35 =>
            M.bind (F.granaryref1_Disk_Pending x15) fun x36 =>
            bindO (binV BinOp.eql x35 x36) fun x37 =>
            M.ret x37) (
            M.bind (F.disk_Disk_Down x8) fun x38 =>
            M.bind (F.granaryref1_Disk_Down x15) fun x39 =>
            bindO (eqV (EqSh.one EqK.bool) x38 x39) fun x40 =>
            M.ret x40)))))
def F.granarylaw1_bench_counts.plan : Plan := (seq leaf (seq leaf (seq leaf (seq (seq leaf (body (seq leaf (cond (seq leaf leaf) (seq leaf (cond (seq leaf leaf) (seq leaf (cond (seq leaf leaf) (seq leaf (cond (seq leaf leaf) (seq leaf (cond (seq leaf leaf) leaf)))))))))))) (seq leaf leaf)))))
theorem F.granarylaw1_bench_counts.lift : LiftOk Tryz.prog 17 (ap2 F.granarylaw1_bench_counts) :=
  lift2 (g := evFn Tryz.prog (tcons 20 (ap1 F.granarylaw1_place) (tcons 55 (ap1 F.disk_Disk_Used) (tcons 56 (ap1 F.granaryref1_Disk_Used) (tcons 57 (ap1 F.disk_Disk_Capacity) (tcons 58 (ap1 F.granaryref1_Disk_Capacity) (tcons 59 (ap1 F.disk_Disk_Acts) (tcons 60 (ap1 F.granaryref1_Disk_Acts) (tcons 61 (ap1 F.disk_Disk_Reads) (tcons 62 (ap1 F.granaryref1_Disk_Reads) (tcons 63 (ap1 F.disk_Disk_Pending) (tcons 64 (ap1 F.granaryref1_Disk_Pending) (tcons 65 (ap1 F.disk_Disk_Down) (tcons 66 (ap1 F.granaryref1_Disk_Down) tnil))))))))))))) tnil 17 Tryz.f17 F.granarylaw1_bench_counts.plan) (evFn_sound (tcons_ok F.granarylaw1_place.lift (tcons_ok F.disk_Disk_Used.lift (tcons_ok F.granaryref1_Disk_Used.lift (tcons_ok F.disk_Disk_Capacity.lift (tcons_ok F.granaryref1_Disk_Capacity.lift (tcons_ok F.disk_Disk_Acts.lift (tcons_ok F.granaryref1_Disk_Acts.lift (tcons_ok F.disk_Disk_Reads.lift (tcons_ok F.granaryref1_Disk_Reads.lift (tcons_ok F.disk_Disk_Pending.lift (tcons_ok F.granaryref1_Disk_Pending.lift (tcons_ok F.disk_Disk_Down.lift (tcons_ok F.granaryref1_Disk_Down.lift tnil_ok))))))))))))) tnil_ok Tryz.func17 (by kernel_rfl)) (fun x0 x1 => by kernel_rfl)

/-- (*granary/disk.Disk).Arm -/
noncomputable def F.disk_Disk_Arm (a0 a1 : Value) : M Value :=
  M.bind (F.disk_Disk_ready a0) fun x1 =>
  bindO (binV BinOp.neq x1 (Value.int IntKind.i64 0)) fun x2 =>
  condM x2 (
    M.ret x1) (
    bindO (binV BinOp.geq a1 (Value.int IntKind.i64 0)) fun x3 =>
    bindO (nilChk a0) fun x4 =>
    bindO (fieldA 3 x4) fun x5 =>
    M.bind (stM 1 x5 x3) fun _ =>
    bindO (nilChk a0) fun x7 =>
    bindO (fieldA 4 x7) fun x8 =>
    M.bind (stM 1 x8 a1) fun _ =>
    M.ret (Value.int IntKind.i64 0))
def F.disk_Disk_Arm.plan : Plan := (seq leaf (seq (seq leaf (seq leaf (cond (seq leaf leaf) leaf))) (seq leaf (seq leaf (seq leaf leaf)))))
theorem F.disk_Disk_Arm.lift : LiftOk Tryz.prog 67 (ap2 F.disk_Disk_Arm) :=
  lift2 (g := evFn Tryz.prog (tcons 85 (ap1 F.disk_Disk_ready) tnil) tnil 67 Tryz.f67 F.disk_Disk_Arm.plan) (evFn_sound (tcons_ok F.disk_Disk_ready.lift tnil_ok) tnil_ok Tryz.func67 (by kernel_rfl)) (fun x0 x1 => by kernel_rfl)

/-- (*granary/granaryref1.Disk).Arm -/
noncomputable def F.granaryref1_Disk_Arm (a0 a1 : Value) : M Value :=
  bindO (eqV (EqSh.one EqK.ptr) a0 (Value.pointer none)) fun x1 =>
  condM x1 (
    M.ret (Value.int IntKind.i64 2)) (
    bindO (nilChk a0) fun x2 =>
    bindO (fieldA 4 x2) fun x3 =>
    M.bind (rdM (ld1 x3)) fun x4 =>
    condM x4 (
      M.ret (Value.int IntKind.i64 10)) (
      bindO (nilChk a0) fun x5 =>
      bindO (fieldA 3 x5) fun x6 =>
      M.bind (stM 1 x6 a1) fun _ =>
      M.bind (
        bindO (binV BinOp.lss a1 (Value.int IntKind.i64 0)) fun x8 =>
        condM x8 (
          bindO (nilChk a0) fun x9 =>
          bindO (fieldA 3 x9) fun x10 =>
          M.bind (stM 1 x10 (Value.int IntKind.i64 (-1))) fun _ =>
          M.ret (Out.norm [])) (
          M.ret (Out.norm []))) fun o13 =>
      outK o13 (fun _ =>
        M.ret (Value.int IntKind.i64 0)) (fun _ _ =>
        M.fail) (fun r15 => M.ret r15)))
def F.granaryref1_Disk_Arm.plan : Plan := (seq leaf (seq (seq leaf (cond (seq leaf leaf) leaf)) (seq (seq leaf (cond (seq leaf leaf) leaf)) (seq leaf (fork [] [15, 16, 17, 18, 19] [] (seq leaf (cond leaf leaf)) (seq leaf leaf))))))
theorem F.granaryref1_Disk_Arm.lift : LiftOk Tryz.prog 68 (ap2 F.granaryref1_Disk_Arm) :=
  lift2 (g := evFn Tryz.prog tnil tnil 68 Tryz.f68 F.granaryref1_Disk_Arm.plan) (evFn_sound tnil_ok tnil_ok Tryz.func68 (by kernel_rfl)) (fun x0 x1 => by kernel_rfl)

/-- slices.Clone[[]granary/disk.change,granary/disk.change] -/
noncomputable def F.disk_change (a0 : Value) : M Value :=
  bindO (eqV (EqSh.one EqK.sl) a0 (Value.slice none 0 0)) fun x1 =>
  condM x1 (
    M.ret (Value.slice none 0 0)) (
    M.bind (bslM 141 0 (Builtin.zeroCells #[(Value.int IntKind.i64 0), (Value.int IntKind.i64 0), (Value.string ByteArray.empty), (Value.int IntKind.i64 0), (Value.string ByteArray.empty), (Value.string ByteArray.empty), (Value.int IntKind.i64 0)] 0) []) fun x2 =>
    M.bind (appM 141 7 80 #[(Value.int IntKind.i64 0), (Value.int IntKind.i64 0), (Value.string ByteArray.empty), (Value.int IntKind.i64 0), (Value.string ByteArray.empty), (Value.string ByteArray.empty), (Value.int IntKind.i64 0)] x2 a0) fun x3 =>
    M.ret x3)
def F.disk_change.plan : Plan := (seq leaf (seq (seq leaf (cond (seq leaf leaf) leaf)) (seq leaf leaf)))
theorem F.disk_change.lift : LiftOk Tryz.prog 98 (ap1 F.disk_change) :=
  lift1 (g := evFn Tryz.prog tnil tnil 98 Tryz.f98 F.disk_change.plan) (evFn_sound tnil_ok tnil_ok Tryz.func98 (by kernel_rfl)) (fun x0 => by kernel_rfl)

/-- (*granary/disk.Disk).restart -/
noncomputable def F.disk_Disk_restart (a0 : Value) : M Value :=
  bindO (nilChk a0) fun x1 =>
  bindO (fieldA 8 x1) fun x2 =>
  M.bind (rdM (ld1 x2)) fun x3 =>
  bindO (nilChk a0) fun x4 =>
  bindO (fieldA 9 x4) fun x5 =>
  M.bind (stM 1 x5 (Value.slice none 0 0)) fun _ =>
  bindO (nilChk a0) fun x7 =>
  bindO (fieldA 3 x7) fun x8 =>
  M.bind (stM 1 x8 (Value.bool false)) fun _ =>
  bindO (nilChk a0) fun x10 =>
  bindO (fieldA 5 x10) fun x11 =>
  M.bind (stM 1 x11 (Value.bool false)) fun _ =>
  M.bind (mkmM) fun x13 =>
  M.bind (mkmM) fun x14 =>
  bindO (nilChk a0) fun x15 =>
  bindO (fieldA 7 x15) fun x16 =>
  M.bind (stM 1 x16 x13) fun _ =>
  bindO (nilChk a0) fun x18 =>
  bindO (fieldA 8 x18) fun x19 =>
  M.bind (stM 1 x19 x14) fun _ =>
  M.bind (bslM 3 1 (Builtin.zeroCells #[(Value.int IntKind.i64 0)] 1) [(0, 1, (Value.int IntKind.i64 0))]) fun x21 =>
  M.bind (loopM (fun l22 =>
    bindO (lenL (getL l22 0)) fun x23 =>
    bindO (binV BinOp.gtr x23 (Value.int IntKind.i64 0)) fun x24 =>
    condM x24 (
      bindO (idxA 1 (getL l22 0) (Value.int IntKind.i64 0)) fun x25 =>
      M.bind (rdM (ld1 x25)) fun x26 =>
      bindO (sliceV 1 (getL l22 0) (some (Value.int IntKind.i64 1)) none) fun x27 =>
      M.bind (rngM x3) fun x28 =>
      M.bind (loopM (fun l29 =>
        M.bind (nxtM x28) fun x30 =>
        bindO (extV 0 x30) fun x31 =>
        condM x31 (
          M.bind (rdM (entV x28)) fun x32 =>
          bindO (extV 0 x32) fun x33 =>
          bindO (extV 1 x32) fun x34 =>
          M.bind (newM 83 #[(Value.int IntKind.i64 0), (Value.string ByteArray.empty)]) fun x35 =>
          M.bind (stM 2 x35 x33) fun _ =>
          bindO (fieldA 0 x35) fun x37 =>
          M.bind (rdM (ld1 x37)) fun x38 =>
          bindO (binV BinOp.neq x38 x26) fun x39 =>
          condM x39 (
            M.ret (Out.norm [(getL l29 0)])) (
            drewM <|
            getM fun _ =>
            bindO (nilChk a0) fun x41 =>
            bindO (fieldA 7 x41) fun x42 =>
            M.bind (rdM (ld1 x42)) fun x43 =>
            M.bind (rdM (ldA 2 x35)) fun x44 =>
            bindO (nilChk a0) fun x45 =>
            bindO (fieldA 8 x45) fun x46 =>
            M.bind (rdM (ld1 x46)) fun x47 =>
            M.bind (rdM (ldA 2 x35)) fun x48 =>
            M.bind (mentM Tryz.prog 83 (EqSh.offs [(EqK.int, 0), (EqK.str, 1)]) (Value.int IntKind.i64 0) x43 x44) fun x49 =>
            getM fun W50 =>
            bindO (extV 1 x49) fun x51 =>
            M.bind (estM x43 x51 x34) fun _ =>
            getM fun W53 =>
            M.bind (mentM Tryz.prog 83 (EqSh.offs [(EqK.int, 0), (EqK.str, 1)]) (Value.int IntKind.i64 0) x47 x48) fun x54 =>
            getM fun _ =>
            bindO (extV 1 x54) fun x56 =>
            M.bind (estM x47 x56 x34) fun _ =>
            getM fun _ =>
            reqM (ldA 2 x35 W50 = some x48) <|
            reqM (ldA 2 x35 W53 = some x48) <|
            drewM <|
            bindO (nilChk a0) fun x59 =>
            bindO (fieldA 6 x59) fun x60 =>
            M.bind (rdM (ld1 x60)) fun x61 =>
            bindO (nilChk a0) fun x62 =>
            bindO (fieldA 6 x62) fun x63 =>
            M.bind (rdM (ld1 x63)) fun x64 =>
            bindO (idxA 3 x64 x34) fun x65 =>
            bindO (fieldA 2 x65) fun x66 =>
            M.bind (rdM (ld1 x66)) fun x67 =>
            bindO (idxA 3 x61 x34) fun x68 =>
            bindO (fieldA 1 x68) fun x69 =>
            M.bind (stM 1 x69 x67) fun _ =>
            bindO (nilChk a0) fun x71 =>
            bindO (fieldA 6 x71) fun x72 =>
            M.bind (rdM (ld1 x72)) fun x73 =>
            bindO (idxA 3 x73 x34) fun x74 =>
            bindO (fieldA 0 x74) fun x75 =>
            M.bind (rdM (ld1 x75)) fun x76 =>
            bindO (binV BinOp.eql x76 (Value.int IntKind.i64 1)) fun x77 =>
            condM x77 (
              M.bind (bslM 3 1 (Builtin.zeroCells #[(Value.int IntKind.i64 0)] 1) [(0, 1, x34)]) fun x78 =>
              M.bind (appM 3 1 8 #[(Value.int IntKind.i64 0)] (getL l29 0) x78) fun x79 =>
              M.ret (Out.norm [x79])) (
              M.ret (Out.norm [(getL l29 0)])))) (
          M.ret (Out.exit 2 [(getL l29 0)]))) [x27]) fun o81 =>
      outK o81 (fun _ => M.fail) (fun k82 l80 =>
        bif Nat.beq k82 2 then (
          M.ret (Out.norm [(getL l80 0)])) else
        M.fail) (fun r83 => M.ret (Out.ret r83))) (
      M.ret (Out.exit 0 [(getL l22 0)]))) [x21]) fun o85 =>
  outK o85 (fun _ => M.fail) (fun k86 _ =>
    bif Nat.beq k86 0 then (
      M.ret (Value.tuple #[])) else
    M.fail) (fun r87 => M.ret r87)
def F.disk_Disk_restart.plan : Plan := (seq leaf (seq leaf (seq leaf (seq leaf (body (loop [3] [3, 4, 5, 6, 29, 30, 31, 32, 33, 34, 35, 36, 37, 38, 39, 40, 41, 42, 43, 44, 45, 46, 47, 48, 49, 50, 51, 52, 53, 54, 55, 56, 57, 58, 59, 60, 61, 62, 63, 64, 65, 66, 67, 68, 69, 70, 71, 72, 73, 74, 75, 76, 77, 78, 79, 80, 81, 82, 83, 84, 85, 86, 87, 88, 89, 90, 91] [0] (seq (seq leaf (cond leaf leaf)) (body (seq leaf (seq leaf (seq leaf (body (loop [3] [3, 5, 6, 39, 40, 41, 42, 43, 44, 45, 46, 47, 48, 49, 50, 51, 52, 53, 54, 55, 56, 57, 58, 59, 60, 61, 62, 63, 64, 65, 66, 67, 68, 69, 70, 71, 72, 73, 74, 75, 76, 77, 78, 79, 80, 81, 82, 83, 84, 85, 86, 87, 88, 89, 90, 91] [2] (seq leaf (seq (cond leaf leaf) (body (seq leaf (seq (seq leaf (cond leaf leaf)) (seq leaf (seq leaf (seq leaf (cond leaf leaf))))))))))))))))))))))
theorem F.disk_Disk_restart.lift : LiftOk Tryz.prog 100 (ap1 F.disk_Disk_restart) :=
  lift1 (g := evFn Tryz.prog tnil tnil 100 Tryz.f100 F.disk_Disk_restart.plan) (evFn_sound tnil_ok tnil_ok Tryz.func100 (by kernel_rfl)) (fun x0 => by kernel_rfl)

/-- (*granary/disk.Disk).Crash -/
noncomputable def F.disk_Disk_Crash (a0 a1 a2 : Value) : M Value :=
  bindO (eqV (EqSh.one EqK.ptr) a0 (Value.pointer none)) fun x1 =>
  condM x1 (
    M.ret (Value.int IntKind.i64 0)) (
    bindO (nilChk a0) fun x2 =>
    bindO (fieldA 9 x2) fun x3 =>
    M.bind (rdM (ld1 x3)) fun x4 =>
    bindO (lenL x4) fun x5 =>
    M.bind (optM (minV a1 x5)) fun x6 =>
    M.bind (optM (maxV (Value.int IntKind.i64 0) x6)) fun x7 =>
    drewM <|
    bindO (nilChk a0) fun x8 =>
    bindO (fieldA 9 x8) fun x9 =>
    M.bind (rdM (ld1 x9)) fun x10 =>
    bindO (sliceV 7 x10 none (some x7)) fun x11 =>
    bindO (nilChk a0) fun x12 =>
    bindO (fieldA 9 x12) fun x13 =>
    M.bind (rdM (ld1 x13)) fun x14 =>
    bindO (lenL x14) fun x15 =>
    bindO (binV BinOp.sub x15 x7) fun x16 =>
    M.bind (
      bindO (binV BinOp.gtr x16 (Value.int IntKind.i64 0)) fun x17 =>
      M.bind (guardM x17 true (M.ret a0)) fun x18 =>
      M.bind (guardM x17 true (optM (nilChk x18))) fun x19 =>
      M.bind (guardM x17 true (optM (fieldA 9 x19))) fun x20 =>
      M.bind (guardM x17 true (rdM (ld1 x20))) fun x21 =>
      M.bind (guardM x17 true (M.ret x7)) fun x22 =>
      M.bind (guardM x17 true (optM (idxA 7 x21 x22))) fun x23 =>
      M.bind (guardM x17 true (optM (fieldA 0 x23))) fun x24 =>
      M.bind (guardM x17 true (rdM (ld1 x24))) fun x25 =>
      M.bind (guardM x17 true (optM (binV BinOp.eql x25 (Value.int IntKind.i64 0)))) fun x26 =>
      bindO (pickV x17 x26 (Value.bool false)) fun x27 =>
      condM x27 (
        bindO (nilChk a0) fun x28 =>
        bindO (fieldA 9 x28) fun x29 =>
        M.bind (rdM (ld1 x29)) fun x30 =>
        bindO (idxA 7 x30 x7) fun x31 =>
        M.bind (rdM (ldA 7 x31)) fun x32 =>
        M.bind (newM 141 #[(Value.int IntKind.i64 0), (Value.int IntKind.i64 0), (Value.string ByteArray.empty), (Value.int IntKind.i64 0), (Value.string ByteArray.empty), (Value.string ByteArray.empty), (Value.int IntKind.i64 0)]) fun x33 =>
        M.bind (stM 7 x33 x32) fun _ =>
        bindO (fieldA 2 x33) fun x35 =>
        M.bind (rdM (ld1 x35)) fun x36 =>
        bindO (fieldA 2 x33) fun x37 =>
        M.bind (rdM (ld1 x37)) fun x38 =>
        bindO (lenS x38) fun x39 =>
        M.bind (optM (minV a2 x39)) fun x40 =>
        M.bind (optM (maxV (Value.int IntKind.i64 0) x40)) fun x41 =>
        bindO (sliceS x36 none (some x41)) fun x42 =>
        bindO (fieldA 2 x33) fun x43 =>
        M.bind (stM 1 x43 x42) fun _ =>
        M.bind (altM (ordO Tryz.prog (regOps Tryz.f69 8) 69 8) [
          ([1, 3, 4],
            getM fun W46 =>
            M.bind (F.disk_change x11) fun x47 =>
            getM fun _ =>
            M.bind (rdM (ldA 7 x33)) fun x49 =>
            M.bind (bslM 141 1 (Builtin.zeroCells #[(Value.int IntKind.i64 0), (Value.int IntKind.i64 0), (Value.string ByteArray.empty), (Value.int IntKind.i64 0), (Value.string ByteArray.empty), (Value.string ByteArray.empty), (Value.int IntKind.i64 0)] 1) [(0, 7, x49)]) fun x50 =>
            getM fun _ =>
            M.bind (appM 141 7 80 #[(Value.int IntKind.i64 0), (Value.int IntKind.i64 0), (Value.string ByteArray.empty), (Value.int IntKind.i64 0), (Value.string ByteArray.empty), (Value.string ByteArray.empty), (Value.int IntKind.i64 0)] x47 x50) fun x52 =>
            getM fun _ =>
            reqM (ldA 7 x33 W46 = some x49) <|
            M.ret [x52]),
          ([3, 1, 4],
            M.bind (rdM (ldA 7 x33)) fun x54 =>
            M.bind (bslM 141 1 (Builtin.zeroCells #[(Value.int IntKind.i64 0), (Value.int IntKind.i64 0), (Value.string ByteArray.empty), (Value.int IntKind.i64 0), (Value.string ByteArray.empty), (Value.string ByteArray.empty), (Value.int IntKind.i64 0)] 1) [(0, 7, x54)]) fun x55 =>
            M.bind (F.disk_change x11) fun x56 =>
            M.bind (appM 141 7 80 #[(Value.int IntKind.i64 0), (Value.int IntKind.i64 0), (Value.string ByteArray.empty), (Value.int IntKind.i64 0), (Value.string ByteArray.empty), (Value.string ByteArray.empty), (Value.int IntKind.i64 0)] x56 x55) fun x57 =>
            M.ret [x57])]) fun l45 =>
        M.ret (Out.norm [(getL l45 0)])) (
        M.ret (Out.norm [x11]))) fun o59 =>
    outK o59 (fun l58 =>
      bindO (lenL (getL l58 0)) fun x62 =>
      M.bind (loopM (fun l63 =>
        bindO (binV BinOp.lss (getL l63 0) x62) fun x64 =>
        condM x64 (
          bindO (idxA 7 (getL l58 0) (getL l63 0)) fun x65 =>
          M.bind (rdM (ldA 7 x65)) fun x66 =>
          M.bind (newM 141 #[(Value.int IntKind.i64 0), (Value.int IntKind.i64 0), (Value.string ByteArray.empty), (Value.int IntKind.i64 0), (Value.string ByteArray.empty), (Value.string ByteArray.empty), (Value.int IntKind.i64 0)]) fun x67 =>
          M.bind (stM 7 x67 x66) fun _ =>
          drewM <|
          bindO (nilChk a0) fun x69 =>
          bindO (fieldA 6 x69) fun x70 =>
          M.bind (rdM (ld1 x70)) fun x71 =>
          bindO (fieldA 1 x67) fun x72 =>
          M.bind (rdM (ld1 x72)) fun x73 =>
          bindO (idxA 3 x71 x73) fun x74 =>
          drewM <|
          M.bind (rdM (ldA 7 x67)) fun x75 =>
          bindO (nilChk x74) fun x76 =>
          bindO (fieldA 2 x76) fun x77 =>
          M.bind (rdM (ld1 x77)) fun x78 =>
          bindO (nilChk a0) fun x79 =>
          bindO (fieldA 8 x79) fun x80 =>
          M.bind (rdM (ld1 x80)) fun x81 =>
          M.bind (F.disk_apply x75 x78 x81) fun x82 =>
          bindO (nilChk x74) fun x83 =>
          bindO (fieldA 2 x83) fun x84 =>
          M.bind (stM 1 x84 x82) fun _ =>
          bindO (binV BinOp.add (getL l63 0) (Value.int IntKind.i64 1)) fun x86 =>
          M.ret (Out.norm [x86])) (
          M.ret (Out.exit 0 [(getL l63 0)]))) [(Value.int IntKind.i64 0)]) fun o88 =>
      outK o88 (fun _ => M.fail) (fun k89 _ =>
        bif Nat.beq k89 0 then (
          M.bind (F.disk_Disk_restart a0) fun _ =>
          M.ret x16) else
        M.fail) (fun r90 => M.ret r90)) (fun _ _ =>
      M.fail) (fun r61 => M.ret r61))
def F.disk_Disk_Crash.plan : Plan := (seq leaf (seq (seq leaf (cond (seq leaf leaf) leaf)) (seq leaf (seq leaf (fork [7] [7, 9, 36, 37, 38, 39, 40, 41, 42, 43, 44, 45, 46, 47, 48, 49, 50, 51, 52, 53, 54, 55, 56, 57, 58, 59, 60, 61, 62, 63, 64, 65, 66, 67, 68, 69, 70] [] (seq leaf (cond (seq leaf (seq leaf (alts [7] [7, 66, 67, 68, 69, 70] [[0, 1, 2, 3, 4, 5], [0, 2, 3, 1, 4, 5]]))) leaf)) (seq (seq leaf (body (loop [73] [11, 12, 73, 74, 75, 76, 77, 78, 79, 80, 81, 82, 83, 84, 85, 86, 87, 88, 89, 90, 91, 92, 93, 94, 95, 96, 97] [0] (seq leaf (seq (cond leaf leaf) (seq (body (seq leaf (seq leaf leaf))) leaf)))))) (seq leaf (seq leaf leaf))))))))
theorem F.disk_Disk_Crash.lift : LiftOk Tryz.prog 69 (ap3 F.disk_Disk_Crash) :=
  lift3 (g := evFn Tryz.prog (tcons 98 (ap1 F.disk_change) (tcons 99 (ap3 F.disk_apply) (tcons 100 (ap1 F.disk_Disk_restart) tnil))) tnil 69 Tryz.f69 F.disk_Disk_Crash.plan) (evFn_sound (tcons_ok F.disk_change.lift (tcons_ok F.disk_apply.lift (tcons_ok F.disk_Disk_restart.lift tnil_ok))) tnil_ok Tryz.func69 (by kernel_rfl)) (fun x0 x1 x2 => by kernel_rfl)

/-- granary/granaryref1.within -/
noncomputable def F.granaryref1_within (a0 a1 : Value) : M Value :=
  bindO (binV BinOp.lss a0 (Value.int IntKind.i64 0)) fun x1 =>
  condM x1 (
    M.ret (Value.int IntKind.i64 0)) (
    bindO (binV BinOp.gtr a0 a1) fun x2 =>
    condM x2 (
      M.ret a1) (
      M.ret a0))
def F.granaryref1_within.plan : Plan := (seq leaf (seq (seq leaf (cond (seq leaf leaf) leaf)) (seq (seq leaf (cond (seq leaf leaf) leaf)) (seq leaf leaf))))
theorem F.granaryref1_within.lift : LiftOk Tryz.prog 101 (ap2 F.granaryref1_within) :=
  lift2 (g := evFn Tryz.prog tnil tnil 101 Tryz.f101 F.granaryref1_within.plan) (evFn_sound tnil_ok tnil_ok Tryz.func101 (by kernel_rfl)) (fun x0 x1 => by kernel_rfl)

/-- (*granary/granaryref1.Disk).Crash -/
noncomputable def F.granaryref1_Disk_Crash (a0 a1 a2 : Value) : M Value :=
  bindO (eqV (EqSh.one EqK.ptr) a0 (Value.pointer none)) fun x1 =>
  condM x1 (
    M.ret (Value.int IntKind.i64 0)) (
    bindO (nilChk a0) fun x2 =>
    bindO (fieldA 6 x2) fun x3 =>
    M.bind (rdM (ld1 x3)) fun x4 =>
    bindO (lenL x4) fun x5 =>
    M.bind (F.granaryref1_within a1 x5) fun x6 =>
    M.bind (loopM (fun l7 =>
      bindO (binV BinOp.lss (getL l7 0) x6) fun x8 =>
      condM x8 (
        bindO (nilChk a0) fun x9 =>
        bindO (fieldA 6 x9) fun x10 =>
        M.bind (rdM (ld1 x10)) fun x11 =>
        bindO (idxA 6 x11 (getL l7 0)) fun x12 =>
        M.bind (rdM (ldA 6 x12)) fun x13 =>
        M.bind (newM 144 #[(Value.int IntKind.i64 0), (Value.int IntKind.i64 0), (Value.int IntKind.i64 0), (Value.string ByteArray.empty), (Value.string ByteArray.empty), (Value.string ByteArray.empty)]) fun x14 =>
        M.bind (stM 6 x14 x13) fun _ =>
        drewM <|
        getM fun _ =>
        bindO (nilChk a0) fun x17 =>
        bindO (fieldA 5 x17) fun x18 =>
        M.bind (rdM (ld1 x18)) fun x19 =>
        bindO (fieldA 0 x14) fun x20 =>
        M.bind (rdM (ld1 x20)) fun x21 =>
        bindO (nilChk a0) fun x22 =>
        bindO (fieldA 5 x22) fun x23 =>
        M.bind (rdM (ld1 x23)) fun x24 =>
        bindO (fieldA 0 x14) fun x25 =>
        M.bind (rdM (ld1 x25)) fun x26 =>
        bindO (idxA 5 x24 x26) fun x27 =>
        bindO (fieldA 3 x27) fun x28 =>
        M.bind (rdM (ldA 2 x28)) fun x29 =>
        M.bind (rdM (ldA 6 x14)) fun x30 =>
        M.bind (F.granaryref1_done x29 x30) fun x31 =>
        getM fun W32 =>
        bindO (idxA 5 x19 x21) fun x33 =>
        bindO (fieldA 3 x33) fun x34 =>
        M.bind (stM 2 x34 x31) fun _ =>
        getM fun _ =>
        reqM (ld1 x18 W32 = some x19) <|
        reqM (ld1 x20 W32 = some x21) <|
        bindO (binV BinOp.add (getL l7 0) (Value.int IntKind.i64 1)) fun x37 =>
        M.ret (Out.norm [x37])) (
        M.ret (Out.exit 0 [(getL l7 0)]))) [(Value.int IntKind.i64 0)]) fun o39 =>
    outK o39 (fun _ => M.fail) (fun k40 _ =>
      bif Nat.beq k40 0 then (
        M.bind (
          bindO (binV BinOp.lss x6 x5) fun x42 =>
          M.bind (guardM x42 true (M.ret a0)) fun x43 =>
          M.bind (guardM x42 true (optM (nilChk x43))) fun x44 =>
          M.bind (guardM x42 true (optM (fieldA 6 x44))) fun x45 =>
          M.bind (guardM x42 true (rdM (ld1 x45))) fun x46 =>
          M.bind (guardM x42 true (M.ret x6)) fun x47 =>
          M.bind (guardM x42 true (optM (idxA 6 x46 x47))) fun x48 =>
          M.bind (guardM x42 true (optM (fieldA 1 x48))) fun x49 =>
          M.bind (guardM x42 true (rdM (ld1 x49))) fun x50 =>
          M.bind (guardM x42 true (optM (binV BinOp.eql x50 (Value.int IntKind.i64 1)))) fun x51 =>
          bindO (pickV x42 x51 (Value.bool false)) fun x52 =>
          condM x52 (
            bindO (nilChk a0) fun x53 =>
            bindO (fieldA 6 x53) fun x54 =>
            M.bind (rdM (ld1 x54)) fun x55 =>
            bindO (idxA 6 x55 x6) fun x56 =>
            M.bind (rdM (ldA 6 x56)) fun x57 =>
            M.bind (newM 144 #[(Value.int IntKind.i64 0), (Value.int IntKind.i64 0), (Value.int IntKind.i64 0), (Value.string ByteArray.empty), (Value.string ByteArray.empty), (Value.string ByteArray.empty)]) fun x58 =>
            M.bind (stM 6 x58 x57) fun _ =>
            bindO (fieldA 5 x58) fun x60 =>
            M.bind (rdM (ld1 x60)) fun x61 =>
            bindO (lenS x61) fun x62 =>
            M.bind (F.granaryref1_within a2 x62) fun x63 =>
            bindO (fieldA 5 x58) fun x64 =>
            M.bind (rdM (ld1 x64)) fun x65 =>
            bindO (sliceS x65 none (some x63)) fun x66 =>
            bindO (fieldA 5 x58) fun x67 =>
            M.bind (stM 1 x67 x66) fun _ =>
            drewM <|
            getM fun _ =>
            bindO (nilChk a0) fun x70 =>
            bindO (fieldA 5 x70) fun x71 =>
            M.bind (rdM (ld1 x71)) fun x72 =>
            bindO (fieldA 0 x58) fun x73 =>
            M.bind (rdM (ld1 x73)) fun x74 =>
            bindO (nilChk a0) fun x75 =>
            bindO (fieldA 5 x75) fun x76 =>
            M.bind (rdM (ld1 x76)) fun x77 =>
            bindO (fieldA 0 x58) fun x78 =>
            M.bind (rdM (ld1 x78)) fun x79 =>
            bindO (idxA 5 x77 x79) fun x80 =>
            bindO (fieldA 3 x80) fun x81 =>
            M.bind (rdM (ldA 2 x81)) fun x82 =>
            M.bind (rdM (ldA 6 x58)) fun x83 =>
            M.bind (F.granaryref1_done x82 x83) fun x84 =>
            getM fun W85 =>
            bindO (idxA 5 x72 x74) fun x86 =>
            bindO (fieldA 3 x86) fun x87 =>
            M.bind (stM 2 x87 x84) fun _ =>
            getM fun _ =>
            reqM (ld1 x71 W85 = some x72) <|
            reqM (ld1 x73 W85 = some x74) <|
            M.ret (Out.norm [])) (
            M.ret (Out.norm []))) fun o91 =>
        outK o91 (fun _ =>
          M.bind (loopM (fun l94 =>
            bindO (nilChk a0) fun x95 =>
            bindO (fieldA 5 x95) fun x96 =>
            M.bind (rdM (ld1 x96)) fun x97 =>
            bindO (lenL x97) fun x98 =>
            bindO (binV BinOp.lss (getL l94 0) x98) fun x99 =>
            condM x99 (
              drewM <|
              bindO (nilChk a0) fun x100 =>
              bindO (fieldA 5 x100) fun x101 =>
              M.bind (rdM (ld1 x101)) fun x102 =>
              bindO (nilChk a0) fun x103 =>
              bindO (fieldA 5 x103) fun x104 =>
              M.bind (rdM (ld1 x104)) fun x105 =>
              bindO (idxA 5 x105 (getL l94 0)) fun x106 =>
              bindO (fieldA 3 x106) fun x107 =>
              M.bind (rdM (ldA 2 x107)) fun x108 =>
              bindO (idxA 5 x102 (getL l94 0)) fun x109 =>
              bindO (fieldA 1 x109) fun x110 =>
              M.bind (stM 2 x110 x108) fun _ =>
              bindO (binV BinOp.add (getL l94 0) (Value.int IntKind.i64 1)) fun x112 =>
              M.ret (Out.norm [x112])) (
              M.ret (Out.exit 2 [(getL l94 0)]))) [(Value.int IntKind.i64 0)]) fun o114 =>
          outK o114 (fun _ => M.fail) (fun k115 _ =>
            bif Nat.beq k115 2 then (
              bindO (nilChk a0) fun x117 =>
              bindO (fieldA 6 x117) fun x118 =>
              M.bind (stM 1 x118 (Value.slice none 0 0)) fun _ =>
              bindO (nilChk a0) fun x120 =>
              bindO (fieldA 3 x120) fun x121 =>
              M.bind (stM 1 x121 (Value.int IntKind.i64 (-1))) fun _ =>
              bindO (nilChk a0) fun x123 =>
              bindO (fieldA 4 x123) fun x124 =>
              M.bind (stM 1 x124 (Value.bool false)) fun _ =>
              bindO (binV BinOp.sub x5 x6) fun x126 =>
              M.ret x126) else
            M.fail) (fun r116 => M.ret r116)) (fun _ _ =>
          M.fail) (fun r93 => M.ret r93)) else
      M.fail) (fun r41 => M.ret r41))
def F.granaryref1_Disk_Crash.plan : Plan := (seq leaf (seq (seq leaf (cond (seq leaf leaf) leaf)) (seq leaf (seq leaf (seq (seq leaf (body (loop [9] [9, 10, 24, 25, 26, 27, 28, 29, 30, 31, 32, 33, 34, 35, 36, 37, 38, 39, 40, 41, 42, 43, 44, 45, 46, 47, 48, 49, 50, 51, 52, 53, 54] [0] (seq (seq leaf (cond leaf leaf)) (seq (body (seq leaf leaf)) leaf))))) (fork [] [11, 12, 55, 56, 57, 58, 59, 60, 61, 62, 63, 64, 65, 66, 67, 68, 69, 70, 71, 72, 73, 74, 75, 76, 77, 78, 79, 80, 81, 82, 83, 84, 85, 86, 87, 88, 89, 90, 91, 92, 93, 94, 95, 96, 97, 98, 99, 100, 101, 102, 103, 104] [] (seq leaf (cond (seq leaf (seq leaf (seq leaf leaf))) leaf)) (seq (seq leaf (body (loop [13] [13, 105, 106, 107, 108, 109, 110, 111, 112, 113, 114, 115, 116, 117, 118, 119, 120, 121, 122, 123, 124, 125, 126, 127, 128] [2] (seq (seq leaf (cond leaf leaf)) (seq (body leaf) leaf))))) (seq leaf (seq leaf (seq leaf (seq leaf leaf)))))))))))
theorem F.granaryref1_Disk_Crash.lift : LiftOk Tryz.prog 70 (ap3 F.granaryref1_Disk_Crash) :=
  lift3 (g := evFn Tryz.prog (tcons 101 (ap2 F.granaryref1_within) (tcons 102 (ap2 F.granaryref1_done) tnil)) tnil 70 Tryz.f70 F.granaryref1_Disk_Crash.plan) (evFn_sound (tcons_ok F.granaryref1_within.lift (tcons_ok F.granaryref1_done.lift tnil_ok)) tnil_ok Tryz.func70 (by kernel_rfl)) (fun x0 x1 x2 => by kernel_rfl)

end Go.Proofs.YtojnickeblbgoaaGreatDoor
