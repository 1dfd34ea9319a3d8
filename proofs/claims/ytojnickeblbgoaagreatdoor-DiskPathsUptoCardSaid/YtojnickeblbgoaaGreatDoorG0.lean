/-
  THE FUNCTIONAL FORMS of the functions of this seat's translation, and that each function comes to its form: printed by a program of the prover's own (lift.py).
-/
import Derived.Test.YtojnickeblbgoaaGreatDoorLiftH
import Derived.Test.YtojnickeblbgoaaGreatDoorProg
import Derived.KernelRfl
import Derived.Test.YtojnickeblbgoaaGreatDoorGiv
import Derived.Test.YtojnickeblbgoaaGreatDoorLiftX
namespace Go.Proofs.YtojnickeblbgoaaGreatDoor
open Go.Lift Go.Lift.Plan
/-- (*strings.Builder).grow -/
noncomputable def F.strings_Builder_grow (a0 a1 : Value) : M Value :=
  drewM <|
  getM fun W1 =>
  bindO (nilChk a0) fun x2 =>
  bindO (fieldA 1 x2) fun x3 =>
  M.bind (rdM (ld1 x3)) fun x4 =>
  bindO (capV x4) fun x5 =>
  bindO (binV BinOp.mul (Value.int IntKind.i64 2) x5) fun x6 =>
  bindO (binV BinOp.add x6 a1) fun x7 =>
  M.bind (F.bytealg_MakeNoZero x7) fun x8 =>
  getM fun _ =>
  bindO (nilChk a0) fun x10 =>
  bindO (fieldA 1 x10) fun x11 =>
  M.bind (rdM (ld1 x11)) fun x12 =>
  bindO (lenL x12) fun x13 =>
  bindO (sliceV 1 x8 none (some x13)) fun x14 =>
  reqM (ld1 x11 W1 = some x12) <|
  bindO (nilChk a0) fun x15 =>
  bindO (fieldA 1 x15) fun x16 =>
  M.bind (rdM (ld1 x16)) fun x17 =>
  M.bind (cpyM 1 x14 x17) fun _ =>
  bindO (nilChk a0) fun x19 =>
  bindO (fieldA 1 x19) fun x20 =>
  M.bind (stM 1 x20 x14) fun _ =>
  M.ret (Value.tuple #[])
def F.strings_Builder_grow.plan : Plan := (seq leaf (seq leaf leaf))
theorem F.strings_Builder_grow.lift : LiftOk Tryz.prog 109 (ap2 F.strings_Builder_grow) :=
  lift2 (g := evFn Tryz.prog (tcons 139 (ap1 F.bytealg_MakeNoZero) tnil) tnil 109 Tryz.f109 F.strings_Builder_grow.plan) (evFn_sound (tcons_ok F.bytealg_MakeNoZero.lift tnil_ok) tnil_ok Tryz.func109 (by kernel_rfl)) (fun x0 x1 => by kernel_rfl)

/-- (*strings.Builder).Grow -/
noncomputable def F.strings_Builder_Grow (a0 a1 : Value) : M Value :=
  M.bind (F.strings_Builder_copyCheck a0) fun _ =>
  M.bind (
    bindO (binV BinOp.lss a1 (Value.int IntKind.i64 0)) fun x2 =>
    condM x2 (
      M.bind ((M.fail : M Value)) fun _ =>
      M.ret (Out.norm [])) (
      M.ret (Out.norm []))) fun o5 =>
  outK o5 (fun _ =>
    drewM <|
    bindO (nilChk a0) fun x8 =>
    bindO (fieldA 1 x8) fun x9 =>
    M.bind (rdM (ld1 x9)) fun x10 =>
    bindO (capV x10) fun x11 =>
    bindO (nilChk a0) fun x12 =>
    bindO (fieldA 1 x12) fun x13 =>
    M.bind (rdM (ld1 x13)) fun x14 =>
    bindO (lenL x14) fun x15 =>
    bindO (binV BinOp.sub x11 x15) fun x16 =>
    bindO (binV BinOp.lss x16 a1) fun x17 =>
    condM x17 (
      M.bind (F.strings_Builder_grow a0 a1) fun _ =>
      M.ret (Value.tuple #[])) (
      M.ret (Value.tuple #[]))) (fun _ _ =>
    M.fail) (fun r7 => M.ret r7)
def F.strings_Builder_Grow.plan : Plan := (seq leaf (fork [] [6, 7, 8] [] (seq leaf (cond leaf leaf)) (seq leaf (cond leaf leaf))))
theorem F.strings_Builder_Grow.lift : LiftOk Tryz.prog 82 (ap2 F.strings_Builder_Grow) :=
  lift2 (g := evFn Tryz.prog (tcons 108 (ap1 F.strings_Builder_copyCheck) (tcons 109 (ap2 F.strings_Builder_grow) tnil)) tnil 82 Tryz.f82 F.strings_Builder_Grow.plan) (evFn_sound (tcons_ok F.strings_Builder_copyCheck.lift (tcons_ok F.strings_Builder_grow.lift tnil_ok)) tnil_ok Tryz.func82 (by kernel_rfl)) (fun x0 x1 => by kernel_rfl)

/-- (*strings.Builder).WriteString -/
noncomputable def F.strings_Builder_WriteString (a0 a1 : Value) : M Value :=
  M.bind (F.strings_Builder_copyCheck a0) fun _ =>
  bindO (nilChk a0) fun x2 =>
  bindO (fieldA 1 x2) fun x3 =>
  M.bind (rdM (ld1 x3)) fun x4 =>
  M.bind (appM 5 1 1 #[(Value.int IntKind.u8 0)] x4 a1) fun x5 =>
  bindO (nilChk a0) fun x6 =>
  bindO (fieldA 1 x6) fun x7 =>
  M.bind (stM 1 x7 x5) fun _ =>
  bindO (lenS a1) fun x9 =>
  M.ret (Value.tuple #[x9, Value.nilIface])
def F.strings_Builder_WriteString.plan : Plan := (seq leaf (seq leaf (seq leaf (seq leaf leaf))))
theorem F.strings_Builder_WriteString.lift : LiftOk Tryz.prog 83 (ap2 F.strings_Builder_WriteString) :=
  lift2 (g := evFn Tryz.prog (tcons 108 (ap1 F.strings_Builder_copyCheck) tnil) tnil 83 Tryz.f83 F.strings_Builder_WriteString.plan) (evFn_sound (tcons_ok F.strings_Builder_copyCheck.lift tnil_ok) tnil_ok Tryz.func83 (by kernel_rfl)) (fun x0 x1 => by kernel_rfl)

/-- (*strings.Builder).String -/
noncomputable def F.strings_Builder_String (a0 : Value) : M Value :=
  drewM <|
  getM fun W1 =>
  bindO (nilChk a0) fun x2 =>
  bindO (fieldA 1 x2) fun x3 =>
  M.bind (rdM (ld1 x3)) fun x4 =>
  M.bind (optM (sdV x4)) fun x5 =>
  getM fun _ =>
  bindO (nilChk a0) fun x7 =>
  bindO (fieldA 1 x7) fun x8 =>
  M.bind (rdM (ld1 x8)) fun x9 =>
  bindO (lenL x9) fun x10 =>
  M.bind (usM Tryz.prog [157, 3] x5 x10) fun x11 =>
  getM fun _ =>
  reqM (ld1 x8 W1 = some x9) <|
  M.ret x11
def F.strings_Builder_String.plan : Plan := (seq leaf (seq leaf leaf))
theorem F.strings_Builder_String.lift : LiftOk Tryz.prog 84 (ap1 F.strings_Builder_String) :=
  lift1 (g := evFn Tryz.prog tnil tnil 84 Tryz.f84 F.strings_Builder_String.plan) (evFn_sound tnil_ok tnil_ok Tryz.func84 (by kernel_rfl)) (fun x0 => by kernel_rfl)

/-- strings.Join -/
noncomputable def F.strings_Join (a0 a1 : Value) : M Value :=
  bindO (lenL a0) fun x1 =>
  bindO (binV BinOp.eql x1 (Value.int IntKind.i64 0)) fun x2 =>
  condM x2 (
    M.ret (Value.string (ByteArray.mk #[]))) (
    bindO (binV BinOp.eql x1 (Value.int IntKind.i64 1)) fun x3 =>
    condM x3 (
      bindO (idxA 1 a0 (Value.int IntKind.i64 0)) fun x4 =>
      M.bind (rdM (ld1 x4)) fun x5 =>
      M.ret x5) (
      M.bind (
        bindO (lenS a1) fun x6 =>
        bindO (binV BinOp.gtr x6 (Value.int IntKind.i64 0)) fun x7 =>
        condM x7 (
          M.bind (
            bindO (lenS a1) fun x8 =>
            bindO (lenL a0) fun x9 =>
            bindO (binV BinOp.sub x9 (Value.int IntKind.i64 1)) fun x10 =>
            bindO (binV BinOp.quo (Value.int IntKind.i64 9223372036854775807) x10) fun x11 =>
            bindO (binV BinOp.geq x8 x11) fun x12 =>
            condM x12 (
              M.bind ((M.fail : M Value)) fun _ =>
              M.ret (Out.norm [])) (
              M.ret (Out.norm []))) fun o15 =>
          outK o15 (fun _ =>
            bindO (lenS a1) fun x18 =>
            bindO (lenL a0) fun x19 =>
            bindO (binV BinOp.sub x19 (Value.int IntKind.i64 1)) fun x20 =>
            bindO (binV BinOp.mul x18 x20) fun x21 =>
            bindO (binV BinOp.add (Value.int IntKind.i64 0) x21) fun x22 =>
            M.ret (Out.norm [x22])) (fun _ _ =>
            M.fail) (fun r17 => M.ret (Out.ret r17))) (
          M.ret (Out.norm [(Value.int IntKind.i64 0)]))) fun o25 =>
      outK o25 (fun l24 =>
        bindO (lenL a0) fun x28 =>
        M.bind (loopM (fun l29 =>
          bindO (binV BinOp.lss (getL l29 1) x28) fun x30 =>
          condM x30 (
            bindO (idxA 1 a0 (getL l29 1)) fun x31 =>
            M.bind (rdM (ld1 x31)) fun x32 =>
            M.bind (
              bindO (lenS x32) fun x33 =>
              bindO (binV BinOp.sub (Value.int IntKind.i64 9223372036854775807) (getL l29 0)) fun x34 =>
              bindO (binV BinOp.gtr x33 x34) fun x35 =>
              condM x35 (
                M.bind ((M.fail : M Value)) fun _ =>
                M.ret (Out.norm [])) (
                M.ret (Out.norm []))) fun o38 =>
            outK o38 (fun _ =>
              bindO (lenS x32) fun x41 =>
              bindO (binV BinOp.add (getL l29 0) x41) fun x42 =>
              bindO (binV BinOp.add (getL l29 1) (Value.int IntKind.i64 1)) fun x43 =>
              M.ret (Out.norm [x42, x43])) (fun _ _ =>
              M.fail) (fun r40 => M.ret (Out.ret r40))) (
            M.ret (Out.exit 1 [(getL l29 0), (getL l29 1)]))) [(getL l24 0), (Value.int IntKind.i64 0)]) fun o46 =>
        outK o46 (fun _ => M.fail) (fun k47 l45 =>
          bif Nat.beq k47 1 then (
            M.bind (newM 127 #[(Value.pointer none), (Value.slice none 0 0)]) fun x49 =>
            M.bind (F.strings_Builder_Grow x49 (getL l45 0)) fun _ =>
            bindO (idxA 1 a0 (Value.int IntKind.i64 0)) fun x51 =>
            M.bind (rdM (ld1 x51)) fun x52 =>
            M.bind (F.strings_Builder_WriteString x49 x52) fun _ =>
            bindO (sliceV 1 a0 (some (Value.int IntKind.i64 1)) none) fun x54 =>
            bindO (lenL x54) fun x55 =>
            M.bind (loopM (fun l56 =>
              bindO (binV BinOp.lss (getL l56 0) x55) fun x57 =>
              condM x57 (
                bindO (idxA 1 x54 (getL l56 0)) fun x58 =>
                M.bind (rdM (ld1 x58)) fun x59 =>
                M.bind (F.strings_Builder_WriteString x49 a1) fun _ =>
                M.bind (F.strings_Builder_WriteString x49 x59) fun _ =>
                bindO (binV BinOp.add (getL l56 0) (Value.int IntKind.i64 1)) fun x62 =>
                M.ret (Out.norm [x62])) (
                M.ret (Out.exit 3 [(getL l56 0)]))) [(Value.int IntKind.i64 0)]) fun o64 =>
            outK o64 (fun _ => M.fail) (fun k65 _ =>
              bif Nat.beq k65 3 then (
                M.bind (F.strings_Builder_String x49) fun x67 =>
                M.ret x67) else
              M.fail) (fun r66 => M.ret r66)) else
          M.fail) (fun r48 => M.ret r48)) (fun _ _ =>
        M.fail) (fun r27 => M.ret r27)))
def F.strings_Join.plan : Plan := (seq leaf (seq (seq leaf (body (seq leaf (cond (seq leaf leaf) (seq leaf (cond (seq leaf leaf) leaf)))))) (seq leaf (fork [5] [5, 20, 21, 22, 23, 24, 25, 26, 27, 28, 29, 30, 31, 32, 33, 34, 35, 36, 37, 38] [] (seq leaf (cond (fork [] [23, 24, 25, 26, 27, 28, 29, 30] [] (seq leaf (cond leaf leaf)) leaf) leaf)) (seq (seq leaf (body (loop [5, 41] [5, 7, 41, 42, 43, 44, 45, 46, 47, 48, 49, 50, 51, 52, 53, 54, 55] [1] (seq leaf (seq (cond leaf leaf) (seq (body (seq leaf (fork [] [45, 46, 47, 48, 49, 50] [] (seq leaf (cond leaf leaf)) leaf))) leaf)))))) (seq leaf (seq leaf (seq leaf (seq (seq leaf (body (loop [65] [10, 65, 66, 67, 68, 69, 70, 71, 72, 73] [3] (seq leaf (seq (cond leaf leaf) (seq (body (seq leaf (seq leaf leaf))) leaf)))))) (seq leaf leaf))))))))))
theorem F.strings_Join.lift : LiftOk Tryz.prog 30 (ap2 F.strings_Join) :=
  lift2 (g := evFn Tryz.prog (tcons 82 (ap2 F.strings_Builder_Grow) (tcons 83 (ap2 F.strings_Builder_WriteString) (tcons 84 (ap1 F.strings_Builder_String) tnil))) tnil 30 Tryz.f30 F.strings_Join.plan) (evFn_sound (tcons_ok F.strings_Builder_Grow.lift (tcons_ok F.strings_Builder_WriteString.lift (tcons_ok F.strings_Builder_String.lift tnil_ok))) tnil_ok Tryz.func30 (by kernel_rfl)) (fun x0 x1 => by kernel_rfl)

/-- granary/disk.Path -/
noncomputable def F.disk_Path (a0 : Value) : M Value :=
  M.bind (F.strings_Join a0 (Value.string (ByteArray.mk #[47]))) fun x1 =>
  M.ret x1
def F.disk_Path.plan : Plan := (seq leaf (seq leaf leaf))
theorem F.disk_Path.lift : LiftOk Tryz.prog 10 (ap1 F.disk_Path) :=
  lift1 (g := evFn Tryz.prog (tcons 30 (ap2 F.strings_Join) tnil) tnil 10 Tryz.f10 F.disk_Path.plan) (evFn_sound (tcons_ok F.strings_Join.lift tnil_ok) tnil_ok Tryz.func10 (by kernel_rfl)) (fun x0 => by kernel_rfl)

/-- granary/granaryref1.Path -/
noncomputable def F.granaryref1_Path (a0 : Value) : M Value :=
  M.bind (loopM (fun l1 =>
    bindO (lenL a0) fun x2 =>
    bindO (binV BinOp.lss (getL l1 1) x2) fun x3 =>
    condM x3 (
      M.bind (
        bindO (binV BinOp.gtr (getL l1 1) (Value.int IntKind.i64 0)) fun x4 =>
        condM x4 (
          bindO (binV BinOp.add (getL l1 0) (Value.string (ByteArray.mk #[47]))) fun x5 =>
          M.ret (Out.norm [x5])) (
          M.ret (Out.norm [(getL l1 0)]))) fun o7 =>
      outK o7 (fun l6 =>
        bindO (idxA 1 a0 (getL l1 1)) fun x10 =>
        M.bind (rdM (ld1 x10)) fun x11 =>
        bindO (binV BinOp.add (getL l6 0) x11) fun x12 =>
        bindO (binV BinOp.add (getL l1 1) (Value.int IntKind.i64 1)) fun x13 =>
        M.ret (Out.norm [x12, x13])) (fun _ _ =>
        M.fail) (fun r9 => M.ret (Out.ret r9))) (
      M.ret (Out.exit 0 [(getL l1 0), (getL l1 1)]))) [(Value.string (ByteArray.mk #[])), (Value.int IntKind.i64 0)]) fun o16 =>
  outK o16 (fun _ => M.fail) (fun k17 l15 =>
    bif Nat.beq k17 0 then (
      M.ret (getL l15 0)) else
    M.fail) (fun r18 => M.ret r18)
def F.granaryref1_Path.plan : Plan := (seq leaf (seq leaf (seq (seq leaf (body (loop [3, 4] [3, 4, 5, 6, 7, 8, 9, 10, 11, 12, 13, 14, 15, 16, 17, 18, 19, 20] [0] (seq (seq leaf (cond leaf leaf)) (seq (body (fork [3] [3, 11, 12, 13, 14] [] (seq leaf (cond leaf leaf)) leaf)) leaf))))) (seq leaf leaf))))
theorem F.granaryref1_Path.lift : LiftOk Tryz.prog 11 (ap1 F.granaryref1_Path) :=
  lift1 (g := evFn Tryz.prog tnil tnil 11 Tryz.f11 F.granaryref1_Path.plan) (evFn_sound tnil_ok tnil_ok Tryz.func11 (by kernel_rfl)) (fun x0 => by kernel_rfl)

/-- granary/disk.New -/
noncomputable def F.disk_New (a0 : Value) : M Value :=
  bindO (binV BinOp.lss a0 (Value.int IntKind.i64 0)) fun x1 =>
  M.bind (guardM x1 false (M.ret a0)) fun x2 =>
  M.bind (guardM x1 false (optM (binV BinOp.gtr x2 (Value.int IntKind.i64 1073741824)))) fun x3 =>
  bindO (pickV x1 (Value.bool true) x3) fun x4 =>
  condM x4 (
    M.ret (Value.tuple #[(Value.pointer none), (Value.int IntKind.i64 1)])) (
    bindO (buildV #[(Value.int IntKind.i64 0), (Value.string ByteArray.empty), (Value.string ByteArray.empty)] [(0, 1, (Value.int IntKind.i64 1))]) fun x5 =>
    M.bind (bslM 94 1 (Builtin.zeroCells #[(Value.int IntKind.i64 0), (Value.string ByteArray.empty), (Value.string ByteArray.empty)] 1) [(0, 3, x5)]) fun x6 =>
    M.bind (mkmM) fun x7 =>
    M.bind (mkmM) fun x8 =>
    bindO (buildV #[(Value.int IntKind.i64 0), (Value.int IntKind.i64 0), (Value.int IntKind.i64 0), (Value.bool false), (Value.int IntKind.i64 0), (Value.bool false), (Value.slice none 0 0), (Value.map none), (Value.map none), (Value.slice none 0 0)] [(0, 1, a0), (6, 1, x6), (7, 1, x7), (8, 1, x8)]) fun x9 =>
    M.bind (newM 92 (Value.cells x9)) fun x10 =>
    M.ret (Value.tuple #[x10, (Value.int IntKind.i64 0)]))
def F.disk_New.plan : Plan := (seq leaf (seq (seq leaf (cond (seq leaf leaf) leaf)) (seq leaf leaf)))
theorem F.disk_New.lift : LiftOk Tryz.prog 31 (ap1 F.disk_New) :=
  lift1 (g := evFn Tryz.prog tnil tnil 31 Tryz.f31 F.disk_New.plan) (evFn_sound tnil_ok tnil_ok Tryz.func31 (by kernel_rfl)) (fun x0 => by kernel_rfl)

/-- granary/granaryref1.New -/
noncomputable def F.granaryref1_New (a0 : Value) : M Value :=
  bindO (binV BinOp.lss a0 (Value.int IntKind.i64 0)) fun x1 =>
  M.bind (guardM x1 false (M.ret a0)) fun x2 =>
  M.bind (guardM x1 false (optM (binV BinOp.gtr x2 (Value.int IntKind.i64 1073741824)))) fun x3 =>
  bindO (pickV x1 (Value.bool true) x3) fun x4 =>
  condM x4 (
    M.ret (Value.tuple #[(Value.pointer none), (Value.int IntKind.i64 1)])) (
    bindO (buildV #[(Value.int IntKind.i64 0), (Value.int IntKind.i64 0), (Value.int IntKind.i64 0), (Value.int IntKind.i64 0), (Value.bool false), (Value.slice none 0 0), (Value.slice none 0 0)] [(0, 1, a0), (3, 1, (Value.int IntKind.i64 (-1)))]) fun x5 =>
    M.bind (newM 111 (Value.cells x5)) fun x6 =>
    bindO (nilChk x6) fun x7 =>
    bindO (fieldA 5 x7) fun x8 =>
    M.bind (rdM (ld1 x8)) fun x9 =>
    bindO (buildV #[(Value.int IntKind.i64 0), (Value.string ByteArray.empty), (Value.slice none 0 0), (Value.string ByteArray.empty), (Value.slice none 0 0)] [(0, 1, (Value.int IntKind.i64 1))]) fun x10 =>
    M.bind (bslM 107 1 (Builtin.zeroCells #[(Value.int IntKind.i64 0), (Value.string ByteArray.empty), (Value.slice none 0 0), (Value.string ByteArray.empty), (Value.slice none 0 0)] 1) [(0, 5, x10)]) fun x11 =>
    M.bind (appM 107 5 88 #[(Value.int IntKind.i64 0), (Value.string ByteArray.empty), (Value.slice none 0 0), (Value.string ByteArray.empty), (Value.slice none 0 0)] x9 x11) fun x12 =>
    bindO (nilChk x6) fun x13 =>
    bindO (fieldA 5 x13) fun x14 =>
    M.bind (stM 1 x14 x12) fun _ =>
    M.ret (Value.tuple #[x6, (Value.int IntKind.i64 0)]))
def F.granaryref1_New.plan : Plan := (seq leaf (seq (seq leaf (cond (seq leaf leaf) leaf)) (seq leaf (seq leaf (seq leaf leaf)))))
theorem F.granaryref1_New.lift : LiftOk Tryz.prog 32 (ap1 F.granaryref1_New) :=
  lift1 (g := evFn Tryz.prog tnil tnil 32 Tryz.f32 F.granaryref1_New.plan) (evFn_sound tnil_ok tnil_ok Tryz.func32 (by kernel_rfl)) (fun x0 => by kernel_rfl)

/-- granary/granarylaw1.num -/
noncomputable def F.granarylaw1_num (a0 : Value) : M Value :=
  M.ret a0
def F.granarylaw1_num.plan : Plan := (seq leaf (seq leaf leaf))
theorem F.granarylaw1_num.lift : LiftOk Tryz.prog 23 (ap1 F.granarylaw1_num) :=
  lift1 (g := evFn Tryz.prog tnil tnil 23 Tryz.f23 F.granarylaw1_num.plan) (evFn_sound tnil_ok tnil_ok Tryz.func23 (by kernel_rfl)) (fun x0 => by kernel_rfl)

/-- (*granary/granarylaw1.bench).fresh -/
noncomputable def F.granarylaw1_bench_fresh (a0 a1 a2 : Value) : M Value :=
  M.bind (F.disk_New a2) fun x1 =>
  bindO (extV 0 x1) fun x2 =>
  bindO (extV 1 x1) fun x3 =>
  M.bind (F.granaryref1_New a2) fun x4 =>
  bindO (extV 0 x4) fun x5 =>
  bindO (extV 1 x4) fun x6 =>
  bindO (nilChk a0) fun x7 =>
  bindO (fieldA 0 x7) fun x8 =>
  bindO (idxR 2 1 x8 a1) fun x9 =>
  M.bind (stM 1 x9 x2) fun _ =>
  bindO (nilChk a0) fun x11 =>
  bindO (fieldA 2 x11) fun x12 =>
  bindO (idxR 2 1 x12 a1) fun x13 =>
  M.bind (stM 1 x13 x5) fun _ =>
  M.bind (F.granarylaw1_num x3) fun x15 =>
  bindO (binV BinOp.eql x15 x6) fun x16 =>
  M.bind (guardM x16 true (M.ret x2)) fun x17 =>
  M.bind (guardM x16 true (optM (eqV (EqSh.one EqK.ptr) x17 (Value.pointer none)))) fun x18 =>
  M.bind (guardM x16 true (M.ret x5)) fun x19 =>
  M.bind (guardM x16 true (optM (eqV (EqSh.one EqK.ptr) x19 (Value.pointer none)))) fun x20 =>
  M.bind (guardM x16 true (optM (eqV (EqSh.one EqK.bool) x18 x20))) fun x21 =>
  bindO (pickV x16 x21 (Value.bool false)) fun x22 =>
  M.ret x22
def F.granarylaw1_bench_fresh.plan : Plan := (seq leaf (seq leaf (seq leaf (seq leaf (seq leaf (seq leaf leaf))))))
theorem F.granarylaw1_bench_fresh.lift : LiftOk Tryz.prog 12 (ap3 F.granarylaw1_bench_fresh) :=
  lift3 (g := evFn Tryz.prog (tcons 23 (ap1 F.granarylaw1_num) (tcons 31 (ap1 F.disk_New) (tcons 32 (ap1 F.granaryref1_New) tnil))) tnil 12 Tryz.f12 F.granarylaw1_bench_fresh.plan) (evFn_sound (tcons_ok F.granarylaw1_num.lift (tcons_ok F.disk_New.lift (tcons_ok F.granaryref1_New.lift tnil_ok))) tnil_ok Tryz.func12 (by kernel_rfl)) (fun x0 x1 x2 => by kernel_rfl)

/-- granary/granarylaw1.place -/
noncomputable def F.granarylaw1_place (a0 : Value) : M Value :=
  bindO (binV BinOp.rem a0 (Value.int IntKind.i64 2)) fun x1 =>
  bindO (binV BinOp.add x1 (Value.int IntKind.i64 2)) fun x2 =>
  bindO (binV BinOp.rem x2 (Value.int IntKind.i64 2)) fun x3 =>
  M.ret x3
def F.granarylaw1_place.plan : Plan := (seq leaf (seq leaf leaf))
theorem F.granarylaw1_place.lift : LiftOk Tryz.prog 20 (ap1 F.granarylaw1_place) :=
  lift1 (g := evFn Tryz.prog tnil tnil 20 Tryz.f20 F.granarylaw1_place.plan) (evFn_sound tnil_ok tnil_ok Tryz.func20 (by kernel_rfl)) (fun x0 => by kernel_rfl)

/-- (*granary/disk.Disk).ready -/
noncomputable def F.disk_Disk_ready (a0 : Value) : M Value :=
  bindO (eqV (EqSh.one EqK.ptr) a0 (Value.pointer none)) fun x1 =>
  condM x1 (
    M.ret (Value.int IntKind.i64 2)) (
    bindO (nilChk a0) fun x2 =>
    bindO (fieldA 5 x2) fun x3 =>
    M.bind (rdM (ld1 x3)) fun x4 =>
    condM x4 (
      M.ret (Value.int IntKind.i64 10)) (
      M.ret (Value.int IntKind.i64 0)))
def F.disk_Disk_ready.plan : Plan := (seq leaf (seq (body (seq leaf (cond (seq leaf leaf) (seq leaf (cond (seq leaf leaf) leaf))))) (seq leaf leaf)))
theorem F.disk_Disk_ready.lift : LiftOk Tryz.prog 85 (ap1 F.disk_Disk_ready) :=
  lift1 (g := evFn Tryz.prog tnil tnil 85 Tryz.f85 F.disk_Disk_ready.plan) (evFn_sound tnil_ok tnil_ok Tryz.func85 (by kernel_rfl)) (fun x0 => by kernel_rfl)

/-- internal/bytealg.Cutover -/
noncomputable def F.bytealg_Cutover (a0 : Value) : M Value :=
  bindO (binV BinOp.add a0 (Value.int IntKind.i64 16)) fun x1 =>
  bindO (binV BinOp.quo x1 (Value.int IntKind.i64 8)) fun x2 =>
  M.ret x2
def F.bytealg_Cutover.plan : Plan := (seq leaf (seq leaf leaf))
theorem F.bytealg_Cutover.lift : LiftOk Tryz.prog 159 (ap1 F.bytealg_Cutover) :=
  lift1 (g := evFn Tryz.prog tnil tnil 159 Tryz.f159 F.bytealg_Cutover.plan) (evFn_sound tnil_ok tnil_ok Tryz.func159 (by kernel_rfl)) (fun x0 => by kernel_rfl)

/-- internal/bytealg.hashStr[string] -/
noncomputable def F.bytealg_hashStr_inst (a0 : Value) : M Value :=
  M.bind (loopM (fun l1 =>
    bindO (lenS a0) fun x2 =>
    bindO (binV BinOp.lss (getL l1 1) x2) fun x3 =>
    condM x3 (
      bindO (binV BinOp.mul (getL l1 0) (Value.int IntKind.u32 16777619)) fun x4 =>
      bindO (idxS a0 (getL l1 1)) fun x5 =>
      bindO (cvtI IntKind.u32 x5) fun x6 =>
      bindO (binV BinOp.add x4 x6) fun x7 =>
      bindO (binV BinOp.add (getL l1 1) (Value.int IntKind.i64 1)) fun x8 =>
      M.ret (Out.norm [x7, x8])) (
      M.ret (Out.exit 0 [(getL l1 0), (getL l1 1)]))) [(Value.int IntKind.u32 0), (Value.int IntKind.i64 0)]) fun o10 =>
  outK o10 (fun _ => M.fail) (fun k11 l9 =>
    bif Nat.beq k11 0 then (
      bindO (lenS a0) fun x13 =>
      M.bind (loopM (fun l14 =>
        bindO (binV BinOp.gtr (getL l14 2) (Value.int IntKind.i64 0)) fun x15 =>
        condM x15 (
          M.bind (
            bindO (binV BinOp.and (getL l14 2) (Value.int IntKind.i64 1)) fun x16 =>
            bindO (binV BinOp.neq x16 (Value.int IntKind.i64 0)) fun x17 =>
            condM x17 (
              bindO (binV BinOp.mul (getL l14 0) (getL l14 1)) fun x18 =>
              M.ret (Out.norm [x18])) (
              M.ret (Out.norm [(getL l14 0)]))) fun o20 =>
          outK o20 (fun l19 =>
            bindO (binV BinOp.mul (getL l14 1) (getL l14 1)) fun x23 =>
            bindO (shV BinOp.shr (getL l14 2) (Value.int IntKind.u64 1)) fun x24 =>
            M.ret (Out.norm [(getL l19 0), x23, x24])) (fun _ _ =>
            M.fail) (fun r22 => M.ret (Out.ret r22))) (
          M.ret (Out.exit 2 [(getL l14 0), (getL l14 1), (getL l14 2)]))) [(Value.int IntKind.u32 1), (Value.int IntKind.u32 16777619), x13]) fun o27 =>
      outK o27 (fun _ => M.fail) (fun k28 l26 =>
        bif Nat.beq k28 2 then (
          M.ret (Value.tuple #[(getL l9 0), (getL l26 0)])) else
        M.fail) (fun r29 => M.ret r29)) else
    M.fail) (fun r12 => M.ret r12)
def F.bytealg_hashStr_inst.plan : Plan := (seq leaf (seq leaf (seq (seq leaf (body (loop [4, 5] [4, 5, 9, 10, 11, 12, 13, 14, 15, 16, 17, 18, 19, 20, 21] [0] (seq (seq leaf (cond leaf leaf)) (seq (body leaf) leaf))))) (seq leaf (seq (seq leaf (body (loop [6, 7, 8] [6, 7, 8, 24, 25, 26, 27, 28, 29, 30, 31, 32, 33, 34, 35, 36] [2] (seq (seq leaf (cond leaf leaf)) (seq (body (fork [6] [6, 28, 29, 30, 31, 32, 33] [] (seq leaf (cond leaf leaf)) leaf)) leaf))))) (seq leaf leaf))))))
theorem F.bytealg_hashStr_inst.lift : LiftOk Tryz.prog 163 (ap1 F.bytealg_hashStr_inst) :=
  lift1 (g := evFn Tryz.prog tnil tnil 163 Tryz.f163 F.bytealg_hashStr_inst.plan) (evFn_sound tnil_ok tnil_ok Tryz.func163 (by kernel_rfl)) (fun x0 => by kernel_rfl)

/-- internal/bytealg.IndexRabinKarp[string] -/
noncomputable def F.bytealg_IndexRabinKarp_inst (a0 a1 : Value) : M Value :=
  M.bind (F.bytealg_hashStr_inst a1) fun x1 =>
  bindO (extV 0 x1) fun x2 =>
  bindO (extV 1 x1) fun x3 =>
  bindO (lenS a1) fun x4 =>
  M.bind (loopM (fun l5 =>
    bindO (binV BinOp.lss (getL l5 1) x4) fun x6 =>
    condM x6 (
      bindO (binV BinOp.mul (getL l5 0) (Value.int IntKind.u32 16777619)) fun x7 =>
      bindO (idxS a0 (getL l5 1)) fun x8 =>
      bindO (cvtI IntKind.u32 x8) fun x9 =>
      bindO (binV BinOp.add x7 x9) fun x10 =>
      bindO (binV BinOp.add (getL l5 1) (Value.int IntKind.i64 1)) fun x11 =>
      M.ret (Out.norm [x10, x11])) (
      M.ret (Out.exit 0 [(getL l5 0), (getL l5 1)]))) [(Value.int IntKind.u32 0), (Value.int IntKind.i64 0)]) fun o13 =>
  outK o13 (fun _ => M.fail) (fun k14 l12 =>
    bif Nat.beq k14 0 then (
      bindO (binV BinOp.eql (getL l12 0) x2) fun x16 =>
      M.bind (guardM x16 true (M.ret a0)) fun x17 =>
      M.bind (guardM x16 true (M.ret x4)) fun x18 =>
      M.bind (guardM x16 true (optM (sliceS x17 none (some x18)))) fun x19 =>
      M.bind (guardM x16 true (M.ret a1)) fun x20 =>
      M.bind (guardM x16 true (optM (binV BinOp.eql x19 x20))) fun x21 =>
      bindO (pickV x16 x21 (Value.bool false)) fun x22 =>
      condM x22 (
        M.ret (Value.int IntKind.i64 0)) (
        M.bind (loopM (fun l23 =>
          bindO (lenS a0) fun x24 =>
          bindO (binV BinOp.lss (getL l23 1) x24) fun x25 =>
          condM x25 (
            bindO (binV BinOp.mul (getL l23 0) (Value.int IntKind.u32 16777619)) fun x26 =>
            bindO (idxS a0 (getL l23 1)) fun x27 =>
            bindO (cvtI IntKind.u32 x27) fun x28 =>
            bindO (binV BinOp.add x26 x28) fun x29 =>
            bindO (binV BinOp.sub (getL l23 1) x4) fun x30 =>
            bindO (idxS a0 x30) fun x31 =>
            bindO (cvtI IntKind.u32 x31) fun x32 =>
            bindO (binV BinOp.mul x3 x32) fun x33 =>
            bindO (binV BinOp.sub x29 x33) fun x34 =>
            bindO (binV BinOp.add (getL l23 1) (Value.int IntKind.i64 1)) fun x35 =>
            bindO (binV BinOp.eql x34 x2) fun x36 =>
            M.bind (guardM x36 true (M.ret a0)) fun x37 =>
            M.bind (guardM x36 true (M.ret x35)) fun x38 =>
            M.bind (guardM x36 true (M.ret x4)) fun x39 =>
            M.bind (guardM x36 true (optM (binV BinOp.sub x38 x39))) fun x40 =>
            M.bind (guardM x36 true (M.ret x35)) fun x41 =>
            M.bind (guardM x36 true (optM (sliceS x37 (some x40) (some x41)))) fun x42 =>
            M.bind (guardM x36 true (M.ret a1)) fun x43 =>
            M.bind (guardM x36 true (optM (binV BinOp.eql x42 x43))) fun x44 =>
            bindO (pickV x36 x44 (Value.bool false)) fun x45 =>
            condM x45 (
              bindO (binV BinOp.sub x35 x4) fun x46 =>
              M.ret (Out.ret x46)) (
              M.ret (Out.norm [x34, x35]))) (
            M.ret (Out.exit 2 [(getL l23 0), (getL l23 1)]))) [(getL l12 0), x4]) fun o48 =>
        outK o48 (fun _ => M.fail) (fun k49 _ =>
          bif Nat.beq k49 2 then (
            M.ret (Value.int IntKind.i64 (-1))) else
          M.fail) (fun r50 => M.ret r50))) else
    M.fail) (fun r15 => M.ret r15)
def F.bytealg_IndexRabinKarp_inst.plan : Plan := (seq leaf (seq leaf (seq leaf (seq leaf (seq (seq leaf (body (loop [8, 9] [8, 9, 18, 19, 20, 21, 22, 23, 24, 25, 26, 27, 28, 29] [0] (seq (seq leaf (cond leaf leaf)) (seq (body leaf) leaf))))) (seq (seq leaf (cond (seq leaf leaf) leaf)) (seq (seq leaf (body (loop [8, 10] [4, 8, 10, 41, 42, 43, 44, 45, 46, 47, 48, 49, 50, 51, 52, 53, 54, 55, 56, 57, 58, 59, 60, 61, 62, 63, 64, 65, 66, 67, 68, 69, 70, 71, 72, 73, 74, 75, 76, 77, 78, 79, 80] [2] (seq (seq leaf (cond leaf leaf)) (body (seq leaf (seq leaf (seq leaf (seq leaf (seq leaf (cond (seq leaf leaf) leaf))))))))))) (seq leaf leaf))))))))
theorem F.bytealg_IndexRabinKarp_inst.lift : LiftOk Tryz.prog 160 (ap2 F.bytealg_IndexRabinKarp_inst) :=
  lift2 (g := evFn Tryz.prog (tcons 163 (ap1 F.bytealg_hashStr_inst) tnil) tnil 160 Tryz.f160 F.bytealg_IndexRabinKarp_inst.plan) (evFn_sound (tcons_ok F.bytealg_hashStr_inst.lift tnil_ok) tnil_ok Tryz.func160 (by kernel_rfl)) (fun x0 x1 => by kernel_rfl)

/-- unicode/utf8.decodeRuneInStringSlow -/
noncomputable def F.utf8_decodeRuneInStringSlow (a0 : Value) : M Value :=
  bindO (lenS a0) fun x1 =>
  bindO (binV BinOp.lss x1 (Value.int IntKind.i64 1)) fun x2 =>
  condM x2 (
    M.ret (Value.tuple #[(Value.int IntKind.i32 65533), (Value.int IntKind.i64 0)])) (
    bindO (idxS a0 (Value.int IntKind.i64 0)) fun x3 =>
    bindO (idxR 256 1 (Value.pointer (some { block := 1, off := 0, spot := none })) x3) fun x4 =>
    M.bind (rdM (ld1 x4)) fun x5 =>
    bindO (binV BinOp.geq x5 (Value.int IntKind.u8 240)) fun x6 =>
    condM x6 (
      bindO (cvtI IntKind.i32 x5) fun x7 =>
      bindO (shV BinOp.shl x7 (Value.int IntKind.u64 31)) fun x8 =>
      bindO (shV BinOp.shr x8 (Value.int IntKind.u64 31)) fun x9 =>
      bindO (idxS a0 (Value.int IntKind.i64 0)) fun x10 =>
      bindO (cvtI IntKind.i32 x10) fun x11 =>
      bindO (binV BinOp.andNot x11 x9) fun x12 =>
      bindO (binV BinOp.and (Value.int IntKind.i32 65533) x9) fun x13 =>
      bindO (binV BinOp.or x12 x13) fun x14 =>
      M.ret (Value.tuple #[x14, (Value.int IntKind.i64 1)])) (
      bindO (binV BinOp.and x5 (Value.int IntKind.u8 7)) fun x15 =>
      bindO (cvtI IntKind.i64 x15) fun x16 =>
      bindO (shV BinOp.shr x5 (Value.int IntKind.u64 4)) fun x17 =>
      bindO (idxR 16 2 (Value.pointer (some { block := 2, off := 0, spot := none })) x17) fun x18 =>
      M.bind (rdM (ldA 2 x18)) fun x19 =>
      M.bind (newM 204 #[(Value.int IntKind.u8 0), (Value.int IntKind.u8 0)]) fun x20 =>
      M.bind (stM 2 x20 x19) fun _ =>
      bindO (binV BinOp.lss x1 x16) fun x22 =>
      condM x22 (
        M.ret (Value.tuple #[(Value.int IntKind.i32 65533), (Value.int IntKind.i64 1)])) (
        bindO (idxS a0 (Value.int IntKind.i64 1)) fun x23 =>
        bindO (fieldA 0 x20) fun x24 =>
        M.bind (rdM (ld1 x24)) fun x25 =>
        bindO (binV BinOp.lss x23 x25) fun x26 =>
        M.bind (guardM x26 false (optM (fieldA 1 x20))) fun x27 =>
        M.bind (guardM x26 false (rdM (ld1 x27))) fun x28 =>
        M.bind (guardM x26 false (M.ret x23)) fun x29 =>
        M.bind (guardM x26 false (optM (binV BinOp.lss x28 x29))) fun x30 =>
        bindO (pickV x26 (Value.bool true) x30) fun x31 =>
        condM x31 (
          M.ret (Value.tuple #[(Value.int IntKind.i32 65533), (Value.int IntKind.i64 1)])) (
          bindO (binV BinOp.leq x16 (Value.int IntKind.i64 2)) fun x32 =>
          condM x32 (
            bindO (binV BinOp.and x3 (Value.int IntKind.u8 31)) fun x33 =>
            bindO (cvtI IntKind.i32 x33) fun x34 =>
            bindO (shV BinOp.shl x34 (Value.int IntKind.u64 6)) fun x35 =>
            bindO (binV BinOp.and x23 (Value.int IntKind.u8 63)) fun x36 =>
            bindO (cvtI IntKind.i32 x36) fun x37 =>
            bindO (binV BinOp.or x35 x37) fun x38 =>
            M.ret (Value.tuple #[x38, (Value.int IntKind.i64 2)])) (
            bindO (idxS a0 (Value.int IntKind.i64 2)) fun x39 =>
            bindO (binV BinOp.lss x39 (Value.int IntKind.u8 128)) fun x40 =>
            M.bind (guardM x40 false (M.ret x39)) fun x41 =>
            M.bind (guardM x40 false (optM (binV BinOp.lss (Value.int IntKind.u8 191) x41))) fun x42 =>
            bindO (pickV x40 (Value.bool true) x42) fun x43 =>
            condM x43 (
              M.ret (Value.tuple #[(Value.int IntKind.i32 65533), (Value.int IntKind.i64 1)])) (
              bindO (binV BinOp.leq x16 (Value.int IntKind.i64 3)) fun x44 =>
              condM x44 (
                bindO (binV BinOp.and x3 (Value.int IntKind.u8 15)) fun x45 =>
                bindO (cvtI IntKind.i32 x45) fun x46 =>
                bindO (shV BinOp.shl x46 (Value.int IntKind.u64 12)) fun x47 =>
                bindO (binV BinOp.and x23 (Value.int IntKind.u8 63)) fun x48 =>
                bindO (cvtI IntKind.i32 x48) fun x49 =>
                bindO (shV BinOp.shl x49 (Value.int IntKind.u64 6)) fun x50 =>
                bindO (binV BinOp.or x47 x50) fun x51 =>
                bindO (binV BinOp.and x39 (Value.int IntKind.u8 63)) fun x52 =>
                bindO (cvtI IntKind.i32 x52) fun x53 =>
                bindO (binV BinOp.or x51 x53) fun x54 =>
                M.ret (Value.tuple #[x54, (Value.int IntKind.i64 3)])) (
                bindO (idxS a0 (Value.int IntKind.i64 3)) fun x55 =>
                bindO (binV BinOp.lss x55 (Value.int IntKind.u8 128)) fun x56 =>
                M.bind (guardM x56 false (M.ret x55)) fun x57 =>
                M.bind (guardM x56 false (optM (binV BinOp.lss (Value.int IntKind.u8 191) x57))) fun x58 =>
                bindO (pickV x56 (Value.bool true) x58) fun x59 =>
                condM x59 (
                  M.ret (Value.tuple #[(Value.int IntKind.i32 65533), (Value.int IntKind.i64 1)])) (
                  bindO (binV BinOp.and x3 (Value.int IntKind.u8 7)) fun x60 =>
                  bindO (cvtI IntKind.i32 x60) fun x61 =>
                  bindO (shV BinOp.shl x61 (Value.int IntKind.u64 18)) fun x62 =>
                  bindO (binV BinOp.and x23 (Value.int IntKind.u8 63)) fun x63 =>
                  bindO (cvtI IntKind.i32 x63) fun x64 =>
                  bindO (shV BinOp.shl x64 (Value.int IntKind.u64 12)) fun x65 =>
                  bindO (binV BinOp.or x62 x65) fun x66 =>
                  bindO (binV BinOp.and x39 (Value.int IntKind.u8 63)) fun x67 =>
                  bindO (cvtI IntKind.i32 x67) fun x68 =>
                  bindO (shV BinOp.shl x68 (Value.int IntKind.u64 6)) fun x69 =>
                  bindO (binV BinOp.or x66 x69) fun x70 =>
                  bindO (binV BinOp.and x55 (Value.int IntKind.u8 63)) fun x71 =>
                  bindO (cvtI IntKind.i32 x71) fun x72 =>
                  bindO (binV BinOp.or x70 x72) fun x73 =>
                  M.ret (Value.tuple #[x73, (Value.int IntKind.i64 4)])))))))))
def F.utf8_decodeRuneInStringSlow.plan : Plan := (seq leaf (seq leaf (seq (seq leaf (cond (seq leaf leaf) leaf)) (seq leaf (seq leaf (seq (seq leaf (cond (seq leaf (seq leaf leaf)) leaf)) (seq leaf (seq leaf (seq (seq leaf (cond (seq leaf leaf) leaf)) (seq leaf (seq (seq leaf (cond (seq leaf leaf) leaf)) (seq (seq leaf (cond (seq leaf leaf) leaf)) (seq leaf (seq (seq leaf (cond (seq leaf leaf) leaf)) (seq (seq leaf (cond (seq leaf leaf) leaf)) (seq leaf (seq (seq leaf (cond (seq leaf leaf) leaf)) (seq leaf leaf))))))))))))))))))
theorem F.utf8_decodeRuneInStringSlow.lift : LiftOk Tryz.prog 164 (ap1 F.utf8_decodeRuneInStringSlow) :=
  lift1 (g := evFn Tryz.prog tnil tnil 164 Tryz.f164 F.utf8_decodeRuneInStringSlow.plan) (evFn_sound tnil_ok tnil_ok Tryz.func164 (by kernel_rfl)) (fun x0 => by kernel_rfl)

/-- unicode/utf8.DecodeRuneInString -/
noncomputable def F.utf8_DecodeRuneInString (a0 : Value) : M Value :=
  bindO (binV BinOp.neq a0 (Value.string (ByteArray.mk #[]))) fun x1 =>
  M.bind (guardM x1 true (M.ret a0)) fun x2 =>
  M.bind (guardM x1 true (optM (idxS x2 (Value.int IntKind.i64 0)))) fun x3 =>
  M.bind (guardM x1 true (optM (binV BinOp.lss x3 (Value.int IntKind.u8 128)))) fun x4 =>
  bindO (pickV x1 x4 (Value.bool false)) fun x5 =>
  condM x5 (
    bindO (idxS a0 (Value.int IntKind.i64 0)) fun x6 =>
    bindO (cvtI IntKind.i32 x6) fun x7 =>
    M.ret (Value.tuple #[x7, (Value.int IntKind.i64 1)])) (
    M.bind (F.utf8_decodeRuneInStringSlow a0) fun x8 =>
    bindO (extV 0 x8) fun x9 =>
    bindO (extV 1 x8) fun x10 =>
    M.ret (Value.tuple #[x9, x10]))
def F.utf8_DecodeRuneInString.plan : Plan := (seq leaf (seq (seq leaf (cond (seq leaf leaf) leaf)) leaf))
theorem F.utf8_DecodeRuneInString.lift : LiftOk Tryz.prog 161 (ap1 F.utf8_DecodeRuneInString) :=
  lift1 (g := evFn Tryz.prog (tcons 164 (ap1 F.utf8_decodeRuneInStringSlow) tnil) tnil 161 Tryz.f161 F.utf8_DecodeRuneInString.plan) (evFn_sound (tcons_ok F.utf8_decodeRuneInStringSlow.lift tnil_ok) tnil_ok Tryz.func161 (by kernel_rfl)) (fun x0 => by kernel_rfl)

/-- granary/disk.nameOK -/
noncomputable def F.disk_nameOK (a0 : Value) : M Value :=
  bindO (binV BinOp.eql a0 (Value.string (ByteArray.mk #[]))) fun x1 =>
  M.bind (guardM x1 false (M.ret a0)) fun x2 =>
  M.bind (guardM x1 false (optM (lenS x2))) fun x3 =>
  M.bind (guardM x1 false (optM (binV BinOp.gtr x3 (Value.int IntKind.i64 40)))) fun x4 =>
  bindO (pickV x1 (Value.bool true) x4) fun x5 =>
  M.bind (guardM x5 false (M.ret a0)) fun x6 =>
  M.bind (guardM x5 false (optM (binV BinOp.eql x6 (Value.string (ByteArray.mk #[46]))))) fun x7 =>
  bindO (pickV x5 (Value.bool true) x7) fun x8 =>
  M.bind (guardM x8 false (M.ret a0)) fun x9 =>
  M.bind (guardM x8 false (optM (binV BinOp.eql x9 (Value.string (ByteArray.mk #[46, 46]))))) fun x10 =>
  bindO (pickV x8 (Value.bool true) x10) fun x11 =>
  condM x11 (
    M.ret (Value.bool false)) (
    M.bind (sbM 5 a0) fun x12 =>
    bindO (lenL x12) fun x13 =>
    M.bind (loopM (fun l14 =>
      bindO (binV BinOp.lss (getL l14 0) x13) fun x15 =>
      condM x15 (
        bindO (idxA 1 x12 (getL l14 0)) fun x16 =>
        M.bind (rdM (ld1 x16)) fun x17 =>
        bindO (binV BinOp.leq (Value.int IntKind.u8 97) x17) fun x18 =>
        M.bind (guardM x18 true (M.ret x17)) fun x19 =>
        M.bind (guardM x18 true (optM (binV BinOp.leq x19 (Value.int IntKind.u8 122)))) fun x20 =>
        bindO (pickV x18 x20 (Value.bool false)) fun x21 =>
        bindO (binV BinOp.leq (Value.int IntKind.u8 48) x17) fun x22 =>
        M.bind (guardM x22 true (M.ret x17)) fun x23 =>
        M.bind (guardM x22 true (optM (binV BinOp.leq x23 (Value.int IntKind.u8 57)))) fun x24 =>
        bindO (pickV x22 x24 (Value.bool false)) fun x25 =>
        bindO (notV x21) fun x26 =>
        M.bind (guardM x26 true (M.ret x25)) fun x27 =>
        M.bind (guardM x26 true (optM (notV x27))) fun x28 =>
        bindO (pickV x26 x28 (Value.bool false)) fun x29 =>
        M.bind (guardM x29 true (M.ret x17)) fun x30 =>
        M.bind (guardM x29 true (optM (binV BinOp.neq x30 (Value.int IntKind.u8 45)))) fun x31 =>
        bindO (pickV x29 x31 (Value.bool false)) fun x32 =>
        M.bind (guardM x32 true (M.ret x17)) fun x33 =>
        M.bind (guardM x32 true (optM (binV BinOp.neq x33 (Value.int IntKind.u8 95)))) fun x34 =>
        bindO (pickV x32 x34 (Value.bool false)) fun x35 =>
        M.bind (guardM x35 true (M.ret x17)) fun x36 =>
        M.bind (guardM x35 true (optM (binV BinOp.neq x36 (Value.int IntKind.u8 46)))) fun x37 =>
        bindO (pickV x35 x37 (Value.bool false)) fun x38 =>
        condM x38 (
          M.ret (Out.ret (Value.bool false))) (
          bindO (binV BinOp.add (getL l14 0) (Value.int IntKind.i64 1)) fun x39 =>
          M.ret (Out.norm [x39]))) (
        M.ret (Out.exit 0 [(getL l14 0)]))) [(Value.int IntKind.i64 0)]) fun o41 =>
    outK o41 (fun _ => M.fail) (fun k42 _ =>
      bif Nat.beq k42 0 then (
        M.ret (Value.bool true)) else
      M.fail) (fun r43 => M.ret r43))
def F.disk_nameOK.plan : Plan := (seq leaf (seq (seq leaf (cond (seq leaf leaf) leaf)) (seq (seq leaf (body (loop [25] [2, 4, 5, 6, 25, 26, 27, 28, 29, 30, 31, 32, 33, 34, 35, 36, 37, 38, 39, 40, 41, 42, 43, 44, 45, 46, 47, 48, 49, 50, 51, 52, 53, 54, 55, 56, 57, 58, 59] [0] (seq leaf (seq (cond leaf leaf) (seq (body (seq leaf (seq leaf (seq leaf (seq leaf (cond (seq leaf leaf) leaf)))))) leaf)))))) (seq leaf leaf))))
theorem F.disk_nameOK.lift : LiftOk Tryz.prog 112 (ap1 F.disk_nameOK) :=
  lift1 (g := evFn Tryz.prog tnil tnil 112 Tryz.f112 F.disk_nameOK.plan) (evFn_sound tnil_ok tnil_ok Tryz.func112 (by kernel_rfl)) (fun x0 => by kernel_rfl)

/-- granary/disk.parse -/
noncomputable def F.disk_parse (a0 : Value) : M Value :=
  bindO (binV BinOp.eql a0 (Value.string (ByteArray.mk #[]))) fun x1 =>
  condM x1 (
    M.ret (Value.tuple #[(Value.slice none 0 0), (Value.bool true)])) (
    M.bind (F.strings_Count a0 (Value.string (ByteArray.mk #[47]))) fun x2 =>
    bindO (binV BinOp.geq x2 (Value.int IntKind.i64 8)) fun x3 =>
    condM x3 (
      M.ret (Value.tuple #[(Value.slice none 0 0), (Value.bool false)])) (
      M.bind (F.strings_Split a0 (Value.string (ByteArray.mk #[47]))) fun x4 =>
      bindO (lenL x4) fun x5 =>
      M.bind (loopM (fun l6 =>
        bindO (binV BinOp.lss (getL l6 0) x5) fun x7 =>
        condM x7 (
          bindO (idxA 1 x4 (getL l6 0)) fun x8 =>
          M.bind (rdM (ld1 x8)) fun x9 =>
          M.bind (F.disk_nameOK x9) fun x10 =>
          bindO (notV x10) fun x11 =>
          condM x11 (
            M.ret (Out.ret (Value.tuple #[(Value.slice none 0 0), (Value.bool false)]))) (
            bindO (binV BinOp.add (getL l6 0) (Value.int IntKind.i64 1)) fun x12 =>
            M.ret (Out.norm [x12]))) (
          M.ret (Out.exit 0 [(getL l6 0)]))) [(Value.int IntKind.i64 0)]) fun o14 =>
      outK o14 (fun _ => M.fail) (fun k15 _ =>
        bif Nat.beq k15 0 then (
          M.ret (Value.tuple #[x4, (Value.bool true)])) else
        M.fail) (fun r16 => M.ret r16)))
def F.disk_parse.plan : Plan := (seq leaf (seq (seq leaf (cond (seq leaf leaf) leaf)) (seq (seq leaf (cond (seq leaf leaf) leaf)) (seq leaf (seq (seq leaf (body (loop [16] [2, 3, 6, 16, 17, 18, 19, 20, 21, 22, 23] [0] (seq leaf (seq (cond leaf leaf) (seq (body (seq leaf (seq leaf (cond (seq leaf leaf) leaf)))) leaf)))))) (seq leaf leaf))))))
theorem F.disk_parse.lift : LiftOk Tryz.prog 86 (ap1 F.disk_parse) :=
  lift1 (g := evFn Tryz.prog (tcons 110 (ap2 F.strings_Count) (tcons 111 (ap2 F.strings_Split) (tcons 112 (ap1 F.disk_nameOK) tnil))) tnil 86 Tryz.f86 F.disk_parse.plan) (evFn_sound (tcons_ok F.strings_Count.lift (tcons_ok F.strings_Split.lift (tcons_ok F.disk_nameOK.lift tnil_ok))) tnil_ok Tryz.func86 (by kernel_rfl)) (fun x0 => by kernel_rfl)

/-- (*granary/disk.Disk).walk -/
noncomputable def F.disk_Disk_walk (a0 a1 : Value) : M Value :=
  M.bind (newM 85 #[(Value.int IntKind.i64 0), (Value.string ByteArray.empty), (Value.int IntKind.i64 0)]) fun x1 =>
  bindO (buildV #[(Value.int IntKind.i64 0), (Value.string ByteArray.empty)] [(0, 1, (Value.int IntKind.i64 (-1)))]) fun x2 =>
  bindO (buildV #[(Value.int IntKind.i64 0), (Value.string ByteArray.empty), (Value.int IntKind.i64 0)] [(0, 2, x2), (2, 1, (Value.int IntKind.i64 0))]) fun x3 =>
  M.bind (newM 85 #[(Value.int IntKind.i64 0), (Value.string ByteArray.empty), (Value.int IntKind.i64 0)]) fun x4 =>
  M.bind (stM 3 x4 x3) fun _ =>
  bindO (lenL a1) fun x6 =>
  M.bind (loopM (fun l7 =>
    bindO (binV BinOp.lss (getL l7 0) x6) fun x8 =>
    condM x8 (
      bindO (idxA 1 a1 (getL l7 0)) fun x9 =>
      M.bind (rdM (ld1 x9)) fun x10 =>
      bindO (fieldA 2 x4) fun x11 =>
      M.bind (rdM (ld1 x11)) fun x12 =>
      bindO (binV BinOp.lss x12 (Value.int IntKind.i64 0)) fun x13 =>
      condM x13 (
        bindO (buildV #[(Value.int IntKind.i64 0), (Value.string ByteArray.empty), (Value.int IntKind.i64 0)] []) fun x14 =>
        M.bind (stM 3 x1 x14) fun _ =>
        M.bind (rdM (ldA 3 x1)) fun x16 =>
        M.ret (Out.ret (Value.tuple #[x16, (Value.int IntKind.i64 12)]))) (
        drewM <|
        bindO (nilChk a0) fun x17 =>
        bindO (fieldA 6 x17) fun x18 =>
        M.bind (rdM (ld1 x18)) fun x19 =>
        bindO (fieldA 2 x4) fun x20 =>
        M.bind (rdM (ld1 x20)) fun x21 =>
        bindO (idxA 3 x19 x21) fun x22 =>
        bindO (fieldA 0 x22) fun x23 =>
        M.bind (rdM (ld1 x23)) fun x24 =>
        bindO (binV BinOp.neq x24 (Value.int IntKind.i64 1)) fun x25 =>
        condM x25 (
          bindO (buildV #[(Value.int IntKind.i64 0), (Value.string ByteArray.empty), (Value.int IntKind.i64 0)] []) fun x26 =>
          M.bind (stM 3 x1 x26) fun _ =>
          M.bind (rdM (ldA 3 x1)) fun x28 =>
          M.ret (Out.ret (Value.tuple #[x28, (Value.int IntKind.i64 14)]))) (
          bindO (fieldA 2 x4) fun x29 =>
          M.bind (rdM (ld1 x29)) fun x30 =>
          bindO (buildV #[(Value.int IntKind.i64 0), (Value.string ByteArray.empty)] [(0, 1, x30), (1, 1, x10)]) fun x31 =>
          bindO (fieldA 0 x4) fun x32 =>
          M.bind (stM 2 x32 x31) fun _ =>
          drewM <|
          bindO (nilChk a0) fun x34 =>
          bindO (fieldA 7 x34) fun x35 =>
          M.bind (rdM (ld1 x35)) fun x36 =>
          bindO (fieldA 0 x4) fun x37 =>
          M.bind (rdM (ldA 2 x37)) fun x38 =>
          M.bind (rdM (lookV Tryz.prog 83 (EqSh.offs [(EqK.int, 0), (EqK.str, 1)]) (Value.int IntKind.i64 0) true x36 x38)) fun x39 =>
          bindO (extV 0 x39) fun x40 =>
          bindO (extV 1 x39) fun x41 =>
          M.bind (
            bindO (notV x41) fun x42 =>
            condM x42 (
              M.ret (Out.norm [(Value.int IntKind.i64 (-1))])) (
              M.ret (Out.norm [x40]))) fun o44 =>
          outK o44 (fun l43 =>
            bindO (fieldA 2 x4) fun x47 =>
            M.bind (stM 1 x47 (getL l43 0)) fun _ =>
            bindO (binV BinOp.lss (getL l43 0) (Value.int IntKind.i64 0)) fun x49 =>
            M.bind (guardM x49 true (M.ret (getL l7 0))) fun x50 =>
            M.bind (guardM x49 true (optM (binV BinOp.add x50 (Value.int IntKind.i64 1)))) fun x51 =>
            M.bind (guardM x49 true (M.ret a1)) fun x52 =>
            M.bind (guardM x49 true (optM (lenL x52))) fun x53 =>
            M.bind (guardM x49 true (optM (binV BinOp.lss x51 x53))) fun x54 =>
            bindO (pickV x49 x54 (Value.bool false)) fun x55 =>
            condM x55 (
              bindO (buildV #[(Value.int IntKind.i64 0), (Value.string ByteArray.empty), (Value.int IntKind.i64 0)] []) fun x56 =>
              M.bind (stM 3 x1 x56) fun _ =>
              M.bind (rdM (ldA 3 x1)) fun x58 =>
              M.ret (Out.ret (Value.tuple #[x58, (Value.int IntKind.i64 12)]))) (
              bindO (binV BinOp.add (getL l7 0) (Value.int IntKind.i64 1)) fun x59 =>
              M.ret (Out.norm [x59]))) (fun _ _ =>
            M.fail) (fun r46 => M.ret (Out.ret r46))))) (
      M.ret (Out.exit 0 [(getL l7 0)]))) [(Value.int IntKind.i64 0)]) fun o62 =>
  outK o62 (fun _ => M.fail) (fun k63 _ =>
    bif Nat.beq k63 0 then (
      M.bind (rdM (ldA 3 x4)) fun x65 =>
      M.bind (stM 3 x1 x65) fun _ =>
      M.bind (rdM (ldA 3 x1)) fun x67 =>
      M.ret (Value.tuple #[x67, (Value.int IntKind.i64 0)])) else
    M.fail) (fun r64 => M.ret r64)
def F.disk_Disk_walk.plan : Plan := (seq leaf (seq leaf (seq (seq leaf (body (loop [15] [5, 7, 8, 9, 10, 15, 16, 17, 18, 19, 20, 21, 22, 23, 24, 25, 26, 27, 28, 29, 30, 31, 32, 33, 34, 35, 36, 37, 38, 39, 40, 41, 42, 43, 44, 45, 46, 47, 48, 49, 50, 51, 52, 53, 54, 55, 56, 57, 58, 59, 60, 61, 62, 63, 64] [0] (seq leaf (seq (cond leaf leaf) (seq (body (seq leaf (seq (seq leaf (cond (seq leaf leaf) leaf)) (seq (seq leaf (cond (seq leaf leaf) leaf)) (seq leaf (seq leaf (fork [9] [9, 50, 51] [] (seq leaf (cond leaf leaf)) (seq leaf (seq leaf (cond (seq leaf leaf) leaf)))))))))) leaf)))))) (seq leaf leaf))))
theorem F.disk_Disk_walk.lift : LiftOk Tryz.prog 92 (ap2 F.disk_Disk_walk) :=
  lift2 (g := evFn Tryz.prog tnil tnil 92 Tryz.f92 F.disk_Disk_walk.plan) (evFn_sound tnil_ok tnil_ok Tryz.func92 (by kernel_rfl)) (fun x0 x1 => by kernel_rfl)

/-- (*granary/disk.Disk).find -/
noncomputable def F.disk_Disk_find (a0 a1 a2 : Value) : M Value :=
  M.bind (newM 85 #[(Value.int IntKind.i64 0), (Value.string ByteArray.empty), (Value.int IntKind.i64 0)]) fun x1 =>
  M.bind (F.disk_Disk_ready a0) fun x2 =>
  bindO (binV BinOp.neq x2 (Value.int IntKind.i64 0)) fun x3 =>
  condM x3 (
    bindO (buildV #[(Value.int IntKind.i64 0), (Value.string ByteArray.empty), (Value.int IntKind.i64 0)] []) fun x4 =>
    M.bind (stM 3 x1 x4) fun _ =>
    M.bind (rdM (ldA 3 x1)) fun x6 =>
    M.ret (Value.tuple #[x6, x2])) (
    M.bind (F.disk_parse a1) fun x7 =>
    bindO (extV 0 x7) fun x8 =>
    bindO (extV 1 x7) fun x9 =>
    bindO (notV x9) fun x10 =>
    condM x10 (
      bindO (buildV #[(Value.int IntKind.i64 0), (Value.string ByteArray.empty), (Value.int IntKind.i64 0)] []) fun x11 =>
      M.bind (stM 3 x1 x11) fun _ =>
      M.bind (rdM (ldA 3 x1)) fun x13 =>
      M.ret (Value.tuple #[x13, (Value.int IntKind.i64 11)])) (
      M.bind (F.disk_Disk_walk a0 x8) fun x14 =>
      bindO (extV 0 x14) fun x15 =>
      bindO (extV 1 x14) fun x16 =>
      M.bind (newM 85 #[(Value.int IntKind.i64 0), (Value.string ByteArray.empty), (Value.int IntKind.i64 0)]) fun x17 =>
      M.bind (stM 3 x17 x15) fun _ =>
      bindO (binV BinOp.neq x16 (Value.int IntKind.i64 0)) fun x19 =>
      condM x19 (
        bindO (buildV #[(Value.int IntKind.i64 0), (Value.string ByteArray.empty), (Value.int IntKind.i64 0)] []) fun x20 =>
        M.bind (stM 3 x1 x20) fun _ =>
        M.bind (rdM (ldA 3 x1)) fun x22 =>
        M.ret (Value.tuple #[x22, x16])) (
        bindO (fieldA 2 x17) fun x23 =>
        M.bind (rdM (ld1 x23)) fun x24 =>
        bindO (binV BinOp.lss x24 (Value.int IntKind.i64 0)) fun x25 =>
        condM x25 (
          bindO (buildV #[(Value.int IntKind.i64 0), (Value.string ByteArray.empty), (Value.int IntKind.i64 0)] []) fun x26 =>
          M.bind (stM 3 x1 x26) fun _ =>
          M.bind (rdM (ldA 3 x1)) fun x28 =>
          M.ret (Value.tuple #[x28, (Value.int IntKind.i64 12)])) (
          drewM <|
          bindO (binV BinOp.neq a2 (Value.int IntKind.i64 0)) fun x29 =>
          M.bind (guardM x29 true (M.ret a0)) fun x30 =>
          M.bind (guardM x29 true (optM (nilChk x30))) fun x31 =>
          M.bind (guardM x29 true (optM (fieldA 6 x31))) fun x32 =>
          M.bind (guardM x29 true (rdM (ld1 x32))) fun x33 =>
          M.bind (guardM x29 true (optM (fieldA 2 x17))) fun x34 =>
          M.bind (guardM x29 true (rdM (ld1 x34))) fun x35 =>
          M.bind (guardM x29 true (optM (idxA 3 x33 x35))) fun x36 =>
          M.bind (guardM x29 true (optM (fieldA 0 x36))) fun x37 =>
          M.bind (guardM x29 true (rdM (ld1 x37))) fun x38 =>
          M.bind (guardM x29 true (M.ret a2)) fun x39 =>
          M.bind (guardM x29 true (optM (binV BinOp.neq x38 x39))) fun x40 =>
          bindO (pickV x29 x40 (Value.bool false)) fun x41 =>
          condM x41 (
            bindO (buildV #[(Value.int IntKind.i64 0), (Value.string ByteArray.empty), (Value.int IntKind.i64 0)] []) fun x42 =>
            M.bind (stM 3 x1 x42) fun _ =>
            M.bind (rdM (ldA 3 x1)) fun x44 =>
            M.ret (Value.tuple #[x44, (Value.int IntKind.i64 14)])) (
            M.bind (rdM (ldA 3 x17)) fun x45 =>
            M.bind (stM 3 x1 x45) fun _ =>
            M.bind (rdM (ldA 3 x1)) fun x47 =>
            M.ret (Value.tuple #[x47, (Value.int IntKind.i64 0)]))))))
def F.disk_Disk_find.plan : Plan := (seq leaf (seq (seq leaf (seq leaf (cond (seq leaf leaf) leaf))) (seq leaf (seq (seq leaf (cond (seq leaf leaf) leaf)) (seq leaf (seq (body (seq leaf (cond (seq leaf leaf) (seq leaf (cond (seq leaf leaf) (seq leaf (cond (seq leaf leaf) leaf))))))) (seq leaf leaf)))))))
theorem F.disk_Disk_find.lift : LiftOk Tryz.prog 72 (ap3 F.disk_Disk_find) :=
  lift3 (g := evFn Tryz.prog (tcons 85 (ap1 F.disk_Disk_ready) (tcons 86 (ap1 F.disk_parse) (tcons 92 (ap2 F.disk_Disk_walk) tnil))) tnil 72 Tryz.f72 F.disk_Disk_find.plan) (evFn_sound (tcons_ok F.disk_Disk_ready.lift (tcons_ok F.disk_parse.lift (tcons_ok F.disk_Disk_walk.lift tnil_ok))) tnil_ok Tryz.func72 (by kernel_rfl)) (fun x0 x1 x2 => by kernel_rfl)

/-- (*granary/disk.Disk).Read -/
noncomputable def F.disk_Disk_Read (a0 a1 a2 a3 : Value) : M Value :=
  M.bind (F.disk_Disk_ready a0) fun x1 =>
  bindO (binV BinOp.neq x1 (Value.int IntKind.i64 0)) fun x2 =>
  condM x2 (
    M.ret (Value.tuple #[(Value.string (ByteArray.mk #[])), x1])) (
    M.bind (F.disk_parse a1) fun x3 =>
    bindO (extV 0 x3) fun _ =>
    bindO (extV 1 x3) fun x5 =>
    bindO (notV x5) fun x6 =>
    condM x6 (
      M.ret (Value.tuple #[(Value.string (ByteArray.mk #[])), (Value.int IntKind.i64 11)])) (
      bindO (binV BinOp.lss a2 (Value.int IntKind.i64 0)) fun x7 =>
      M.bind (guardM x7 false (M.ret a3)) fun x8 =>
      M.bind (guardM x7 false (optM (binV BinOp.lss x8 (Value.int IntKind.i64 0)))) fun x9 =>
      bindO (pickV x7 (Value.bool true) x9) fun x10 =>
      condM x10 (
        M.ret (Value.tuple #[(Value.string (ByteArray.mk #[])), (Value.int IntKind.i64 1)])) (
        M.bind (F.disk_Disk_find a0 a1 (Value.int IntKind.i64 2)) fun x11 =>
        bindO (extV 0 x11) fun x12 =>
        bindO (extV 1 x11) fun x13 =>
        M.bind (newM 85 #[(Value.int IntKind.i64 0), (Value.string ByteArray.empty), (Value.int IntKind.i64 0)]) fun x14 =>
        M.bind (stM 3 x14 x12) fun _ =>
        bindO (binV BinOp.neq x13 (Value.int IntKind.i64 0)) fun x16 =>
        condM x16 (
          M.ret (Value.tuple #[(Value.string (ByteArray.mk #[])), x13])) (
          drewM <|
          bindO (nilChk a0) fun x17 =>
          bindO (fieldA 6 x17) fun x18 =>
          M.bind (rdM (ld1 x18)) fun x19 =>
          bindO (fieldA 2 x14) fun x20 =>
          M.bind (rdM (ld1 x20)) fun x21 =>
          bindO (idxA 3 x19 x21) fun x22 =>
          bindO (fieldA 1 x22) fun x23 =>
          M.bind (rdM (ld1 x23)) fun x24 =>
          bindO (lenS x24) fun x25 =>
          bindO (binV BinOp.gtr a2 x25) fun x26 =>
          condM x26 (
            M.ret (Value.tuple #[(Value.string (ByteArray.mk #[])), (Value.int IntKind.i64 16)])) (
            bindO (nilChk a0) fun x27 =>
            bindO (fieldA 2 x27) fun x28 =>
            M.bind (rdM (ld1 x28)) fun x29 =>
            bindO (binV BinOp.add x29 (Value.int IntKind.i64 1)) fun x30 =>
            bindO (nilChk a0) fun x31 =>
            bindO (fieldA 2 x31) fun x32 =>
            M.bind (stM 1 x32 x30) fun _ =>
            bindO (lenS x24) fun x34 =>
            bindO (binV BinOp.sub x34 a2) fun x35 =>
            M.bind (optM (minV a3 x35)) fun x36 =>
            bindO (binV BinOp.add a2 x36) fun x37 =>
            bindO (sliceS x24 (some a2) (some x37)) fun x38 =>
            M.ret (Value.tuple #[x38, (Value.int IntKind.i64 0)]))))))
def F.disk_Disk_Read.plan : Plan := (seq leaf (seq (seq leaf (seq leaf (cond (seq leaf leaf) leaf))) (seq (seq leaf (seq leaf (cond (seq leaf leaf) leaf))) (seq (seq leaf (cond (seq leaf leaf) leaf)) (seq leaf (seq (seq leaf (cond (seq leaf leaf) leaf)) (seq leaf (seq (seq leaf (cond (seq leaf leaf) leaf)) (seq leaf (seq leaf leaf))))))))))
theorem F.disk_Disk_Read.lift : LiftOk Tryz.prog 33 (ap4 F.disk_Disk_Read) :=
  lift4 (g := evFn Tryz.prog (tcons 72 (ap3 F.disk_Disk_find) (tcons 85 (ap1 F.disk_Disk_ready) (tcons 86 (ap1 F.disk_parse) tnil))) tnil 33 Tryz.f33 F.disk_Disk_Read.plan) (evFn_sound (tcons_ok F.disk_Disk_find.lift (tcons_ok F.disk_Disk_ready.lift (tcons_ok F.disk_parse.lift tnil_ok))) tnil_ok Tryz.func33 (by kernel_rfl)) (fun x0 x1 x2 x3 => by kernel_rfl)

/-- granary/granaryref1.named -/
noncomputable def F.granaryref1_named (a0 : Value) : M Value :=
  bindO (lenS a0) fun x1 =>
  bindO (binV BinOp.lss x1 (Value.int IntKind.i64 1)) fun x2 =>
  M.bind (guardM x2 false (M.ret a0)) fun x3 =>
  M.bind (guardM x2 false (optM (lenS x3))) fun x4 =>
  M.bind (guardM x2 false (optM (binV BinOp.gtr x4 (Value.int IntKind.i64 40)))) fun x5 =>
  bindO (pickV x2 (Value.bool true) x5) fun x6 =>
  M.bind (guardM x6 false (M.ret a0)) fun x7 =>
  M.bind (guardM x6 false (optM (binV BinOp.eql x7 (Value.string (ByteArray.mk #[46]))))) fun x8 =>
  bindO (pickV x6 (Value.bool true) x8) fun x9 =>
  M.bind (guardM x9 false (M.ret a0)) fun x10 =>
  M.bind (guardM x9 false (optM (binV BinOp.eql x10 (Value.string (ByteArray.mk #[46, 46]))))) fun x11 =>
  bindO (pickV x9 (Value.bool true) x11) fun x12 =>
  condM x12 (
    M.ret (Value.bool false)) (
    M.bind (loopM (fun l13 =>
      bindO (lenS a0) fun x14 =>
      bindO (binV BinOp.lss (getL l13 0) x14) fun x15 =>
      condM x15 (
        bindO (idxS a0 (getL l13 0)) fun x16 =>
        bindO (binV BinOp.geq x16 (Value.int IntKind.u8 97)) fun x17 =>
        M.bind (guardM x17 true (M.ret x16)) fun x18 =>
        M.bind (guardM x17 true (optM (binV BinOp.leq x18 (Value.int IntKind.u8 122)))) fun x19 =>
        bindO (pickV x17 x19 (Value.bool false)) fun x20 =>
        M.bind (guardM x20 false (M.ret x16)) fun x21 =>
        M.bind (guardM x20 false (optM (binV BinOp.geq x21 (Value.int IntKind.u8 48)))) fun x22 =>
        M.bind (guardM x20 false (M.ret x22)) fun x23 =>
        M.bind (guardM x23 true (M.ret x16)) fun x24 =>
        M.bind (guardM x23 true (optM (binV BinOp.leq x24 (Value.int IntKind.u8 57)))) fun x25 =>
        M.bind (guardM x20 false (optM (pickV x23 x25 (Value.bool false)))) fun x26 =>
        bindO (pickV x20 (Value.bool true) x26) fun x27 =>
        M.bind (guardM x27 false (M.ret x16)) fun x28 =>
        M.bind (guardM x27 false (optM (binV BinOp.eql x28 (Value.int IntKind.u8 45)))) fun x29 =>
        bindO (pickV x27 (Value.bool true) x29) fun x30 =>
        M.bind (guardM x30 false (M.ret x16)) fun x31 =>
        M.bind (guardM x30 false (optM (binV BinOp.eql x31 (Value.int IntKind.u8 95)))) fun x32 =>
        bindO (pickV x30 (Value.bool true) x32) fun x33 =>
        M.bind (guardM x33 false (M.ret x16)) fun x34 =>
        M.bind (guardM x33 false (optM (binV BinOp.eql x34 (Value.int IntKind.u8 46)))) fun x35 =>
        bindO (pickV x33 (Value.bool true) x35) fun x36 =>
        bindO (notV x36) fun x37 =>
        condM x37 (
          M.ret (Out.ret (Value.bool false))) (
          bindO (binV BinOp.add (getL l13 0) (Value.int IntKind.i64 1)) fun x38 =>
          M.ret (Out.norm [x38]))) (
        M.ret (Out.exit 0 [(getL l13 0)]))) [(Value.int IntKind.i64 0)]) fun o40 =>
    outK o40 (fun _ => M.fail) (fun k41 _ =>
      bif Nat.beq k41 0 then (
        M.ret (Value.bool true)) else
      M.fail) (fun r42 => M.ret r42))
def F.granaryref1_named.plan : Plan := (seq leaf (seq (seq leaf (cond (seq leaf leaf) leaf)) (seq (seq leaf (body (loop [3] [2, 3, 4, 21, 22, 23, 24, 25, 26, 27, 28, 29, 30, 31, 32, 33, 34, 35, 36, 37, 38, 39, 40, 41, 42, 43, 44, 45, 46, 47, 48, 49, 50, 51, 52, 53, 54, 55, 56] [0] (seq (seq leaf (cond leaf leaf)) (seq (body (seq leaf (seq leaf (cond (seq leaf leaf) leaf)))) leaf))))) (seq leaf leaf))))
theorem F.granaryref1_named.lift : LiftOk Tryz.prog 144 (ap1 F.granaryref1_named) :=
  lift1 (g := evFn Tryz.prog tnil tnil 144 Tryz.f144 F.granaryref1_named.plan) (evFn_sound tnil_ok tnil_ok Tryz.func144 (by kernel_rfl)) (fun x0 => by kernel_rfl)

/-- granary/granaryref1.Names -/
noncomputable def F.granaryref1_Names (a0 : Value) : M Value :=
  bindO (binV BinOp.eql a0 (Value.string (ByteArray.mk #[]))) fun x1 =>
  condM x1 (
    M.ret (Value.tuple #[(Value.slice none 0 0), (Value.bool true)])) (
    M.bind (loopM (fun l2 =>
      bindO (lenS a0) fun x3 =>
      bindO (binV BinOp.leq (getL l2 2) x3) fun x4 =>
      condM x4 (
        M.bind (
          bindO (lenS a0) fun x5 =>
          bindO (binV BinOp.eql (getL l2 2) x5) fun x6 =>
          M.bind (guardM x6 false (M.ret a0)) fun x7 =>
          M.bind (guardM x6 false (M.ret (getL l2 2))) fun x8 =>
          M.bind (guardM x6 false (optM (idxS x7 x8))) fun x9 =>
          M.bind (guardM x6 false (optM (binV BinOp.eql x9 (Value.int IntKind.u8 47)))) fun x10 =>
          bindO (pickV x6 (Value.bool true) x10) fun x11 =>
          condM x11 (
            bindO (sliceS a0 (some (getL l2 1)) (some (getL l2 2))) fun x12 =>
            M.bind (F.granaryref1_named x12) fun x13 =>
            bindO (notV x13) fun x14 =>
            M.bind (guardM x14 false (M.ret (getL l2 0))) fun x15 =>
            M.bind (guardM x14 false (optM (lenL x15))) fun x16 =>
            M.bind (guardM x14 false (optM (binV BinOp.eql x16 (Value.int IntKind.i64 8)))) fun x17 =>
            bindO (pickV x14 (Value.bool true) x17) fun x18 =>
            condM x18 (
              M.ret (Out.ret (Value.tuple #[(getL l2 0), (Value.bool false)]))) (
              bindO (sliceS a0 (some (getL l2 1)) (some (getL l2 2))) fun x19 =>
              M.bind (bslM 9 1 (Builtin.zeroCells #[(Value.string ByteArray.empty)] 1) [(0, 1, x19)]) fun x20 =>
              M.bind (appM 9 1 16 #[(Value.string ByteArray.empty)] (getL l2 0) x20) fun x21 =>
              bindO (binV BinOp.add (getL l2 2) (Value.int IntKind.i64 1)) fun x22 =>
              M.ret (Out.norm [x21, x22]))) (
            M.ret (Out.norm [(getL l2 0), (getL l2 1)]))) fun o24 =>
        outK o24 (fun l23 =>
          bindO (binV BinOp.add (getL l2 2) (Value.int IntKind.i64 1)) fun x27 =>
          M.ret (Out.norm [(getL l23 0), (getL l23 1), x27])) (fun _ _ =>
          M.fail) (fun r26 => M.ret (Out.ret r26))) (
        M.ret (Out.exit 0 [(getL l2 0), (getL l2 1), (getL l2 2)]))) [(Value.slice none 0 0), (Value.int IntKind.i64 0), (Value.int IntKind.i64 0)]) fun o30 =>
    outK o30 (fun _ => M.fail) (fun k31 l29 =>
      bif Nat.beq k31 0 then (
        M.ret (Value.tuple #[(getL l29 0), (Value.bool true)])) else
      M.fail) (fun r32 => M.ret r32))
def F.granaryref1_Names.plan : Plan := (seq leaf (seq leaf (seq (seq leaf (cond (seq leaf leaf) leaf)) (seq leaf (seq (seq leaf (body (loop [4, 5, 6] [2, 3, 4, 5, 6, 7, 11, 12, 13, 14, 15, 16, 17, 18, 19, 20, 21, 22, 23, 24, 25, 26, 27, 28, 29, 30, 31, 32, 33, 34, 35, 36, 37, 38, 39, 40, 41, 42, 43, 44, 45, 46, 47, 48] [0] (seq (seq leaf (cond leaf leaf)) (fork [4, 5] [2, 3, 4, 5, 7, 17, 18, 19, 20, 21, 22, 23, 24, 25, 26, 27, 28, 29, 30, 31, 32, 33, 34, 35, 36, 37, 38, 39, 40, 41, 42, 43, 44, 45, 46, 47, 48] [] (body (seq leaf (cond (seq leaf (seq (seq leaf (cond (seq leaf leaf) leaf)) (seq leaf leaf))) leaf))) leaf))))) (seq leaf leaf))))))
theorem F.granaryref1_Names.lift : LiftOk Tryz.prog 113 (ap1 F.granaryref1_Names) :=
  lift1 (g := evFn Tryz.prog (tcons 144 (ap1 F.granaryref1_named) tnil) tnil 113 Tryz.f113 F.granaryref1_Names.plan) (evFn_sound (tcons_ok F.granaryref1_named.lift tnil_ok) tnil_ok Tryz.func113 (by kernel_rfl)) (fun x0 => by kernel_rfl)

/-- (*granary/granaryref1.Disk).names -/
noncomputable def F.granaryref1_Disk_names (a0 a1 a2 : Value) : M Value :=
  bindO (eqV (EqSh.one EqK.ptr) a0 (Value.pointer none)) fun x1 =>
  condM x1 (
    M.ret (Value.tuple #[(Value.slice none 0 0), (Value.int IntKind.i64 2)])) (
    bindO (nilChk a0) fun x2 =>
    bindO (fieldA 4 x2) fun x3 =>
    M.bind (rdM (ld1 x3)) fun x4 =>
    condM x4 (
      M.ret (Value.tuple #[(Value.slice none 0 0), (Value.int IntKind.i64 10)])) (
      M.bind (F.granaryref1_Names a1) fun x5 =>
      bindO (extV 0 x5) fun x6 =>
      bindO (extV 1 x5) fun x7 =>
      bindO (notV x7) fun x8 =>
      M.bind (guardM x8 false (M.ret x6)) fun x9 =>
      M.bind (guardM x8 false (optM (lenL x9))) fun x10 =>
      M.bind (guardM x8 false (optM (binV BinOp.eql x10 (Value.int IntKind.i64 0)))) fun x11 =>
      M.bind (guardM x8 false (M.ret x11)) fun x12 =>
      M.bind (guardM x12 true (M.ret a2)) fun x13 =>
      M.bind (guardM x12 true (optM (notV x13))) fun x14 =>
      M.bind (guardM x8 false (optM (pickV x12 x14 (Value.bool false)))) fun x15 =>
      bindO (pickV x8 (Value.bool true) x15) fun x16 =>
      condM x16 (
        M.ret (Value.tuple #[(Value.slice none 0 0), (Value.int IntKind.i64 11)])) (
        M.ret (Value.tuple #[x6, (Value.int IntKind.i64 0)]))))
def F.granaryref1_Disk_names.plan : Plan := (seq leaf (seq (seq leaf (cond (seq leaf leaf) leaf)) (seq (seq leaf (cond (seq leaf leaf) leaf)) (seq leaf (seq (seq leaf (cond (seq leaf leaf) leaf)) (seq leaf leaf))))))
theorem F.granaryref1_Disk_names.lift : LiftOk Tryz.prog 87 (ap3 F.granaryref1_Disk_names) :=
  lift3 (g := evFn Tryz.prog (tcons 113 (ap1 F.granaryref1_Names) tnil) tnil 87 Tryz.f87 F.granaryref1_Disk_names.plan) (evFn_sound (tcons_ok F.granaryref1_Names.lift tnil_ok) tnil_ok Tryz.func87 (by kernel_rfl)) (fun x0 x1 x2 => by kernel_rfl)

/-- granary/granaryref1.find -/
noncomputable def F.granaryref1_find (a0 a1 : Value) : M Value :=
  M.bind (loopM (fun l1 =>
    bindO (lenL a0) fun x2 =>
    bindO (binV BinOp.lss (getL l1 0) x2) fun x3 =>
    condM x3 (
      bindO (idxA 2 a0 (getL l1 0)) fun x4 =>
      bindO (fieldA 0 x4) fun x5 =>
      M.bind (rdM (ld1 x5)) fun x6 =>
      bindO (binV BinOp.eql x6 a1) fun x7 =>
      condM x7 (
        bindO (idxA 2 a0 (getL l1 0)) fun x8 =>
        bindO (fieldA 1 x8) fun x9 =>
        M.bind (rdM (ld1 x9)) fun x10 =>
        M.ret (Out.ret x10)) (
        bindO (binV BinOp.add (getL l1 0) (Value.int IntKind.i64 1)) fun x11 =>
        M.ret (Out.norm [x11]))) (
      M.ret (Out.exit 0 [(getL l1 0)]))) [(Value.int IntKind.i64 0)]) fun o13 =>
  outK o13 (fun _ => M.fail) (fun k14 _ =>
    bif Nat.beq k14 0 then (
      M.ret (Value.int IntKind.i64 (-1))) else
    M.fail) (fun r15 => M.ret r15)
def F.granaryref1_find.plan : Plan := (seq leaf (seq (seq leaf (body (loop [5] [4, 5, 6, 7, 8, 9, 10, 11, 12, 13, 14, 15, 16, 17, 18, 19, 20, 21, 22, 23] [0] (seq (seq leaf (cond leaf leaf)) (seq (body (seq leaf (cond (seq leaf leaf) leaf))) leaf))))) (seq leaf leaf)))
theorem F.granaryref1_find.lift : LiftOk Tryz.prog 116 (ap2 F.granaryref1_find) :=
  lift2 (g := evFn Tryz.prog tnil tnil 116 Tryz.f116 F.granaryref1_find.plan) (evFn_sound tnil_ok tnil_ok Tryz.func116 (by kernel_rfl)) (fun x0 x1 => by kernel_rfl)

/-- (*granary/granaryref1.Disk).spot -/
noncomputable def F.granaryref1_Disk_spot (a0 a1 : Value) : M Value :=
  M.bind (newM 100 #[(Value.int IntKind.i64 0), (Value.string ByteArray.empty), (Value.int IntKind.i64 0)]) fun x1 =>
  bindO (lenL a1) fun x2 =>
  bindO (binV BinOp.eql x2 (Value.int IntKind.i64 0)) fun x3 =>
  condM x3 (
    bindO (buildV #[(Value.int IntKind.i64 0), (Value.string ByteArray.empty), (Value.int IntKind.i64 0)] [(0, 1, (Value.int IntKind.i64 (-1)))]) fun x4 =>
    M.bind (stM 3 x1 x4) fun _ =>
    M.bind (rdM (ldA 3 x1)) fun x6 =>
    M.ret (Value.tuple #[x6, (Value.int IntKind.i64 0)])) (
    M.bind (loopM (fun l7 =>
      bindO (binV BinOp.add (getL l7 1) (Value.int IntKind.i64 1)) fun x8 =>
      bindO (lenL a1) fun x9 =>
      bindO (binV BinOp.lss x8 x9) fun x10 =>
      condM x10 (
        drewM <|
        bindO (nilChk a0) fun x11 =>
        bindO (fieldA 5 x11) fun x12 =>
        M.bind (rdM (ld1 x12)) fun x13 =>
        bindO (idxA 5 x13 (getL l7 0)) fun x14 =>
        bindO (fieldA 1 x14) fun x15 =>
        bindO (fieldA 1 x15) fun x16 =>
        M.bind (rdM (ld1 x16)) fun x17 =>
        bindO (idxA 1 a1 (getL l7 1)) fun x18 =>
        M.bind (rdM (ld1 x18)) fun x19 =>
        M.bind (F.granaryref1_find x17 x19) fun x20 =>
        bindO (binV BinOp.lss x20 (Value.int IntKind.i64 0)) fun x21 =>
        condM x21 (
          bindO (buildV #[(Value.int IntKind.i64 0), (Value.string ByteArray.empty), (Value.int IntKind.i64 0)] []) fun x22 =>
          M.bind (stM 3 x1 x22) fun _ =>
          M.bind (rdM (ldA 3 x1)) fun x24 =>
          M.ret (Out.ret (Value.tuple #[x24, (Value.int IntKind.i64 12)]))) (
          bindO (nilChk a0) fun x25 =>
          bindO (fieldA 5 x25) fun x26 =>
          M.bind (rdM (ld1 x26)) fun x27 =>
          bindO (idxA 5 x27 x20) fun x28 =>
          bindO (fieldA 0 x28) fun x29 =>
          M.bind (rdM (ld1 x29)) fun x30 =>
          bindO (binV BinOp.neq x30 (Value.int IntKind.i64 1)) fun x31 =>
          condM x31 (
            bindO (buildV #[(Value.int IntKind.i64 0), (Value.string ByteArray.empty), (Value.int IntKind.i64 0)] []) fun x32 =>
            M.bind (stM 3 x1 x32) fun _ =>
            M.bind (rdM (ldA 3 x1)) fun x34 =>
            M.ret (Out.ret (Value.tuple #[x34, (Value.int IntKind.i64 14)]))) (
            bindO (binV BinOp.add (getL l7 1) (Value.int IntKind.i64 1)) fun x35 =>
            M.ret (Out.norm [x20, x35])))) (
        M.ret (Out.exit 0 [(getL l7 0), (getL l7 1)]))) [(Value.int IntKind.i64 0), (Value.int IntKind.i64 0)]) fun o37 =>
    outK o37 (fun _ => M.fail) (fun k38 l36 =>
      bif Nat.beq k38 0 then (
        bindO (lenL a1) fun x40 =>
        bindO (binV BinOp.sub x40 (Value.int IntKind.i64 1)) fun x41 =>
        bindO (idxA 1 a1 x41) fun x42 =>
        M.bind (rdM (ld1 x42)) fun x43 =>
        bindO (nilChk a0) fun x44 =>
        bindO (fieldA 5 x44) fun x45 =>
        M.bind (rdM (ld1 x45)) fun x46 =>
        bindO (idxA 5 x46 (getL l36 0)) fun x47 =>
        bindO (fieldA 1 x47) fun x48 =>
        bindO (fieldA 1 x48) fun x49 =>
        M.bind (rdM (ld1 x49)) fun x50 =>
        M.bind (F.granaryref1_find x50 x43) fun x51 =>
        bindO (buildV #[(Value.int IntKind.i64 0), (Value.string ByteArray.empty), (Value.int IntKind.i64 0)] [(0, 1, (getL l36 0)), (1, 1, x43), (2, 1, x51)]) fun x52 =>
        M.bind (stM 3 x1 x52) fun _ =>
        M.bind (rdM (ldA 3 x1)) fun x54 =>
        M.ret (Value.tuple #[x54, (Value.int IntKind.i64 0)])) else
      M.fail) (fun r39 => M.ret r39))
def F.granaryref1_Disk_spot.plan : Plan := (seq leaf (seq (seq leaf (cond (seq leaf leaf) leaf)) (seq leaf (seq (seq leaf (body (loop [6, 7] [5, 6, 7, 8, 15, 16, 17, 18, 19, 20, 21, 22, 23, 24, 25, 26, 27, 28, 29, 30, 31, 32, 33, 34, 35, 36, 37, 38, 39, 40, 41, 42, 43, 44, 45, 46, 47, 48, 49] [0] (seq (seq leaf (cond leaf leaf)) (seq (body (seq leaf (seq (seq leaf (cond (seq leaf leaf) leaf)) (seq (seq leaf (cond (seq leaf leaf) leaf)) leaf)))) leaf))))) (seq leaf (seq leaf (seq leaf leaf)))))))
theorem F.granaryref1_Disk_spot.lift : LiftOk Tryz.prog 94 (ap2 F.granaryref1_Disk_spot) :=
  lift2 (g := evFn Tryz.prog (tcons 116 (ap2 F.granaryref1_find) tnil) tnil 94 Tryz.f94 F.granaryref1_Disk_spot.plan) (evFn_sound (tcons_ok F.granaryref1_find.lift tnil_ok) tnil_ok Tryz.func94 (by kernel_rfl)) (fun x0 x1 => by kernel_rfl)

/-- (*granary/granaryref1.Disk).at -/
noncomputable def F.granaryref1_Disk_at (a0 a1 a2 : Value) : M Value :=
  M.bind (newM 100 #[(Value.int IntKind.i64 0), (Value.string ByteArray.empty), (Value.int IntKind.i64 0)]) fun x1 =>
  M.bind (F.granaryref1_Disk_names a0 a1 (Value.bool true)) fun x2 =>
  bindO (extV 0 x2) fun x3 =>
  bindO (extV 1 x2) fun x4 =>
  bindO (binV BinOp.neq x4 (Value.int IntKind.i64 0)) fun x5 =>
  condM x5 (
    bindO (buildV #[(Value.int IntKind.i64 0), (Value.string ByteArray.empty), (Value.int IntKind.i64 0)] []) fun x6 =>
    M.bind (stM 3 x1 x6) fun _ =>
    M.bind (rdM (ldA 3 x1)) fun x8 =>
    M.ret (Value.tuple #[x8, x4])) (
    M.bind (F.granaryref1_Disk_spot a0 x3) fun x9 =>
    bindO (extV 0 x9) fun x10 =>
    bindO (extV 1 x9) fun x11 =>
    M.bind (newM 100 #[(Value.int IntKind.i64 0), (Value.string ByteArray.empty), (Value.int IntKind.i64 0)]) fun x12 =>
    M.bind (stM 3 x12 x10) fun _ =>
    bindO (binV BinOp.neq x11 (Value.int IntKind.i64 0)) fun x14 =>
    condM x14 (
      bindO (buildV #[(Value.int IntKind.i64 0), (Value.string ByteArray.empty), (Value.int IntKind.i64 0)] []) fun x15 =>
      M.bind (stM 3 x1 x15) fun _ =>
      M.bind (rdM (ldA 3 x1)) fun x17 =>
      M.ret (Value.tuple #[x17, x11])) (
      bindO (fieldA 2 x12) fun x18 =>
      M.bind (rdM (ld1 x18)) fun x19 =>
      bindO (binV BinOp.lss x19 (Value.int IntKind.i64 0)) fun x20 =>
      condM x20 (
        bindO (buildV #[(Value.int IntKind.i64 0), (Value.string ByteArray.empty), (Value.int IntKind.i64 0)] []) fun x21 =>
        M.bind (stM 3 x1 x21) fun _ =>
        M.bind (rdM (ldA 3 x1)) fun x23 =>
        M.ret (Value.tuple #[x23, (Value.int IntKind.i64 12)])) (
        drewM <|
        bindO (binV BinOp.neq a2 (Value.int IntKind.i64 0)) fun x24 =>
        M.bind (guardM x24 true (M.ret a0)) fun x25 =>
        M.bind (guardM x24 true (optM (nilChk x25))) fun x26 =>
        M.bind (guardM x24 true (optM (fieldA 5 x26))) fun x27 =>
        M.bind (guardM x24 true (rdM (ld1 x27))) fun x28 =>
        M.bind (guardM x24 true (optM (fieldA 2 x12))) fun x29 =>
        M.bind (guardM x24 true (rdM (ld1 x29))) fun x30 =>
        M.bind (guardM x24 true (optM (idxA 5 x28 x30))) fun x31 =>
        M.bind (guardM x24 true (optM (fieldA 0 x31))) fun x32 =>
        M.bind (guardM x24 true (rdM (ld1 x32))) fun x33 =>
        M.bind (guardM x24 true (M.ret a2)) fun x34 =>
        M.bind (guardM x24 true (optM (binV BinOp.neq x33 x34))) fun x35 =>
        bindO (pickV x24 x35 (Value.bool false)) fun x36 =>
        condM x36 (
          bindO (buildV #[(Value.int IntKind.i64 0), (Value.string ByteArray.empty), (Value.int IntKind.i64 0)] []) fun x37 =>
          M.bind (stM 3 x1 x37) fun _ =>
          M.bind (rdM (ldA 3 x1)) fun x39 =>
          M.ret (Value.tuple #[x39, (Value.int IntKind.i64 14)])) (
          M.bind (rdM (ldA 3 x12)) fun x40 =>
          M.bind (stM 3 x1 x40) fun _ =>
          M.bind (rdM (ldA 3 x1)) fun x42 =>
          M.ret (Value.tuple #[x42, (Value.int IntKind.i64 0)])))))
def F.granaryref1_Disk_at.plan : Plan := (seq leaf (seq leaf (seq (seq leaf (cond (seq leaf leaf) leaf)) (seq leaf (seq (seq leaf (cond (seq leaf leaf) leaf)) (seq (seq leaf (cond (seq leaf leaf) leaf)) (seq (seq leaf (cond (seq leaf leaf) leaf)) (seq leaf leaf))))))))
theorem F.granaryref1_Disk_at.lift : LiftOk Tryz.prog 76 (ap3 F.granaryref1_Disk_at) :=
  lift3 (g := evFn Tryz.prog (tcons 87 (ap3 F.granaryref1_Disk_names) (tcons 94 (ap2 F.granaryref1_Disk_spot) tnil)) tnil 76 Tryz.f76 F.granaryref1_Disk_at.plan) (evFn_sound (tcons_ok F.granaryref1_Disk_names.lift (tcons_ok F.granaryref1_Disk_spot.lift tnil_ok)) tnil_ok Tryz.func76 (by kernel_rfl)) (fun x0 x1 x2 => by kernel_rfl)

/-- (*granary/granaryref1.Disk).Read -/
noncomputable def F.granaryref1_Disk_Read (a0 a1 a2 a3 : Value) : M Value :=
  M.bind (F.granaryref1_Disk_names a0 a1 (Value.bool true)) fun x1 =>
  bindO (extV 0 x1) fun _ =>
  bindO (extV 1 x1) fun x3 =>
  bindO (binV BinOp.neq x3 (Value.int IntKind.i64 0)) fun x4 =>
  condM x4 (
    M.ret (Value.tuple #[(Value.string (ByteArray.mk #[])), x3])) (
    bindO (binV BinOp.lss a2 (Value.int IntKind.i64 0)) fun x5 =>
    M.bind (guardM x5 false (M.ret a3)) fun x6 =>
    M.bind (guardM x5 false (optM (binV BinOp.lss x6 (Value.int IntKind.i64 0)))) fun x7 =>
    bindO (pickV x5 (Value.bool true) x7) fun x8 =>
    condM x8 (
      M.ret (Value.tuple #[(Value.string (ByteArray.mk #[])), (Value.int IntKind.i64 1)])) (
      M.bind (F.granaryref1_Disk_at a0 a1 (Value.int IntKind.i64 2)) fun x9 =>
      bindO (extV 0 x9) fun x10 =>
      bindO (extV 1 x9) fun x11 =>
      M.bind (newM 100 #[(Value.int IntKind.i64 0), (Value.string ByteArray.empty), (Value.int IntKind.i64 0)]) fun x12 =>
      M.bind (stM 3 x12 x10) fun _ =>
      bindO (binV BinOp.neq x11 (Value.int IntKind.i64 0)) fun x14 =>
      condM x14 (
        M.ret (Value.tuple #[(Value.string (ByteArray.mk #[])), x11])) (
        drewM <|
        bindO (nilChk a0) fun x15 =>
        bindO (fieldA 5 x15) fun x16 =>
        M.bind (rdM (ld1 x16)) fun x17 =>
        bindO (fieldA 2 x12) fun x18 =>
        M.bind (rdM (ld1 x18)) fun x19 =>
        bindO (idxA 5 x17 x19) fun x20 =>
        bindO (fieldA 1 x20) fun x21 =>
        bindO (fieldA 0 x21) fun x22 =>
        M.bind (rdM (ld1 x22)) fun x23 =>
        bindO (lenS x23) fun x24 =>
        bindO (binV BinOp.gtr a2 x24) fun x25 =>
        condM x25 (
          M.ret (Value.tuple #[(Value.string (ByteArray.mk #[])), (Value.int IntKind.i64 16)])) (
          bindO (nilChk a0) fun x26 =>
          bindO (fieldA 2 x26) fun x27 =>
          M.bind (rdM (ld1 x27)) fun x28 =>
          bindO (binV BinOp.add x28 (Value.int IntKind.i64 1)) fun x29 =>
          bindO (nilChk a0) fun x30 =>
          bindO (fieldA 2 x30) fun x31 =>
          M.bind (stM 1 x31 x29) fun _ =>
          bindO (lenS x23) fun x33 =>
          bindO (binV BinOp.sub x33 a2) fun x34 =>
          bindO (binV BinOp.gtr a3 x34) fun x35 =>
          condM x35 (
            bindO (sliceS x23 (some a2) none) fun x36 =>
            M.ret (Value.tuple #[x36, (Value.int IntKind.i64 0)])) (
            bindO (binV BinOp.add a2 a3) fun x37 =>
            bindO (sliceS x23 (some a2) (some x37)) fun x38 =>
            M.ret (Value.tuple #[x38, (Value.int IntKind.i64 0)]))))))
def F.granaryref1_Disk_Read.plan : Plan := (seq leaf (seq leaf (seq (seq leaf (cond (seq leaf leaf) leaf)) (seq (seq leaf (cond (seq leaf leaf) leaf)) (seq leaf (seq (seq leaf (cond (seq leaf leaf) leaf)) (seq leaf (seq (seq leaf (cond (seq leaf leaf) leaf)) (seq leaf (seq (seq leaf (cond (seq leaf leaf) leaf)) (seq leaf leaf)))))))))))
theorem F.granaryref1_Disk_Read.lift : LiftOk Tryz.prog 34 (ap4 F.granaryref1_Disk_Read) :=
  lift4 (g := evFn Tryz.prog (tcons 76 (ap3 F.granaryref1_Disk_at) (tcons 87 (ap3 F.granaryref1_Disk_names) tnil)) tnil 34 Tryz.f34 F.granaryref1_Disk_Read.plan) (evFn_sound (tcons_ok F.granaryref1_Disk_at.lift (tcons_ok F.granaryref1_Disk_names.lift tnil_ok)) tnil_ok Tryz.func34 (by kernel_rfl)) (fun x0 x1 x2 x3 => by kernel_rfl)

/-- (*granary/disk.Disk).Size -/
noncomputable def F.disk_Disk_Size (a0 a1 : Value) : M Value :=
  M.bind (F.disk_Disk_find a0 a1 (Value.int IntKind.i64 2)) fun x1 =>
  bindO (extV 0 x1) fun x2 =>
  bindO (extV 1 x1) fun x3 =>
  M.bind (newM 85 #[(Value.int IntKind.i64 0), (Value.string ByteArray.empty), (Value.int IntKind.i64 0)]) fun x4 =>
  M.bind (stM 3 x4 x2) fun _ =>
  bindO (binV BinOp.neq x3 (Value.int IntKind.i64 0)) fun x6 =>
  condM x6 (
    M.ret (Value.tuple #[(Value.int IntKind.i64 0), x3])) (
    drewM <|
    bindO (nilChk a0) fun x7 =>
    bindO (fieldA 6 x7) fun x8 =>
    M.bind (rdM (ld1 x8)) fun x9 =>
    bindO (fieldA 2 x4) fun x10 =>
    M.bind (rdM (ld1 x10)) fun x11 =>
    bindO (idxA 3 x9 x11) fun x12 =>
    bindO (fieldA 1 x12) fun x13 =>
    M.bind (rdM (ld1 x13)) fun x14 =>
    bindO (lenS x14) fun x15 =>
    M.ret (Value.tuple #[x15, (Value.int IntKind.i64 0)]))
def F.disk_Disk_Size.plan : Plan := (seq leaf (seq leaf (seq (seq leaf (cond (seq leaf leaf) leaf)) (seq leaf leaf))))
theorem F.disk_Disk_Size.lift : LiftOk Tryz.prog 35 (ap2 F.disk_Disk_Size) :=
  lift2 (g := evFn Tryz.prog (tcons 72 (ap3 F.disk_Disk_find) tnil) tnil 35 Tryz.f35 F.disk_Disk_Size.plan) (evFn_sound (tcons_ok F.disk_Disk_find.lift tnil_ok) tnil_ok Tryz.func35 (by kernel_rfl)) (fun x0 x1 => by kernel_rfl)

/-- (*granary/granaryref1.Disk).Size -/
noncomputable def F.granaryref1_Disk_Size (a0 a1 : Value) : M Value :=
  M.bind (F.granaryref1_Disk_at a0 a1 (Value.int IntKind.i64 2)) fun x1 =>
  bindO (extV 0 x1) fun x2 =>
  bindO (extV 1 x1) fun x3 =>
  M.bind (newM 100 #[(Value.int IntKind.i64 0), (Value.string ByteArray.empty), (Value.int IntKind.i64 0)]) fun x4 =>
  M.bind (stM 3 x4 x2) fun _ =>
  bindO (binV BinOp.neq x3 (Value.int IntKind.i64 0)) fun x6 =>
  condM x6 (
    M.ret (Value.tuple #[(Value.int IntKind.i64 0), x3])) (
    drewM <|
    bindO (nilChk a0) fun x7 =>
    bindO (fieldA 5 x7) fun x8 =>
    M.bind (rdM (ld1 x8)) fun x9 =>
    bindO (fieldA 2 x4) fun x10 =>
    M.bind (rdM (ld1 x10)) fun x11 =>
    bindO (idxA 5 x9 x11) fun x12 =>
    bindO (fieldA 1 x12) fun x13 =>
    bindO (fieldA 0 x13) fun x14 =>
    M.bind (rdM (ld1 x14)) fun x15 =>
    bindO (lenS x15) fun x16 =>
    M.ret (Value.tuple #[x16, (Value.int IntKind.i64 0)]))
def F.granaryref1_Disk_Size.plan : Plan := (seq leaf (seq leaf (seq (seq leaf (cond (seq leaf leaf) leaf)) (seq leaf leaf))))
theorem F.granaryref1_Disk_Size.lift : LiftOk Tryz.prog 36 (ap2 F.granaryref1_Disk_Size) :=
  lift2 (g := evFn Tryz.prog (tcons 76 (ap3 F.granaryref1_Disk_at) tnil) tnil 36 Tryz.f36 F.granaryref1_Disk_Size.plan) (evFn_sound (tcons_ok F.granaryref1_Disk_at.lift tnil_ok) tnil_ok Tryz.func36 (by kernel_rfl)) (fun x0 x1 => by kernel_rfl)

/-- (*granary/disk.Disk).Kind -/
noncomputable def F.disk_Disk_Kind (a0 a1 : Value) : M Value :=
  M.bind (F.disk_Disk_find a0 a1 (Value.int IntKind.i64 0)) fun x1 =>
  bindO (extV 0 x1) fun x2 =>
  bindO (extV 1 x1) fun x3 =>
  M.bind (newM 85 #[(Value.int IntKind.i64 0), (Value.string ByteArray.empty), (Value.int IntKind.i64 0)]) fun x4 =>
  M.bind (stM 3 x4 x2) fun _ =>
  bindO (binV BinOp.neq x3 (Value.int IntKind.i64 0)) fun x6 =>
  condM x6 (
    M.ret (Value.tuple #[(Value.int IntKind.i64 0), x3])) (
    drewM <|
    bindO (nilChk a0) fun x7 =>
    bindO (fieldA 6 x7) fun x8 =>
    M.bind (rdM (ld1 x8)) fun x9 =>
    bindO (fieldA 2 x4) fun x10 =>
    M.bind (rdM (ld1 x10)) fun x11 =>
    bindO (idxA 3 x9 x11) fun x12 =>
    bindO (fieldA 0 x12) fun x13 =>
    M.bind (rdM (ld1 x13)) fun x14 =>
    M.ret (Value.tuple #[x14, (Value.int IntKind.i64 0)]))
def F.disk_Disk_Kind.plan : Plan := (seq leaf (seq leaf (seq (seq leaf (cond (seq leaf leaf) leaf)) (seq leaf leaf))))
theorem F.disk_Disk_Kind.lift : LiftOk Tryz.prog 37 (ap2 F.disk_Disk_Kind) :=
  lift2 (g := evFn Tryz.prog (tcons 72 (ap3 F.disk_Disk_find) tnil) tnil 37 Tryz.f37 F.disk_Disk_Kind.plan) (evFn_sound (tcons_ok F.disk_Disk_find.lift tnil_ok) tnil_ok Tryz.func37 (by kernel_rfl)) (fun x0 x1 => by kernel_rfl)

/-- (*granary/granaryref1.Disk).Kind -/
noncomputable def F.granaryref1_Disk_Kind (a0 a1 : Value) : M Value :=
  M.bind (F.granaryref1_Disk_at a0 a1 (Value.int IntKind.i64 0)) fun x1 =>
  bindO (extV 0 x1) fun x2 =>
  bindO (extV 1 x1) fun x3 =>
  M.bind (newM 100 #[(Value.int IntKind.i64 0), (Value.string ByteArray.empty), (Value.int IntKind.i64 0)]) fun x4 =>
  M.bind (stM 3 x4 x2) fun _ =>
  bindO (binV BinOp.neq x3 (Value.int IntKind.i64 0)) fun x6 =>
  condM x6 (
    M.ret (Value.tuple #[(Value.int IntKind.i64 0), x3])) (
    drewM <|
    bindO (nilChk a0) fun x7 =>
    bindO (fieldA 5 x7) fun x8 =>
    M.bind (rdM (ld1 x8)) fun x9 =>
    bindO (fieldA 2 x4) fun x10 =>
    M.bind (rdM (ld1 x10)) fun x11 =>
    bindO (idxA 5 x9 x11) fun x12 =>
    bindO (fieldA 0 x12) fun x13 =>
    M.bind (rdM (ld1 x13)) fun x14 =>
    M.ret (Value.tuple #[x14, (Value.int IntKind.i64 0)]))
def F.granaryref1_Disk_Kind.plan : Plan := (seq leaf (seq leaf (seq (seq leaf (cond (seq leaf leaf) leaf)) (seq leaf leaf))))
theorem F.granaryref1_Disk_Kind.lift : LiftOk Tryz.prog 38 (ap2 F.granaryref1_Disk_Kind) :=
  lift2 (g := evFn Tryz.prog (tcons 76 (ap3 F.granaryref1_Disk_at) tnil) tnil 38 Tryz.f38 F.granaryref1_Disk_Kind.plan) (evFn_sound (tcons_ok F.granaryref1_Disk_at.lift tnil_ok) tnil_ok Tryz.func38 (by kernel_rfl)) (fun x0 x1 => by kernel_rfl)

/-- math/bits.Len32 -/
noncomputable def F.bits_Len32 (a0 : Value) : M Value :=
  M.bind (
    bindO (binV BinOp.geq a0 (Value.int IntKind.u32 65536)) fun x1 =>
    condM x1 (
      bindO (shV BinOp.shr a0 (Value.int IntKind.u64 16)) fun x2 =>
      M.ret (Out.norm [x2, (Value.int IntKind.i64 16)])) (
      M.ret (Out.norm [a0, (Value.int IntKind.i64 0)]))) fun o4 =>
  outK o4 (fun l3 =>
    M.bind (
      bindO (binV BinOp.geq (getL l3 0) (Value.int IntKind.u32 256)) fun x7 =>
      condM x7 (
        bindO (shV BinOp.shr (getL l3 0) (Value.int IntKind.u64 8)) fun x8 =>
        bindO (binV BinOp.add (getL l3 1) (Value.int IntKind.i64 8)) fun x9 =>
        M.ret (Out.norm [x8, x9])) (
        M.ret (Out.norm [(getL l3 0), (getL l3 1)]))) fun o11 =>
    outK o11 (fun l10 =>
      bindO (cvtI IntKind.u8 (getL l10 0)) fun x14 =>
      bindO (idxS (Value.string (ByteArray.mk #[0, 1, 2, 2, 3, 3, 3, 3, 4, 4, 4, 4, 4, 4, 4, 4, 5, 5, 5, 5, 5, 5, 5, 5, 5, 5, 5, 5, 5, 5, 5, 5, 6, 6, 6, 6, 6, 6, 6, 6, 6, 6, 6, 6, 6, 6, 6, 6, 6, 6, 6, 6, 6, 6, 6, 6, 6, 6, 6, 6, 6, 6, 6, 6, 7, 7, 7, 7, 7, 7, 7, 7, 7, 7, 7, 7, 7, 7, 7, 7, 7, 7, 7, 7, 7, 7, 7, 7, 7, 7, 7, 7, 7, 7, 7, 7, 7, 7, 7, 7, 7, 7, 7, 7, 7, 7, 7, 7, 7, 7, 7, 7, 7, 7, 7, 7, 7, 7, 7, 7, 7, 7, 7, 7, 7, 7, 7, 7, 8, 8, 8, 8, 8, 8, 8, 8, 8, 8, 8, 8, 8, 8, 8, 8, 8, 8, 8, 8, 8, 8, 8, 8, 8, 8, 8, 8, 8, 8, 8, 8, 8, 8, 8, 8, 8, 8, 8, 8, 8, 8, 8, 8, 8, 8, 8, 8, 8, 8, 8, 8, 8, 8, 8, 8, 8, 8, 8, 8, 8, 8, 8, 8, 8, 8, 8, 8, 8, 8, 8, 8, 8, 8, 8, 8, 8, 8, 8, 8, 8, 8, 8, 8, 8, 8, 8, 8, 8, 8, 8, 8, 8, 8, 8, 8, 8, 8, 8, 8, 8, 8, 8, 8, 8, 8, 8, 8, 8, 8, 8, 8, 8, 8, 8, 8, 8, 8, 8, 8, 8, 8, 8, 8, 8, 8, 8, 8])) x14) fun x15 =>
      bindO (cvtI IntKind.i64 x15) fun x16 =>
      bindO (binV BinOp.add (getL l10 1) x16) fun x17 =>
      M.ret x17) (fun _ _ =>
      M.fail) (fun r13 => M.ret r13)) (fun _ _ =>
    M.fail) (fun r6 => M.ret r6)
def F.bits_Len32.plan : Plan := (seq leaf (fork [0, 2] [0, 2, 3, 4, 5, 6] [] (seq leaf (cond (seq leaf leaf) leaf)) (fork [0, 2] [0, 2, 7, 8, 9, 10, 11, 12] [] (seq leaf (cond (seq leaf leaf) leaf)) (seq leaf leaf))))
theorem F.bits_Len32.lift : LiftOk Tryz.prog 127 (ap1 F.bits_Len32) :=
  lift1 (g := evFn Tryz.prog tnil tnil 127 Tryz.f127 F.bits_Len32.plan) (evFn_sound tnil_ok tnil_ok Tryz.func127 (by kernel_rfl)) (fun x0 => by kernel_rfl)

/-- math/bits.Len64 -/
noncomputable def F.bits_Len64 (a0 : Value) : M Value :=
  M.bind (
    bindO (binV BinOp.geq a0 (Value.int IntKind.u64 4294967296)) fun x1 =>
    condM x1 (
      bindO (shV BinOp.shr a0 (Value.int IntKind.u64 32)) fun x2 =>
      M.ret (Out.norm [x2, (Value.int IntKind.i64 32)])) (
      M.ret (Out.norm [a0, (Value.int IntKind.i64 0)]))) fun o4 =>
  outK o4 (fun l3 =>
    M.bind (
      bindO (binV BinOp.geq (getL l3 0) (Value.int IntKind.u64 65536)) fun x7 =>
      condM x7 (
        bindO (shV BinOp.shr (getL l3 0) (Value.int IntKind.u64 16)) fun x8 =>
        bindO (binV BinOp.add (getL l3 1) (Value.int IntKind.i64 16)) fun x9 =>
        M.ret (Out.norm [x8, x9])) (
        M.ret (Out.norm [(getL l3 0), (getL l3 1)]))) fun o11 =>
    outK o11 (fun l10 =>
      M.bind (
        bindO (binV BinOp.geq (getL l10 0) (Value.int IntKind.u64 256)) fun x14 =>
        condM x14 (
          bindO (shV BinOp.shr (getL l10 0) (Value.int IntKind.u64 8)) fun x15 =>
          bindO (binV BinOp.add (getL l10 1) (Value.int IntKind.i64 8)) fun x16 =>
          M.ret (Out.norm [x15, x16])) (
          M.ret (Out.norm [(getL l10 0), (getL l10 1)]))) fun o18 =>
      outK o18 (fun l17 =>
        bindO (cvtI IntKind.u8 (getL l17 0)) fun x21 =>
        bindO (idxS (Value.string (ByteArray.mk #[0, 1, 2, 2, 3, 3, 3, 3, 4, 4, 4, 4, 4, 4, 4, 4, 5, 5, 5, 5, 5, 5, 5, 5, 5, 5, 5, 5, 5, 5, 5, 5, 6, 6, 6, 6, 6, 6, 6, 6, 6, 6, 6, 6, 6, 6, 6, 6, 6, 6, 6, 6, 6, 6, 6, 6, 6, 6, 6, 6, 6, 6, 6, 6, 7, 7, 7, 7, 7, 7, 7, 7, 7, 7, 7, 7, 7, 7, 7, 7, 7, 7, 7, 7, 7, 7, 7, 7, 7, 7, 7, 7, 7, 7, 7, 7, 7, 7, 7, 7, 7, 7, 7, 7, 7, 7, 7, 7, 7, 7, 7, 7, 7, 7, 7, 7, 7, 7, 7, 7, 7, 7, 7, 7, 7, 7, 7, 7, 8, 8, 8, 8, 8, 8, 8, 8, 8, 8, 8, 8, 8, 8, 8, 8, 8, 8, 8, 8, 8, 8, 8, 8, 8, 8, 8, 8, 8, 8, 8, 8, 8, 8, 8, 8, 8, 8, 8, 8, 8, 8, 8, 8, 8, 8, 8, 8, 8, 8, 8, 8, 8, 8, 8, 8, 8, 8, 8, 8, 8, 8, 8, 8, 8, 8, 8, 8, 8, 8, 8, 8, 8, 8, 8, 8, 8, 8, 8, 8, 8, 8, 8, 8, 8, 8, 8, 8, 8, 8, 8, 8, 8, 8, 8, 8, 8, 8, 8, 8, 8, 8, 8, 8, 8, 8, 8, 8, 8, 8, 8, 8, 8, 8, 8, 8, 8, 8, 8, 8, 8, 8, 8, 8, 8, 8, 8, 8])) x21) fun x22 =>
        bindO (cvtI IntKind.i64 x22) fun x23 =>
        bindO (binV BinOp.add (getL l17 1) x23) fun x24 =>
        M.ret x24) (fun _ _ =>
        M.fail) (fun r20 => M.ret r20)) (fun _ _ =>
      M.fail) (fun r13 => M.ret r13)) (fun _ _ =>
    M.fail) (fun r6 => M.ret r6)
def F.bits_Len64.plan : Plan := (seq leaf (fork [0, 2] [0, 2, 3, 4, 5, 6] [] (seq leaf (cond (seq leaf leaf) leaf)) (fork [0, 2] [0, 2, 7, 8, 9, 10, 11, 12] [] (seq leaf (cond (seq leaf leaf) leaf)) (fork [0, 2] [0, 2, 13, 14, 15, 16, 17, 18] [] (seq leaf (cond (seq leaf leaf) leaf)) (seq leaf leaf)))))
theorem F.bits_Len64.lift : LiftOk Tryz.prog 128 (ap1 F.bits_Len64) :=
  lift1 (g := evFn Tryz.prog tnil tnil 128 Tryz.f128 F.bits_Len64.plan) (evFn_sound tnil_ok tnil_ok Tryz.func128 (by kernel_rfl)) (fun x0 => by kernel_rfl)

/-- (*granary/disk.Disk).List$1 -/
noncomputable def F.disk_Disk_List_1 (a0 a1 : Value) : M Value :=
  M.bind (newM 96 (Value.cells a0)) fun x1 =>
  M.bind (newM 96 (Value.cells a1)) fun x2 =>
  bindO (fieldA 0 x1) fun x3 =>
  M.bind (rdM (ld1 x3)) fun x4 =>
  bindO (fieldA 0 x2) fun x5 =>
  M.bind (rdM (ld1 x5)) fun x6 =>
  M.bind (F.strings_Compare x4 x6) fun x7 =>
  M.ret x7
def F.disk_Disk_List_1.plan : Plan := (seq leaf (seq leaf leaf))
theorem F.disk_Disk_List_1.lift : LiftOk Tryz.prog 74 (ap2 F.disk_Disk_List_1) :=
  lift2 (g := evFn Tryz.prog (tcons 75 (ap2 F.strings_Compare) tnil) tnil 74 Tryz.f74 F.disk_Disk_List_1.plan) (evFn_sound (tcons_ok F.strings_Compare.lift tnil_ok) tnil_ok Tryz.func74 (by kernel_rfl)) (fun x0 x1 => by kernel_rfl)

/-- (*granary/disk.Disk).Dump$1 -/
noncomputable def F.disk_Disk_Dump_1 (a0 a1 : Value) : M Value :=
  M.bind (newM 115 (Value.cells a0)) fun x1 =>
  M.bind (newM 115 (Value.cells a1)) fun x2 =>
  bindO (fieldA 0 x1) fun x3 =>
  M.bind (rdM (ld1 x3)) fun x4 =>
  bindO (fieldA 0 x2) fun x5 =>
  M.bind (rdM (ld1 x5)) fun x6 =>
  M.bind (F.strings_Compare x4 x6) fun x7 =>
  M.ret x7
def F.disk_Disk_Dump_1.plan : Plan := (seq leaf (seq leaf leaf))
theorem F.disk_Disk_Dump_1.lift : LiftOk Tryz.prog 80 (ap2 F.disk_Disk_Dump_1) :=
  lift2 (g := evFn Tryz.prog (tcons 75 (ap2 F.strings_Compare) tnil) tnil 80 Tryz.f80 F.disk_Disk_Dump_1.plan) (evFn_sound (tcons_ok F.strings_Compare.lift tnil_ok) tnil_ok Tryz.func80 (by kernel_rfl)) (fun x0 x1 => by kernel_rfl)

/-- What function values come to. -/
noncomputable def F.clos : Tab := (tcons 74 (ap2 F.disk_Disk_List_1) (tcons 80 (ap2 F.disk_Disk_Dump_1) tnil))
theorem F.clos_ok : TabOk Tryz.prog F.clos := (tcons_ok F.disk_Disk_List_1.lift (tcons_ok F.disk_Disk_Dump_1.lift tnil_ok))

/-- slices.insertionSortCmpFunc[granary/api.Entry] -/
noncomputable def F.slices_insertionSortCmpFunc_Entry (a0 a1 a2 a3 : Value) : M Value :=
  bindO (binV BinOp.add a1 (Value.int IntKind.i64 1)) fun x1 =>
  M.bind (loopM (fun l2 =>
    bindO (binV BinOp.lss (getL l2 0) a2) fun x3 =>
    condM x3 (
      M.bind (loopM (fun l4 =>
        drewM <|
        bindO (binV BinOp.gtr (getL l4 0) a1) fun x5 =>
        M.bind (guardM x5 true (M.ret a3)) fun x6 =>
        M.bind (guardM x5 true (M.ret a0)) fun x7 =>
        M.bind (guardM x5 true (M.ret (getL l4 0))) fun x8 =>
        M.bind (guardM x5 true (optM (idxA 3 x7 x8))) fun x9 =>
        M.bind (guardM x5 true (rdM (ldA 3 x9))) fun x10 =>
        M.bind (guardM x5 true (M.ret a0)) fun x11 =>
        M.bind (guardM x5 true (M.ret (getL l4 0))) fun x12 =>
        M.bind (guardM x5 true (optM (binV BinOp.sub x12 (Value.int IntKind.i64 1)))) fun x13 =>
        M.bind (guardM x5 true (optM (idxA 3 x11 x13))) fun x14 =>
        M.bind (guardM x5 true (rdM (ldA 3 x14))) fun x15 =>
        M.bind (guardM x5 true (callV F.clos x6 [x10, x15])) fun x16 =>
        M.bind (guardM x5 true (optM (binV BinOp.lss x16 (Value.int IntKind.i64 0)))) fun x17 =>
        bindO (pickV x5 x17 (Value.bool false)) fun x18 =>
        condM x18 (
          drewM <|
          bindO (binV BinOp.sub (getL l4 0) (Value.int IntKind.i64 1)) fun x19 =>
          bindO (binV BinOp.sub (getL l4 0) (Value.int IntKind.i64 1)) fun x20 =>
          bindO (idxA 3 a0 x20) fun x21 =>
          M.bind (rdM (ldA 3 x21)) fun x22 =>
          bindO (idxA 3 a0 (getL l4 0)) fun x23 =>
          M.bind (rdM (ldA 3 x23)) fun x24 =>
          bindO (idxA 3 a0 (getL l4 0)) fun x25 =>
          M.bind (stM 3 x25 x22) fun _ =>
          bindO (idxA 3 a0 x19) fun x27 =>
          M.bind (stM 3 x27 x24) fun _ =>
          bindO (binV BinOp.sub (getL l4 0) (Value.int IntKind.i64 1)) fun x29 =>
          M.ret (Out.norm [x29])) (
          M.ret (Out.exit 2 [(getL l4 0)]))) [(getL l2 0)]) fun o31 =>
      outK o31 (fun _ => M.fail) (fun k32 _ =>
        bif Nat.beq k32 2 then (
          bindO (binV BinOp.add (getL l2 0) (Value.int IntKind.i64 1)) fun x34 =>
          M.ret (Out.norm [x34])) else
        M.fail) (fun r33 => M.ret (Out.ret r33))) (
      M.ret (Out.exit 0 [(getL l2 0)]))) [x1]) fun o36 =>
  outK o36 (fun _ => M.fail) (fun k37 _ =>
    bif Nat.beq k37 0 then (
      M.ret (Value.tuple #[])) else
    M.fail) (fun r38 => M.ret r38)
def F.slices_insertionSortCmpFunc_Entry.plan : Plan := (seq leaf (body (loop [8] [8, 9, 12, 13, 14, 15, 16, 17, 18, 19, 20, 21, 22, 23, 24, 25, 26, 27, 28, 29, 30, 31, 32, 33, 34, 35, 36, 37, 38, 39, 40, 41, 42, 43, 44, 45, 46, 47, 48, 49, 50, 51, 52] [0] (seq (seq leaf (cond leaf leaf)) (seq (body (seq leaf (body (loop [9] [9, 18, 19, 20, 21, 22, 23, 24, 25, 26, 27, 28, 29, 30, 31, 32, 33, 34, 35, 36, 37, 38, 39, 40, 41, 42, 43, 44, 45, 46, 47, 48, 49, 50, 51, 52] [2] (seq (seq leaf (cond leaf leaf)) (seq (body leaf) leaf)))))) leaf)))))
theorem F.slices_insertionSortCmpFunc_Entry.lift : LiftOk Tryz.prog 119 (ap4 F.slices_insertionSortCmpFunc_Entry) :=
  lift4 (g := evFn Tryz.prog tnil F.clos 119 Tryz.f119 F.slices_insertionSortCmpFunc_Entry.plan) (evFn_sound tnil_ok F.clos_ok Tryz.func119 (by kernel_rfl)) (fun x0 x1 x2 x3 => by kernel_rfl)

/-- slices.siftDownCmpFunc[granary/api.Entry] -/
noncomputable def F.slices_siftDownCmpFunc_Entry (a0 a1 a2 a3 a4 : Value) : M Value :=
  M.bind (loopM (fun l1 =>
    bindO (binV BinOp.mul (Value.int IntKind.i64 2) (getL l1 0)) fun x2 =>
    bindO (binV BinOp.add x2 (Value.int IntKind.i64 1)) fun x3 =>
    bindO (binV BinOp.geq x3 a2) fun x4 =>
    condM x4 (
      M.ret (Out.exit 0 [(getL l1 0)])) (
      M.bind (
        drewM <|
        bindO (binV BinOp.add x3 (Value.int IntKind.i64 1)) fun x5 =>
        bindO (binV BinOp.lss x5 a2) fun x6 =>
        M.bind (guardM x6 true (M.ret a4)) fun x7 =>
        M.bind (guardM x6 true (M.ret a0)) fun x8 =>
        M.bind (guardM x6 true (M.ret a3)) fun x9 =>
        M.bind (guardM x6 true (M.ret x3)) fun x10 =>
        M.bind (guardM x6 true (optM (binV BinOp.add x9 x10))) fun x11 =>
        M.bind (guardM x6 true (optM (idxA 3 x8 x11))) fun x12 =>
        M.bind (guardM x6 true (rdM (ldA 3 x12))) fun x13 =>
        M.bind (guardM x6 true (M.ret a0)) fun x14 =>
        M.bind (guardM x6 true (M.ret a3)) fun x15 =>
        M.bind (guardM x6 true (M.ret x3)) fun x16 =>
        M.bind (guardM x6 true (optM (binV BinOp.add x15 x16))) fun x17 =>
        M.bind (guardM x6 true (optM (binV BinOp.add x17 (Value.int IntKind.i64 1)))) fun x18 =>
        M.bind (guardM x6 true (optM (idxA 3 x14 x18))) fun x19 =>
        M.bind (guardM x6 true (rdM (ldA 3 x19))) fun x20 =>
        M.bind (guardM x6 true (callV F.clos x7 [x13, x20])) fun x21 =>
        M.bind (guardM x6 true (optM (binV BinOp.lss x21 (Value.int IntKind.i64 0)))) fun x22 =>
        bindO (pickV x6 x22 (Value.bool false)) fun x23 =>
        condM x23 (
          bindO (binV BinOp.add x3 (Value.int IntKind.i64 1)) fun x24 =>
          M.ret (Out.norm [x24])) (
          M.ret (Out.norm [x3]))) fun o26 =>
      outK o26 (fun l25 =>
        drewM <|
        bindO (binV BinOp.add a3 (getL l1 0)) fun x29 =>
        bindO (idxA 3 a0 x29) fun x30 =>
        M.bind (rdM (ldA 3 x30)) fun x31 =>
        bindO (binV BinOp.add a3 (getL l25 0)) fun x32 =>
        bindO (idxA 3 a0 x32) fun x33 =>
        M.bind (rdM (ldA 3 x33)) fun x34 =>
        M.bind (callV F.clos a4 [x31, x34]) fun x35 =>
        bindO (binV BinOp.lss x35 (Value.int IntKind.i64 0)) fun x36 =>
        bindO (notV x36) fun x37 =>
        condM x37 (
          M.ret (Out.ret (Value.tuple #[]))) (
          drewM <|
          bindO (binV BinOp.add a3 (getL l1 0)) fun x38 =>
          bindO (binV BinOp.add a3 (getL l25 0)) fun x39 =>
          bindO (binV BinOp.add a3 (getL l25 0)) fun x40 =>
          bindO (idxA 3 a0 x40) fun x41 =>
          M.bind (rdM (ldA 3 x41)) fun x42 =>
          bindO (binV BinOp.add a3 (getL l1 0)) fun x43 =>
          bindO (idxA 3 a0 x43) fun x44 =>
          M.bind (rdM (ldA 3 x44)) fun x45 =>
          bindO (idxA 3 a0 x38) fun x46 =>
          M.bind (stM 3 x46 x42) fun _ =>
          bindO (idxA 3 a0 x39) fun x48 =>
          M.bind (stM 3 x48 x45) fun _ =>
          M.ret (Out.norm [(getL l25 0)]))) (fun _ _ =>
        M.fail) (fun r28 => M.ret (Out.ret r28)))) [a1]) fun o52 =>
  outK o52 (fun _ => M.fail) (fun k53 _ =>
    bif Nat.beq k53 0 then (
      M.ret (Value.tuple #[])) else
    M.fail) (fun r54 => M.ret r54)
def F.slices_siftDownCmpFunc_Entry.plan : Plan := (seq leaf (body (loop [10] [10, 11, 13, 14, 15, 16, 17, 18, 19, 20, 21, 22, 23, 24, 25, 26, 27, 28, 29, 30, 31, 32, 33, 34, 35, 36, 37, 38, 39, 40, 41, 42, 43, 44, 45, 46, 47, 48, 49, 50, 51, 52, 53, 54, 55, 56, 57, 58, 59, 60, 61, 62, 63, 64, 65, 66, 67, 68, 69, 70, 71, 72, 73, 74, 75, 76, 77, 78, 79, 80, 81] [0] (body (seq leaf (seq (seq leaf (cond leaf leaf)) (fork [11] [11, 19, 20, 21, 22, 23, 24, 25, 26, 27, 28, 29, 30, 31, 32, 33, 34, 35, 36, 37, 38, 39, 40, 41, 42] [] (seq leaf (cond leaf leaf)) (seq (seq leaf (cond leaf leaf)) (seq leaf leaf)))))))))
theorem F.slices_siftDownCmpFunc_Entry.lift : LiftOk Tryz.prog 145 (ap5 F.slices_siftDownCmpFunc_Entry) :=
  lift5 (g := evFn Tryz.prog tnil F.clos 145 Tryz.f145 F.slices_siftDownCmpFunc_Entry.plan) (evFn_sound tnil_ok F.clos_ok Tryz.func145 (by kernel_rfl)) (fun x0 x1 x2 x3 x4 => by kernel_rfl)

/-- slices.heapSortCmpFunc[granary/api.Entry] -/
noncomputable def F.slices_heapSortCmpFunc_Entry (a0 a1 a2 a3 : Value) : M Value :=
  bindO (binV BinOp.sub a2 a1) fun x1 =>
  bindO (binV BinOp.sub x1 (Value.int IntKind.i64 1)) fun x2 =>
  bindO (binV BinOp.quo x2 (Value.int IntKind.i64 2)) fun x3 =>
  M.bind (loopM (fun l4 =>
    bindO (binV BinOp.geq (getL l4 0) (Value.int IntKind.i64 0)) fun x5 =>
    condM x5 (
      M.bind (F.slices_siftDownCmpFunc_Entry a0 (getL l4 0) x1 a1 a3) fun _ =>
      bindO (binV BinOp.sub (getL l4 0) (Value.int IntKind.i64 1)) fun x7 =>
      M.ret (Out.norm [x7])) (
      M.ret (Out.exit 0 [(getL l4 0)]))) [x3]) fun o9 =>
  outK o9 (fun _ => M.fail) (fun k10 _ =>
    bif Nat.beq k10 0 then (
      bindO (binV BinOp.sub x1 (Value.int IntKind.i64 1)) fun x12 =>
      M.bind (loopM (fun l13 =>
        bindO (binV BinOp.geq (getL l13 0) (Value.int IntKind.i64 0)) fun x14 =>
        condM x14 (
          drewM <|
          bindO (binV BinOp.add a1 (getL l13 0)) fun x15 =>
          bindO (binV BinOp.add a1 (getL l13 0)) fun x16 =>
          bindO (idxA 3 a0 x16) fun x17 =>
          M.bind (rdM (ldA 3 x17)) fun x18 =>
          bindO (idxA 3 a0 a1) fun x19 =>
          M.bind (rdM (ldA 3 x19)) fun x20 =>
          bindO (idxA 3 a0 a1) fun x21 =>
          M.bind (stM 3 x21 x18) fun _ =>
          bindO (idxA 3 a0 x15) fun x23 =>
          M.bind (stM 3 x23 x20) fun _ =>
          M.bind (F.slices_siftDownCmpFunc_Entry a0 (Value.int IntKind.i64 0) (getL l13 0) a1 a3) fun _ =>
          bindO (binV BinOp.sub (getL l13 0) (Value.int IntKind.i64 1)) fun x26 =>
          M.ret (Out.norm [x26])) (
          M.ret (Out.exit 2 [(getL l13 0)]))) [x12]) fun o28 =>
      outK o28 (fun _ => M.fail) (fun k29 _ =>
        bif Nat.beq k29 2 then (
          M.ret (Value.tuple #[])) else
        M.fail) (fun r30 => M.ret r30)) else
    M.fail) (fun r11 => M.ret r11)
def F.slices_heapSortCmpFunc_Entry.plan : Plan := (seq leaf (seq leaf (seq leaf (seq (seq leaf (body (loop [11] [11, 20, 21, 22, 23, 24, 25, 26, 27, 28, 29] [0] (seq (seq leaf (cond leaf leaf)) (seq (body leaf) leaf))))) (seq leaf (body (loop [12] [12, 32, 33, 34, 35, 36, 37, 38, 39, 40, 41, 42, 43, 44, 45, 46, 47, 48, 49, 50, 51, 52, 53, 54, 55, 56, 57, 58, 59] [2] (seq (seq leaf (cond leaf leaf)) (seq (body (seq leaf leaf)) leaf)))))))))
theorem F.slices_heapSortCmpFunc_Entry.lift : LiftOk Tryz.prog 120 (ap4 F.slices_heapSortCmpFunc_Entry) :=
  lift4 (g := evFn Tryz.prog (tcons 145 (ap5 F.slices_siftDownCmpFunc_Entry) tnil) tnil 120 Tryz.f120 F.slices_heapSortCmpFunc_Entry.plan) (evFn_sound (tcons_ok F.slices_siftDownCmpFunc_Entry.lift tnil_ok) tnil_ok Tryz.func120 (by kernel_rfl)) (fun x0 x1 x2 x3 => by kernel_rfl)

/-- slices.nextPowerOfTwo -/
noncomputable def F.slices_nextPowerOfTwo (a0 : Value) : M Value :=
  bindO (cvtI IntKind.u64 a0) fun x1 =>
  M.bind (F.bits_Len x1) fun x2 =>
  bindO (shV BinOp.shl (Value.int IntKind.u64 1) x2) fun x3 =>
  M.ret x3
def F.slices_nextPowerOfTwo.plan : Plan := (seq leaf (seq leaf leaf))
theorem F.slices_nextPowerOfTwo.lift : LiftOk Tryz.prog 146 (ap1 F.slices_nextPowerOfTwo) :=
  lift1 (g := evFn Tryz.prog (tcons 105 (ap1 F.bits_Len) tnil) tnil 146 Tryz.f146 F.slices_nextPowerOfTwo.plan) (evFn_sound (tcons_ok F.bits_Len.lift tnil_ok) tnil_ok Tryz.func146 (by kernel_rfl)) (fun x0 => by kernel_rfl)

/-- (*slices.xorshift).Next -/
noncomputable def F.slices_xorshift_Next (a0 : Value) : M Value :=
  drewM <|
  bindO (nilChk a0) fun x1 =>
  M.bind (rdM (ld1 x1)) fun x2 =>
  bindO (nilChk a0) fun x3 =>
  M.bind (rdM (ld1 x3)) fun x4 =>
  bindO (shV BinOp.shl x4 (Value.int IntKind.u64 13)) fun x5 =>
  bindO (binV BinOp.xor x2 x5) fun x6 =>
  bindO (nilChk a0) fun x7 =>
  M.bind (stM 1 x7 x6) fun _ =>
  drewM <|
  bindO (nilChk a0) fun x9 =>
  M.bind (rdM (ld1 x9)) fun x10 =>
  bindO (nilChk a0) fun x11 =>
  M.bind (rdM (ld1 x11)) fun x12 =>
  bindO (shV BinOp.shr x12 (Value.int IntKind.u64 7)) fun x13 =>
  bindO (binV BinOp.xor x10 x13) fun x14 =>
  bindO (nilChk a0) fun x15 =>
  M.bind (stM 1 x15 x14) fun _ =>
  drewM <|
  bindO (nilChk a0) fun x17 =>
  M.bind (rdM (ld1 x17)) fun x18 =>
  bindO (nilChk a0) fun x19 =>
  M.bind (rdM (ld1 x19)) fun x20 =>
  bindO (shV BinOp.shl x20 (Value.int IntKind.u64 17)) fun x21 =>
  bindO (binV BinOp.xor x18 x21) fun x22 =>
  bindO (nilChk a0) fun x23 =>
  M.bind (stM 1 x23 x22) fun _ =>
  bindO (nilChk a0) fun x25 =>
  M.bind (rdM (ld1 x25)) fun x26 =>
  M.ret x26
def F.slices_xorshift_Next.plan : Plan := (seq leaf (seq leaf (seq leaf (seq leaf (seq leaf leaf)))))
theorem F.slices_xorshift_Next.lift : LiftOk Tryz.prog 147 (ap1 F.slices_xorshift_Next) :=
  lift1 (g := evFn Tryz.prog tnil tnil 147 Tryz.f147 F.slices_xorshift_Next.plan) (evFn_sound tnil_ok tnil_ok Tryz.func147 (by kernel_rfl)) (fun x0 => by kernel_rfl)

/-- slices.breakPatternsCmpFunc[granary/api.Entry] -/
noncomputable def F.slices_breakPatternsCmpFunc_Entry (a0 a1 a2 _a3 : Value) : M Value :=
  bindO (binV BinOp.sub a2 a1) fun x1 =>
  bindO (binV BinOp.geq x1 (Value.int IntKind.i64 8)) fun x2 =>
  condM x2 (
    bindO (cvtI IntKind.u64 x1) fun x3 =>
    M.bind (newM 186 #[(Value.int IntKind.u64 0)]) fun x4 =>
    M.bind (stM 1 x4 x3) fun _ =>
    M.bind (F.slices_nextPowerOfTwo x1) fun x6 =>
    bindO (binV BinOp.quo x1 (Value.int IntKind.i64 4)) fun x7 =>
    bindO (binV BinOp.mul x7 (Value.int IntKind.i64 2)) fun x8 =>
    bindO (binV BinOp.add a1 x8) fun x9 =>
    bindO (binV BinOp.sub x9 (Value.int IntKind.i64 1)) fun x10 =>
    M.bind (loopM (fun l11 =>
      bindO (binV BinOp.quo x1 (Value.int IntKind.i64 4)) fun x12 =>
      bindO (binV BinOp.mul x12 (Value.int IntKind.i64 2)) fun x13 =>
      bindO (binV BinOp.add a1 x13) fun x14 =>
      bindO (binV BinOp.add x14 (Value.int IntKind.i64 1)) fun x15 =>
      bindO (binV BinOp.leq (getL l11 0) x15) fun x16 =>
      condM x16 (
        M.bind (F.slices_xorshift_Next x4) fun x17 =>
        bindO (binV BinOp.sub x6 (Value.int IntKind.u64 1)) fun x18 =>
        bindO (binV BinOp.and x17 x18) fun x19 =>
        bindO (cvtI IntKind.i64 x19) fun x20 =>
        M.bind (
          bindO (binV BinOp.geq x20 x1) fun x21 =>
          condM x21 (
            bindO (binV BinOp.sub x20 x1) fun x22 =>
            M.ret (Out.norm [x22])) (
            M.ret (Out.norm [x20]))) fun o24 =>
        outK o24 (fun l23 =>
          drewM <|
          bindO (binV BinOp.add a1 (getL l23 0)) fun x27 =>
          bindO (binV BinOp.add a1 (getL l23 0)) fun x28 =>
          bindO (idxA 3 a0 x28) fun x29 =>
          M.bind (rdM (ldA 3 x29)) fun x30 =>
          bindO (idxA 3 a0 (getL l11 0)) fun x31 =>
          M.bind (rdM (ldA 3 x31)) fun x32 =>
          bindO (idxA 3 a0 (getL l11 0)) fun x33 =>
          M.bind (stM 3 x33 x30) fun _ =>
          bindO (idxA 3 a0 x27) fun x35 =>
          M.bind (stM 3 x35 x32) fun _ =>
          bindO (binV BinOp.add (getL l11 0) (Value.int IntKind.i64 1)) fun x37 =>
          M.ret (Out.norm [x37])) (fun _ _ =>
          M.fail) (fun r26 => M.ret (Out.ret r26))) (
        M.ret (Out.exit 0 [(getL l11 0)]))) [x10]) fun o40 =>
    outK o40 (fun _ => M.fail) (fun k41 _ =>
      bif Nat.beq k41 0 then (
        M.ret (Value.tuple #[])) else
      M.fail) (fun r42 => M.ret r42)) (
    M.ret (Value.tuple #[]))
def F.slices_breakPatternsCmpFunc_Entry.plan : Plan := (seq leaf (seq leaf (cond (seq leaf (seq leaf (seq leaf (body (loop [11] [11, 12, 28, 29, 30, 31, 32, 33, 34, 35, 36, 37, 38, 39, 40, 41, 42, 43, 44, 45, 46, 47, 48, 49, 50, 51, 52, 53, 54, 55, 56, 57, 58, 59, 60, 61, 62, 63, 64, 65, 66] [0] (seq (seq leaf (cond leaf leaf)) (seq (body (seq leaf (fork [12] [12, 43, 44, 45, 46, 47, 48] [] (seq leaf (cond leaf leaf)) leaf))) leaf))))))) leaf)))
theorem F.slices_breakPatternsCmpFunc_Entry.lift : LiftOk Tryz.prog 121 (ap4 F.slices_breakPatternsCmpFunc_Entry) :=
  lift4 (g := evFn Tryz.prog (tcons 146 (ap1 F.slices_nextPowerOfTwo) (tcons 147 (ap1 F.slices_xorshift_Next) tnil)) tnil 121 Tryz.f121 F.slices_breakPatternsCmpFunc_Entry.plan) (evFn_sound (tcons_ok F.slices_nextPowerOfTwo.lift (tcons_ok F.slices_xorshift_Next.lift tnil_ok)) tnil_ok Tryz.func121 (by kernel_rfl)) (fun x0 x1 x2 x3 => by kernel_rfl)

/-- slices.order2CmpFunc[granary/api.Entry] -/
noncomputable def F.slices_order2CmpFunc_Entry (a0 a1 a2 a3 a4 : Value) : M Value :=
  drewM <|
  bindO (idxA 3 a0 a2) fun x1 =>
  M.bind (rdM (ldA 3 x1)) fun x2 =>
  bindO (idxA 3 a0 a1) fun x3 =>
  M.bind (rdM (ldA 3 x3)) fun x4 =>
  M.bind (callV F.clos a4 [x2, x4]) fun x5 =>
  bindO (binV BinOp.lss x5 (Value.int IntKind.i64 0)) fun x6 =>
  condM x6 (
    bindO (nilChk a3) fun x7 =>
    M.bind (rdM (ld1 x7)) fun x8 =>
    bindO (binV BinOp.add x8 (Value.int IntKind.i64 1)) fun x9 =>
    bindO (nilChk a3) fun x10 =>
    M.bind (stM 1 x10 x9) fun _ =>
    M.ret (Value.tuple #[a2, a1])) (
    M.ret (Value.tuple #[a1, a2]))
def F.slices_order2CmpFunc_Entry.plan : Plan := (seq leaf (seq (seq leaf (cond (seq leaf (seq leaf leaf)) leaf)) (seq leaf leaf)))
theorem F.slices_order2CmpFunc_Entry.lift : LiftOk Tryz.prog 155 (ap5 F.slices_order2CmpFunc_Entry) :=
  lift5 (g := evFn Tryz.prog tnil F.clos 155 Tryz.f155 F.slices_order2CmpFunc_Entry.plan) (evFn_sound tnil_ok F.clos_ok Tryz.func155 (by kernel_rfl)) (fun x0 x1 x2 x3 x4 => by kernel_rfl)

/-- slices.medianCmpFunc[granary/api.Entry] -/
noncomputable def F.slices_medianCmpFunc_Entry (a0 a1 a2 a3 a4 a5 : Value) : M Value :=
  M.bind (F.slices_order2CmpFunc_Entry a0 a1 a2 a4 a5) fun x1 =>
  bindO (extV 0 x1) fun x2 =>
  bindO (extV 1 x1) fun x3 =>
  M.bind (F.slices_order2CmpFunc_Entry a0 x3 a3 a4 a5) fun x4 =>
  bindO (extV 0 x4) fun x5 =>
  bindO (extV 1 x4) fun _ =>
  M.bind (F.slices_order2CmpFunc_Entry a0 x2 x5 a4 a5) fun x7 =>
  bindO (extV 0 x7) fun _ =>
  bindO (extV 1 x7) fun x9 =>
  M.ret x9
def F.slices_medianCmpFunc_Entry.plan : Plan := (seq leaf (seq leaf (seq leaf (seq leaf (seq leaf leaf)))))
theorem F.slices_medianCmpFunc_Entry.lift : LiftOk Tryz.prog 149 (ap6 F.slices_medianCmpFunc_Entry) :=
  lift6 (g := evFn Tryz.prog (tcons 155 (ap5 F.slices_order2CmpFunc_Entry) tnil) tnil 149 Tryz.f149 F.slices_medianCmpFunc_Entry.plan) (evFn_sound (tcons_ok F.slices_order2CmpFunc_Entry.lift tnil_ok) tnil_ok Tryz.func149 (by kernel_rfl)) (fun x0 x1 x2 x3 x4 x5 => by kernel_rfl)

/-- slices.medianAdjacentCmpFunc[granary/api.Entry] -/
noncomputable def F.slices_medianAdjacentCmpFunc_Entry (a0 a1 a2 a3 : Value) : M Value :=
  bindO (binV BinOp.sub a1 (Value.int IntKind.i64 1)) fun x1 =>
  bindO (binV BinOp.add a1 (Value.int IntKind.i64 1)) fun x2 =>
  M.bind (F.slices_medianCmpFunc_Entry a0 x1 a1 x2 a2 a3) fun x3 =>
  M.ret x3
def F.slices_medianAdjacentCmpFunc_Entry.plan : Plan := (seq leaf (seq leaf leaf))
theorem F.slices_medianAdjacentCmpFunc_Entry.lift : LiftOk Tryz.prog 148 (ap4 F.slices_medianAdjacentCmpFunc_Entry) :=
  lift4 (g := evFn Tryz.prog (tcons 149 (ap6 F.slices_medianCmpFunc_Entry) tnil) tnil 148 Tryz.f148 F.slices_medianAdjacentCmpFunc_Entry.plan) (evFn_sound (tcons_ok F.slices_medianCmpFunc_Entry.lift tnil_ok) tnil_ok Tryz.func148 (by kernel_rfl)) (fun x0 x1 x2 x3 => by kernel_rfl)

/-- slices.choosePivotCmpFunc[granary/api.Entry] -/
noncomputable def F.slices_choosePivotCmpFunc_Entry (a0 a1 a2 a3 : Value) : M Value :=
  bindO (binV BinOp.sub a2 a1) fun x1 =>
  M.bind (newM 3 #[(Value.int IntKind.i64 0)]) fun x2 =>
  bindO (binV BinOp.quo x1 (Value.int IntKind.i64 4)) fun x3 =>
  bindO (binV BinOp.mul x3 (Value.int IntKind.i64 1)) fun x4 =>
  bindO (binV BinOp.add a1 x4) fun x5 =>
  bindO (binV BinOp.quo x1 (Value.int IntKind.i64 4)) fun x6 =>
  bindO (binV BinOp.mul x6 (Value.int IntKind.i64 2)) fun x7 =>
  bindO (binV BinOp.add a1 x7) fun x8 =>
  bindO (binV BinOp.quo x1 (Value.int IntKind.i64 4)) fun x9 =>
  bindO (binV BinOp.mul x9 (Value.int IntKind.i64 3)) fun x10 =>
  bindO (binV BinOp.add a1 x10) fun x11 =>
  M.bind (
    bindO (binV BinOp.geq x1 (Value.int IntKind.i64 8)) fun x12 =>
    condM x12 (
      M.bind (
        bindO (binV BinOp.geq x1 (Value.int IntKind.i64 50)) fun x13 =>
        condM x13 (
          M.bind (F.slices_medianAdjacentCmpFunc_Entry a0 x5 x2 a3) fun x14 =>
          M.bind (F.slices_medianAdjacentCmpFunc_Entry a0 x8 x2 a3) fun x15 =>
          M.bind (F.slices_medianAdjacentCmpFunc_Entry a0 x11 x2 a3) fun x16 =>
          M.ret (Out.norm [x14, x15, x16])) (
          M.ret (Out.norm [x5, x8, x11]))) fun o18 =>
      outK o18 (fun l17 =>
        M.bind (F.slices_medianCmpFunc_Entry a0 (getL l17 0) (getL l17 1) (getL l17 2) x2 a3) fun x21 =>
        M.ret (Out.norm [x21])) (fun _ _ =>
        M.fail) (fun r20 => M.ret (Out.ret r20))) (
      M.ret (Out.norm [x8]))) fun o24 =>
  outK o24 (fun l23 =>
    M.bind (rdM (ld1 x2)) fun x27 =>
    bindO (binV BinOp.eql x27 (Value.int IntKind.i64 0)) fun x28 =>
    condM x28 (
      M.ret (Value.tuple #[(getL l23 0), (Value.int IntKind.i64 1)])) (
      bindO (binV BinOp.eql x27 (Value.int IntKind.i64 12)) fun x29 =>
      condM x29 (
        M.ret (Value.tuple #[(getL l23 0), (Value.int IntKind.i64 2)])) (
        M.ret (Value.tuple #[(getL l23 0), (Value.int IntKind.i64 0)])))) (fun _ _ =>
    M.fail) (fun r26 => M.ret r26)
def F.slices_choosePivotCmpFunc_Entry.plan : Plan := (seq leaf (seq leaf (seq leaf (seq leaf (seq leaf (seq leaf (fork [13] [12, 13, 14, 33, 34, 35, 36, 37, 38, 39, 40, 41, 42, 43, 44, 45, 46, 47, 48, 49, 50, 51, 52, 53, 54] [] (seq leaf (cond (fork [12, 13, 14] [12, 13, 14, 35, 36, 37, 38, 39, 40, 41, 42, 43, 44, 45, 46, 47, 48] [] (seq leaf (cond (seq leaf (seq leaf leaf)) leaf)) leaf) leaf)) (seq leaf (body (seq leaf (cond (seq leaf leaf) (seq leaf (cond (seq leaf leaf) (seq leaf leaf))))))))))))))
theorem F.slices_choosePivotCmpFunc_Entry.lift : LiftOk Tryz.prog 122 (ap4 F.slices_choosePivotCmpFunc_Entry) :=
  lift4 (g := evFn Tryz.prog (tcons 148 (ap4 F.slices_medianAdjacentCmpFunc_Entry) (tcons 149 (ap6 F.slices_medianCmpFunc_Entry) tnil)) tnil 122 Tryz.f122 F.slices_choosePivotCmpFunc_Entry.plan) (evFn_sound (tcons_ok F.slices_medianAdjacentCmpFunc_Entry.lift (tcons_ok F.slices_medianCmpFunc_Entry.lift tnil_ok)) tnil_ok Tryz.func122 (by kernel_rfl)) (fun x0 x1 x2 x3 => by kernel_rfl)

/-- slices.reverseRangeCmpFunc[granary/api.Entry] -/
noncomputable def F.slices_reverseRangeCmpFunc_Entry (a0 a1 a2 _a3 : Value) : M Value :=
  bindO (binV BinOp.sub a2 (Value.int IntKind.i64 1)) fun x1 =>
  M.bind (loopM (fun l2 =>
    bindO (binV BinOp.lss (getL l2 0) (getL l2 1)) fun x3 =>
    condM x3 (
      drewM <|
      bindO (idxA 3 a0 (getL l2 1)) fun x4 =>
      M.bind (rdM (ldA 3 x4)) fun x5 =>
      bindO (idxA 3 a0 (getL l2 0)) fun x6 =>
      M.bind (rdM (ldA 3 x6)) fun x7 =>
      bindO (idxA 3 a0 (getL l2 0)) fun x8 =>
      M.bind (stM 3 x8 x5) fun _ =>
      bindO (idxA 3 a0 (getL l2 1)) fun x10 =>
      M.bind (stM 3 x10 x7) fun _ =>
      bindO (binV BinOp.add (getL l2 0) (Value.int IntKind.i64 1)) fun x12 =>
      bindO (binV BinOp.sub (getL l2 1) (Value.int IntKind.i64 1)) fun x13 =>
      M.ret (Out.norm [x12, x13])) (
      M.ret (Out.exit 0 [(getL l2 0), (getL l2 1)]))) [a1, x1]) fun o15 =>
  outK o15 (fun _ => M.fail) (fun k16 _ =>
    bif Nat.beq k16 0 then (
      M.ret (Value.tuple #[])) else
    M.fail) (fun r17 => M.ret r17)
def F.slices_reverseRangeCmpFunc_Entry.plan : Plan := (seq leaf (seq leaf (body (loop [8, 9] [8, 9, 13, 14, 15, 16, 17, 18, 19, 20, 21, 22, 23, 24, 25, 26, 27, 28, 29, 30, 31, 32, 33] [0] (seq (seq leaf (cond leaf leaf)) (body (seq leaf (seq leaf leaf))))))))
theorem F.slices_reverseRangeCmpFunc_Entry.lift : LiftOk Tryz.prog 123 (ap4 F.slices_reverseRangeCmpFunc_Entry) :=
  lift4 (g := evFn Tryz.prog tnil tnil 123 Tryz.f123 F.slices_reverseRangeCmpFunc_Entry.plan) (evFn_sound tnil_ok tnil_ok Tryz.func123 (by kernel_rfl)) (fun x0 x1 x2 x3 => by kernel_rfl)

/-- slices.partialInsertionSortCmpFunc[granary/api.Entry] -/
noncomputable def F.slices_partialInsertionSortCmpFunc_Entry (a0 a1 a2 a3 : Value) : M Value :=
  bindO (binV BinOp.add a1 (Value.int IntKind.i64 1)) fun x1 =>
  M.bind (loopM (fun l2 =>
    bindO (binV BinOp.lss (getL l2 1) (Value.int IntKind.i64 5)) fun x3 =>
    condM x3 (
      M.bind (
        M.bind (loopM (fun l4 =>
          drewM <|
          bindO (binV BinOp.lss (getL l4 0) a2) fun x5 =>
          M.bind (guardM x5 true (M.ret a3)) fun x6 =>
          M.bind (guardM x5 true (M.ret a0)) fun x7 =>
          M.bind (guardM x5 true (M.ret (getL l4 0))) fun x8 =>
          M.bind (guardM x5 true (optM (idxA 3 x7 x8))) fun x9 =>
          M.bind (guardM x5 true (rdM (ldA 3 x9))) fun x10 =>
          M.bind (guardM x5 true (M.ret a0)) fun x11 =>
          M.bind (guardM x5 true (M.ret (getL l4 0))) fun x12 =>
          M.bind (guardM x5 true (optM (binV BinOp.sub x12 (Value.int IntKind.i64 1)))) fun x13 =>
          M.bind (guardM x5 true (optM (idxA 3 x11 x13))) fun x14 =>
          M.bind (guardM x5 true (rdM (ldA 3 x14))) fun x15 =>
          M.bind (guardM x5 true (callV F.clos x6 [x10, x15])) fun x16 =>
          M.bind (guardM x5 true (optM (binV BinOp.lss x16 (Value.int IntKind.i64 0)))) fun x17 =>
          M.bind (guardM x5 true (optM (notV x17))) fun x18 =>
          bindO (pickV x5 x18 (Value.bool false)) fun x19 =>
          condM x19 (
            bindO (binV BinOp.add (getL l4 0) (Value.int IntKind.i64 1)) fun x20 =>
            M.ret (Out.norm [x20])) (
            M.ret (Out.exit 2 [(getL l4 0)]))) [(getL l2 0)]) fun o22 =>
        outK o22 (fun _ => M.fail) (fun k23 l21 =>
          bif Nat.beq k23 2 then (
            bindO (binV BinOp.eql (getL l21 0) a2) fun x25 =>
            condM x25 (
              M.ret (Out.ret (Value.bool true))) (
              bindO (binV BinOp.sub a2 a1) fun x26 =>
              bindO (binV BinOp.lss x26 (Value.int IntKind.i64 50)) fun x27 =>
              condM x27 (
                M.ret (Out.ret (Value.bool false))) (
                drewM <|
                bindO (binV BinOp.sub (getL l21 0) (Value.int IntKind.i64 1)) fun x28 =>
                bindO (binV BinOp.sub (getL l21 0) (Value.int IntKind.i64 1)) fun x29 =>
                bindO (idxA 3 a0 x29) fun x30 =>
                M.bind (rdM (ldA 3 x30)) fun x31 =>
                bindO (idxA 3 a0 (getL l21 0)) fun x32 =>
                M.bind (rdM (ldA 3 x32)) fun x33 =>
                bindO (idxA 3 a0 (getL l21 0)) fun x34 =>
                M.bind (stM 3 x34 x31) fun _ =>
                bindO (idxA 3 a0 x28) fun x36 =>
                M.bind (stM 3 x36 x33) fun _ =>
                M.bind (
                  bindO (binV BinOp.sub (getL l21 0) a1) fun x38 =>
                  bindO (binV BinOp.geq x38 (Value.int IntKind.i64 2)) fun x39 =>
                  condM x39 (
                    bindO (binV BinOp.sub (getL l21 0) (Value.int IntKind.i64 1)) fun x40 =>
                    M.bind (loopM (fun l41 =>
                      bindO (binV BinOp.geq (getL l41 0) (Value.int IntKind.i64 1)) fun x42 =>
                      condM x42 (
                        drewM <|
                        bindO (idxA 3 a0 (getL l41 0)) fun x43 =>
                        M.bind (rdM (ldA 3 x43)) fun x44 =>
                        bindO (binV BinOp.sub (getL l41 0) (Value.int IntKind.i64 1)) fun x45 =>
                        bindO (idxA 3 a0 x45) fun x46 =>
                        M.bind (rdM (ldA 3 x46)) fun x47 =>
                        M.bind (callV F.clos a3 [x44, x47]) fun x48 =>
                        bindO (binV BinOp.lss x48 (Value.int IntKind.i64 0)) fun x49 =>
                        bindO (notV x49) fun x50 =>
                        condM x50 (
                          M.ret (Out.exit 4 [(getL l41 0)])) (
                          drewM <|
                          bindO (binV BinOp.sub (getL l41 0) (Value.int IntKind.i64 1)) fun x51 =>
                          bindO (binV BinOp.sub (getL l41 0) (Value.int IntKind.i64 1)) fun x52 =>
                          bindO (idxA 3 a0 x52) fun x53 =>
                          M.bind (rdM (ldA 3 x53)) fun x54 =>
                          bindO (idxA 3 a0 (getL l41 0)) fun x55 =>
                          M.bind (rdM (ldA 3 x55)) fun x56 =>
                          bindO (idxA 3 a0 (getL l41 0)) fun x57 =>
                          M.bind (stM 3 x57 x54) fun _ =>
                          bindO (idxA 3 a0 x51) fun x59 =>
                          M.bind (stM 3 x59 x56) fun _ =>
                          bindO (binV BinOp.sub (getL l41 0) (Value.int IntKind.i64 1)) fun x61 =>
                          M.ret (Out.norm [x61]))) (
                        M.ret (Out.exit 4 [(getL l41 0)]))) [x40]) fun o63 =>
                    outK o63 (fun _ => M.fail) (fun k64 _ =>
                      bif Nat.beq k64 4 then (
                        M.ret (Out.norm [])) else
                      M.fail) (fun r65 => M.ret (Out.ret r65))) (
                    M.ret (Out.norm []))) fun o67 =>
                outK o67 (fun _ =>
                  bindO (binV BinOp.sub a2 (getL l21 0)) fun x70 =>
                  bindO (binV BinOp.geq x70 (Value.int IntKind.i64 2)) fun x71 =>
                  condM x71 (
                    bindO (binV BinOp.add (getL l21 0) (Value.int IntKind.i64 1)) fun x72 =>
                    M.bind (loopM (fun l73 =>
                      bindO (binV BinOp.lss (getL l73 0) a2) fun x74 =>
                      condM x74 (
                        drewM <|
                        bindO (idxA 3 a0 (getL l73 0)) fun x75 =>
                        M.bind (rdM (ldA 3 x75)) fun x76 =>
                        bindO (binV BinOp.sub (getL l73 0) (Value.int IntKind.i64 1)) fun x77 =>
                        bindO (idxA 3 a0 x77) fun x78 =>
                        M.bind (rdM (ldA 3 x78)) fun x79 =>
                        M.bind (callV F.clos a3 [x76, x79]) fun x80 =>
                        bindO (binV BinOp.lss x80 (Value.int IntKind.i64 0)) fun x81 =>
                        bindO (notV x81) fun x82 =>
                        condM x82 (
                          M.ret (Out.exit 6 [(getL l73 0)])) (
                          drewM <|
                          bindO (binV BinOp.sub (getL l73 0) (Value.int IntKind.i64 1)) fun x83 =>
                          bindO (binV BinOp.sub (getL l73 0) (Value.int IntKind.i64 1)) fun x84 =>
                          bindO (idxA 3 a0 x84) fun x85 =>
                          M.bind (rdM (ldA 3 x85)) fun x86 =>
                          bindO (idxA 3 a0 (getL l73 0)) fun x87 =>
                          M.bind (rdM (ldA 3 x87)) fun x88 =>
                          bindO (idxA 3 a0 (getL l73 0)) fun x89 =>
                          M.bind (stM 3 x89 x86) fun _ =>
                          bindO (idxA 3 a0 x83) fun x91 =>
                          M.bind (stM 3 x91 x88) fun _ =>
                          bindO (binV BinOp.add (getL l73 0) (Value.int IntKind.i64 1)) fun x93 =>
                          M.ret (Out.norm [x93]))) (
                        M.ret (Out.exit 6 [(getL l73 0)]))) [x72]) fun o95 =>
                    outK o95 (fun _ => M.fail) (fun k96 _ =>
                      bif Nat.beq k96 6 then (
                        M.ret (Out.norm [(getL l21 0)])) else
                      M.fail) (fun r97 => M.ret (Out.ret r97))) (
                    M.ret (Out.norm [(getL l21 0)]))) (fun _ _ =>
                  M.fail) (fun r69 => M.ret (Out.ret r69))))) else
          M.fail) (fun r24 => M.ret (Out.ret r24))) fun o100 =>
      outK o100 (fun l99 =>
        bindO (binV BinOp.add (getL l2 1) (Value.int IntKind.i64 1)) fun x103 =>
        M.ret (Out.norm [(getL l99 0), x103])) (fun _ _ =>
        M.fail) (fun r102 => M.ret (Out.ret r102))) (
      M.ret (Out.exit 0 [(getL l2 0), (getL l2 1)]))) [x1, (Value.int IntKind.i64 0)]) fun o106 =>
  outK o106 (fun _ => M.fail) (fun k107 _ =>
    bif Nat.beq k107 0 then (
      M.ret (Value.bool false)) else
    M.fail) (fun r108 => M.ret r108)
def F.slices_partialInsertionSortCmpFunc_Entry.plan : Plan := (seq leaf (seq leaf (seq (seq leaf (body (loop [9, 10] [8, 9, 10, 11, 12, 15, 16, 17, 18, 19, 20, 21, 22, 23, 24, 25, 26, 27, 28, 29, 30, 31, 32, 33, 34, 35, 36, 37, 38, 39, 40, 41, 42, 43, 44, 45, 46, 47, 48, 49, 50, 51, 52, 53, 54, 55, 56, 57, 58, 59, 60, 61, 62, 63, 64, 65, 66, 67, 68, 69, 70, 71, 72, 73, 74, 75, 76, 77, 78, 79, 80, 81, 82, 83, 84, 85, 86, 87, 88, 89, 90, 91, 92, 93, 94, 95, 96, 97, 98, 99, 100, 101, 102, 103, 104, 105, 106, 107, 108, 109, 110, 111, 112, 113, 114, 115, 116, 117, 118, 119, 120, 121, 122, 123, 124, 125, 126, 127, 128, 129, 130, 131, 132, 133, 134, 135, 136, 137, 138, 139, 140] [0] (seq (seq leaf (cond leaf leaf)) (fork [9] [8, 9, 11, 12, 19, 20, 21, 22, 23, 24, 25, 26, 27, 28, 29, 30, 31, 32, 33, 34, 35, 36, 37, 38, 39, 40, 41, 42, 43, 44, 45, 46, 47, 48, 49, 50, 51, 52, 53, 54, 55, 56, 57, 58, 59, 60, 61, 62, 63, 64, 65, 66, 67, 68, 69, 70, 71, 72, 73, 74, 75, 76, 77, 78, 79, 80, 81, 82, 83, 84, 85, 86, 87, 88, 89, 90, 91, 92, 93, 94, 95, 96, 97, 98, 99, 100, 101, 102, 103, 104, 105, 106, 107, 108, 109, 110, 111, 112, 113, 114, 115, 116, 117, 118, 119, 120, 121, 122, 123, 124, 125, 126, 127, 128, 129, 130, 131, 132, 133, 134, 135, 136, 137, 138, 139, 140] [] (body (seq (body (loop [9] [9, 19, 20, 21, 22, 23, 24, 25, 26, 27, 28, 29, 30, 31, 32, 33, 34, 35, 36, 37, 38] [2] (seq (seq leaf (cond leaf leaf)) (body leaf)))) (seq (seq leaf (cond (seq leaf leaf) leaf)) (seq (seq leaf (cond (seq leaf leaf) leaf)) (seq leaf (fork [] [11, 62, 63, 64, 65, 66, 67, 68, 69, 70, 71, 72, 73, 74, 75, 76, 77, 78, 79, 80, 81, 82, 83, 84, 85, 86, 87, 88, 89, 90, 91, 92, 93, 94, 95, 96, 97, 98, 99, 100] [] (seq leaf (cond (seq leaf (body (loop [11] [11, 68, 69, 70, 71, 72, 73, 74, 75, 76, 77, 78, 79, 80, 81, 82, 83, 84, 85, 86, 87, 88, 89, 90, 91, 92, 93, 94, 95, 96, 97, 98, 99, 100] [4] (seq (seq leaf (cond leaf leaf)) (seq (body (seq (seq leaf (cond leaf leaf)) leaf)) leaf))))) leaf)) (seq leaf (cond (seq leaf (body (loop [12] [12, 107, 108, 109, 110, 111, 112, 113, 114, 115, 116, 117, 118, 119, 120, 121, 122, 123, 124, 125, 126, 127, 128, 129, 130, 131, 132, 133, 134, 135, 136, 137, 138, 139, 140] [6] (seq (seq leaf (cond leaf leaf)) (seq (body (seq (seq leaf (cond leaf leaf)) leaf)) leaf))))) leaf)))))))) leaf))))) (seq leaf leaf))))
theorem F.slices_partialInsertionSortCmpFunc_Entry.lift : LiftOk Tryz.prog 124 (ap4 F.slices_partialInsertionSortCmpFunc_Entry) :=
  lift4 (g := evFn Tryz.prog tnil F.clos 124 Tryz.f124 F.slices_partialInsertionSortCmpFunc_Entry.plan) (evFn_sound tnil_ok F.clos_ok Tryz.func124 (by kernel_rfl)) (fun x0 x1 x2 x3 => by kernel_rfl)

end Go.Proofs.YtojnickeblbgoaaGreatDoor
