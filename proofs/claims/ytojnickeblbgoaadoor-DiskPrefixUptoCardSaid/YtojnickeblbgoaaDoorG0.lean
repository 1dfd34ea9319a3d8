/-
  THE FUNCTIONAL FORMS of the functions of this seat's translation, and that each function comes to its form: printed by a program of the prover's own (lift.py).
-/
import Derived.Test.YtojnickeblbgoaaDoorLiftH
import Derived.Test.YtojnickeblbgoaaDoorProg
import Derived.KernelRfl
import Derived.Test.YtojnickeblbgoaaDoorGiv
import Derived.Test.YtojnickeblbgoaaDoorLiftX
namespace Go.Proofs.YtojnickeblbgoaaDoor
open Go.Lift Go.Lift.Plan
/-- granary/disk.New -/
noncomputable def F.disk_New (a0 : Value) : M Value :=
  bindO (binV BinOp.lss a0 (Value.int IntKind.i64 0)) fun x1 =>
  M.bind (guardM x1 false (M.ret a0)) fun x2 =>
  M.bind (guardM x1 false (optM (binV BinOp.gtr x2 (Value.int IntKind.i64 1073741824)))) fun x3 =>
  bindO (pickV x1 (Value.bool true) x3) fun x4 =>
  condM x4 (
    M.ret (Value.tuple #[(Value.pointer none), (Value.int IntKind.i64 1)])) (
    bindO (buildV #[(Value.int IntKind.i64 0), (Value.string ByteArray.empty), (Value.string ByteArray.empty)] [(0, 1, (Value.int IntKind.i64 1))]) fun x5 =>
    M.bind (bslM 60 1 (Builtin.zeroCells #[(Value.int IntKind.i64 0), (Value.string ByteArray.empty), (Value.string ByteArray.empty)] 1) [(0, 3, x5)]) fun x6 =>
    M.bind (mkmM) fun x7 =>
    M.bind (mkmM) fun x8 =>
    bindO (buildV #[(Value.int IntKind.i64 0), (Value.int IntKind.i64 0), (Value.int IntKind.i64 0), (Value.bool false), (Value.int IntKind.i64 0), (Value.bool false), (Value.slice none 0 0), (Value.map none), (Value.map none), (Value.slice none 0 0)] [(0, 1, a0), (6, 1, x6), (7, 1, x7), (8, 1, x8)]) fun x9 =>
    M.bind (newM 65 (Value.cells x9)) fun x10 =>
    M.ret (Value.tuple #[x10, (Value.int IntKind.i64 0)]))
def F.disk_New.plan : Plan := (seq leaf (seq (seq leaf (cond (seq leaf leaf) leaf)) (seq leaf leaf)))
theorem F.disk_New.lift : LiftOk Tryd.prog 8 (ap1 F.disk_New) :=
  lift1 (g := evFn Tryd.prog tnil tnil 8 Tryd.f8 F.disk_New.plan) (evFn_sound tnil_ok tnil_ok Tryd.func8 (by kernel_rfl)) (fun x0 => by kernel_rfl)

/-- granary/granarylaw1.num -/
noncomputable def F.granarylaw1_num (a0 : Value) : M Value :=
  M.ret a0
def F.granarylaw1_num.plan : Plan := (seq leaf (seq leaf leaf))
theorem F.granarylaw1_num.lift : LiftOk Tryd.prog 9 (ap1 F.granarylaw1_num) :=
  lift1 (g := evFn Tryd.prog tnil tnil 9 Tryd.f9 F.granarylaw1_num.plan) (evFn_sound tnil_ok tnil_ok Tryd.func9 (by kernel_rfl)) (fun x0 => by kernel_rfl)

/-- (*granary/disk.Disk).ready -/
noncomputable def F.disk_Disk_ready (a0 : Value) : M Value :=
  bindO (eqV (EqSh.one EqK.ptr) a0 (Value.pointer none)) fun x1 =>
  condM x1 (
    M.ret (Value.int IntKind.i64 2)) (
    bindO (nilChk a0) fun x2 =>
    bindO (fieldA 5 x2) fun x3 =>
    M.bind (rdM (ld1 x3)) fun x4 =>
    condM x4 (
      M.ret (Value.int IntKind.i64 10)) (
      M.ret (Value.int IntKind.i64 0)))
def F.disk_Disk_ready.plan : Plan := (seq leaf (seq (body (seq leaf (cond (seq leaf leaf) (seq leaf (cond (seq leaf leaf) leaf))))) (seq leaf leaf)))
theorem F.disk_Disk_ready.lift : LiftOk Tryd.prog 36 (ap1 F.disk_Disk_ready) :=
  lift1 (g := evFn Tryd.prog tnil tnil 36 Tryd.f36 F.disk_Disk_ready.plan) (evFn_sound tnil_ok tnil_ok Tryd.func36 (by kernel_rfl)) (fun x0 => by kernel_rfl)

/-- internal/bytealg.Cutover -/
noncomputable def F.bytealg_Cutover (a0 : Value) : M Value :=
  bindO (binV BinOp.add a0 (Value.int IntKind.i64 16)) fun x1 =>
  bindO (binV BinOp.quo x1 (Value.int IntKind.i64 8)) fun x2 =>
  M.ret x2
def F.bytealg_Cutover.plan : Plan := (seq leaf (seq leaf leaf))
theorem F.bytealg_Cutover.lift : LiftOk Tryd.prog 87 (ap1 F.bytealg_Cutover) :=
  lift1 (g := evFn Tryd.prog tnil tnil 87 Tryd.f87 F.bytealg_Cutover.plan) (evFn_sound tnil_ok tnil_ok Tryd.func87 (by kernel_rfl)) (fun x0 => by kernel_rfl)

/-- internal/bytealg.hashStr[string] -/
noncomputable def F.bytealg_hashStr_inst (a0 : Value) : M Value :=
  M.bind (loopM (fun l1 =>
    bindO (lenS a0) fun x2 =>
    bindO (binV BinOp.lss (getL l1 1) x2) fun x3 =>
    condM x3 (
      bindO (binV BinOp.mul (getL l1 0) (Value.int IntKind.u32 16777619)) fun x4 =>
      bindO (idxS a0 (getL l1 1)) fun x5 =>
      bindO (cvtI IntKind.u32 x5) fun x6 =>
      bindO (binV BinOp.add x4 x6) fun x7 =>
      bindO (binV BinOp.add (getL l1 1) (Value.int IntKind.i64 1)) fun x8 =>
      M.ret (Out.norm [x7, x8])) (
      M.ret (Out.exit 0 [(getL l1 0), (getL l1 1)]))) [(Value.int IntKind.u32 0), (Value.int IntKind.i64 0)]) fun o10 =>
  outK o10 (fun _ => M.fail) (fun k11 l9 =>
    bif Nat.beq k11 0 then (
      bindO (lenS a0) fun x13 =>
      M.bind (loopM (fun l14 =>
        bindO (binV BinOp.gtr (getL l14 2) (Value.int IntKind.i64 0)) fun x15 =>
        condM x15 (
          M.bind (
            bindO (binV BinOp.and (getL l14 2) (Value.int IntKind.i64 1)) fun x16 =>
            bindO (binV BinOp.neq x16 (Value.int IntKind.i64 0)) fun x17 =>
            condM x17 (
              bindO (binV BinOp.mul (getL l14 0) (getL l14 1)) fun x18 =>
              M.ret (Out.norm [x18])) (
              M.ret (Out.norm [(getL l14 0)]))) fun o20 =>
          outK o20 (fun l19 =>
            bindO (binV BinOp.mul (getL l14 1) (getL l14 1)) fun x23 =>
            bindO (shV BinOp.shr (getL l14 2) (Value.int IntKind.u64 1)) fun x24 =>
            M.ret (Out.norm [(getL l19 0), x23, x24])) (fun _ _ =>
            M.fail) (fun r22 => M.ret (Out.ret r22))) (
          M.ret (Out.exit 2 [(getL l14 0), (getL l14 1), (getL l14 2)]))) [(Value.int IntKind.u32 1), (Value.int IntKind.u32 16777619), x13]) fun o27 =>
      outK o27 (fun _ => M.fail) (fun k28 l26 =>
        bif Nat.beq k28 2 then (
          M.ret (Value.tuple #[(getL l9 0), (getL l26 0)])) else
        M.fail) (fun r29 => M.ret r29)) else
    M.fail) (fun r12 => M.ret r12)
def F.bytealg_hashStr_inst.plan : Plan := (seq leaf (seq leaf (seq (seq leaf (body (loop [4, 5] [4, 5, 9, 10, 11, 12, 13, 14, 15, 16, 17, 18, 19, 20, 21] [0] (seq (seq leaf (cond leaf leaf)) (seq (body leaf) leaf))))) (seq leaf (seq (seq leaf (body (loop [6, 7, 8] [6, 7, 8, 24, 25, 26, 27, 28, 29, 30, 31, 32, 33, 34, 35, 36] [2] (seq (seq leaf (cond leaf leaf)) (seq (body (fork [6] [6, 28, 29, 30, 31, 32, 33] [] (seq leaf (cond leaf leaf)) leaf)) leaf))))) (seq leaf leaf))))))
theorem F.bytealg_hashStr_inst.lift : LiftOk Tryd.prog 93 (ap1 F.bytealg_hashStr_inst) :=
  lift1 (g := evFn Tryd.prog tnil tnil 93 Tryd.f93 F.bytealg_hashStr_inst.plan) (evFn_sound tnil_ok tnil_ok Tryd.func93 (by kernel_rfl)) (fun x0 => by kernel_rfl)

/-- internal/bytealg.IndexRabinKarp[string] -/
noncomputable def F.bytealg_IndexRabinKarp_inst (a0 a1 : Value) : M Value :=
  M.bind (F.bytealg_hashStr_inst a1) fun x1 =>
  bindO (extV 0 x1) fun x2 =>
  bindO (extV 1 x1) fun x3 =>
  bindO (lenS a1) fun x4 =>
  M.bind (loopM (fun l5 =>
    bindO (binV BinOp.lss (getL l5 1) x4) fun x6 =>
    condM x6 (
      bindO (binV BinOp.mul (getL l5 0) (Value.int IntKind.u32 16777619)) fun x7 =>
      bindO (idxS a0 (getL l5 1)) fun x8 =>
      bindO (cvtI IntKind.u32 x8) fun x9 =>
      bindO (binV BinOp.add x7 x9) fun x10 =>
      bindO (binV BinOp.add (getL l5 1) (Value.int IntKind.i64 1)) fun x11 =>
      M.ret (Out.norm [x10, x11])) (
      M.ret (Out.exit 0 [(getL l5 0), (getL l5 1)]))) [(Value.int IntKind.u32 0), (Value.int IntKind.i64 0)]) fun o13 =>
  outK o13 (fun _ => M.fail) (fun k14 l12 =>
    bif Nat.beq k14 0 then (
      bindO (binV BinOp.eql (getL l12 0) x2) fun x16 =>
      M.bind (guardM x16 true (M.ret a0)) fun x17 =>
      M.bind (guardM x16 true (M.ret x4)) fun x18 =>
      M.bind (guardM x16 true (optM (sliceS x17 none (some x18)))) fun x19 =>
      M.bind (guardM x16 true (M.ret a1)) fun x20 =>
      M.bind (guardM x16 true (optM (binV BinOp.eql x19 x20))) fun x21 =>
      bindO (pickV x16 x21 (Value.bool false)) fun x22 =>
      condM x22 (
        M.ret (Value.int IntKind.i64 0)) (
        M.bind (loopM (fun l23 =>
          bindO (lenS a0) fun x24 =>
          bindO (binV BinOp.lss (getL l23 1) x24) fun x25 =>
          condM x25 (
            bindO (binV BinOp.mul (getL l23 0) (Value.int IntKind.u32 16777619)) fun x26 =>
            bindO (idxS a0 (getL l23 1)) fun x27 =>
            bindO (cvtI IntKind.u32 x27) fun x28 =>
            bindO (binV BinOp.add x26 x28) fun x29 =>
            bindO (binV BinOp.sub (getL l23 1) x4) fun x30 =>
            bindO (idxS a0 x30) fun x31 =>
            bindO (cvtI IntKind.u32 x31) fun x32 =>
            bindO (binV BinOp.mul x3 x32) fun x33 =>
            bindO (binV BinOp.sub x29 x33) fun x34 =>
            bindO (binV BinOp.add (getL l23 1) (Value.int IntKind.i64 1)) fun x35 =>
            bindO (binV BinOp.eql x34 x2) fun x36 =>
            M.bind (guardM x36 true (M.ret a0)) fun x37 =>
            M.bind (guardM x36 true (M.ret x35)) fun x38 =>
            M.bind (guardM x36 true (M.ret x4)) fun x39 =>
            M.bind (guardM x36 true (optM (binV BinOp.sub x38 x39))) fun x40 =>
            M.bind (guardM x36 true (M.ret x35)) fun x41 =>
            M.bind (guardM x36 true (optM (sliceS x37 (some x40) (some x41)))) fun x42 =>
            M.bind (guardM x36 true (M.ret a1)) fun x43 =>
            M.bind (guardM x36 true (optM (binV BinOp.eql x42 x43))) fun x44 =>
            bindO (pickV x36 x44 (Value.bool false)) fun x45 =>
            condM x45 (
              bindO (binV BinOp.sub x35 x4) fun x46 =>
              M.ret (Out.ret x46)) (
              M.ret (Out.norm [x34, x35]))) (
            M.ret (Out.exit 2 [(getL l23 0), (getL l23 1)]))) [(getL l12 0), x4]) fun o48 =>
        outK o48 (fun _ => M.fail) (fun k49 _ =>
          bif Nat.beq k49 2 then (
            M.ret (Value.int IntKind.i64 (-1))) else
          M.fail) (fun r50 => M.ret r50))) else
    M.fail) (fun r15 => M.ret r15)
def F.bytealg_IndexRabinKarp_inst.plan : Plan := (seq leaf (seq leaf (seq leaf (seq leaf (seq (seq leaf (body (loop [8, 9] [8, 9, 18, 19, 20, 21, 22, 23, 24, 25, 26, 27, 28, 29] [0] (seq (seq leaf (cond leaf leaf)) (seq (body leaf) leaf))))) (seq (seq leaf (cond (seq leaf leaf) leaf)) (seq (seq leaf (body (loop [8, 10] [4, 8, 10, 41, 42, 43, 44, 45, 46, 47, 48, 49, 50, 51, 52, 53, 54, 55, 56, 57, 58, 59, 60, 61, 62, 63, 64, 65, 66, 67, 68, 69, 70, 71, 72, 73, 74, 75, 76, 77, 78, 79, 80] [2] (seq (seq leaf (cond leaf leaf)) (body (seq leaf (seq leaf (seq leaf (seq leaf (seq leaf (cond (seq leaf leaf) leaf))))))))))) (seq leaf leaf))))))))
theorem F.bytealg_IndexRabinKarp_inst.lift : LiftOk Tryd.prog 88 (ap2 F.bytealg_IndexRabinKarp_inst) :=
  lift2 (g := evFn Tryd.prog (tcons 93 (ap1 F.bytealg_hashStr_inst) tnil) tnil 88 Tryd.f88 F.bytealg_IndexRabinKarp_inst.plan) (evFn_sound (tcons_ok F.bytealg_hashStr_inst.lift tnil_ok) tnil_ok Tryd.func88 (by kernel_rfl)) (fun x0 x1 => by kernel_rfl)

/-- unicode/utf8.decodeRuneInStringSlow -/
noncomputable def F.utf8_decodeRuneInStringSlow (a0 : Value) : M Value :=
  bindO (lenS a0) fun x1 =>
  bindO (binV BinOp.lss x1 (Value.int IntKind.i64 1)) fun x2 =>
  condM x2 (
    M.ret (Value.tuple #[(Value.int IntKind.i32 65533), (Value.int IntKind.i64 0)])) (
    bindO (idxS a0 (Value.int IntKind.i64 0)) fun x3 =>
    bindO (idxR 256 1 (Value.pointer (some { block := 1, off := 0, spot := none })) x3) fun x4 =>
    M.bind (rdM (ld1 x4)) fun x5 =>
    bindO (binV BinOp.geq x5 (Value.int IntKind.u8 240)) fun x6 =>
    condM x6 (
      bindO (cvtI IntKind.i32 x5) fun x7 =>
      bindO (shV BinOp.shl x7 (Value.int IntKind.u64 31)) fun x8 =>
      bindO (shV BinOp.shr x8 (Value.int IntKind.u64 31)) fun x9 =>
      bindO (idxS a0 (Value.int IntKind.i64 0)) fun x10 =>
      bindO (cvtI IntKind.i32 x10) fun x11 =>
      bindO (binV BinOp.andNot x11 x9) fun x12 =>
      bindO (binV BinOp.and (Value.int IntKind.i32 65533) x9) fun x13 =>
      bindO (binV BinOp.or x12 x13) fun x14 =>
      M.ret (Value.tuple #[x14, (Value.int IntKind.i64 1)])) (
      bindO (binV BinOp.and x5 (Value.int IntKind.u8 7)) fun x15 =>
      bindO (cvtI IntKind.i64 x15) fun x16 =>
      bindO (shV BinOp.shr x5 (Value.int IntKind.u64 4)) fun x17 =>
      bindO (idxR 16 2 (Value.pointer (some { block := 2, off := 0, spot := none })) x17) fun x18 =>
      M.bind (rdM (ldA 2 x18)) fun x19 =>
      M.bind (newM 141 #[(Value.int IntKind.u8 0), (Value.int IntKind.u8 0)]) fun x20 =>
      M.bind (stM 2 x20 x19) fun _ =>
      bindO (binV BinOp.lss x1 x16) fun x22 =>
      condM x22 (
        M.ret (Value.tuple #[(Value.int IntKind.i32 65533), (Value.int IntKind.i64 1)])) (
        bindO (idxS a0 (Value.int IntKind.i64 1)) fun x23 =>
        bindO (fieldA 0 x20) fun x24 =>
        M.bind (rdM (ld1 x24)) fun x25 =>
        bindO (binV BinOp.lss x23 x25) fun x26 =>
        M.bind (guardM x26 false (optM (fieldA 1 x20))) fun x27 =>
        M.bind (guardM x26 false (rdM (ld1 x27))) fun x28 =>
        M.bind (guardM x26 false (M.ret x23)) fun x29 =>
        M.bind (guardM x26 false (optM (binV BinOp.lss x28 x29))) fun x30 =>
        bindO (pickV x26 (Value.bool true) x30) fun x31 =>
        condM x31 (
          M.ret (Value.tuple #[(Value.int IntKind.i32 65533), (Value.int IntKind.i64 1)])) (
          bindO (binV BinOp.leq x16 (Value.int IntKind.i64 2)) fun x32 =>
          condM x32 (
            bindO (binV BinOp.and x3 (Value.int IntKind.u8 31)) fun x33 =>
            bindO (cvtI IntKind.i32 x33) fun x34 =>
            bindO (shV BinOp.shl x34 (Value.int IntKind.u64 6)) fun x35 =>
            bindO (binV BinOp.and x23 (Value.int IntKind.u8 63)) fun x36 =>
            bindO (cvtI IntKind.i32 x36) fun x37 =>
            bindO (binV BinOp.or x35 x37) fun x38 =>
            M.ret (Value.tuple #[x38, (Value.int IntKind.i64 2)])) (
            bindO (idxS a0 (Value.int IntKind.i64 2)) fun x39 =>
            bindO (binV BinOp.lss x39 (Value.int IntKind.u8 128)) fun x40 =>
            M.bind (guardM x40 false (M.ret x39)) fun x41 =>
            M.bind (guardM x40 false (optM (binV BinOp.lss (Value.int IntKind.u8 191) x41))) fun x42 =>
            bindO (pickV x40 (Value.bool true) x42) fun x43 =>
            condM x43 (
              M.ret (Value.tuple #[(Value.int IntKind.i32 65533), (Value.int IntKind.i64 1)])) (
              bindO (binV BinOp.leq x16 (Value.int IntKind.i64 3)) fun x44 =>
              condM x44 (
                bindO (binV BinOp.and x3 (Value.int IntKind.u8 15)) fun x45 =>
                bindO (cvtI IntKind.i32 x45) fun x46 =>
                bindO (shV BinOp.shl x46 (Value.int IntKind.u64 12)) fun x47 =>
                bindO (binV BinOp.and x23 (Value.int IntKind.u8 63)) fun x48 =>
                bindO (cvtI IntKind.i32 x48) fun x49 =>
                bindO (shV BinOp.shl x49 (Value.int IntKind.u64 6)) fun x50 =>
                bindO (binV BinOp.or x47 x50) fun x51 =>
                bindO (binV BinOp.and x39 (Value.int IntKind.u8 63)) fun x52 =>
                bindO (cvtI IntKind.i32 x52) fun x53 =>
                bindO (binV BinOp.or x51 x53) fun x54 =>
                M.ret (Value.tuple #[x54, (Value.int IntKind.i64 3)])) (
                bindO (idxS a0 (Value.int IntKind.i64 3)) fun x55 =>
                bindO (binV BinOp.lss x55 (Value.int IntKind.u8 128)) fun x56 =>
                M.bind (guardM x56 false (M.ret x55)) fun x57 =>
                M.bind (guardM x56 false (optM (binV BinOp.lss (Value.int IntKind.u8 191) x57))) fun x58 =>
                bindO (pickV x56 (Value.bool true) x58) fun x59 =>
                condM x59 (
                  M.ret (Value.tuple #[(Value.int IntKind.i32 65533), (Value.int IntKind.i64 1)])) (
                  bindO (binV BinOp.and x3 (Value.int IntKind.u8 7)) fun x60 =>
                  bindO (cvtI IntKind.i32 x60) fun x61 =>
                  bindO (shV BinOp.shl x61 (Value.int IntKind.u64 18)) fun x62 =>
                  bindO (binV BinOp.and x23 (Value.int IntKind.u8 63)) fun x63 =>
                  bindO (cvtI IntKind.i32 x63) fun x64 =>
                  bindO (shV BinOp.shl x64 (Value.int IntKind.u64 12)) fun x65 =>
                  bindO (binV BinOp.or x62 x65) fun x66 =>
                  bindO (binV BinOp.and x39 (Value.int IntKind.u8 63)) fun x67 =>
                  bindO (cvtI IntKind.i32 x67) fun x68 =>
                  bindO (shV BinOp.shl x68 (Value.int IntKind.u64 6)) fun x69 =>
                  bindO (binV BinOp.or x66 x69) fun x70 =>
                  bindO (binV BinOp.and x55 (Value.int IntKind.u8 63)) fun x71 =>
                  bindO (cvtI IntKind.i32 x71) fun x72 =>
                  bindO (binV BinOp.or x70 x72) fun x73 =>
                  M.ret (Value.tuple #[x73, (Value.int IntKind.i64 4)])))))))))
def F.utf8_decodeRuneInStringSlow.plan : Plan := (seq leaf (seq leaf (seq (seq leaf (cond (seq leaf leaf) leaf)) (seq leaf (seq leaf (seq (seq leaf (cond (seq leaf (seq leaf leaf)) leaf)) (seq leaf (seq leaf (seq (seq leaf (cond (seq leaf leaf) leaf)) (seq leaf (seq (seq leaf (cond (seq leaf leaf) leaf)) (seq (seq leaf (cond (seq leaf leaf) leaf)) (seq leaf (seq (seq leaf (cond (seq leaf leaf) leaf)) (seq (seq leaf (cond (seq leaf leaf) leaf)) (seq leaf (seq (seq leaf (cond (seq leaf leaf) leaf)) (seq leaf leaf))))))))))))))))))
theorem F.utf8_decodeRuneInStringSlow.lift : LiftOk Tryd.prog 94 (ap1 F.utf8_decodeRuneInStringSlow) :=
  lift1 (g := evFn Tryd.prog tnil tnil 94 Tryd.f94 F.utf8_decodeRuneInStringSlow.plan) (evFn_sound tnil_ok tnil_ok Tryd.func94 (by kernel_rfl)) (fun x0 => by kernel_rfl)

/-- unicode/utf8.DecodeRuneInString -/
noncomputable def F.utf8_DecodeRuneInString (a0 : Value) : M Value :=
  bindO (binV BinOp.neq a0 (Value.string (ByteArray.mk #[]))) fun x1 =>
  M.bind (guardM x1 true (M.ret a0)) fun x2 =>
  M.bind (guardM x1 true (optM (idxS x2 (Value.int IntKind.i64 0)))) fun x3 =>
  M.bind (guardM x1 true (optM (binV BinOp.lss x3 (Value.int IntKind.u8 128)))) fun x4 =>
  bindO (pickV x1 x4 (Value.bool false)) fun x5 =>
  condM x5 (
    bindO (idxS a0 (Value.int IntKind.i64 0)) fun x6 =>
    bindO (cvtI IntKind.i32 x6) fun x7 =>
    M.ret (Value.tuple #[x7, (Value.int IntKind.i64 1)])) (
    M.bind (F.utf8_decodeRuneInStringSlow a0) fun x8 =>
    bindO (extV 0 x8) fun x9 =>
    bindO (extV 1 x8) fun x10 =>
    M.ret (Value.tuple #[x9, x10]))
def F.utf8_DecodeRuneInString.plan : Plan := (seq leaf (seq (seq leaf (cond (seq leaf leaf) leaf)) leaf))
theorem F.utf8_DecodeRuneInString.lift : LiftOk Tryd.prog 89 (ap1 F.utf8_DecodeRuneInString) :=
  lift1 (g := evFn Tryd.prog (tcons 94 (ap1 F.utf8_decodeRuneInStringSlow) tnil) tnil 89 Tryd.f89 F.utf8_DecodeRuneInString.plan) (evFn_sound (tcons_ok F.utf8_decodeRuneInStringSlow.lift tnil_ok) tnil_ok Tryd.func89 (by kernel_rfl)) (fun x0 => by kernel_rfl)

/-- granary/disk.nameOK -/
noncomputable def F.disk_nameOK (a0 : Value) : M Value :=
  bindO (binV BinOp.eql a0 (Value.string (ByteArray.mk #[]))) fun x1 =>
  M.bind (guardM x1 false (M.ret a0)) fun x2 =>
  M.bind (guardM x1 false (optM (lenS x2))) fun x3 =>
  M.bind (guardM x1 false (optM (binV BinOp.gtr x3 (Value.int IntKind.i64 40)))) fun x4 =>
  bindO (pickV x1 (Value.bool true) x4) fun x5 =>
  M.bind (guardM x5 false (M.ret a0)) fun x6 =>
  M.bind (guardM x5 false (optM (binV BinOp.eql x6 (Value.string (ByteArray.mk #[46]))))) fun x7 =>
  bindO (pickV x5 (Value.bool true) x7) fun x8 =>
  M.bind (guardM x8 false (M.ret a0)) fun x9 =>
  M.bind (guardM x8 false (optM (binV BinOp.eql x9 (Value.string (ByteArray.mk #[46, 46]))))) fun x10 =>
  bindO (pickV x8 (Value.bool true) x10) fun x11 =>
  condM x11 (
    M.ret (Value.bool false)) (
    M.bind (sbM 5 a0) fun x12 =>
    bindO (lenL x12) fun x13 =>
    M.bind (loopM (fun l14 =>
      bindO (binV BinOp.lss (getL l14 0) x13) fun x15 =>
      condM x15 (
        bindO (idxA 1 x12 (getL l14 0)) fun x16 =>
        M.bind (rdM (ld1 x16)) fun x17 =>
        bindO (binV BinOp.leq (Value.int IntKind.u8 97) x17) fun x18 =>
        M.bind (guardM x18 true (M.ret x17)) fun x19 =>
        M.bind (guardM x18 true (optM (binV BinOp.leq x19 (Value.int IntKind.u8 122)))) fun x20 =>
        bindO (pickV x18 x20 (Value.bool false)) fun x21 =>
        bindO (binV BinOp.leq (Value.int IntKind.u8 48) x17) fun x22 =>
        M.bind (guardM x22 true (M.ret x17)) fun x23 =>
        M.bind (guardM x22 true (optM (binV BinOp.leq x23 (Value.int IntKind.u8 57)))) fun x24 =>
        bindO (pickV x22 x24 (Value.bool false)) fun x25 =>
        bindO (notV x21) fun x26 =>
        M.bind (guardM x26 true (M.ret x25)) fun x27 =>
        M.bind (guardM x26 true (optM (notV x27))) fun x28 =>
        bindO (pickV x26 x28 (Value.bool false)) fun x29 =>
        M.bind (guardM x29 true (M.ret x17)) fun x30 =>
        M.bind (guardM x29 true (optM (binV BinOp.neq x30 (Value.int IntKind.u8 45)))) fun x31 =>
        bindO (pickV x29 x31 (Value.bool false)) fun x32 =>
        M.bind (guardM x32 true (M.ret x17)) fun x33 =>
        M.bind (guardM x32 true (optM (binV BinOp.neq x33 (Value.int IntKind.u8 95)))) fun x34 =>
        bindO (pickV x32 x34 (Value.bool false)) fun x35 =>
        M.bind (guardM x35 true (M.ret x17)) fun x36 =>
        M.bind (guardM x35 true (optM (binV BinOp.neq x36 (Value.int IntKind.u8 46)))) fun x37 =>
        bindO (pickV x35 x37 (Value.bool false)) fun x38 =>
        condM x38 (
          M.ret (Out.ret (Value.bool false))) (
          bindO (binV BinOp.add (getL l14 0) (Value.int IntKind.i64 1)) fun x39 =>
          M.ret (Out.norm [x39]))) (
        M.ret (Out.exit 0 [(getL l14 0)]))) [(Value.int IntKind.i64 0)]) fun o41 =>
    outK o41 (fun _ => M.fail) (fun k42 _ =>
      bif Nat.beq k42 0 then (
        M.ret (Value.bool true)) else
      M.fail) (fun r43 => M.ret r43))
def F.disk_nameOK.plan : Plan := (seq leaf (seq (seq leaf (cond (seq leaf leaf) leaf)) (seq (seq leaf (body (loop [25] [2, 4, 5, 6, 25, 26, 27, 28, 29, 30, 31, 32, 33, 34, 35, 36, 37, 38, 39, 40, 41, 42, 43, 44, 45, 46, 47, 48, 49, 50, 51, 52, 53, 54, 55, 56, 57, 58, 59] [0] (seq leaf (seq (cond leaf leaf) (seq (body (seq leaf (seq leaf (seq leaf (seq leaf (cond (seq leaf leaf) leaf)))))) leaf)))))) (seq leaf leaf))))
theorem F.disk_nameOK.lift : LiftOk Tryd.prog 55 (ap1 F.disk_nameOK) :=
  lift1 (g := evFn Tryd.prog tnil tnil 55 Tryd.f55 F.disk_nameOK.plan) (evFn_sound tnil_ok tnil_ok Tryd.func55 (by kernel_rfl)) (fun x0 => by kernel_rfl)

/-- granary/disk.parse -/
noncomputable def F.disk_parse (a0 : Value) : M Value :=
  bindO (binV BinOp.eql a0 (Value.string (ByteArray.mk #[]))) fun x1 =>
  condM x1 (
    M.ret (Value.tuple #[(Value.slice none 0 0), (Value.bool true)])) (
    M.bind (F.strings_Count a0 (Value.string (ByteArray.mk #[47]))) fun x2 =>
    bindO (binV BinOp.geq x2 (Value.int IntKind.i64 8)) fun x3 =>
    condM x3 (
      M.ret (Value.tuple #[(Value.slice none 0 0), (Value.bool false)])) (
      M.bind (F.strings_Split a0 (Value.string (ByteArray.mk #[47]))) fun x4 =>
      bindO (lenL x4) fun x5 =>
      M.bind (loopM (fun l6 =>
        bindO (binV BinOp.lss (getL l6 0) x5) fun x7 =>
        condM x7 (
          bindO (idxA 1 x4 (getL l6 0)) fun x8 =>
          M.bind (rdM (ld1 x8)) fun x9 =>
          M.bind (F.disk_nameOK x9) fun x10 =>
          bindO (notV x10) fun x11 =>
          condM x11 (
            M.ret (Out.ret (Value.tuple #[(Value.slice none 0 0), (Value.bool false)]))) (
            bindO (binV BinOp.add (getL l6 0) (Value.int IntKind.i64 1)) fun x12 =>
            M.ret (Out.norm [x12]))) (
          M.ret (Out.exit 0 [(getL l6 0)]))) [(Value.int IntKind.i64 0)]) fun o14 =>
      outK o14 (fun _ => M.fail) (fun k15 _ =>
        bif Nat.beq k15 0 then (
          M.ret (Value.tuple #[x4, (Value.bool true)])) else
        M.fail) (fun r16 => M.ret r16)))
def F.disk_parse.plan : Plan := (seq leaf (seq (seq leaf (cond (seq leaf leaf) leaf)) (seq (seq leaf (cond (seq leaf leaf) leaf)) (seq leaf (seq (seq leaf (body (loop [16] [2, 3, 6, 16, 17, 18, 19, 20, 21, 22, 23] [0] (seq leaf (seq (cond leaf leaf) (seq (body (seq leaf (seq leaf (cond (seq leaf leaf) leaf)))) leaf)))))) (seq leaf leaf))))))
theorem F.disk_parse.lift : LiftOk Tryd.prog 46 (ap1 F.disk_parse) :=
  lift1 (g := evFn Tryd.prog (tcons 53 (ap2 F.strings_Count) (tcons 54 (ap2 F.strings_Split) (tcons 55 (ap1 F.disk_nameOK) tnil))) tnil 46 Tryd.f46 F.disk_parse.plan) (evFn_sound (tcons_ok F.strings_Count.lift (tcons_ok F.strings_Split.lift (tcons_ok F.disk_nameOK.lift tnil_ok))) tnil_ok Tryd.func46 (by kernel_rfl)) (fun x0 => by kernel_rfl)

/-- (*granary/disk.Disk).walk -/
noncomputable def F.disk_Disk_walk (a0 a1 : Value) : M Value :=
  M.bind (newM 70 #[(Value.int IntKind.i64 0), (Value.string ByteArray.empty), (Value.int IntKind.i64 0)]) fun x1 =>
  bindO (buildV #[(Value.int IntKind.i64 0), (Value.string ByteArray.empty)] [(0, 1, (Value.int IntKind.i64 (-1)))]) fun x2 =>
  bindO (buildV #[(Value.int IntKind.i64 0), (Value.string ByteArray.empty), (Value.int IntKind.i64 0)] [(0, 2, x2), (2, 1, (Value.int IntKind.i64 0))]) fun x3 =>
  M.bind (newM 70 #[(Value.int IntKind.i64 0), (Value.string ByteArray.empty), (Value.int IntKind.i64 0)]) fun x4 =>
  M.bind (stM 3 x4 x3) fun _ =>
  bindO (lenL a1) fun x6 =>
  M.bind (loopM (fun l7 =>
    bindO (binV BinOp.lss (getL l7 0) x6) fun x8 =>
    condM x8 (
      bindO (idxA 1 a1 (getL l7 0)) fun x9 =>
      M.bind (rdM (ld1 x9)) fun x10 =>
      bindO (fieldA 2 x4) fun x11 =>
      M.bind (rdM (ld1 x11)) fun x12 =>
      bindO (binV BinOp.lss x12 (Value.int IntKind.i64 0)) fun x13 =>
      condM x13 (
        bindO (buildV #[(Value.int IntKind.i64 0), (Value.string ByteArray.empty), (Value.int IntKind.i64 0)] []) fun x14 =>
        M.bind (stM 3 x1 x14) fun _ =>
        M.bind (rdM (ldA 3 x1)) fun x16 =>
        M.ret (Out.ret (Value.tuple #[x16, (Value.int IntKind.i64 12)]))) (
        drewM <|
        bindO (nilChk a0) fun x17 =>
        bindO (fieldA 6 x17) fun x18 =>
        M.bind (rdM (ld1 x18)) fun x19 =>
        bindO (fieldA 2 x4) fun x20 =>
        M.bind (rdM (ld1 x20)) fun x21 =>
        bindO (idxA 3 x19 x21) fun x22 =>
        bindO (fieldA 0 x22) fun x23 =>
        M.bind (rdM (ld1 x23)) fun x24 =>
        bindO (binV BinOp.neq x24 (Value.int IntKind.i64 1)) fun x25 =>
        condM x25 (
          bindO (buildV #[(Value.int IntKind.i64 0), (Value.string ByteArray.empty), (Value.int IntKind.i64 0)] []) fun x26 =>
          M.bind (stM 3 x1 x26) fun _ =>
          M.bind (rdM (ldA 3 x1)) fun x28 =>
          M.ret (Out.ret (Value.tuple #[x28, (Value.int IntKind.i64 14)]))) (
          bindO (fieldA 2 x4) fun x29 =>
          M.bind (rdM (ld1 x29)) fun x30 =>
          bindO (buildV #[(Value.int IntKind.i64 0), (Value.string ByteArray.empty)] [(0, 1, x30), (1, 1, x10)]) fun x31 =>
          bindO (fieldA 0 x4) fun x32 =>
          M.bind (stM 2 x32 x31) fun _ =>
          drewM <|
          bindO (nilChk a0) fun x34 =>
          bindO (fieldA 7 x34) fun x35 =>
          M.bind (rdM (ld1 x35)) fun x36 =>
          bindO (fieldA 0 x4) fun x37 =>
          M.bind (rdM (ldA 2 x37)) fun x38 =>
          M.bind (rdM (lookV Tryd.prog 68 (EqSh.offs [(EqK.int, 0), (EqK.str, 1)]) (Value.int IntKind.i64 0) true x36 x38)) fun x39 =>
          bindO (extV 0 x39) fun x40 =>
          bindO (extV 1 x39) fun x41 =>
          M.bind (
            bindO (notV x41) fun x42 =>
            condM x42 (
              M.ret (Out.norm [(Value.int IntKind.i64 (-1))])) (
              M.ret (Out.norm [x40]))) fun o44 =>
          outK o44 (fun l43 =>
            bindO (fieldA 2 x4) fun x47 =>
            M.bind (stM 1 x47 (getL l43 0)) fun _ =>
            bindO (binV BinOp.lss (getL l43 0) (Value.int IntKind.i64 0)) fun x49 =>
            M.bind (guardM x49 true (M.ret (getL l7 0))) fun x50 =>
            M.bind (guardM x49 true (optM (binV BinOp.add x50 (Value.int IntKind.i64 1)))) fun x51 =>
            M.bind (guardM x49 true (M.ret a1)) fun x52 =>
            M.bind (guardM x49 true (optM (lenL x52))) fun x53 =>
            M.bind (guardM x49 true (optM (binV BinOp.lss x51 x53))) fun x54 =>
            bindO (pickV x49 x54 (Value.bool false)) fun x55 =>
            condM x55 (
              bindO (buildV #[(Value.int IntKind.i64 0), (Value.string ByteArray.empty), (Value.int IntKind.i64 0)] []) fun x56 =>
              M.bind (stM 3 x1 x56) fun _ =>
              M.bind (rdM (ldA 3 x1)) fun x58 =>
              M.ret (Out.ret (Value.tuple #[x58, (Value.int IntKind.i64 12)]))) (
              bindO (binV BinOp.add (getL l7 0) (Value.int IntKind.i64 1)) fun x59 =>
              M.ret (Out.norm [x59]))) (fun _ _ =>
            M.fail) (fun r46 => M.ret (Out.ret r46))))) (
      M.ret (Out.exit 0 [(getL l7 0)]))) [(Value.int IntKind.i64 0)]) fun o62 =>
  outK o62 (fun _ => M.fail) (fun k63 _ =>
    bif Nat.beq k63 0 then (
      M.bind (rdM (ldA 3 x4)) fun x65 =>
      M.bind (stM 3 x1 x65) fun _ =>
      M.bind (rdM (ldA 3 x1)) fun x67 =>
      M.ret (Value.tuple #[x67, (Value.int IntKind.i64 0)])) else
    M.fail) (fun r64 => M.ret r64)
def F.disk_Disk_walk.plan : Plan := (seq leaf (seq leaf (seq (seq leaf (body (loop [15] [5, 7, 8, 9, 10, 15, 16, 17, 18, 19, 20, 21, 22, 23, 24, 25, 26, 27, 28, 29, 30, 31, 32, 33, 34, 35, 36, 37, 38, 39, 40, 41, 42, 43, 44, 45, 46, 47, 48, 49, 50, 51, 52, 53, 54, 55, 56, 57, 58, 59, 60, 61, 62, 63, 64] [0] (seq leaf (seq (cond leaf leaf) (seq (body (seq leaf (seq (seq leaf (cond (seq leaf leaf) leaf)) (seq (seq leaf (cond (seq leaf leaf) leaf)) (seq leaf (seq leaf (fork [9] [9, 50, 51] [] (seq leaf (cond leaf leaf)) (seq leaf (seq leaf (cond (seq leaf leaf) leaf)))))))))) leaf)))))) (seq leaf leaf))))
theorem F.disk_Disk_walk.lift : LiftOk Tryd.prog 47 (ap2 F.disk_Disk_walk) :=
  lift2 (g := evFn Tryd.prog tnil tnil 47 Tryd.f47 F.disk_Disk_walk.plan) (evFn_sound tnil_ok tnil_ok Tryd.func47 (by kernel_rfl)) (fun x0 x1 => by kernel_rfl)

/-- (*granary/disk.Disk).act -/
noncomputable def F.disk_Disk_act (a0 : Value) : M Value :=
  M.bind (
    bindO (nilChk a0) fun x1 =>
    bindO (fieldA 3 x1) fun x2 =>
    M.bind (rdM (ld1 x2)) fun x3 =>
    condM x3 (
      bindO (nilChk a0) fun x4 =>
      bindO (fieldA 4 x4) fun x5 =>
      M.bind (rdM (ld1 x5)) fun x6 =>
      bindO (binV BinOp.eql x6 (Value.int IntKind.i64 0)) fun x7 =>
      condM x7 (
        bindO (nilChk a0) fun x8 =>
        bindO (fieldA 5 x8) fun x9 =>
        M.bind (stM 1 x9 (Value.bool true)) fun _ =>
        M.ret (Out.ret (Value.int IntKind.i64 10))) (
        bindO (nilChk a0) fun x11 =>
        bindO (fieldA 4 x11) fun x12 =>
        M.bind (rdM (ld1 x12)) fun x13 =>
        bindO (binV BinOp.sub x13 (Value.int IntKind.i64 1)) fun x14 =>
        bindO (nilChk a0) fun x15 =>
        bindO (fieldA 4 x15) fun x16 =>
        M.bind (stM 1 x16 x14) fun _ =>
        M.ret (Out.norm []))) (
      M.ret (Out.norm []))) fun o19 =>
  outK o19 (fun _ =>
    bindO (nilChk a0) fun x22 =>
    bindO (fieldA 1 x22) fun x23 =>
    M.bind (rdM (ld1 x23)) fun x24 =>
    bindO (binV BinOp.add x24 (Value.int IntKind.i64 1)) fun x25 =>
    bindO (nilChk a0) fun x26 =>
    bindO (fieldA 1 x26) fun x27 =>
    M.bind (stM 1 x27 x25) fun _ =>
    M.ret (Value.int IntKind.i64 0)) (fun _ _ =>
    M.fail) (fun r21 => M.ret r21)
def F.disk_Disk_act.plan : Plan := (seq leaf (fork [] [2, 3, 4, 5, 6, 7, 8, 9, 10, 11, 12, 13, 14, 15, 16, 17, 18, 19, 20, 21] [] (seq leaf (cond (seq (seq leaf (cond (seq leaf (seq leaf leaf)) leaf)) leaf) leaf)) (seq leaf (seq leaf leaf))))
theorem F.disk_Disk_act.lift : LiftOk Tryd.prog 48 (ap1 F.disk_Disk_act) :=
  lift1 (g := evFn Tryd.prog tnil tnil 48 Tryd.f48 F.disk_Disk_act.plan) (evFn_sound tnil_ok tnil_ok Tryd.func48 (by kernel_rfl)) (fun x0 => by kernel_rfl)

/-- granary/disk.apply -/
noncomputable def F.disk_apply (a0 a1 a2 : Value) : M Value :=
  M.bind (newM 75 (Value.cells a0)) fun x1 =>
  M.bind (
    bindO (fieldA 0 x1) fun x2 =>
    M.bind (rdM (ld1 x2)) fun x3 =>
    bindO (binV BinOp.eql x3 (Value.int IntKind.i64 0)) fun x4 =>
    condM x4 (
      bindO (fieldA 2 x1) fun x5 =>
      M.bind (rdM (ld1 x5)) fun x6 =>
      bindO (binV BinOp.add a1 x6) fun x7 =>
      M.ret (Out.ret x7)) (
      bindO (binV BinOp.eql x3 (Value.int IntKind.i64 1)) fun x8 =>
      condM x8 (
        bindO (fieldA 3 x1) fun x9 =>
        M.bind (rdM (ld1 x9)) fun x10 =>
        bindO (sliceS a1 none (some x10)) fun x11 =>
        M.ret (Out.ret x11)) (
        bindO (binV BinOp.eql x3 (Value.int IntKind.i64 2)) fun x12 =>
        condM x12 (
          bindO (fieldA 1 x1) fun x13 =>
          M.bind (rdM (ld1 x13)) fun x14 =>
          bindO (fieldA 4 x1) fun x15 =>
          M.bind (rdM (ld1 x15)) fun x16 =>
          bindO (buildV #[(Value.int IntKind.i64 0), (Value.string ByteArray.empty)] [(0, 1, x14), (1, 1, x16)]) fun x17 =>
          bindO (fieldA 6 x1) fun x18 =>
          M.bind (rdM (ld1 x18)) fun x19 =>
          M.bind (updM Tryd.prog 68 (EqSh.offs [(EqK.int, 0), (EqK.str, 1)]) a2 x17 x19) fun _ =>
          M.ret (Out.norm [])) (
          bindO (binV BinOp.eql x3 (Value.int IntKind.i64 3)) fun x21 =>
          condM x21 (
            bindO (fieldA 1 x1) fun x22 =>
            M.bind (rdM (ld1 x22)) fun x23 =>
            bindO (fieldA 4 x1) fun x24 =>
            M.bind (rdM (ld1 x24)) fun x25 =>
            bindO (buildV #[(Value.int IntKind.i64 0), (Value.string ByteArray.empty)] [(0, 1, x23), (1, 1, x25)]) fun x26 =>
            M.bind (delM Tryd.prog 68 (EqSh.offs [(EqK.int, 0), (EqK.str, 1)]) a2 x26) fun _ =>
            M.ret (Out.norm [])) (
            bindO (binV BinOp.eql x3 (Value.int IntKind.i64 4)) fun x28 =>
            condM x28 (
              bindO (fieldA 1 x1) fun x29 =>
              M.bind (rdM (ld1 x29)) fun x30 =>
              bindO (fieldA 4 x1) fun x31 =>
              M.bind (rdM (ld1 x31)) fun x32 =>
              bindO (buildV #[(Value.int IntKind.i64 0), (Value.string ByteArray.empty)] [(0, 1, x30), (1, 1, x32)]) fun x33 =>
              M.bind (rdM (lookV Tryd.prog 68 (EqSh.offs [(EqK.int, 0), (EqK.str, 1)]) (Value.int IntKind.i64 0) false a2 x33)) fun x34 =>
              bindO (fieldA 1 x1) fun x35 =>
              M.bind (rdM (ld1 x35)) fun x36 =>
              bindO (fieldA 4 x1) fun x37 =>
              M.bind (rdM (ld1 x37)) fun x38 =>
              bindO (buildV #[(Value.int IntKind.i64 0), (Value.string ByteArray.empty)] [(0, 1, x36), (1, 1, x38)]) fun x39 =>
              M.bind (delM Tryd.prog 68 (EqSh.offs [(EqK.int, 0), (EqK.str, 1)]) a2 x39) fun _ =>
              bindO (fieldA 1 x1) fun x41 =>
              M.bind (rdM (ld1 x41)) fun x42 =>
              bindO (fieldA 5 x1) fun x43 =>
              M.bind (rdM (ld1 x43)) fun x44 =>
              bindO (buildV #[(Value.int IntKind.i64 0), (Value.string ByteArray.empty)] [(0, 1, x42), (1, 1, x44)]) fun x45 =>
              M.bind (updM Tryd.prog 68 (EqSh.offs [(EqK.int, 0), (EqK.str, 1)]) a2 x45 x34) fun _ =>
              M.ret (Out.norm [])) (
              M.ret (Out.norm []))))))) fun o48 =>
  outK o48 (fun _ =>
    M.ret a1) (fun _ _ =>
    M.fail) (fun r50 => M.ret r50)
def F.disk_apply.plan : Plan := (seq leaf (fork [] [6, 7, 8, 9, 10, 11, 12, 13, 14, 15, 16, 17, 18, 19, 20, 21, 22, 23, 24, 25, 26, 27, 28, 29, 30, 31, 32, 33, 34, 35, 36, 37, 38, 39, 40, 41, 42, 43, 44, 45, 46, 47, 48, 49, 50, 51, 52, 53, 54, 55, 56, 57, 58, 59, 60, 61] [] (seq leaf (body (seq leaf (cond (seq leaf leaf) (seq leaf (cond (seq leaf leaf) (seq leaf (cond leaf (seq leaf (cond leaf (seq leaf (cond (seq leaf (seq leaf leaf)) leaf)))))))))))) (seq leaf leaf)))
theorem F.disk_apply.lift : LiftOk Tryd.prog 39 (ap3 F.disk_apply) :=
  lift3 (g := evFn Tryd.prog tnil tnil 39 Tryd.f39 F.disk_apply.plan) (evFn_sound tnil_ok tnil_ok Tryd.func39 (by kernel_rfl)) (fun x0 x1 x2 => by kernel_rfl)

/-- (*granary/disk.Disk).do -/
noncomputable def F.disk_Disk_do (a0 a1 : Value) : M Value :=
  M.bind (newM 75 (Value.cells a1)) fun x1 =>
  M.bind (F.disk_Disk_act a0) fun x2 =>
  bindO (binV BinOp.neq x2 (Value.int IntKind.i64 0)) fun x3 =>
  condM x3 (
    M.ret x2) (
    drewM <|
    bindO (nilChk a0) fun x4 =>
    bindO (fieldA 6 x4) fun x5 =>
    M.bind (rdM (ld1 x5)) fun x6 =>
    bindO (fieldA 1 x1) fun x7 =>
    M.bind (rdM (ld1 x7)) fun x8 =>
    bindO (idxA 3 x6 x8) fun x9 =>
    drewM <|
    M.bind (rdM (ldA 7 x1)) fun x10 =>
    bindO (nilChk x9) fun x11 =>
    bindO (fieldA 1 x11) fun x12 =>
    M.bind (rdM (ld1 x12)) fun x13 =>
    bindO (nilChk a0) fun x14 =>
    bindO (fieldA 7 x14) fun x15 =>
    M.bind (rdM (ld1 x15)) fun x16 =>
    M.bind (F.disk_apply x10 x13 x16) fun x17 =>
    bindO (nilChk x9) fun x18 =>
    bindO (fieldA 1 x18) fun x19 =>
    M.bind (stM 1 x19 x17) fun _ =>
    drewM <|
    getM fun _ =>
    bindO (nilChk a0) fun x22 =>
    bindO (fieldA 9 x22) fun x23 =>
    M.bind (rdM (ld1 x23)) fun x24 =>
    M.bind (rdM (ldA 7 x1)) fun x25 =>
    M.bind (bslM 75 1 (Builtin.zeroCells #[(Value.int IntKind.i64 0), (Value.int IntKind.i64 0), (Value.string ByteArray.empty), (Value.int IntKind.i64 0), (Value.string ByteArray.empty), (Value.string ByteArray.empty), (Value.int IntKind.i64 0)] 1) [(0, 7, x25)]) fun x26 =>
    getM fun W27 =>
    M.bind (appM 75 7 80 #[(Value.int IntKind.i64 0), (Value.int IntKind.i64 0), (Value.string ByteArray.empty), (Value.int IntKind.i64 0), (Value.string ByteArray.empty), (Value.string ByteArray.empty), (Value.int IntKind.i64 0)] x24 x26) fun x28 =>
    getM fun _ =>
    bindO (nilChk a0) fun x30 =>
    bindO (fieldA 9 x30) fun x31 =>
    M.bind (stM 1 x31 x28) fun _ =>
    getM fun _ =>
    reqM (ld1 x23 W27 = some x24) <|
    M.ret (Value.int IntKind.i64 0))
def F.disk_Disk_do.plan : Plan := (seq leaf (seq (seq leaf (seq leaf (cond (seq leaf leaf) leaf))) (seq leaf (seq leaf (seq leaf (seq leaf leaf))))))
theorem F.disk_Disk_do.lift : LiftOk Tryd.prog 34 (ap2 F.disk_Disk_do) :=
  lift2 (g := evFn Tryd.prog (tcons 39 (ap3 F.disk_apply) (tcons 48 (ap1 F.disk_Disk_act) tnil)) tnil 34 Tryd.f34 F.disk_Disk_do.plan) (evFn_sound (tcons_ok F.disk_apply.lift (tcons_ok F.disk_Disk_act.lift tnil_ok)) tnil_ok Tryd.func34 (by kernel_rfl)) (fun x0 x1 => by kernel_rfl)

/-- (*granary/disk.Disk).add -/
noncomputable def F.disk_Disk_add (a0 a1 a2 : Value) : M Value :=
  M.bind (F.disk_Disk_ready a0) fun x1 =>
  bindO (binV BinOp.neq x1 (Value.int IntKind.i64 0)) fun x2 =>
  condM x2 (
    M.ret x1) (
    M.bind (F.disk_parse a1) fun x3 =>
    bindO (extV 0 x3) fun x4 =>
    bindO (extV 1 x3) fun x5 =>
    bindO (notV x5) fun x6 =>
    condM x6 (
      M.ret (Value.int IntKind.i64 11)) (
      M.bind (F.disk_Disk_walk a0 x4) fun x7 =>
      bindO (extV 0 x7) fun x8 =>
      bindO (extV 1 x7) fun x9 =>
      M.bind (newM 70 #[(Value.int IntKind.i64 0), (Value.string ByteArray.empty), (Value.int IntKind.i64 0)]) fun x10 =>
      M.bind (stM 3 x10 x8) fun _ =>
      bindO (binV BinOp.neq x9 (Value.int IntKind.i64 0)) fun x12 =>
      condM x12 (
        M.ret x9) (
        bindO (fieldA 2 x10) fun x13 =>
        M.bind (rdM (ld1 x13)) fun x14 =>
        bindO (binV BinOp.geq x14 (Value.int IntKind.i64 0)) fun x15 =>
        condM x15 (
          M.ret (Value.int IntKind.i64 13)) (
          bindO (nilChk a0) fun x16 =>
          bindO (fieldA 6 x16) fun x17 =>
          M.bind (rdM (ld1 x17)) fun x18 =>
          bindO (buildV #[(Value.int IntKind.i64 0), (Value.string ByteArray.empty), (Value.string ByteArray.empty)] [(0, 1, a2)]) fun x19 =>
          M.bind (bslM 60 1 (Builtin.zeroCells #[(Value.int IntKind.i64 0), (Value.string ByteArray.empty), (Value.string ByteArray.empty)] 1) [(0, 3, x19)]) fun x20 =>
          M.bind (appM 60 3 40 #[(Value.int IntKind.i64 0), (Value.string ByteArray.empty), (Value.string ByteArray.empty)] x18 x20) fun x21 =>
          bindO (nilChk a0) fun x22 =>
          bindO (fieldA 6 x22) fun x23 =>
          M.bind (stM 1 x23 x21) fun _ =>
          drewM <|
          bindO (fieldA 0 x10) fun x25 =>
          bindO (fieldA 0 x25) fun x26 =>
          M.bind (rdM (ld1 x26)) fun x27 =>
          bindO (fieldA 0 x10) fun x28 =>
          bindO (fieldA 1 x28) fun x29 =>
          M.bind (rdM (ld1 x29)) fun x30 =>
          bindO (nilChk a0) fun x31 =>
          bindO (fieldA 6 x31) fun x32 =>
          M.bind (rdM (ld1 x32)) fun x33 =>
          bindO (lenL x33) fun x34 =>
          bindO (binV BinOp.sub x34 (Value.int IntKind.i64 1)) fun x35 =>
          bindO (buildV #[(Value.int IntKind.i64 0), (Value.int IntKind.i64 0), (Value.string ByteArray.empty), (Value.int IntKind.i64 0), (Value.string ByteArray.empty), (Value.string ByteArray.empty), (Value.int IntKind.i64 0)] [(0, 1, (Value.int IntKind.i64 2)), (1, 1, x27), (4, 1, x30), (6, 1, x35)]) fun x36 =>
          M.bind (F.disk_Disk_do a0 x36) fun x37 =>
          M.ret x37))))
def F.disk_Disk_add.plan : Plan := (seq leaf (seq (seq leaf (seq leaf (cond (seq leaf leaf) leaf))) (seq leaf (seq (seq leaf (cond (seq leaf leaf) leaf)) (seq leaf (seq (seq leaf (cond (seq leaf leaf) leaf)) (seq (seq leaf (cond (seq leaf leaf) leaf)) (seq leaf (seq leaf leaf)))))))))
theorem F.disk_Disk_add.lift : LiftOk Tryd.prog 32 (ap3 F.disk_Disk_add) :=
  lift3 (g := evFn Tryd.prog (tcons 34 (ap2 F.disk_Disk_do) (tcons 36 (ap1 F.disk_Disk_ready) (tcons 46 (ap1 F.disk_parse) (tcons 47 (ap2 F.disk_Disk_walk) tnil)))) tnil 32 Tryd.f32 F.disk_Disk_add.plan) (evFn_sound (tcons_ok F.disk_Disk_do.lift (tcons_ok F.disk_Disk_ready.lift (tcons_ok F.disk_parse.lift (tcons_ok F.disk_Disk_walk.lift tnil_ok)))) tnil_ok Tryd.func32 (by kernel_rfl)) (fun x0 x1 x2 => by kernel_rfl)

/-- (*granary/disk.Disk).Create -/
noncomputable def F.disk_Disk_Create (a0 a1 : Value) : M Value :=
  M.bind (F.disk_Disk_add a0 a1 (Value.int IntKind.i64 2)) fun x1 =>
  M.ret x1
def F.disk_Disk_Create.plan : Plan := (seq leaf (seq leaf leaf))
theorem F.disk_Disk_Create.lift : LiftOk Tryd.prog 10 (ap2 F.disk_Disk_Create) :=
  lift2 (g := evFn Tryd.prog (tcons 32 (ap3 F.disk_Disk_add) tnil) tnil 10 Tryd.f10 F.disk_Disk_Create.plan) (evFn_sound (tcons_ok F.disk_Disk_add.lift tnil_ok) tnil_ok Tryd.func10 (by kernel_rfl)) (fun x0 x1 => by kernel_rfl)

/-- (*granary/disk.Disk).find -/
noncomputable def F.disk_Disk_find (a0 a1 a2 : Value) : M Value :=
  M.bind (newM 70 #[(Value.int IntKind.i64 0), (Value.string ByteArray.empty), (Value.int IntKind.i64 0)]) fun x1 =>
  M.bind (F.disk_Disk_ready a0) fun x2 =>
  bindO (binV BinOp.neq x2 (Value.int IntKind.i64 0)) fun x3 =>
  condM x3 (
    bindO (buildV #[(Value.int IntKind.i64 0), (Value.string ByteArray.empty), (Value.int IntKind.i64 0)] []) fun x4 =>
    M.bind (stM 3 x1 x4) fun _ =>
    M.bind (rdM (ldA 3 x1)) fun x6 =>
    M.ret (Value.tuple #[x6, x2])) (
    M.bind (F.disk_parse a1) fun x7 =>
    bindO (extV 0 x7) fun x8 =>
    bindO (extV 1 x7) fun x9 =>
    bindO (notV x9) fun x10 =>
    condM x10 (
      bindO (buildV #[(Value.int IntKind.i64 0), (Value.string ByteArray.empty), (Value.int IntKind.i64 0)] []) fun x11 =>
      M.bind (stM 3 x1 x11) fun _ =>
      M.bind (rdM (ldA 3 x1)) fun x13 =>
      M.ret (Value.tuple #[x13, (Value.int IntKind.i64 11)])) (
      M.bind (F.disk_Disk_walk a0 x8) fun x14 =>
      bindO (extV 0 x14) fun x15 =>
      bindO (extV 1 x14) fun x16 =>
      M.bind (newM 70 #[(Value.int IntKind.i64 0), (Value.string ByteArray.empty), (Value.int IntKind.i64 0)]) fun x17 =>
      M.bind (stM 3 x17 x15) fun _ =>
      bindO (binV BinOp.neq x16 (Value.int IntKind.i64 0)) fun x19 =>
      condM x19 (
        bindO (buildV #[(Value.int IntKind.i64 0), (Value.string ByteArray.empty), (Value.int IntKind.i64 0)] []) fun x20 =>
        M.bind (stM 3 x1 x20) fun _ =>
        M.bind (rdM (ldA 3 x1)) fun x22 =>
        M.ret (Value.tuple #[x22, x16])) (
        bindO (fieldA 2 x17) fun x23 =>
        M.bind (rdM (ld1 x23)) fun x24 =>
        bindO (binV BinOp.lss x24 (Value.int IntKind.i64 0)) fun x25 =>
        condM x25 (
          bindO (buildV #[(Value.int IntKind.i64 0), (Value.string ByteArray.empty), (Value.int IntKind.i64 0)] []) fun x26 =>
          M.bind (stM 3 x1 x26) fun _ =>
          M.bind (rdM (ldA 3 x1)) fun x28 =>
          M.ret (Value.tuple #[x28, (Value.int IntKind.i64 12)])) (
          drewM <|
          bindO (binV BinOp.neq a2 (Value.int IntKind.i64 0)) fun x29 =>
          M.bind (guardM x29 true (M.ret a0)) fun x30 =>
          M.bind (guardM x29 true (optM (nilChk x30))) fun x31 =>
          M.bind (guardM x29 true (optM (fieldA 6 x31))) fun x32 =>
          M.bind (guardM x29 true (rdM (ld1 x32))) fun x33 =>
          M.bind (guardM x29 true (optM (fieldA 2 x17))) fun x34 =>
          M.bind (guardM x29 true (rdM (ld1 x34))) fun x35 =>
          M.bind (guardM x29 true (optM (idxA 3 x33 x35))) fun x36 =>
          M.bind (guardM x29 true (optM (fieldA 0 x36))) fun x37 =>
          M.bind (guardM x29 true (rdM (ld1 x37))) fun x38 =>
          M.bind (guardM x29 true (M.ret a2)) fun x39 =>
          M.bind (guardM x29 true (optM (binV BinOp.neq x38 x39))) fun x40 =>
          bindO (pickV x29 x40 (Value.bool false)) fun x41 =>
          condM x41 (
            bindO (buildV #[(Value.int IntKind.i64 0), (Value.string ByteArray.empty), (Value.int IntKind.i64 0)] []) fun x42 =>
            M.bind (stM 3 x1 x42) fun _ =>
            M.bind (rdM (ldA 3 x1)) fun x44 =>
            M.ret (Value.tuple #[x44, (Value.int IntKind.i64 14)])) (
            M.bind (rdM (ldA 3 x17)) fun x45 =>
            M.bind (stM 3 x1 x45) fun _ =>
            M.bind (rdM (ldA 3 x1)) fun x47 =>
            M.ret (Value.tuple #[x47, (Value.int IntKind.i64 0)]))))))
def F.disk_Disk_find.plan : Plan := (seq leaf (seq (seq leaf (seq leaf (cond (seq leaf leaf) leaf))) (seq leaf (seq (seq leaf (cond (seq leaf leaf) leaf)) (seq leaf (seq (body (seq leaf (cond (seq leaf leaf) (seq leaf (cond (seq leaf leaf) (seq leaf (cond (seq leaf leaf) leaf))))))) (seq leaf leaf)))))))
theorem F.disk_Disk_find.lift : LiftOk Tryd.prog 33 (ap3 F.disk_Disk_find) :=
  lift3 (g := evFn Tryd.prog (tcons 36 (ap1 F.disk_Disk_ready) (tcons 46 (ap1 F.disk_parse) (tcons 47 (ap2 F.disk_Disk_walk) tnil))) tnil 33 Tryd.f33 F.disk_Disk_find.plan) (evFn_sound (tcons_ok F.disk_Disk_ready.lift (tcons_ok F.disk_parse.lift (tcons_ok F.disk_Disk_walk.lift tnil_ok))) tnil_ok Tryd.func33 (by kernel_rfl)) (fun x0 x1 x2 => by kernel_rfl)

/-- (*granary/disk.Disk).Used -/
noncomputable def F.disk_Disk_Used (a0 : Value) : M Value :=
  bindO (eqV (EqSh.one EqK.ptr) a0 (Value.pointer none)) fun x1 =>
  condM x1 (
    M.ret (Value.int IntKind.i64 0)) (
    bindO (nilChk a0) fun x2 =>
    bindO (fieldA 7 x2) fun x3 =>
    M.bind (rdM (ld1 x3)) fun x4 =>
    M.bind (rngM x4) fun x5 =>
    M.bind (loopM (fun l6 =>
      M.bind (nxtM x5) fun x7 =>
      bindO (extV 0 x7) fun x8 =>
      condM x8 (
        M.bind (rdM (entV x5)) fun x9 =>
        bindO (extV 1 x9) fun x10 =>
        bindO (nilChk a0) fun x11 =>
        bindO (fieldA 6 x11) fun x12 =>
        M.bind (rdM (ld1 x12)) fun x13 =>
        bindO (idxA 3 x13 x10) fun x14 =>
        bindO (fieldA 1 x14) fun x15 =>
        M.bind (rdM (ld1 x15)) fun x16 =>
        bindO (lenS x16) fun x17 =>
        bindO (binV BinOp.add (getL l6 0) x17) fun x18 =>
        M.ret (Out.norm [x18])) (
        M.ret (Out.exit 0 [(getL l6 0)]))) [(Value.int IntKind.i64 0)]) fun o20 =>
    outK o20 (fun _ => M.fail) (fun k21 l19 =>
      bif Nat.beq k21 0 then (
        M.ret (getL l19 0)) else
      M.fail) (fun r22 => M.ret r22))
def F.disk_Disk_Used.plan : Plan := (seq leaf (seq (seq leaf (cond (seq leaf leaf) leaf)) (seq leaf (seq (seq leaf (body (loop [3] [3, 5, 13, 14, 15, 16, 17, 18, 19, 20, 21, 22, 23, 24, 25, 26, 27] [0] (seq leaf (seq (cond leaf leaf) (body (seq leaf leaf))))))) (seq leaf leaf)))))
theorem F.disk_Disk_Used.lift : LiftOk Tryd.prog 28 (ap1 F.disk_Disk_Used) :=
  lift1 (g := evFn Tryd.prog tnil tnil 28 Tryd.f28 F.disk_Disk_Used.plan) (evFn_sound tnil_ok tnil_ok Tryd.func28 (by kernel_rfl)) (fun x0 => by kernel_rfl)

/-- (*granary/disk.Disk).Append -/
noncomputable def F.disk_Disk_Append (a0 a1 a2 : Value) : M Value :=
  M.bind (F.disk_Disk_find a0 a1 (Value.int IntKind.i64 2)) fun x1 =>
  bindO (extV 0 x1) fun x2 =>
  bindO (extV 1 x1) fun x3 =>
  M.bind (newM 70 #[(Value.int IntKind.i64 0), (Value.string ByteArray.empty), (Value.int IntKind.i64 0)]) fun x4 =>
  M.bind (stM 3 x4 x2) fun _ =>
  bindO (binV BinOp.neq x3 (Value.int IntKind.i64 0)) fun x6 =>
  condM x6 (
    M.ret x3) (
    drewM <|
    getM fun W7 =>
    M.bind (F.disk_Disk_Used a0) fun x8 =>
    getM fun _ =>
    bindO (lenS a2) fun x10 =>
    bindO (binV BinOp.add x8 x10) fun x11 =>
    bindO (nilChk a0) fun x12 =>
    bindO (fieldA 0 x12) fun x13 =>
    M.bind (rdM (ld1 x13)) fun x14 =>
    bindO (binV BinOp.gtr x11 x14) fun x15 =>
    reqM (ld1 x13 W7 = some x14) <|
    condM x15 (
      M.ret (Value.int IntKind.i64 15)) (
      bindO (fieldA 2 x4) fun x16 =>
      M.bind (rdM (ld1 x16)) fun x17 =>
      bindO (buildV #[(Value.int IntKind.i64 0), (Value.int IntKind.i64 0), (Value.string ByteArray.empty), (Value.int IntKind.i64 0), (Value.string ByteArray.empty), (Value.string ByteArray.empty), (Value.int IntKind.i64 0)] [(0, 1, (Value.int IntKind.i64 0)), (1, 1, x17), (2, 1, a2)]) fun x18 =>
      M.bind (F.disk_Disk_do a0 x18) fun x19 =>
      M.ret x19))
def F.disk_Disk_Append.plan : Plan := (seq leaf (seq leaf (seq (seq leaf (cond (seq leaf leaf) leaf)) (seq (seq leaf (cond (seq leaf leaf) leaf)) (seq leaf leaf)))))
theorem F.disk_Disk_Append.lift : LiftOk Tryd.prog 11 (ap3 F.disk_Disk_Append) :=
  lift3 (g := evFn Tryd.prog (tcons 28 (ap1 F.disk_Disk_Used) (tcons 33 (ap3 F.disk_Disk_find) (tcons 34 (ap2 F.disk_Disk_do) tnil))) tnil 11 Tryd.f11 F.disk_Disk_Append.plan) (evFn_sound (tcons_ok F.disk_Disk_Used.lift (tcons_ok F.disk_Disk_find.lift (tcons_ok F.disk_Disk_do.lift tnil_ok))) tnil_ok Tryd.func11 (by kernel_rfl)) (fun x0 x1 x2 => by kernel_rfl)

/-- (*granary/disk.Disk).settle -/
noncomputable def F.disk_Disk_settle (a0 a1 : Value) : M Value :=
  M.bind (F.disk_Disk_act a0) fun x1 =>
  bindO (binV BinOp.neq x1 (Value.int IntKind.i64 0)) fun x2 =>
  condM x2 (
    M.ret x1) (
    bindO (nilChk a0) fun x3 =>
    bindO (fieldA 6 x3) fun x4 =>
    M.bind (rdM (ld1 x4)) fun x5 =>
    bindO (idxA 3 x5 a1) fun x6 =>
    bindO (nilChk a0) fun x7 =>
    bindO (fieldA 9 x7) fun x8 =>
    M.bind (rdM (ld1 x8)) fun x9 =>
    bindO (lenL x9) fun x10 =>
    M.bind (loopM (fun l11 =>
      bindO (binV BinOp.lss (getL l11 1) x10) fun x12 =>
      condM x12 (
        M.bind (
          bindO (idxA 7 x9 (getL l11 1)) fun x13 =>
          M.bind (rdM (ldA 7 x13)) fun x14 =>
          M.bind (newM 75 #[(Value.int IntKind.i64 0), (Value.int IntKind.i64 0), (Value.string ByteArray.empty), (Value.int IntKind.i64 0), (Value.string ByteArray.empty), (Value.string ByteArray.empty), (Value.int IntKind.i64 0)]) fun x15 =>
          M.bind (stM 7 x15 x14) fun _ =>
          bindO (fieldA 1 x15) fun x17 =>
          M.bind (rdM (ld1 x17)) fun x18 =>
          bindO (binV BinOp.neq x18 a1) fun x19 =>
          condM x19 (
            M.bind (rdM (ldA 7 x15)) fun x20 =>
            M.bind (bslM 75 1 (Builtin.zeroCells #[(Value.int IntKind.i64 0), (Value.int IntKind.i64 0), (Value.string ByteArray.empty), (Value.int IntKind.i64 0), (Value.string ByteArray.empty), (Value.string ByteArray.empty), (Value.int IntKind.i64 0)] 1) [(0, 7, x20)]) fun x21 =>
            M.bind (appM 75 7 80 #[(Value.int IntKind.i64 0), (Value.int IntKind.i64 0), (Value.string ByteArray.empty), (Value.int IntKind.i64 0), (Value.string ByteArray.empty), (Value.string ByteArray.empty), (Value.int IntKind.i64 0)] (getL l11 0) x21) fun x22 =>
            M.ret (Out.norm [x22])) (
            drewM <|
            M.bind (rdM (ldA 7 x15)) fun x23 =>
            bindO (nilChk x6) fun x24 =>
            bindO (fieldA 2 x24) fun x25 =>
            M.bind (rdM (ld1 x25)) fun x26 =>
            bindO (nilChk a0) fun x27 =>
            bindO (fieldA 8 x27) fun x28 =>
            M.bind (rdM (ld1 x28)) fun x29 =>
            M.bind (F.disk_apply x23 x26 x29) fun x30 =>
            bindO (nilChk x6) fun x31 =>
            bindO (fieldA 2 x31) fun x32 =>
            M.bind (stM 1 x32 x30) fun _ =>
            M.ret (Out.norm [(getL l11 0)]))) fun o35 =>
        outK o35 (fun l34 =>
          bindO (binV BinOp.add (getL l11 1) (Value.int IntKind.i64 1)) fun x38 =>
          M.ret (Out.norm [(getL l34 0), x38])) (fun _ _ =>
          M.fail) (fun r37 => M.ret (Out.ret r37))) (
        M.ret (Out.exit 0 [(getL l11 0), (getL l11 1)]))) [(Value.slice none 0 0), (Value.int IntKind.i64 0)]) fun o41 =>
    outK o41 (fun _ => M.fail) (fun k42 l40 =>
      bif Nat.beq k42 0 then (
        bindO (nilChk a0) fun x44 =>
        bindO (fieldA 9 x44) fun x45 =>
        M.bind (stM 1 x45 (getL l40 0)) fun _ =>
        M.ret (Value.int IntKind.i64 0)) else
      M.fail) (fun r43 => M.ret r43))
def F.disk_Disk_settle.plan : Plan := (seq leaf (seq (seq leaf (seq leaf (cond (seq leaf leaf) leaf))) (seq leaf (seq leaf (seq (seq leaf (body (loop [7, 26] [7, 9, 26, 27, 28, 29, 30, 31, 32, 33, 34, 35, 36, 37, 38, 39, 40, 41, 42, 43, 44, 45, 46, 47, 48, 49, 50, 51] [0] (seq leaf (seq (cond leaf leaf) (fork [7] [7, 9, 28, 29, 30, 31, 32, 33, 34, 35, 36, 37, 38, 39, 40, 41, 42, 43, 44, 45, 46, 47, 48, 49, 50] [] (body (seq leaf (seq (seq leaf (cond (seq leaf leaf) leaf)) leaf))) leaf)))))) (seq leaf (seq leaf leaf)))))))
theorem F.disk_Disk_settle.lift : LiftOk Tryd.prog 35 (ap2 F.disk_Disk_settle) :=
  lift2 (g := evFn Tryd.prog (tcons 39 (ap3 F.disk_apply) (tcons 48 (ap1 F.disk_Disk_act) tnil)) tnil 35 Tryd.f35 F.disk_Disk_settle.plan) (evFn_sound (tcons_ok F.disk_apply.lift (tcons_ok F.disk_Disk_act.lift tnil_ok)) tnil_ok Tryd.func35 (by kernel_rfl)) (fun x0 x1 => by kernel_rfl)

/-- (*granary/disk.Disk).Sync -/
noncomputable def F.disk_Disk_Sync (a0 a1 : Value) : M Value :=
  M.bind (F.disk_Disk_find a0 a1 (Value.int IntKind.i64 2)) fun x1 =>
  bindO (extV 0 x1) fun x2 =>
  bindO (extV 1 x1) fun x3 =>
  M.bind (newM 70 #[(Value.int IntKind.i64 0), (Value.string ByteArray.empty), (Value.int IntKind.i64 0)]) fun x4 =>
  M.bind (stM 3 x4 x2) fun _ =>
  bindO (binV BinOp.neq x3 (Value.int IntKind.i64 0)) fun x6 =>
  condM x6 (
    M.ret x3) (
    bindO (fieldA 2 x4) fun x7 =>
    M.bind (rdM (ld1 x7)) fun x8 =>
    M.bind (F.disk_Disk_settle a0 x8) fun x9 =>
    M.ret x9)
def F.disk_Disk_Sync.plan : Plan := (seq leaf (seq leaf (seq (seq leaf (cond (seq leaf leaf) leaf)) (seq leaf leaf))))
theorem F.disk_Disk_Sync.lift : LiftOk Tryd.prog 12 (ap2 F.disk_Disk_Sync) :=
  lift2 (g := evFn Tryd.prog (tcons 33 (ap3 F.disk_Disk_find) (tcons 35 (ap2 F.disk_Disk_settle) tnil)) tnil 12 Tryd.f12 F.disk_Disk_Sync.plan) (evFn_sound (tcons_ok F.disk_Disk_find.lift (tcons_ok F.disk_Disk_settle.lift tnil_ok)) tnil_ok Tryd.func12 (by kernel_rfl)) (fun x0 x1 => by kernel_rfl)

/-- (*granary/disk.Disk).SyncDir -/
noncomputable def F.disk_Disk_SyncDir (a0 a1 : Value) : M Value :=
  M.bind (F.disk_Disk_find a0 a1 (Value.int IntKind.i64 1)) fun x1 =>
  bindO (extV 0 x1) fun x2 =>
  bindO (extV 1 x1) fun x3 =>
  M.bind (newM 70 #[(Value.int IntKind.i64 0), (Value.string ByteArray.empty), (Value.int IntKind.i64 0)]) fun x4 =>
  M.bind (stM 3 x4 x2) fun _ =>
  bindO (binV BinOp.neq x3 (Value.int IntKind.i64 0)) fun x6 =>
  condM x6 (
    M.ret x3) (
    bindO (fieldA 2 x4) fun x7 =>
    M.bind (rdM (ld1 x7)) fun x8 =>
    M.bind (F.disk_Disk_settle a0 x8) fun x9 =>
    M.ret x9)
def F.disk_Disk_SyncDir.plan : Plan := (seq leaf (seq leaf (seq (seq leaf (cond (seq leaf leaf) leaf)) (seq leaf leaf))))
theorem F.disk_Disk_SyncDir.lift : LiftOk Tryd.prog 13 (ap2 F.disk_Disk_SyncDir) :=
  lift2 (g := evFn Tryd.prog (tcons 33 (ap3 F.disk_Disk_find) (tcons 35 (ap2 F.disk_Disk_settle) tnil)) tnil 13 Tryd.f13 F.disk_Disk_SyncDir.plan) (evFn_sound (tcons_ok F.disk_Disk_find.lift (tcons_ok F.disk_Disk_settle.lift tnil_ok)) tnil_ok Tryd.func13 (by kernel_rfl)) (fun x0 x1 => by kernel_rfl)

/-- (*granary/disk.Disk).Kind -/
noncomputable def F.disk_Disk_Kind (a0 a1 : Value) : M Value :=
  M.bind (F.disk_Disk_find a0 a1 (Value.int IntKind.i64 0)) fun x1 =>
  bindO (extV 0 x1) fun x2 =>
  bindO (extV 1 x1) fun x3 =>
  M.bind (newM 70 #[(Value.int IntKind.i64 0), (Value.string ByteArray.empty), (Value.int IntKind.i64 0)]) fun x4 =>
  M.bind (stM 3 x4 x2) fun _ =>
  bindO (binV BinOp.neq x3 (Value.int IntKind.i64 0)) fun x6 =>
  condM x6 (
    M.ret (Value.tuple #[(Value.int IntKind.i64 0), x3])) (
    drewM <|
    bindO (nilChk a0) fun x7 =>
    bindO (fieldA 6 x7) fun x8 =>
    M.bind (rdM (ld1 x8)) fun x9 =>
    bindO (fieldA 2 x4) fun x10 =>
    M.bind (rdM (ld1 x10)) fun x11 =>
    bindO (idxA 3 x9 x11) fun x12 =>
    bindO (fieldA 0 x12) fun x13 =>
    M.bind (rdM (ld1 x13)) fun x14 =>
    M.ret (Value.tuple #[x14, (Value.int IntKind.i64 0)]))
def F.disk_Disk_Kind.plan : Plan := (seq leaf (seq leaf (seq (seq leaf (cond (seq leaf leaf) leaf)) (seq leaf leaf))))
theorem F.disk_Disk_Kind.lift : LiftOk Tryd.prog 14 (ap2 F.disk_Disk_Kind) :=
  lift2 (g := evFn Tryd.prog (tcons 33 (ap3 F.disk_Disk_find) tnil) tnil 14 Tryd.f14 F.disk_Disk_Kind.plan) (evFn_sound (tcons_ok F.disk_Disk_find.lift tnil_ok) tnil_ok Tryd.func14 (by kernel_rfl)) (fun x0 x1 => by kernel_rfl)

/-- (*granary/disk.Disk).Remove -/
noncomputable def F.disk_Disk_Remove (a0 a1 : Value) : M Value :=
  M.bind (F.disk_Disk_find a0 a1 (Value.int IntKind.i64 0)) fun x1 =>
  bindO (extV 0 x1) fun x2 =>
  bindO (extV 1 x1) fun x3 =>
  M.bind (newM 70 #[(Value.int IntKind.i64 0), (Value.string ByteArray.empty), (Value.int IntKind.i64 0)]) fun x4 =>
  M.bind (stM 3 x4 x2) fun _ =>
  bindO (binV BinOp.eql a1 (Value.string (ByteArray.mk #[]))) fun x6 =>
  M.bind (guardM x6 true (M.ret x3)) fun x7 =>
  M.bind (guardM x6 true (optM (binV BinOp.eql x7 (Value.int IntKind.i64 0)))) fun x8 =>
  M.bind (guardM x6 true (M.ret x8)) fun x9 =>
  M.bind (guardM x9 false (M.ret x3)) fun x10 =>
  M.bind (guardM x9 false (optM (binV BinOp.eql x10 (Value.int IntKind.i64 12)))) fun x11 =>
  M.bind (guardM x6 true (optM (pickV x9 (Value.bool true) x11))) fun x12 =>
  bindO (pickV x6 x12 (Value.bool false)) fun x13 =>
  condM x13 (
    M.ret (Value.int IntKind.i64 11)) (
    bindO (binV BinOp.neq x3 (Value.int IntKind.i64 0)) fun x14 =>
    condM x14 (
      M.ret x3) (
      bindO (nilChk a0) fun x15 =>
      bindO (fieldA 7 x15) fun x16 =>
      M.bind (rdM (ld1 x16)) fun x17 =>
      M.bind (rngM x17) fun x18 =>
      M.bind (loopM (fun _ =>
        M.bind (nxtM x18) fun x20 =>
        bindO (extV 0 x20) fun x21 =>
        condM x21 (
          M.bind (rdM (entV x18)) fun x22 =>
          bindO (extV 0 x22) fun x23 =>
          M.bind (newM 68 #[(Value.int IntKind.i64 0), (Value.string ByteArray.empty)]) fun x24 =>
          M.bind (stM 2 x24 x23) fun _ =>
          bindO (fieldA 0 x24) fun x26 =>
          M.bind (rdM (ld1 x26)) fun x27 =>
          bindO (fieldA 2 x4) fun x28 =>
          M.bind (rdM (ld1 x28)) fun x29 =>
          bindO (binV BinOp.eql x27 x29) fun x30 =>
          condM x30 (
            M.ret (Out.ret (Value.int IntKind.i64 17))) (
            M.ret (Out.norm []))) (
          M.ret (Out.exit 0 []))) []) fun o32 =>
      outK o32 (fun _ => M.fail) (fun k33 _ =>
        bif Nat.beq k33 0 then (
          bindO (fieldA 0 x4) fun x35 =>
          bindO (fieldA 0 x35) fun x36 =>
          M.bind (rdM (ld1 x36)) fun x37 =>
          bindO (fieldA 0 x4) fun x38 =>
          bindO (fieldA 1 x38) fun x39 =>
          M.bind (rdM (ld1 x39)) fun x40 =>
          bindO (buildV #[(Value.int IntKind.i64 0), (Value.int IntKind.i64 0), (Value.string ByteArray.empty), (Value.int IntKind.i64 0), (Value.string ByteArray.empty), (Value.string ByteArray.empty), (Value.int IntKind.i64 0)] [(0, 1, (Value.int IntKind.i64 3)), (1, 1, x37), (4, 1, x40)]) fun x41 =>
          M.bind (F.disk_Disk_do a0 x41) fun x42 =>
          M.ret x42) else
        M.fail) (fun r34 => M.ret r34)))
def F.disk_Disk_Remove.plan : Plan := (seq leaf (seq leaf (seq (seq leaf (cond (seq leaf leaf) leaf)) (seq (seq leaf (cond (seq leaf leaf) leaf)) (seq (seq leaf (body (loop [] [4, 7, 32, 33, 34, 35, 36, 37, 38, 39, 40] [0] (seq leaf (seq (cond leaf leaf) (body (seq leaf (seq leaf (cond (seq leaf leaf) leaf))))))))) (seq leaf leaf))))))
theorem F.disk_Disk_Remove.lift : LiftOk Tryd.prog 15 (ap2 F.disk_Disk_Remove) :=
  lift2 (g := evFn Tryd.prog (tcons 33 (ap3 F.disk_Disk_find) (tcons 34 (ap2 F.disk_Disk_do) tnil)) tnil 15 Tryd.f15 F.disk_Disk_Remove.plan) (evFn_sound (tcons_ok F.disk_Disk_find.lift (tcons_ok F.disk_Disk_do.lift tnil_ok)) tnil_ok Tryd.func15 (by kernel_rfl)) (fun x0 x1 => by kernel_rfl)

/-- (*granary/disk.Disk).Arm -/
noncomputable def F.disk_Disk_Arm (a0 a1 : Value) : M Value :=
  M.bind (F.disk_Disk_ready a0) fun x1 =>
  bindO (binV BinOp.neq x1 (Value.int IntKind.i64 0)) fun x2 =>
  condM x2 (
    M.ret x1) (
    bindO (binV BinOp.geq a1 (Value.int IntKind.i64 0)) fun x3 =>
    bindO (nilChk a0) fun x4 =>
    bindO (fieldA 3 x4) fun x5 =>
    M.bind (stM 1 x5 x3) fun _ =>
    bindO (nilChk a0) fun x7 =>
    bindO (fieldA 4 x7) fun x8 =>
    M.bind (stM 1 x8 a1) fun _ =>
    M.ret (Value.int IntKind.i64 0))
def F.disk_Disk_Arm.plan : Plan := (seq leaf (seq (seq leaf (seq leaf (cond (seq leaf leaf) leaf))) (seq leaf (seq leaf (seq leaf leaf)))))
theorem F.disk_Disk_Arm.lift : LiftOk Tryd.prog 16 (ap2 F.disk_Disk_Arm) :=
  lift2 (g := evFn Tryd.prog (tcons 36 (ap1 F.disk_Disk_ready) tnil) tnil 16 Tryd.f16 F.disk_Disk_Arm.plan) (evFn_sound (tcons_ok F.disk_Disk_ready.lift tnil_ok) tnil_ok Tryd.func16 (by kernel_rfl)) (fun x0 x1 => by kernel_rfl)

/-- (*strings.Builder).grow -/
noncomputable def F.strings_Builder_grow (a0 a1 : Value) : M Value :=
  drewM <|
  getM fun W1 =>
  bindO (nilChk a0) fun x2 =>
  bindO (fieldA 1 x2) fun x3 =>
  M.bind (rdM (ld1 x3)) fun x4 =>
  bindO (capV x4) fun x5 =>
  bindO (binV BinOp.mul (Value.int IntKind.i64 2) x5) fun x6 =>
  bindO (binV BinOp.add x6 a1) fun x7 =>
  M.bind (F.bytealg_MakeNoZero x7) fun x8 =>
  getM fun _ =>
  bindO (nilChk a0) fun x10 =>
  bindO (fieldA 1 x10) fun x11 =>
  M.bind (rdM (ld1 x11)) fun x12 =>
  bindO (lenL x12) fun x13 =>
  bindO (sliceV 1 x8 none (some x13)) fun x14 =>
  reqM (ld1 x11 W1 = some x12) <|
  bindO (nilChk a0) fun x15 =>
  bindO (fieldA 1 x15) fun x16 =>
  M.bind (rdM (ld1 x16)) fun x17 =>
  M.bind (cpyM 1 x14 x17) fun _ =>
  bindO (nilChk a0) fun x19 =>
  bindO (fieldA 1 x19) fun x20 =>
  M.bind (stM 1 x20 x14) fun _ =>
  M.ret (Value.tuple #[])
def F.strings_Builder_grow.plan : Plan := (seq leaf (seq leaf leaf))
theorem F.strings_Builder_grow.lift : LiftOk Tryd.prog 83 (ap2 F.strings_Builder_grow) :=
  lift2 (g := evFn Tryd.prog (tcons 91 (ap1 F.bytealg_MakeNoZero) tnil) tnil 83 Tryd.f83 F.strings_Builder_grow.plan) (evFn_sound (tcons_ok F.bytealg_MakeNoZero.lift tnil_ok) tnil_ok Tryd.func83 (by kernel_rfl)) (fun x0 x1 => by kernel_rfl)

/-- (*strings.Builder).Grow -/
noncomputable def F.strings_Builder_Grow (a0 a1 : Value) : M Value :=
  M.bind (F.strings_Builder_copyCheck a0) fun _ =>
  M.bind (
    bindO (binV BinOp.lss a1 (Value.int IntKind.i64 0)) fun x2 =>
    condM x2 (
      M.bind ((M.fail : M Value)) fun _ =>
      M.ret (Out.norm [])) (
      M.ret (Out.norm []))) fun o5 =>
  outK o5 (fun _ =>
    drewM <|
    bindO (nilChk a0) fun x8 =>
    bindO (fieldA 1 x8) fun x9 =>
    M.bind (rdM (ld1 x9)) fun x10 =>
    bindO (capV x10) fun x11 =>
    bindO (nilChk a0) fun x12 =>
    bindO (fieldA 1 x12) fun x13 =>
    M.bind (rdM (ld1 x13)) fun x14 =>
    bindO (lenL x14) fun x15 =>
    bindO (binV BinOp.sub x11 x15) fun x16 =>
    bindO (binV BinOp.lss x16 a1) fun x17 =>
    condM x17 (
      M.bind (F.strings_Builder_grow a0 a1) fun _ =>
      M.ret (Value.tuple #[])) (
      M.ret (Value.tuple #[]))) (fun _ _ =>
    M.fail) (fun r7 => M.ret r7)
def F.strings_Builder_Grow.plan : Plan := (seq leaf (fork [] [6, 7, 8] [] (seq leaf (cond leaf leaf)) (seq leaf (cond leaf leaf))))
theorem F.strings_Builder_Grow.lift : LiftOk Tryd.prog 72 (ap2 F.strings_Builder_Grow) :=
  lift2 (g := evFn Tryd.prog (tcons 82 (ap1 F.strings_Builder_copyCheck) (tcons 83 (ap2 F.strings_Builder_grow) tnil)) tnil 72 Tryd.f72 F.strings_Builder_Grow.plan) (evFn_sound (tcons_ok F.strings_Builder_copyCheck.lift (tcons_ok F.strings_Builder_grow.lift tnil_ok)) tnil_ok Tryd.func72 (by kernel_rfl)) (fun x0 x1 => by kernel_rfl)

/-- (*strings.Builder).WriteString -/
noncomputable def F.strings_Builder_WriteString (a0 a1 : Value) : M Value :=
  M.bind (F.strings_Builder_copyCheck a0) fun _ =>
  bindO (nilChk a0) fun x2 =>
  bindO (fieldA 1 x2) fun x3 =>
  M.bind (rdM (ld1 x3)) fun x4 =>
  M.bind (appM 5 1 1 #[(Value.int IntKind.u8 0)] x4 a1) fun x5 =>
  bindO (nilChk a0) fun x6 =>
  bindO (fieldA 1 x6) fun x7 =>
  M.bind (stM 1 x7 x5) fun _ =>
  bindO (lenS a1) fun x9 =>
  M.ret (Value.tuple #[x9, Value.nilIface])
def F.strings_Builder_WriteString.plan : Plan := (seq leaf (seq leaf (seq leaf (seq leaf leaf))))
theorem F.strings_Builder_WriteString.lift : LiftOk Tryd.prog 73 (ap2 F.strings_Builder_WriteString) :=
  lift2 (g := evFn Tryd.prog (tcons 82 (ap1 F.strings_Builder_copyCheck) tnil) tnil 73 Tryd.f73 F.strings_Builder_WriteString.plan) (evFn_sound (tcons_ok F.strings_Builder_copyCheck.lift tnil_ok) tnil_ok Tryd.func73 (by kernel_rfl)) (fun x0 x1 => by kernel_rfl)

/-- (*strings.Builder).String -/
noncomputable def F.strings_Builder_String (a0 : Value) : M Value :=
  drewM <|
  getM fun W1 =>
  bindO (nilChk a0) fun x2 =>
  bindO (fieldA 1 x2) fun x3 =>
  M.bind (rdM (ld1 x3)) fun x4 =>
  M.bind (optM (sdV x4)) fun x5 =>
  getM fun _ =>
  bindO (nilChk a0) fun x7 =>
  bindO (fieldA 1 x7) fun x8 =>
  M.bind (rdM (ld1 x8)) fun x9 =>
  bindO (lenL x9) fun x10 =>
  M.bind (usM Tryd.prog [127, 3] x5 x10) fun x11 =>
  getM fun _ =>
  reqM (ld1 x8 W1 = some x9) <|
  M.ret x11
def F.strings_Builder_String.plan : Plan := (seq leaf (seq leaf leaf))
theorem F.strings_Builder_String.lift : LiftOk Tryd.prog 74 (ap1 F.strings_Builder_String) :=
  lift1 (g := evFn Tryd.prog tnil tnil 74 Tryd.f74 F.strings_Builder_String.plan) (evFn_sound tnil_ok tnil_ok Tryd.func74 (by kernel_rfl)) (fun x0 => by kernel_rfl)

/-- strings.Join -/
noncomputable def F.strings_Join (a0 a1 : Value) : M Value :=
  bindO (lenL a0) fun x1 =>
  bindO (binV BinOp.eql x1 (Value.int IntKind.i64 0)) fun x2 =>
  condM x2 (
    M.ret (Value.string (ByteArray.mk #[]))) (
    bindO (binV BinOp.eql x1 (Value.int IntKind.i64 1)) fun x3 =>
    condM x3 (
      bindO (idxA 1 a0 (Value.int IntKind.i64 0)) fun x4 =>
      M.bind (rdM (ld1 x4)) fun x5 =>
      M.ret x5) (
      M.bind (
        bindO (lenS a1) fun x6 =>
        bindO (binV BinOp.gtr x6 (Value.int IntKind.i64 0)) fun x7 =>
        condM x7 (
          M.bind (
            bindO (lenS a1) fun x8 =>
            bindO (lenL a0) fun x9 =>
            bindO (binV BinOp.sub x9 (Value.int IntKind.i64 1)) fun x10 =>
            bindO (binV BinOp.quo (Value.int IntKind.i64 9223372036854775807) x10) fun x11 =>
            bindO (binV BinOp.geq x8 x11) fun x12 =>
            condM x12 (
              M.bind ((M.fail : M Value)) fun _ =>
              M.ret (Out.norm [])) (
              M.ret (Out.norm []))) fun o15 =>
          outK o15 (fun _ =>
            bindO (lenS a1) fun x18 =>
            bindO (lenL a0) fun x19 =>
            bindO (binV BinOp.sub x19 (Value.int IntKind.i64 1)) fun x20 =>
            bindO (binV BinOp.mul x18 x20) fun x21 =>
            bindO (binV BinOp.add (Value.int IntKind.i64 0) x21) fun x22 =>
            M.ret (Out.norm [x22])) (fun _ _ =>
            M.fail) (fun r17 => M.ret (Out.ret r17))) (
          M.ret (Out.norm [(Value.int IntKind.i64 0)]))) fun o25 =>
      outK o25 (fun l24 =>
        bindO (lenL a0) fun x28 =>
        M.bind (loopM (fun l29 =>
          bindO (binV BinOp.lss (getL l29 1) x28) fun x30 =>
          condM x30 (
            bindO (idxA 1 a0 (getL l29 1)) fun x31 =>
            M.bind (rdM (ld1 x31)) fun x32 =>
            M.bind (
              bindO (lenS x32) fun x33 =>
              bindO (binV BinOp.sub (Value.int IntKind.i64 9223372036854775807) (getL l29 0)) fun x34 =>
              bindO (binV BinOp.gtr x33 x34) fun x35 =>
              condM x35 (
                M.bind ((M.fail : M Value)) fun _ =>
                M.ret (Out.norm [])) (
                M.ret (Out.norm []))) fun o38 =>
            outK o38 (fun _ =>
              bindO (lenS x32) fun x41 =>
              bindO (binV BinOp.add (getL l29 0) x41) fun x42 =>
              bindO (binV BinOp.add (getL l29 1) (Value.int IntKind.i64 1)) fun x43 =>
              M.ret (Out.norm [x42, x43])) (fun _ _ =>
              M.fail) (fun r40 => M.ret (Out.ret r40))) (
            M.ret (Out.exit 1 [(getL l29 0), (getL l29 1)]))) [(getL l24 0), (Value.int IntKind.i64 0)]) fun o46 =>
        outK o46 (fun _ => M.fail) (fun k47 l45 =>
          bif Nat.beq k47 1 then (
            M.bind (newM 113 #[(Value.pointer none), (Value.slice none 0 0)]) fun x49 =>
            M.bind (F.strings_Builder_Grow x49 (getL l45 0)) fun _ =>
            bindO (idxA 1 a0 (Value.int IntKind.i64 0)) fun x51 =>
            M.bind (rdM (ld1 x51)) fun x52 =>
            M.bind (F.strings_Builder_WriteString x49 x52) fun _ =>
            bindO (sliceV 1 a0 (some (Value.int IntKind.i64 1)) none) fun x54 =>
            bindO (lenL x54) fun x55 =>
            M.bind (loopM (fun l56 =>
              bindO (binV BinOp.lss (getL l56 0) x55) fun x57 =>
              condM x57 (
                bindO (idxA 1 x54 (getL l56 0)) fun x58 =>
                M.bind (rdM (ld1 x58)) fun x59 =>
                M.bind (F.strings_Builder_WriteString x49 a1) fun _ =>
                M.bind (F.strings_Builder_WriteString x49 x59) fun _ =>
                bindO (binV BinOp.add (getL l56 0) (Value.int IntKind.i64 1)) fun x62 =>
                M.ret (Out.norm [x62])) (
                M.ret (Out.exit 3 [(getL l56 0)]))) [(Value.int IntKind.i64 0)]) fun o64 =>
            outK o64 (fun _ => M.fail) (fun k65 _ =>
              bif Nat.beq k65 3 then (
                M.bind (F.strings_Builder_String x49) fun x67 =>
                M.ret x67) else
              M.fail) (fun r66 => M.ret r66)) else
          M.fail) (fun r48 => M.ret r48)) (fun _ _ =>
        M.fail) (fun r27 => M.ret r27)))
def F.strings_Join.plan : Plan := (seq leaf (seq (seq leaf (body (seq leaf (cond (seq leaf leaf) (seq leaf (cond (seq leaf leaf) leaf)))))) (seq leaf (fork [5] [5, 20, 21, 22, 23, 24, 25, 26, 27, 28, 29, 30, 31, 32, 33, 34, 35, 36, 37, 38] [] (seq leaf (cond (fork [] [23, 24, 25, 26, 27, 28, 29, 30] [] (seq leaf (cond leaf leaf)) leaf) leaf)) (seq (seq leaf (body (loop [5, 41] [5, 7, 41, 42, 43, 44, 45, 46, 47, 48, 49, 50, 51, 52, 53, 54, 55] [1] (seq leaf (seq (cond leaf leaf) (seq (body (seq leaf (fork [] [45, 46, 47, 48, 49, 50] [] (seq leaf (cond leaf leaf)) leaf))) leaf)))))) (seq leaf (seq leaf (seq leaf (seq (seq leaf (body (loop [65] [10, 65, 66, 67, 68, 69, 70, 71, 72, 73] [3] (seq leaf (seq (cond leaf leaf) (seq (body (seq leaf (seq leaf leaf))) leaf)))))) (seq leaf leaf))))))))))
theorem F.strings_Join.lift : LiftOk Tryd.prog 56 (ap2 F.strings_Join) :=
  lift2 (g := evFn Tryd.prog (tcons 72 (ap2 F.strings_Builder_Grow) (tcons 73 (ap2 F.strings_Builder_WriteString) (tcons 74 (ap1 F.strings_Builder_String) tnil))) tnil 56 Tryd.f56 F.strings_Join.plan) (evFn_sound (tcons_ok F.strings_Builder_Grow.lift (tcons_ok F.strings_Builder_WriteString.lift (tcons_ok F.strings_Builder_String.lift tnil_ok))) tnil_ok Tryd.func56 (by kernel_rfl)) (fun x0 x1 => by kernel_rfl)

/-- granary/disk.Path -/
noncomputable def F.disk_Path (a0 : Value) : M Value :=
  M.bind (F.strings_Join a0 (Value.string (ByteArray.mk #[47]))) fun x1 =>
  M.ret x1
def F.disk_Path.plan : Plan := (seq leaf (seq leaf leaf))
theorem F.disk_Path.lift : LiftOk Tryd.prog 49 (ap1 F.disk_Path) :=
  lift1 (g := evFn Tryd.prog (tcons 56 (ap2 F.strings_Join) tnil) tnil 49 Tryd.f49 F.disk_Path.plan) (evFn_sound (tcons_ok F.strings_Join.lift tnil_ok) tnil_ok Tryd.func49 (by kernel_rfl)) (fun x0 => by kernel_rfl)

/-- (*granary/disk.Disk).Rename -/
noncomputable def F.disk_Disk_Rename (a0 a1 a2 : Value) : M Value :=
  M.bind (F.disk_Disk_ready a0) fun x1 =>
  bindO (binV BinOp.neq x1 (Value.int IntKind.i64 0)) fun x2 =>
  condM x2 (
    M.ret x1) (
    M.bind (F.disk_parse a1) fun x3 =>
    bindO (extV 0 x3) fun x4 =>
    bindO (extV 1 x3) fun x5 =>
    M.bind (F.disk_parse a2) fun x6 =>
    bindO (extV 0 x6) fun x7 =>
    bindO (extV 1 x6) fun x8 =>
    bindO (notV x5) fun x9 =>
    M.bind (guardM x9 false (M.ret x8)) fun x10 =>
    M.bind (guardM x9 false (optM (notV x10))) fun x11 =>
    bindO (pickV x9 (Value.bool true) x11) fun x12 =>
    M.bind (guardM x12 false (M.ret a1)) fun x13 =>
    M.bind (guardM x12 false (optM (binV BinOp.eql x13 (Value.string (ByteArray.mk #[]))))) fun x14 =>
    bindO (pickV x12 (Value.bool true) x14) fun x15 =>
    M.bind (guardM x15 false (M.ret a2)) fun x16 =>
    M.bind (guardM x15 false (optM (binV BinOp.eql x16 (Value.string (ByteArray.mk #[]))))) fun x17 =>
    bindO (pickV x15 (Value.bool true) x17) fun x18 =>
    condM x18 (
      M.ret (Value.int IntKind.i64 11)) (
      drewM <|
      bindO (lenL x4) fun x19 =>
      bindO (binV BinOp.sub x19 (Value.int IntKind.i64 1)) fun x20 =>
      bindO (sliceV 1 x4 none (some x20)) fun x21 =>
      M.bind (F.disk_Path x21) fun x22 =>
      bindO (lenL x7) fun x23 =>
      bindO (binV BinOp.sub x23 (Value.int IntKind.i64 1)) fun x24 =>
      bindO (sliceV 1 x7 none (some x24)) fun x25 =>
      M.bind (F.disk_Path x25) fun x26 =>
      bindO (binV BinOp.neq x22 x26) fun x27 =>
      M.bind (guardM x27 false (M.ret x4)) fun x28 =>
      M.bind (guardM x27 false (optM (lenL x28))) fun x29 =>
      M.bind (guardM x27 false (M.ret x7)) fun x30 =>
      M.bind (guardM x27 false (optM (lenL x30))) fun x31 =>
      M.bind (guardM x27 false (optM (binV BinOp.neq x29 x31))) fun x32 =>
      bindO (pickV x27 (Value.bool true) x32) fun x33 =>
      condM x33 (
        M.ret (Value.int IntKind.i64 18)) (
        M.bind (F.disk_Disk_walk a0 x4) fun x34 =>
        bindO (extV 0 x34) fun x35 =>
        bindO (extV 1 x34) fun x36 =>
        M.bind (newM 70 #[(Value.int IntKind.i64 0), (Value.string ByteArray.empty), (Value.int IntKind.i64 0)]) fun x37 =>
        M.bind (stM 3 x37 x35) fun _ =>
        bindO (binV BinOp.neq x36 (Value.int IntKind.i64 0)) fun x39 =>
        condM x39 (
          M.ret x36) (
          bindO (fieldA 2 x37) fun x40 =>
          M.bind (rdM (ld1 x40)) fun x41 =>
          bindO (binV BinOp.lss x41 (Value.int IntKind.i64 0)) fun x42 =>
          condM x42 (
            M.ret (Value.int IntKind.i64 12)) (
            M.bind (F.disk_Disk_walk a0 x7) fun x43 =>
            bindO (extV 0 x43) fun x44 =>
            bindO (extV 1 x43) fun _ =>
            M.bind (newM 70 #[(Value.int IntKind.i64 0), (Value.string ByteArray.empty), (Value.int IntKind.i64 0)]) fun x46 =>
            M.bind (stM 3 x46 x44) fun _ =>
            drewM <|
            bindO (fieldA 2 x46) fun x48 =>
            M.bind (rdM (ld1 x48)) fun x49 =>
            bindO (binV BinOp.geq x49 (Value.int IntKind.i64 0)) fun x50 =>
            M.bind (guardM x50 true (optM (fieldA 0 x46))) fun x51 =>
            M.bind (guardM x50 true (rdM (ldA 2 x51))) fun x52 =>
            M.bind (guardM x50 true (optM (fieldA 0 x37))) fun x53 =>
            M.bind (guardM x50 true (rdM (ldA 2 x53))) fun x54 =>
            M.bind (guardM x50 true (optM (eqV (EqSh.offs [(EqK.int, 0), (EqK.str, 1)]) x52 x54))) fun x55 =>
            M.bind (guardM x50 true (M.ret x55)) fun x56 =>
            M.bind (guardM x56 false (M.ret a0)) fun x57 =>
            M.bind (guardM x56 false (optM (nilChk x57))) fun x58 =>
            M.bind (guardM x56 false (optM (fieldA 6 x58))) fun x59 =>
            M.bind (guardM x56 false (rdM (ld1 x59))) fun x60 =>
            M.bind (guardM x56 false (optM (fieldA 2 x37))) fun x61 =>
            M.bind (guardM x56 false (rdM (ld1 x61))) fun x62 =>
            M.bind (guardM x56 false (optM (idxA 3 x60 x62))) fun x63 =>
            M.bind (guardM x56 false (optM (fieldA 0 x63))) fun x64 =>
            M.bind (guardM x56 false (rdM (ld1 x64))) fun x65 =>
            M.bind (guardM x56 false (optM (binV BinOp.neq x65 (Value.int IntKind.i64 2)))) fun x66 =>
            M.bind (guardM x50 true (optM (pickV x56 (Value.bool true) x66))) fun x67 =>
            M.bind (guardM x50 true (M.ret x67)) fun x68 =>
            M.bind (guardM x68 false (M.ret a0)) fun x69 =>
            M.bind (guardM x68 false (optM (nilChk x69))) fun x70 =>
            M.bind (guardM x68 false (optM (fieldA 6 x70))) fun x71 =>
            M.bind (guardM x68 false (rdM (ld1 x71))) fun x72 =>
            M.bind (guardM x68 false (optM (fieldA 2 x46))) fun x73 =>
            M.bind (guardM x68 false (rdM (ld1 x73))) fun x74 =>
            M.bind (guardM x68 false (optM (idxA 3 x72 x74))) fun x75 =>
            M.bind (guardM x68 false (optM (fieldA 0 x75))) fun x76 =>
            M.bind (guardM x68 false (rdM (ld1 x76))) fun x77 =>
            M.bind (guardM x68 false (optM (binV BinOp.neq x77 (Value.int IntKind.i64 2)))) fun x78 =>
            M.bind (guardM x50 true (optM (pickV x68 (Value.bool true) x78))) fun x79 =>
            bindO (pickV x50 x79 (Value.bool false)) fun x80 =>
            condM x80 (
              M.ret (Value.int IntKind.i64 13)) (
              bindO (fieldA 0 x37) fun x81 =>
              bindO (fieldA 0 x81) fun x82 =>
              M.bind (rdM (ld1 x82)) fun x83 =>
              bindO (fieldA 0 x37) fun x84 =>
              bindO (fieldA 1 x84) fun x85 =>
              M.bind (rdM (ld1 x85)) fun x86 =>
              bindO (fieldA 0 x46) fun x87 =>
              bindO (fieldA 1 x87) fun x88 =>
              M.bind (rdM (ld1 x88)) fun x89 =>
              bindO (buildV #[(Value.int IntKind.i64 0), (Value.int IntKind.i64 0), (Value.string ByteArray.empty), (Value.int IntKind.i64 0), (Value.string ByteArray.empty), (Value.string ByteArray.empty), (Value.int IntKind.i64 0)] [(0, 1, (Value.int IntKind.i64 4)), (1, 1, x83), (4, 1, x86), (5, 1, x89)]) fun x90 =>
              M.bind (F.disk_Disk_do a0 x90) fun x91 =>
              M.ret x91))))))
def F.disk_Disk_Rename.plan : Plan := (seq leaf (seq (seq leaf (seq leaf (cond (seq leaf leaf) leaf))) (seq leaf (seq leaf (seq (seq leaf (cond (seq leaf leaf) leaf)) (seq (seq leaf (cond (seq leaf leaf) leaf)) (seq leaf (seq (seq leaf (cond (seq leaf leaf) leaf)) (seq (seq leaf (cond (seq leaf leaf) leaf)) (seq leaf (seq (seq leaf (cond (seq leaf leaf) leaf)) (seq leaf leaf))))))))))))
theorem F.disk_Disk_Rename.lift : LiftOk Tryd.prog 37 (ap3 F.disk_Disk_Rename) :=
  lift3 (g := evFn Tryd.prog (tcons 34 (ap2 F.disk_Disk_do) (tcons 36 (ap1 F.disk_Disk_ready) (tcons 46 (ap1 F.disk_parse) (tcons 47 (ap2 F.disk_Disk_walk) (tcons 49 (ap1 F.disk_Path) tnil))))) tnil 37 Tryd.f37 F.disk_Disk_Rename.plan) (evFn_sound (tcons_ok F.disk_Disk_do.lift (tcons_ok F.disk_Disk_ready.lift (tcons_ok F.disk_parse.lift (tcons_ok F.disk_Disk_walk.lift (tcons_ok F.disk_Path.lift tnil_ok))))) tnil_ok Tryd.func37 (by kernel_rfl)) (fun x0 x1 x2 => by kernel_rfl)

/-- granary/granarylaw1.replace -/
noncomputable def F.granarylaw1_replace (a0 a1 a2 : Value) : M Value :=
  M.bind (loopM (fun l1 =>
    bindO (binV BinOp.lss (getL l1 2) (Value.int IntKind.i64 5)) fun x2 =>
    condM x2 (
      M.bind (
        M.bind (
          bindO (binV BinOp.eql (getL l1 2) (Value.int IntKind.i64 0)) fun x3 =>
          condM x3 (
            M.bind (F.disk_Disk_Create a0 (Value.string (ByteArray.mk #[108, 97, 116, 101, 115, 116, 46, 110, 101, 119]))) fun x4 =>
            M.ret (Out.norm [x4])) (
            bindO (binV BinOp.eql (getL l1 2) (Value.int IntKind.i64 1)) fun x5 =>
            condM x5 (
              M.bind (F.disk_Disk_Append a0 (Value.string (ByteArray.mk #[108, 97, 116, 101, 115, 116, 46, 110, 101, 119])) a1) fun x6 =>
              M.ret (Out.norm [x6])) (
              bindO (binV BinOp.eql (getL l1 2) (Value.int IntKind.i64 2)) fun x7 =>
              condM x7 (
                M.bind (F.disk_Disk_Sync a0 (Value.string (ByteArray.mk #[108, 97, 116, 101, 115, 116, 46, 110, 101, 119]))) fun x8 =>
                M.ret (Out.norm [x8])) (
                bindO (binV BinOp.eql (getL l1 2) (Value.int IntKind.i64 3)) fun x9 =>
                condM x9 (
                  M.bind (F.disk_Disk_Rename a0 (Value.string (ByteArray.mk #[108, 97, 116, 101, 115, 116, 46, 110, 101, 119])) (Value.string (ByteArray.mk #[108, 97, 116, 101, 115, 116]))) fun x10 =>
                  M.ret (Out.norm [x10])) (
                  bindO (binV BinOp.eql (getL l1 2) (Value.int IntKind.i64 4)) fun x11 =>
                  condM x11 (
                    M.bind (F.disk_Disk_SyncDir a0 (Value.string (ByteArray.mk #[]))) fun x12 =>
                    M.ret (Out.norm [x12])) (
                    M.ret (Out.norm [(Value.int IntKind.i64 0)]))))))) fun o14 =>
        outK o14 (fun l13 =>
          M.bind (
            bindO (binV BinOp.lss a2 (Value.int IntKind.i64 0)) fun x17 =>
            M.bind (guardM x17 false (M.ret (getL l1 2))) fun x18 =>
            M.bind (guardM x17 false (M.ret a2)) fun x19 =>
            M.bind (guardM x17 false (optM (binV BinOp.lss x18 x19))) fun x20 =>
            bindO (pickV x17 (Value.bool true) x20) fun x21 =>
            condM x21 (
              M.bind (guardM (getL l1 1) true (M.ret (getL l13 0))) fun x22 =>
              M.bind (guardM (getL l1 1) true (F.granarylaw1_num x22)) fun x23 =>
              M.bind (guardM (getL l1 1) true (optM (binV BinOp.eql x23 (Value.int IntKind.i64 0)))) fun x24 =>
              bindO (pickV (getL l1 1) x24 (Value.bool false)) fun x25 =>
              M.ret (Out.norm [x25])) (
              M.bind (guardM (getL l1 1) true (M.ret (getL l13 0))) fun x26 =>
              M.bind (guardM (getL l1 1) true (F.granarylaw1_num x26)) fun x27 =>
              M.bind (guardM (getL l1 1) true (optM (binV BinOp.eql x27 (Value.int IntKind.i64 10)))) fun x28 =>
              bindO (pickV (getL l1 1) x28 (Value.bool false)) fun x29 =>
              M.ret (Out.norm [x29]))) fun o31 =>
          outK o31 (fun l30 =>
            M.bind (F.granarylaw1_num (getL l13 0)) fun x34 =>
            bindO (binV BinOp.eql x34 (Value.int IntKind.i64 0)) fun x35 =>
            condM x35 (
              bindO (binV BinOp.add (getL l1 0) (Value.int IntKind.i64 1)) fun x36 =>
              M.ret (Out.norm [x36, (getL l30 0)])) (
              M.ret (Out.norm [(getL l1 0), (getL l30 0)]))) (fun _ _ =>
            M.fail) (fun r33 => M.ret (Out.ret r33))) (fun _ _ =>
          M.fail) (fun r16 => M.ret (Out.ret r16))) fun o40 =>
      outK o40 (fun l39 =>
        bindO (binV BinOp.add (getL l1 2) (Value.int IntKind.i64 1)) fun x43 =>
        M.ret (Out.norm [(getL l39 0), (getL l39 1), x43])) (fun _ _ =>
        M.fail) (fun r42 => M.ret (Out.ret r42))) (
      M.ret (Out.exit 0 [(getL l1 0), (getL l1 1), (getL l1 2)]))) [(Value.int IntKind.i64 0), (Value.bool true), (Value.int IntKind.i64 0)]) fun o46 =>
  outK o46 (fun _ => M.fail) (fun k47 l45 =>
    bif Nat.beq k47 0 then (
      M.ret (Value.tuple #[(getL l45 0), (getL l45 1)])) else
    M.fail) (fun r48 => M.ret r48)
def F.granarylaw1_replace.plan : Plan := (seq leaf (seq leaf (seq leaf (seq (seq leaf (body (loop [8, 9, 10] [8, 9, 10, 11, 12, 13, 14, 15, 16, 17, 18, 19, 20, 21, 22, 23, 24, 25, 26, 27, 28, 29, 30, 31, 32, 33, 34, 35, 36, 37, 38, 39, 40, 41, 42, 43, 44, 45, 46, 47, 48, 49, 50, 51, 52, 53, 54, 55, 56, 57, 58, 59, 60, 61] [0] (seq (seq leaf (cond leaf leaf)) (fork [8, 9] [8, 9, 11, 16, 17, 18, 19, 20, 21, 22, 23, 24, 25, 26, 27, 28, 29, 30, 31, 32, 33, 34, 35, 36, 37, 38, 39, 40, 41, 42, 43, 44, 45, 46, 47, 48, 49, 50, 51, 52, 53, 54, 55, 56, 57, 58, 59, 60, 61] [] (body (seq leaf (fork [11] [11, 16, 17, 18, 19, 20, 21, 22, 23, 24, 25, 26, 27, 28, 29, 30, 31, 32, 33, 34, 35, 36, 37] [] (seq leaf (body (seq leaf (cond leaf (seq leaf (cond leaf (seq leaf (cond leaf (seq leaf (cond leaf (seq leaf (cond leaf leaf)))))))))))) (fork [9] [9, 38, 39, 40, 41, 42, 43, 44, 45, 46, 47, 48, 49, 50, 51, 52, 53, 54, 55, 56] [] (seq leaf (cond leaf leaf)) (seq leaf (cond leaf leaf)))))) leaf))))) (seq leaf leaf)))))
theorem F.granarylaw1_replace.lift : LiftOk Tryd.prog 17 (ap3 F.granarylaw1_replace) :=
  lift3 (g := evFn Tryd.prog (tcons 9 (ap1 F.granarylaw1_num) (tcons 10 (ap2 F.disk_Disk_Create) (tcons 11 (ap3 F.disk_Disk_Append) (tcons 12 (ap2 F.disk_Disk_Sync) (tcons 13 (ap2 F.disk_Disk_SyncDir) (tcons 37 (ap3 F.disk_Disk_Rename) tnil)))))) tnil 17 Tryd.f17 F.granarylaw1_replace.plan) (evFn_sound (tcons_ok F.granarylaw1_num.lift (tcons_ok F.disk_Disk_Create.lift (tcons_ok F.disk_Disk_Append.lift (tcons_ok F.disk_Disk_Sync.lift (tcons_ok F.disk_Disk_SyncDir.lift (tcons_ok F.disk_Disk_Rename.lift tnil_ok)))))) tnil_ok Tryd.func17 (by kernel_rfl)) (fun x0 x1 x2 => by kernel_rfl)

/-- slices.Clone[[]granary/disk.change,granary/disk.change] -/
noncomputable def F.disk_change (a0 : Value) : M Value :=
  bindO (eqV (EqSh.one EqK.sl) a0 (Value.slice none 0 0)) fun x1 =>
  condM x1 (
    M.ret (Value.slice none 0 0)) (
    M.bind (bslM 75 0 (Builtin.zeroCells #[(Value.int IntKind.i64 0), (Value.int IntKind.i64 0), (Value.string ByteArray.empty), (Value.int IntKind.i64 0), (Value.string ByteArray.empty), (Value.string ByteArray.empty), (Value.int IntKind.i64 0)] 0) []) fun x2 =>
    M.bind (appM 75 7 80 #[(Value.int IntKind.i64 0), (Value.int IntKind.i64 0), (Value.string ByteArray.empty), (Value.int IntKind.i64 0), (Value.string ByteArray.empty), (Value.string ByteArray.empty), (Value.int IntKind.i64 0)] x2 a0) fun x3 =>
    M.ret x3)
def F.disk_change.plan : Plan := (seq leaf (seq (seq leaf (cond (seq leaf leaf) leaf)) (seq leaf leaf)))
theorem F.disk_change.lift : LiftOk Tryd.prog 38 (ap1 F.disk_change) :=
  lift1 (g := evFn Tryd.prog tnil tnil 38 Tryd.f38 F.disk_change.plan) (evFn_sound tnil_ok tnil_ok Tryd.func38 (by kernel_rfl)) (fun x0 => by kernel_rfl)

/-- (*granary/disk.Disk).restart -/
noncomputable def F.disk_Disk_restart (a0 : Value) : M Value :=
  bindO (nilChk a0) fun x1 =>
  bindO (fieldA 8 x1) fun x2 =>
  M.bind (rdM (ld1 x2)) fun x3 =>
  bindO (nilChk a0) fun x4 =>
  bindO (fieldA 9 x4) fun x5 =>
  M.bind (stM 1 x5 (Value.slice none 0 0)) fun _ =>
  bindO (nilChk a0) fun x7 =>
  bindO (fieldA 3 x7) fun x8 =>
  M.bind (stM 1 x8 (Value.bool false)) fun _ =>
  bindO (nilChk a0) fun x10 =>
  bindO (fieldA 5 x10) fun x11 =>
  M.bind (stM 1 x11 (Value.bool false)) fun _ =>
  M.bind (mkmM) fun x13 =>
  M.bind (mkmM) fun x14 =>
  bindO (nilChk a0) fun x15 =>
  bindO (fieldA 7 x15) fun x16 =>
  M.bind (stM 1 x16 x13) fun _ =>
  bindO (nilChk a0) fun x18 =>
  bindO (fieldA 8 x18) fun x19 =>
  M.bind (stM 1 x19 x14) fun _ =>
  M.bind (bslM 3 1 (Builtin.zeroCells #[(Value.int IntKind.i64 0)] 1) [(0, 1, (Value.int IntKind.i64 0))]) fun x21 =>
  M.bind (loopM (fun l22 =>
    bindO (lenL (getL l22 0)) fun x23 =>
    bindO (binV BinOp.gtr x23 (Value.int IntKind.i64 0)) fun x24 =>
    condM x24 (
      bindO (idxA 1 (getL l22 0) (Value.int IntKind.i64 0)) fun x25 =>
      M.bind (rdM (ld1 x25)) fun x26 =>
      bindO (sliceV 1 (getL l22 0) (some (Value.int IntKind.i64 1)) none) fun x27 =>
      M.bind (rngM x3) fun x28 =>
      M.bind (loopM (fun l29 =>
        M.bind (nxtM x28) fun x30 =>
        bindO (extV 0 x30) fun x31 =>
        condM x31 (
          M.bind (rdM (entV x28)) fun x32 =>
          bindO (extV 0 x32) fun x33 =>
          bindO (extV 1 x32) fun x34 =>
          M.bind (newM 68 #[(Value.int IntKind.i64 0), (Value.string ByteArray.empty)]) fun x35 =>
          M.bind (stM 2 x35 x33) fun _ =>
          bindO (fieldA 0 x35) fun x37 =>
          M.bind (rdM (ld1 x37)) fun x38 =>
          bindO (binV BinOp.neq x38 x26) fun x39 =>
          condM x39 (
            M.ret (Out.norm [(getL l29 0)])) (
            drewM <|
            getM fun _ =>
            bindO (nilChk a0) fun x41 =>
            bindO (fieldA 7 x41) fun x42 =>
            M.bind (rdM (ld1 x42)) fun x43 =>
            M.bind (rdM (ldA 2 x35)) fun x44 =>
            bindO (nilChk a0) fun x45 =>
            bindO (fieldA 8 x45) fun x46 =>
            M.bind (rdM (ld1 x46)) fun x47 =>
            M.bind (rdM (ldA 2 x35)) fun x48 =>
            M.bind (mentM Tryd.prog 68 (EqSh.offs [(EqK.int, 0), (EqK.str, 1)]) (Value.int IntKind.i64 0) x43 x44) fun x49 =>
            getM fun W50 =>
            bindO (extV 1 x49) fun x51 =>
            M.bind (estM x43 x51 x34) fun _ =>
            getM fun W53 =>
            M.bind (mentM Tryd.prog 68 (EqSh.offs [(EqK.int, 0), (EqK.str, 1)]) (Value.int IntKind.i64 0) x47 x48) fun x54 =>
            getM fun _ =>
            bindO (extV 1 x54) fun x56 =>
            M.bind (estM x47 x56 x34) fun _ =>
            getM fun _ =>
            reqM (ldA 2 x35 W50 = some x48) <|
            reqM (ldA 2 x35 W53 = some x48) <|
            drewM <|
            bindO (nilChk a0) fun x59 =>
            bindO (fieldA 6 x59) fun x60 =>
            M.bind (rdM (ld1 x60)) fun x61 =>
            bindO (nilChk a0) fun x62 =>
            bindO (fieldA 6 x62) fun x63 =>
            M.bind (rdM (ld1 x63)) fun x64 =>
            bindO (idxA 3 x64 x34) fun x65 =>
            bindO (fieldA 2 x65) fun x66 =>
            M.bind (rdM (ld1 x66)) fun x67 =>
            bindO (idxA 3 x61 x34) fun x68 =>
            bindO (fieldA 1 x68) fun x69 =>
            M.bind (stM 1 x69 x67) fun _ =>
            bindO (nilChk a0) fun x71 =>
            bindO (fieldA 6 x71) fun x72 =>
            M.bind (rdM (ld1 x72)) fun x73 =>
            bindO (idxA 3 x73 x34) fun x74 =>
            bindO (fieldA 0 x74) fun x75 =>
            M.bind (rdM (ld1 x75)) fun x76 =>
            bindO (binV BinOp.eql x76 (Value.int IntKind.i64 1)) fun x77 =>
            condM x77 (
              M.bind (bslM 3 1 (Builtin.zeroCells #[(Value.int IntKind.i64 0)] 1) [(0, 1, x34)]) fun x78 =>
              M.bind (appM 3 1 8 #[(Value.int IntKind.i64 0)] (getL l29 0) x78) fun x79 =>
              M.ret (Out.norm [x79])) (
              M.ret (Out.norm [(getL l29 0)])))) (
          M.ret (Out.exit 2 [(getL l29 0)]))) [x27]) fun o81 =>
      outK o81 (fun _ => M.fail) (fun k82 l80 =>
        bif Nat.beq k82 2 then (
          M.ret (Out.norm [(getL l80 0)])) else
        M.fail) (fun r83 => M.ret (Out.ret r83))) (
      M.ret (Out.exit 0 [(getL l22 0)]))) [x21]) fun o85 =>
  outK o85 (fun _ => M.fail) (fun k86 _ =>
    bif Nat.beq k86 0 then (
      M.ret (Value.tuple #[])) else
    M.fail) (fun r87 => M.ret r87)
def F.disk_Disk_restart.plan : Plan := (seq leaf (seq leaf (seq leaf (seq leaf (body (loop [3] [3, 4, 5, 6, 29, 30, 31, 32, 33, 34, 35, 36, 37, 38, 39, 40, 41, 42, 43, 44, 45, 46, 47, 48, 49, 50, 51, 52, 53, 54, 55, 56, 57, 58, 59, 60, 61, 62, 63, 64, 65, 66, 67, 68, 69, 70, 71, 72, 73, 74, 75, 76, 77, 78, 79, 80, 81, 82, 83, 84, 85, 86, 87, 88, 89, 90, 91] [0] (seq (seq leaf (cond leaf leaf)) (body (seq leaf (seq leaf (seq leaf (body (loop [3] [3, 5, 6, 39, 40, 41, 42, 43, 44, 45, 46, 47, 48, 49, 50, 51, 52, 53, 54, 55, 56, 57, 58, 59, 60, 61, 62, 63, 64, 65, 66, 67, 68, 69, 70, 71, 72, 73, 74, 75, 76, 77, 78, 79, 80, 81, 82, 83, 84, 85, 86, 87, 88, 89, 90, 91] [2] (seq leaf (seq (cond leaf leaf) (body (seq leaf (seq (seq leaf (cond leaf leaf)) (seq leaf (seq leaf (seq leaf (cond leaf leaf))))))))))))))))))))))
theorem F.disk_Disk_restart.lift : LiftOk Tryd.prog 40 (ap1 F.disk_Disk_restart) :=
  lift1 (g := evFn Tryd.prog tnil tnil 40 Tryd.f40 F.disk_Disk_restart.plan) (evFn_sound tnil_ok tnil_ok Tryd.func40 (by kernel_rfl)) (fun x0 => by kernel_rfl)

/-- (*granary/disk.Disk).Crash -/
noncomputable def F.disk_Disk_Crash (a0 a1 a2 : Value) : M Value :=
  bindO (eqV (EqSh.one EqK.ptr) a0 (Value.pointer none)) fun x1 =>
  condM x1 (
    M.ret (Value.int IntKind.i64 0)) (
    bindO (nilChk a0) fun x2 =>
    bindO (fieldA 9 x2) fun x3 =>
    M.bind (rdM (ld1 x3)) fun x4 =>
    bindO (lenL x4) fun x5 =>
    M.bind (optM (minV a1 x5)) fun x6 =>
    M.bind (optM (maxV (Value.int IntKind.i64 0) x6)) fun x7 =>
    drewM <|
    bindO (nilChk a0) fun x8 =>
    bindO (fieldA 9 x8) fun x9 =>
    M.bind (rdM (ld1 x9)) fun x10 =>
    bindO (sliceV 7 x10 none (some x7)) fun x11 =>
    bindO (nilChk a0) fun x12 =>
    bindO (fieldA 9 x12) fun x13 =>
    M.bind (rdM (ld1 x13)) fun x14 =>
    bindO (lenL x14) fun x15 =>
    bindO (binV BinOp.sub x15 x7) fun x16 =>
    M.bind (
      bindO (binV BinOp.gtr x16 (Value.int IntKind.i64 0)) fun x17 =>
      M.bind (guardM x17 true (M.ret a0)) fun x18 =>
      M.bind (guardM x17 true (optM (nilChk x18))) fun x19 =>
      M.bind (guardM x17 true (optM (fieldA 9 x19))) fun x20 =>
      M.bind (guardM x17 true (rdM (ld1 x20))) fun x21 =>
      M.bind (guardM x17 true (M.ret x7)) fun x22 =>
      M.bind (guardM x17 true (optM (idxA 7 x21 x22))) fun x23 =>
      M.bind (guardM x17 true (optM (fieldA 0 x23))) fun x24 =>
      M.bind (guardM x17 true (rdM (ld1 x24))) fun x25 =>
      M.bind (guardM x17 true (optM (binV BinOp.eql x25 (Value.int IntKind.i64 0)))) fun x26 =>
      bindO (pickV x17 x26 (Value.bool false)) fun x27 =>
      condM x27 (
        bindO (nilChk a0) fun x28 =>
        bindO (fieldA 9 x28) fun x29 =>
        M.bind (rdM (ld1 x29)) fun x30 =>
        bindO (idxA 7 x30 x7) fun x31 =>
        M.bind (rdM (ldA 7 x31)) fun x32 =>
        M.bind (newM 75 #[(Value.int IntKind.i64 0), (Value.int IntKind.i64 0), (Value.string ByteArray.empty), (Value.int IntKind.i64 0), (Value.string ByteArray.empty), (Value.string ByteArray.empty), (Value.int IntKind.i64 0)]) fun x33 =>
        M.bind (stM 7 x33 x32) fun _ =>
        bindO (fieldA 2 x33) fun x35 =>
        M.bind (rdM (ld1 x35)) fun x36 =>
        bindO (fieldA 2 x33) fun x37 =>
        M.bind (rdM (ld1 x37)) fun x38 =>
        bindO (lenS x38) fun x39 =>
        M.bind (optM (minV a2 x39)) fun x40 =>
        M.bind (optM (maxV (Value.int IntKind.i64 0) x40)) fun x41 =>
        bindO (sliceS x36 none (some x41)) fun x42 =>
        bindO (fieldA 2 x33) fun x43 =>
        M.bind (stM 1 x43 x42) fun _ =>
        M.bind (altM (ordO Tryd.prog (regOps Tryd.f18 8) 18 8) [
          ([1, 3, 4],
            getM fun W46 =>
            M.bind (F.disk_change x11) fun x47 =>
            getM fun _ =>
            M.bind (rdM (ldA 7 x33)) fun x49 =>
            M.bind (bslM 75 1 (Builtin.zeroCells #[(Value.int IntKind.i64 0), (Value.int IntKind.i64 0), (Value.string ByteArray.empty), (Value.int IntKind.i64 0), (Value.string ByteArray.empty), (Value.string ByteArray.empty), (Value.int IntKind.i64 0)] 1) [(0, 7, x49)]) fun x50 =>
            getM fun _ =>
            M.bind (appM 75 7 80 #[(Value.int IntKind.i64 0), (Value.int IntKind.i64 0), (Value.string ByteArray.empty), (Value.int IntKind.i64 0), (Value.string ByteArray.empty), (Value.string ByteArray.empty), (Value.int IntKind.i64 0)] x47 x50) fun x52 =>
            getM fun _ =>
            reqM (ldA 7 x33 W46 = some x49) <|
            M.ret [x52]),
          ([3, 1, 4],
            M.bind (rdM (ldA 7 x33)) fun x54 =>
            M.bind (bslM 75 1 (Builtin.zeroCells #[(Value.int IntKind.i64 0), (Value.int IntKind.i64 0), (Value.string ByteArray.empty), (Value.int IntKind.i64 0), (Value.string ByteArray.empty), (Value.string ByteArray.empty), (Value.int IntKind.i64 0)] 1) [(0, 7, x54)]) fun x55 =>
            M.bind (F.disk_change x11) fun x56 =>
            M.bind (appM 75 7 80 #[(Value.int IntKind.i64 0), (Value.int IntKind.i64 0), (Value.string ByteArray.empty), (Value.int IntKind.i64 0), (Value.string ByteArray.empty), (Value.string ByteArray.empty), (Value.int IntKind.i64 0)] x56 x55) fun x57 =>
            M.ret [x57])]) fun l45 =>
        M.ret (Out.norm [(getL l45 0)])) (
        M.ret (Out.norm [x11]))) fun o59 =>
    outK o59 (fun l58 =>
      bindO (lenL (getL l58 0)) fun x62 =>
      M.bind (loopM (fun l63 =>
        bindO (binV BinOp.lss (getL l63 0) x62) fun x64 =>
        condM x64 (
          bindO (idxA 7 (getL l58 0) (getL l63 0)) fun x65 =>
          M.bind (rdM (ldA 7 x65)) fun x66 =>
          M.bind (newM 75 #[(Value.int IntKind.i64 0), (Value.int IntKind.i64 0), (Value.string ByteArray.empty), (Value.int IntKind.i64 0), (Value.string ByteArray.empty), (Value.string ByteArray.empty), (Value.int IntKind.i64 0)]) fun x67 =>
          M.bind (stM 7 x67 x66) fun _ =>
          drewM <|
          bindO (nilChk a0) fun x69 =>
          bindO (fieldA 6 x69) fun x70 =>
          M.bind (rdM (ld1 x70)) fun x71 =>
          bindO (fieldA 1 x67) fun x72 =>
          M.bind (rdM (ld1 x72)) fun x73 =>
          bindO (idxA 3 x71 x73) fun x74 =>
          drewM <|
          M.bind (rdM (ldA 7 x67)) fun x75 =>
          bindO (nilChk x74) fun x76 =>
          bindO (fieldA 2 x76) fun x77 =>
          M.bind (rdM (ld1 x77)) fun x78 =>
          bindO (nilChk a0) fun x79 =>
          bindO (fieldA 8 x79) fun x80 =>
          M.bind (rdM (ld1 x80)) fun x81 =>
          M.bind (F.disk_apply x75 x78 x81) fun x82 =>
          bindO (nilChk x74) fun x83 =>
          bindO (fieldA 2 x83) fun x84 =>
          M.bind (stM 1 x84 x82) fun _ =>
          bindO (binV BinOp.add (getL l63 0) (Value.int IntKind.i64 1)) fun x86 =>
          M.ret (Out.norm [x86])) (
          M.ret (Out.exit 0 [(getL l63 0)]))) [(Value.int IntKind.i64 0)]) fun o88 =>
      outK o88 (fun _ => M.fail) (fun k89 _ =>
        bif Nat.beq k89 0 then (
          M.bind (F.disk_Disk_restart a0) fun _ =>
          M.ret x16) else
        M.fail) (fun r90 => M.ret r90)) (fun _ _ =>
      M.fail) (fun r61 => M.ret r61))
def F.disk_Disk_Crash.plan : Plan := (seq leaf (seq (seq leaf (cond (seq leaf leaf) leaf)) (seq leaf (seq leaf (fork [7] [7, 9, 36, 37, 38, 39, 40, 41, 42, 43, 44, 45, 46, 47, 48, 49, 50, 51, 52, 53, 54, 55, 56, 57, 58, 59, 60, 61, 62, 63, 64, 65, 66, 67, 68, 69, 70] [] (seq leaf (cond (seq leaf (seq leaf (alts [7] [7, 66, 67, 68, 69, 70] [[0, 1, 2, 3, 4, 5], [0, 2, 3, 1, 4, 5]]))) leaf)) (seq (seq leaf (body (loop [73] [11, 12, 73, 74, 75, 76, 77, 78, 79, 80, 81, 82, 83, 84, 85, 86, 87, 88, 89, 90, 91, 92, 93, 94, 95, 96, 97] [0] (seq leaf (seq (cond leaf leaf) (seq (body (seq leaf (seq leaf leaf))) leaf)))))) (seq leaf (seq leaf leaf))))))))
theorem F.disk_Disk_Crash.lift : LiftOk Tryd.prog 18 (ap3 F.disk_Disk_Crash) :=
  lift3 (g := evFn Tryd.prog (tcons 38 (ap1 F.disk_change) (tcons 39 (ap3 F.disk_apply) (tcons 40 (ap1 F.disk_Disk_restart) tnil))) tnil 18 Tryd.f18 F.disk_Disk_Crash.plan) (evFn_sound (tcons_ok F.disk_change.lift (tcons_ok F.disk_apply.lift (tcons_ok F.disk_Disk_restart.lift tnil_ok))) tnil_ok Tryd.func18 (by kernel_rfl)) (fun x0 x1 x2 => by kernel_rfl)

/-- (*granary/disk.Disk).Size -/
noncomputable def F.disk_Disk_Size (a0 a1 : Value) : M Value :=
  M.bind (F.disk_Disk_find a0 a1 (Value.int IntKind.i64 2)) fun x1 =>
  bindO (extV 0 x1) fun x2 =>
  bindO (extV 1 x1) fun x3 =>
  M.bind (newM 70 #[(Value.int IntKind.i64 0), (Value.string ByteArray.empty), (Value.int IntKind.i64 0)]) fun x4 =>
  M.bind (stM 3 x4 x2) fun _ =>
  bindO (binV BinOp.neq x3 (Value.int IntKind.i64 0)) fun x6 =>
  condM x6 (
    M.ret (Value.tuple #[(Value.int IntKind.i64 0), x3])) (
    drewM <|
    bindO (nilChk a0) fun x7 =>
    bindO (fieldA 6 x7) fun x8 =>
    M.bind (rdM (ld1 x8)) fun x9 =>
    bindO (fieldA 2 x4) fun x10 =>
    M.bind (rdM (ld1 x10)) fun x11 =>
    bindO (idxA 3 x9 x11) fun x12 =>
    bindO (fieldA 1 x12) fun x13 =>
    M.bind (rdM (ld1 x13)) fun x14 =>
    bindO (lenS x14) fun x15 =>
    M.ret (Value.tuple #[x15, (Value.int IntKind.i64 0)]))
def F.disk_Disk_Size.plan : Plan := (seq leaf (seq leaf (seq (seq leaf (cond (seq leaf leaf) leaf)) (seq leaf leaf))))
theorem F.disk_Disk_Size.lift : LiftOk Tryd.prog 41 (ap2 F.disk_Disk_Size) :=
  lift2 (g := evFn Tryd.prog (tcons 33 (ap3 F.disk_Disk_find) tnil) tnil 41 Tryd.f41 F.disk_Disk_Size.plan) (evFn_sound (tcons_ok F.disk_Disk_find.lift tnil_ok) tnil_ok Tryd.func41 (by kernel_rfl)) (fun x0 x1 => by kernel_rfl)

/-- (*granary/disk.Disk).Read -/
noncomputable def F.disk_Disk_Read (a0 a1 a2 a3 : Value) : M Value :=
  M.bind (F.disk_Disk_ready a0) fun x1 =>
  bindO (binV BinOp.neq x1 (Value.int IntKind.i64 0)) fun x2 =>
  condM x2 (
    M.ret (Value.tuple #[(Value.string (ByteArray.mk #[])), x1])) (
    M.bind (F.disk_parse a1) fun x3 =>
    bindO (extV 0 x3) fun _ =>
    bindO (extV 1 x3) fun x5 =>
    bindO (notV x5) fun x6 =>
    condM x6 (
      M.ret (Value.tuple #[(Value.string (ByteArray.mk #[])), (Value.int IntKind.i64 11)])) (
      bindO (binV BinOp.lss a2 (Value.int IntKind.i64 0)) fun x7 =>
      M.bind (guardM x7 false (M.ret a3)) fun x8 =>
      M.bind (guardM x7 false (optM (binV BinOp.lss x8 (Value.int IntKind.i64 0)))) fun x9 =>
      bindO (pickV x7 (Value.bool true) x9) fun x10 =>
      condM x10 (
        M.ret (Value.tuple #[(Value.string (ByteArray.mk #[])), (Value.int IntKind.i64 1)])) (
        M.bind (F.disk_Disk_find a0 a1 (Value.int IntKind.i64 2)) fun x11 =>
        bindO (extV 0 x11) fun x12 =>
        bindO (extV 1 x11) fun x13 =>
        M.bind (newM 70 #[(Value.int IntKind.i64 0), (Value.string ByteArray.empty), (Value.int IntKind.i64 0)]) fun x14 =>
        M.bind (stM 3 x14 x12) fun _ =>
        bindO (binV BinOp.neq x13 (Value.int IntKind.i64 0)) fun x16 =>
        condM x16 (
          M.ret (Value.tuple #[(Value.string (ByteArray.mk #[])), x13])) (
          drewM <|
          bindO (nilChk a0) fun x17 =>
          bindO (fieldA 6 x17) fun x18 =>
          M.bind (rdM (ld1 x18)) fun x19 =>
          bindO (fieldA 2 x14) fun x20 =>
          M.bind (rdM (ld1 x20)) fun x21 =>
          bindO (idxA 3 x19 x21) fun x22 =>
          bindO (fieldA 1 x22) fun x23 =>
          M.bind (rdM (ld1 x23)) fun x24 =>
          bindO (lenS x24) fun x25 =>
          bindO (binV BinOp.gtr a2 x25) fun x26 =>
          condM x26 (
            M.ret (Value.tuple #[(Value.string (ByteArray.mk #[])), (Value.int IntKind.i64 16)])) (
            bindO (nilChk a0) fun x27 =>
            bindO (fieldA 2 x27) fun x28 =>
            M.bind (rdM (ld1 x28)) fun x29 =>
            bindO (binV BinOp.add x29 (Value.int IntKind.i64 1)) fun x30 =>
            bindO (nilChk a0) fun x31 =>
            bindO (fieldA 2 x31) fun x32 =>
            M.bind (stM 1 x32 x30) fun _ =>
            bindO (lenS x24) fun x34 =>
            bindO (binV BinOp.sub x34 a2) fun x35 =>
            M.bind (optM (minV a3 x35)) fun x36 =>
            bindO (binV BinOp.add a2 x36) fun x37 =>
            bindO (sliceS x24 (some a2) (some x37)) fun x38 =>
            M.ret (Value.tuple #[x38, (Value.int IntKind.i64 0)]))))))
def F.disk_Disk_Read.plan : Plan := (seq leaf (seq (seq leaf (seq leaf (cond (seq leaf leaf) leaf))) (seq (seq leaf (seq leaf (cond (seq leaf leaf) leaf))) (seq (seq leaf (cond (seq leaf leaf) leaf)) (seq leaf (seq (seq leaf (cond (seq leaf leaf) leaf)) (seq leaf (seq (seq leaf (cond (seq leaf leaf) leaf)) (seq leaf (seq leaf leaf))))))))))
theorem F.disk_Disk_Read.lift : LiftOk Tryd.prog 31 (ap4 F.disk_Disk_Read) :=
  lift4 (g := evFn Tryd.prog (tcons 33 (ap3 F.disk_Disk_find) (tcons 36 (ap1 F.disk_Disk_ready) (tcons 46 (ap1 F.disk_parse) tnil))) tnil 31 Tryd.f31 F.disk_Disk_Read.plan) (evFn_sound (tcons_ok F.disk_Disk_find.lift (tcons_ok F.disk_Disk_ready.lift (tcons_ok F.disk_parse.lift tnil_ok))) tnil_ok Tryd.func31 (by kernel_rfl)) (fun x0 x1 x2 x3 => by kernel_rfl)

/-- granary/granarylaw1.whole -/
noncomputable def F.granarylaw1_whole (a0 a1 : Value) : M Value :=
  M.bind (F.disk_Disk_Size a0 a1) fun x1 =>
  bindO (extV 0 x1) fun x2 =>
  bindO (extV 1 x1) fun x3 =>
  M.bind (F.granarylaw1_num x3) fun x4 =>
  bindO (binV BinOp.neq x4 (Value.int IntKind.i64 0)) fun x5 =>
  condM x5 (
    M.ret (Value.tuple #[(Value.string (ByteArray.mk #[])), (Value.bool false)])) (
    M.bind (F.disk_Disk_Read a0 a1 (Value.int IntKind.i64 0) x2) fun x6 =>
    bindO (extV 0 x6) fun x7 =>
    bindO (extV 1 x6) fun x8 =>
    M.bind (F.granarylaw1_num x8) fun x9 =>
    bindO (binV BinOp.eql x9 (Value.int IntKind.i64 0)) fun x10 =>
    M.bind (guardM x10 true (M.ret x7)) fun x11 =>
    M.bind (guardM x10 true (optM (lenS x11))) fun x12 =>
    M.bind (guardM x10 true (M.ret x2)) fun x13 =>
    M.bind (guardM x10 true (optM (binV BinOp.eql x12 x13))) fun x14 =>
    bindO (pickV x10 x14 (Value.bool false)) fun x15 =>
    M.ret (Value.tuple #[x7, x15]))
def F.granarylaw1_whole.plan : Plan := (seq leaf (seq leaf (seq (seq leaf (cond (seq leaf leaf) leaf)) (seq leaf (seq leaf leaf)))))
theorem F.granarylaw1_whole.lift : LiftOk Tryd.prog 19 (ap2 F.granarylaw1_whole) :=
  lift2 (g := evFn Tryd.prog (tcons 9 (ap1 F.granarylaw1_num) (tcons 31 (ap4 F.disk_Disk_Read) (tcons 41 (ap2 F.disk_Disk_Size) tnil))) tnil 19 Tryd.f19 F.granarylaw1_whole.plan) (evFn_sound (tcons_ok F.granarylaw1_num.lift (tcons_ok F.disk_Disk_Read.lift (tcons_ok F.disk_Disk_Size.lift tnil_ok))) tnil_ok Tryd.func19 (by kernel_rfl)) (fun x0 x1 => by kernel_rfl)

/-- granary/granarylaw1.DiskReplace -/
noncomputable def F.granarylaw1_DiskReplace (a0 a1 : Value) : M Value :=
  M.bind (loopM (fun l1 =>
    bindO (lenL a1) fun x2 =>
    bindO (binV BinOp.lss (getL l1 0) x2) fun x3 =>
    condM x3 (
      bindO (idxA 4 a1 (getL l1 0)) fun x4 =>
      bindO (fieldA 0 x4) fun x5 =>
      M.bind (rdM (ld1 x5)) fun x6 =>
      bindO (lenS x6) fun x7 =>
      bindO (binV BinOp.gtr x7 (Value.int IntKind.i64 536870912)) fun x8 =>
      condM x8 (
        M.ret (Out.ret (Value.bool true))) (
        bindO (binV BinOp.add (getL l1 0) (Value.int IntKind.i64 1)) fun x9 =>
        M.ret (Out.norm [x9]))) (
      M.ret (Out.exit 0 [(getL l1 0)]))) [(Value.int IntKind.i64 0)]) fun o11 =>
  outK o11 (fun _ => M.fail) (fun k12 _ =>
    bif Nat.beq k12 0 then (
      bindO (lenS a0) fun x14 =>
      bindO (binV BinOp.gtr x14 (Value.int IntKind.i64 536870912)) fun x15 =>
      condM x15 (
        M.ret (Value.bool true)) (
        M.bind (F.disk_New (Value.int IntKind.i64 1073741824)) fun x16 =>
        bindO (extV 0 x16) fun x17 =>
        bindO (extV 1 x16) fun x18 =>
        M.bind (F.granarylaw1_num x18) fun x19 =>
        bindO (binV BinOp.neq x19 (Value.int IntKind.i64 0)) fun x20 =>
        M.bind (guardM x20 false (M.ret x17)) fun x21 =>
        M.bind (guardM x20 false (optM (eqV (EqSh.one EqK.ptr) x21 (Value.pointer none)))) fun x22 =>
        bindO (pickV x20 (Value.bool true) x22) fun x23 =>
        condM x23 (
          M.ret (Value.bool false)) (
          M.bind (F.disk_Disk_Create x17 (Value.string (ByteArray.mk #[108, 97, 116, 101, 115, 116]))) fun x24 =>
          M.bind (F.granarylaw1_num x24) fun x25 =>
          bindO (binV BinOp.neq x25 (Value.int IntKind.i64 0)) fun x26 =>
          M.bind (guardM x26 false (M.ret x17)) fun x27 =>
          M.bind (guardM x26 false (M.ret a0)) fun x28 =>
          M.bind (guardM x26 false (F.disk_Disk_Append x27 (Value.string (ByteArray.mk #[108, 97, 116, 101, 115, 116])) x28)) fun x29 =>
          M.bind (guardM x26 false (F.granarylaw1_num x29)) fun x30 =>
          M.bind (guardM x26 false (optM (binV BinOp.neq x30 (Value.int IntKind.i64 0)))) fun x31 =>
          bindO (pickV x26 (Value.bool true) x31) fun x32 =>
          M.bind (guardM x32 false (M.ret x17)) fun x33 =>
          M.bind (guardM x32 false (F.disk_Disk_Sync x33 (Value.string (ByteArray.mk #[108, 97, 116, 101, 115, 116])))) fun x34 =>
          M.bind (guardM x32 false (F.granarylaw1_num x34)) fun x35 =>
          M.bind (guardM x32 false (optM (binV BinOp.neq x35 (Value.int IntKind.i64 0)))) fun x36 =>
          bindO (pickV x32 (Value.bool true) x36) fun x37 =>
          M.bind (guardM x37 false (M.ret x17)) fun x38 =>
          M.bind (guardM x37 false (F.disk_Disk_SyncDir x38 (Value.string (ByteArray.mk #[])))) fun x39 =>
          M.bind (guardM x37 false (F.granarylaw1_num x39)) fun x40 =>
          M.bind (guardM x37 false (optM (binV BinOp.neq x40 (Value.int IntKind.i64 0)))) fun x41 =>
          bindO (pickV x37 (Value.bool true) x41) fun x42 =>
          condM x42 (
            M.ret (Value.bool false)) (
            M.bind (loopM (fun l43 =>
              bindO (lenL a1) fun x44 =>
              bindO (binV BinOp.lss (getL l43 1) x44) fun x45 =>
              condM x45 (
                bindO (idxA 4 a1 (getL l43 1)) fun x46 =>
                M.bind (rdM (ldA 4 x46)) fun x47 =>
                M.bind (newM 24 #[(Value.string ByteArray.empty), (Value.int IntKind.i64 0), (Value.int IntKind.i64 0), (Value.int IntKind.i64 0)]) fun x48 =>
                M.bind (stM 4 x48 x47) fun _ =>
                M.bind (F.disk_Disk_Kind x17 (Value.string (ByteArray.mk #[108, 97, 116, 101, 115, 116, 46, 110, 101, 119]))) fun x50 =>
                bindO (extV 0 x50) fun _ =>
                bindO (extV 1 x50) fun x52 =>
                M.bind (F.granarylaw1_num x52) fun x53 =>
                bindO (binV BinOp.eql x53 (Value.int IntKind.i64 0)) fun x54 =>
                M.bind (guardM x54 true (M.ret x17)) fun x55 =>
                M.bind (guardM x54 true (F.disk_Disk_Remove x55 (Value.string (ByteArray.mk #[108, 97, 116, 101, 115, 116, 46, 110, 101, 119])))) fun x56 =>
                M.bind (guardM x54 true (F.granarylaw1_num x56)) fun x57 =>
                M.bind (guardM x54 true (optM (binV BinOp.neq x57 (Value.int IntKind.i64 0)))) fun x58 =>
                bindO (pickV x54 x58 (Value.bool false)) fun x59 =>
                condM x59 (
                  M.ret (Out.ret (Value.bool false))) (
                  bindO (fieldA 1 x48) fun x60 =>
                  M.bind (rdM (ld1 x60)) fun x61 =>
                  M.bind (F.disk_Disk_Arm x17 x61) fun x62 =>
                  M.bind (F.granarylaw1_num x62) fun x63 =>
                  bindO (binV BinOp.neq x63 (Value.int IntKind.i64 0)) fun x64 =>
                  condM x64 (
                    M.ret (Out.ret (Value.bool false))) (
                    bindO (fieldA 0 x48) fun x65 =>
                    M.bind (rdM (ld1 x65)) fun x66 =>
                    bindO (fieldA 1 x48) fun x67 =>
                    M.bind (rdM (ld1 x67)) fun x68 =>
                    M.bind (F.granarylaw1_replace x17 x66 x68) fun x69 =>
                    bindO (extV 0 x69) fun x70 =>
                    bindO (extV 1 x69) fun x71 =>
                    bindO (notV x71) fun x72 =>
                    condM x72 (
                      M.ret (Out.ret (Value.bool false))) (
                      bindO (fieldA 2 x48) fun x73 =>
                      M.bind (rdM (ld1 x73)) fun x74 =>
                      bindO (fieldA 3 x48) fun x75 =>
                      M.bind (rdM (ld1 x75)) fun x76 =>
                      M.bind (F.disk_Disk_Crash x17 x74 x76) fun _ =>
                      M.bind (F.granarylaw1_whole x17 (Value.string (ByteArray.mk #[108, 97, 116, 101, 115, 116]))) fun x78 =>
                      bindO (extV 0 x78) fun x79 =>
                      bindO (extV 1 x78) fun x80 =>
                      bindO (notV x80) fun x81 =>
                      M.bind (guardM x81 false (M.ret x79)) fun x82 =>
                      M.bind (guardM x81 false (M.ret (getL l43 0))) fun x83 =>
                      M.bind (guardM x81 false (optM (binV BinOp.neq x82 x83))) fun x84 =>
                      M.bind (guardM x81 false (M.ret x84)) fun x85 =>
                      M.bind (guardM x85 true (M.ret x79)) fun x86 =>
                      M.bind (guardM x85 true (optM (fieldA 0 x48))) fun x87 =>
                      M.bind (guardM x85 true (rdM (ld1 x87))) fun x88 =>
                      M.bind (guardM x85 true (optM (binV BinOp.neq x86 x88))) fun x89 =>
                      M.bind (guardM x81 false (optM (pickV x85 x89 (Value.bool false)))) fun x90 =>
                      bindO (pickV x81 (Value.bool true) x90) fun x91 =>
                      condM x91 (
                        M.ret (Out.ret (Value.bool false))) (
                        bindO (binV BinOp.lss x70 (Value.int IntKind.i64 4)) fun x92 =>
                        M.bind (guardM x92 true (M.ret x79)) fun x93 =>
                        M.bind (guardM x92 true (M.ret (getL l43 0))) fun x94 =>
                        M.bind (guardM x92 true (optM (binV BinOp.neq x93 x94))) fun x95 =>
                        bindO (pickV x92 x95 (Value.bool false)) fun x96 =>
                        M.bind (guardM x96 false (M.ret x70)) fun x97 =>
                        M.bind (guardM x96 false (optM (binV BinOp.eql x97 (Value.int IntKind.i64 5)))) fun x98 =>
                        M.bind (guardM x96 false (M.ret x98)) fun x99 =>
                        M.bind (guardM x99 true (M.ret x79)) fun x100 =>
                        M.bind (guardM x99 true (optM (fieldA 0 x48))) fun x101 =>
                        M.bind (guardM x99 true (rdM (ld1 x101))) fun x102 =>
                        M.bind (guardM x99 true (optM (binV BinOp.neq x100 x102))) fun x103 =>
                        M.bind (guardM x96 false (optM (pickV x99 x103 (Value.bool false)))) fun x104 =>
                        bindO (pickV x96 (Value.bool true) x104) fun x105 =>
                        condM x105 (
                          M.ret (Out.ret (Value.bool false))) (
                          bindO (binV BinOp.add (getL l43 1) (Value.int IntKind.i64 1)) fun x106 =>
                          M.ret (Out.norm [x79, x106]))))))) (
                M.ret (Out.exit 2 [(getL l43 0), (getL l43 1)]))) [a0, (Value.int IntKind.i64 0)]) fun o108 =>
            outK o108 (fun _ => M.fail) (fun k109 _ =>
              bif Nat.beq k109 2 then (
                M.ret (Value.bool true)) else
              M.fail) (fun r110 => M.ret r110))))) else
    M.fail) (fun r13 => M.ret r13)
def F.granarylaw1_DiskReplace.plan : Plan := (seq leaf (seq (seq leaf (body (loop [5] [4, 5, 16, 17, 18, 19, 20, 21, 22, 23, 24, 25, 26, 27, 28] [0] (seq (seq leaf (cond leaf leaf)) (seq (body (seq leaf (cond (seq leaf leaf) leaf))) leaf))))) (seq (seq leaf (cond (seq leaf leaf) leaf)) (seq leaf (seq (seq leaf (cond (seq leaf leaf) leaf)) (seq (seq leaf (cond (seq leaf leaf) leaf)) (seq (seq leaf (body (loop [0, 8] [0, 4, 8, 9, 10, 11, 12, 13, 14, 15, 66, 67, 68, 69, 70, 71, 72, 73, 74, 75, 76, 77, 78, 79, 80, 81, 82, 83, 84, 85, 86, 87, 88, 89, 90, 91, 92, 93, 94, 95, 96, 97, 98, 99, 100, 101, 102, 103, 104, 105, 106, 107, 108, 109, 110, 111, 112, 113, 114, 115, 116, 117, 118, 119, 120, 121, 122, 123, 124, 125, 126, 127, 128, 129, 130, 131, 132, 133, 134, 135, 136, 137, 138, 139, 140, 141, 142, 143, 144, 145, 146, 147, 148] [2] (seq (seq leaf (cond leaf leaf)) (seq (body (seq leaf (seq leaf (seq (seq leaf (cond (seq leaf leaf) leaf)) (seq (seq leaf (cond (seq leaf leaf) leaf)) (seq leaf (seq (seq leaf (cond (seq leaf leaf) leaf)) (seq leaf (seq leaf (seq (seq leaf (cond (seq leaf leaf) leaf)) (seq (seq leaf (cond (seq leaf leaf) leaf)) leaf))))))))))) leaf))))) (seq leaf leaf))))))))
theorem F.granarylaw1_DiskReplace.lift : LiftOk Tryd.prog 3 (ap2 F.granarylaw1_DiskReplace) :=
  lift2 (g := evFn Tryd.prog (tcons 8 (ap1 F.disk_New) (tcons 9 (ap1 F.granarylaw1_num) (tcons 10 (ap2 F.disk_Disk_Create) (tcons 11 (ap3 F.disk_Disk_Append) (tcons 12 (ap2 F.disk_Disk_Sync) (tcons 13 (ap2 F.disk_Disk_SyncDir) (tcons 14 (ap2 F.disk_Disk_Kind) (tcons 15 (ap2 F.disk_Disk_Remove) (tcons 16 (ap2 F.disk_Disk_Arm) (tcons 17 (ap3 F.granarylaw1_replace) (tcons 18 (ap3 F.disk_Disk_Crash) (tcons 19 (ap2 F.granarylaw1_whole) tnil)))))))))))) tnil 3 Tryd.f3 F.granarylaw1_DiskReplace.plan) (evFn_sound (tcons_ok F.disk_New.lift (tcons_ok F.granarylaw1_num.lift (tcons_ok F.disk_Disk_Create.lift (tcons_ok F.disk_Disk_Append.lift (tcons_ok F.disk_Disk_Sync.lift (tcons_ok F.disk_Disk_SyncDir.lift (tcons_ok F.disk_Disk_Kind.lift (tcons_ok F.disk_Disk_Remove.lift (tcons_ok F.disk_Disk_Arm.lift (tcons_ok F.granarylaw1_replace.lift (tcons_ok F.disk_Disk_Crash.lift (tcons_ok F.granarylaw1_whole.lift tnil_ok)))))))))))) tnil_ok Tryd.func3 (by kernel_rfl)) (fun x0 x1 => by kernel_rfl)

/-- (*granary/disk.Disk).Mkdir -/
noncomputable def F.disk_Disk_Mkdir (a0 a1 : Value) : M Value :=
  M.bind (F.disk_Disk_add a0 a1 (Value.int IntKind.i64 1)) fun x1 =>
  M.ret x1
def F.disk_Disk_Mkdir.plan : Plan := (seq leaf (seq leaf leaf))
theorem F.disk_Disk_Mkdir.lift : LiftOk Tryd.prog 20 (ap2 F.disk_Disk_Mkdir) :=
  lift2 (g := evFn Tryd.prog (tcons 32 (ap3 F.disk_Disk_add) tnil) tnil 20 Tryd.f20 F.disk_Disk_Mkdir.plan) (evFn_sound (tcons_ok F.disk_Disk_add.lift tnil_ok) tnil_ok Tryd.func20 (by kernel_rfl)) (fun x0 x1 => by kernel_rfl)

/-- granary/granarylaw1.touches -/
noncomputable def F.granarylaw1_touches (a0 : Value) : M Value :=
  M.bind (newM 44 (Value.cells a0)) fun x1 =>
  bindO (fieldA 4 x1) fun x2 =>
  M.bind (rdM (ld1 x2)) fun x3 =>
  bindO (binV BinOp.eql x3 (Value.string (ByteArray.mk #[97]))) fun x4 =>
  M.bind (guardM x4 false (optM (fieldA 4 x1))) fun x5 =>
  M.bind (guardM x4 false (rdM (ld1 x5))) fun x6 =>
  M.bind (guardM x4 false (optM (binV BinOp.eql x6 (Value.string (ByteArray.mk #[97, 47, 102]))))) fun x7 =>
  bindO (pickV x4 (Value.bool true) x7) fun x8 =>
  M.bind (guardM x8 false (optM (fieldA 5 x1))) fun x9 =>
  M.bind (guardM x8 false (rdM (ld1 x9))) fun x10 =>
  M.bind (guardM x8 false (optM (binV BinOp.eql x10 (Value.string (ByteArray.mk #[97]))))) fun x11 =>
  bindO (pickV x8 (Value.bool true) x11) fun x12 =>
  M.bind (guardM x12 false (optM (fieldA 5 x1))) fun x13 =>
  M.bind (guardM x12 false (rdM (ld1 x13))) fun x14 =>
  M.bind (guardM x12 false (optM (binV BinOp.eql x14 (Value.string (ByteArray.mk #[97, 47, 102]))))) fun x15 =>
  bindO (pickV x12 (Value.bool true) x15) fun x16 =>
  M.ret x16
def F.granarylaw1_touches.plan : Plan := (seq leaf (seq leaf leaf))
theorem F.granarylaw1_touches.lift : LiftOk Tryd.prog 21 (ap1 F.granarylaw1_touches) :=
  lift1 (g := evFn Tryd.prog tnil tnil 21 Tryd.f21 F.granarylaw1_touches.plan) (evFn_sound tnil_ok tnil_ok Tryd.func21 (by kernel_rfl)) (fun x0 => by kernel_rfl)

/-- (*granary/disk.Disk).Truncate -/
noncomputable def F.disk_Disk_Truncate (a0 a1 a2 : Value) : M Value :=
  M.bind (F.disk_Disk_ready a0) fun x1 =>
  bindO (binV BinOp.neq x1 (Value.int IntKind.i64 0)) fun x2 =>
  condM x2 (
    M.ret x1) (
    M.bind (F.disk_parse a1) fun x3 =>
    bindO (extV 0 x3) fun _ =>
    bindO (extV 1 x3) fun x5 =>
    bindO (notV x5) fun x6 =>
    condM x6 (
      M.ret (Value.int IntKind.i64 11)) (
      bindO (binV BinOp.lss a2 (Value.int IntKind.i64 0)) fun x7 =>
      condM x7 (
        M.ret (Value.int IntKind.i64 1)) (
        M.bind (F.disk_Disk_find a0 a1 (Value.int IntKind.i64 2)) fun x8 =>
        bindO (extV 0 x8) fun x9 =>
        bindO (extV 1 x8) fun x10 =>
        M.bind (newM 70 #[(Value.int IntKind.i64 0), (Value.string ByteArray.empty), (Value.int IntKind.i64 0)]) fun x11 =>
        M.bind (stM 3 x11 x9) fun _ =>
        bindO (binV BinOp.neq x10 (Value.int IntKind.i64 0)) fun x13 =>
        condM x13 (
          M.ret x10) (
          drewM <|
          bindO (nilChk a0) fun x14 =>
          bindO (fieldA 6 x14) fun x15 =>
          M.bind (rdM (ld1 x15)) fun x16 =>
          bindO (fieldA 2 x11) fun x17 =>
          M.bind (rdM (ld1 x17)) fun x18 =>
          bindO (idxA 3 x16 x18) fun x19 =>
          bindO (fieldA 1 x19) fun x20 =>
          M.bind (rdM (ld1 x20)) fun x21 =>
          bindO (lenS x21) fun x22 =>
          bindO (binV BinOp.gtr a2 x22) fun x23 =>
          condM x23 (
            M.ret (Value.int IntKind.i64 16)) (
            bindO (fieldA 2 x11) fun x24 =>
            M.bind (rdM (ld1 x24)) fun x25 =>
            bindO (buildV #[(Value.int IntKind.i64 0), (Value.int IntKind.i64 0), (Value.string ByteArray.empty), (Value.int IntKind.i64 0), (Value.string ByteArray.empty), (Value.string ByteArray.empty), (Value.int IntKind.i64 0)] [(0, 1, (Value.int IntKind.i64 1)), (1, 1, x25), (3, 1, a2)]) fun x26 =>
            M.bind (F.disk_Disk_do a0 x26) fun x27 =>
            M.ret x27)))))
def F.disk_Disk_Truncate.plan : Plan := (seq leaf (seq (seq leaf (seq leaf (cond (seq leaf leaf) leaf))) (seq (seq leaf (seq leaf (cond (seq leaf leaf) leaf))) (seq (seq leaf (cond (seq leaf leaf) leaf)) (seq leaf (seq (seq leaf (cond (seq leaf leaf) leaf)) (seq (seq leaf (cond (seq leaf leaf) leaf)) (seq leaf leaf))))))))
theorem F.disk_Disk_Truncate.lift : LiftOk Tryd.prog 42 (ap3 F.disk_Disk_Truncate) :=
  lift3 (g := evFn Tryd.prog (tcons 33 (ap3 F.disk_Disk_find) (tcons 34 (ap2 F.disk_Disk_do) (tcons 36 (ap1 F.disk_Disk_ready) (tcons 46 (ap1 F.disk_parse) tnil)))) tnil 42 Tryd.f42 F.disk_Disk_Truncate.plan) (evFn_sound (tcons_ok F.disk_Disk_find.lift (tcons_ok F.disk_Disk_do.lift (tcons_ok F.disk_Disk_ready.lift (tcons_ok F.disk_parse.lift tnil_ok)))) tnil_ok Tryd.func42 (by kernel_rfl)) (fun x0 x1 x2 => by kernel_rfl)

end Go.Proofs.YtojnickeblbgoaaDoor
