/-
  THE FUNCTIONAL FORMS of the functions of this seat's translation, and that each function comes to its form: printed by a program of the prover's own (lift.py).
-/
import Derived.Test.YtojnickeblbgoaaDoorG0
namespace Go.Proofs.YtojnickeblbgoaaDoor
open Go.Lift Go.Lift.Plan
/-- granary/granarylaw1.step -/
noncomputable def F.granarylaw1_step (a0 a1 : Value) : M Value :=
  M.bind (newM 44 (Value.cells a1)) fun x1 =>
  bindO (fieldA 0 x1) fun x2 =>
  M.bind (rdM (ld1 x2)) fun x3 =>
  bindO (binV BinOp.eql x3 (Value.int IntKind.i64 1)) fun x4 =>
  condM x4 (
    bindO (fieldA 4 x1) fun x5 =>
    M.bind (rdM (ld1 x5)) fun x6 =>
    M.bind (F.disk_Disk_Mkdir a0 x6) fun _ =>
    M.ret (Value.tuple #[])) (
    bindO (binV BinOp.eql x3 (Value.int IntKind.i64 2)) fun x8 =>
    condM x8 (
      bindO (fieldA 4 x1) fun x9 =>
      M.bind (rdM (ld1 x9)) fun x10 =>
      M.bind (F.disk_Disk_Create a0 x10) fun _ =>
      M.ret (Value.tuple #[])) (
      bindO (binV BinOp.eql x3 (Value.int IntKind.i64 3)) fun x12 =>
      condM x12 (
        bindO (fieldA 4 x1) fun x13 =>
        M.bind (rdM (ld1 x13)) fun x14 =>
        bindO (fieldA 5 x1) fun x15 =>
        M.bind (rdM (ld1 x15)) fun x16 =>
        M.bind (F.disk_Disk_Append a0 x14 x16) fun _ =>
        M.ret (Value.tuple #[])) (
        bindO (binV BinOp.eql x3 (Value.int IntKind.i64 4)) fun x18 =>
        condM x18 (
          bindO (fieldA 4 x1) fun x19 =>
          M.bind (rdM (ld1 x19)) fun x20 =>
          bindO (fieldA 2 x1) fun x21 =>
          M.bind (rdM (ld1 x21)) fun x22 =>
          M.bind (F.disk_Disk_Truncate a0 x20 x22) fun _ =>
          M.ret (Value.tuple #[])) (
          bindO (binV BinOp.eql x3 (Value.int IntKind.i64 5)) fun x24 =>
          condM x24 (
            bindO (fieldA 4 x1) fun x25 =>
            M.bind (rdM (ld1 x25)) fun x26 =>
            bindO (fieldA 5 x1) fun x27 =>
            M.bind (rdM (ld1 x27)) fun x28 =>
            M.bind (F.disk_Disk_Rename a0 x26 x28) fun _ =>
            M.ret (Value.tuple #[])) (
            bindO (binV BinOp.eql x3 (Value.int IntKind.i64 6)) fun x30 =>
            condM x30 (
              bindO (fieldA 4 x1) fun x31 =>
              M.bind (rdM (ld1 x31)) fun x32 =>
              M.bind (F.disk_Disk_Remove a0 x32) fun _ =>
              M.ret (Value.tuple #[])) (
              bindO (binV BinOp.eql x3 (Value.int IntKind.i64 7)) fun x34 =>
              condM x34 (
                bindO (fieldA 4 x1) fun x35 =>
                M.bind (rdM (ld1 x35)) fun x36 =>
                M.bind (F.disk_Disk_Sync a0 x36) fun _ =>
                M.ret (Value.tuple #[])) (
                bindO (binV BinOp.eql x3 (Value.int IntKind.i64 8)) fun x38 =>
                condM x38 (
                  bindO (fieldA 4 x1) fun x39 =>
                  M.bind (rdM (ld1 x39)) fun x40 =>
                  M.bind (F.disk_Disk_SyncDir a0 x40) fun _ =>
                  M.ret (Value.tuple #[])) (
                  bindO (binV BinOp.eql x3 (Value.int IntKind.i64 20)) fun x42 =>
                  condM x42 (
                    bindO (fieldA 2 x1) fun x43 =>
                    M.bind (rdM (ld1 x43)) fun x44 =>
                    M.bind (F.disk_Disk_Arm a0 x44) fun _ =>
                    M.ret (Value.tuple #[])) (
                    bindO (binV BinOp.eql x3 (Value.int IntKind.i64 21)) fun x46 =>
                    condM x46 (
                      bindO (fieldA 2 x1) fun x47 =>
                      M.bind (rdM (ld1 x47)) fun x48 =>
                      bindO (fieldA 3 x1) fun x49 =>
                      M.bind (rdM (ld1 x49)) fun x50 =>
                      M.bind (F.disk_Disk_Crash a0 x48 x50) fun _ =>
                      M.ret (Value.tuple #[])) (
                      M.ret (Value.tuple #[])))))))))))
def F.granarylaw1_step.plan : Plan := (seq leaf (seq leaf (body (seq leaf (cond leaf (seq leaf (cond leaf (seq leaf (cond leaf (seq leaf (cond leaf (seq leaf (cond leaf (seq leaf (cond leaf (seq leaf (cond leaf (seq leaf (cond leaf (seq leaf (cond leaf (seq leaf (cond leaf leaf)))))))))))))))))))))))
theorem F.granarylaw1_step.lift : LiftOk Tryd.prog 22 (ap2 F.granarylaw1_step) :=
  lift2 (g := evFn Tryd.prog (tcons 10 (ap2 F.disk_Disk_Create) (tcons 11 (ap3 F.disk_Disk_Append) (tcons 12 (ap2 F.disk_Disk_Sync) (tcons 13 (ap2 F.disk_Disk_SyncDir) (tcons 15 (ap2 F.disk_Disk_Remove) (tcons 16 (ap2 F.disk_Disk_Arm) (tcons 18 (ap3 F.disk_Disk_Crash) (tcons 20 (ap2 F.disk_Disk_Mkdir) (tcons 37 (ap3 F.disk_Disk_Rename) (tcons 42 (ap3 F.disk_Disk_Truncate) tnil)))))))))) tnil 22 Tryd.f22 F.granarylaw1_step.plan) (evFn_sound (tcons_ok F.disk_Disk_Create.lift (tcons_ok F.disk_Disk_Append.lift (tcons_ok F.disk_Disk_Sync.lift (tcons_ok F.disk_Disk_SyncDir.lift (tcons_ok F.disk_Disk_Remove.lift (tcons_ok F.disk_Disk_Arm.lift (tcons_ok F.disk_Disk_Crash.lift (tcons_ok F.disk_Disk_Mkdir.lift (tcons_ok F.disk_Disk_Rename.lift (tcons_ok F.disk_Disk_Truncate.lift tnil_ok)))))))))) tnil_ok Tryd.func22 (by kernel_rfl)) (fun x0 x1 => by kernel_rfl)

/-- granary/granarylaw1.DiskKeeps -/
noncomputable def F.granarylaw1_DiskKeeps (a0 a1 a2 a3 : Value) : M Value :=
  bindO (lenS a0) fun x1 =>
  bindO (binV BinOp.gtr x1 (Value.int IntKind.i64 536870912)) fun x2 =>
  condM x2 (
    M.ret (Value.bool true)) (
    M.bind (F.disk_New (Value.int IntKind.i64 1073741824)) fun x3 =>
    bindO (extV 0 x3) fun x4 =>
    bindO (extV 1 x3) fun x5 =>
    M.bind (F.granarylaw1_num x5) fun x6 =>
    bindO (binV BinOp.neq x6 (Value.int IntKind.i64 0)) fun x7 =>
    M.bind (guardM x7 false (M.ret x4)) fun x8 =>
    M.bind (guardM x7 false (optM (eqV (EqSh.one EqK.ptr) x8 (Value.pointer none)))) fun x9 =>
    bindO (pickV x7 (Value.bool true) x9) fun x10 =>
    condM x10 (
      M.ret (Value.bool false)) (
      M.bind (F.disk_Disk_Mkdir x4 (Value.string (ByteArray.mk #[97]))) fun x11 =>
      M.bind (F.granarylaw1_num x11) fun x12 =>
      bindO (binV BinOp.neq x12 (Value.int IntKind.i64 0)) fun x13 =>
      M.bind (guardM x13 false (M.ret x4)) fun x14 =>
      M.bind (guardM x13 false (F.disk_Disk_SyncDir x14 (Value.string (ByteArray.mk #[])))) fun x15 =>
      M.bind (guardM x13 false (F.granarylaw1_num x15)) fun x16 =>
      M.bind (guardM x13 false (optM (binV BinOp.neq x16 (Value.int IntKind.i64 0)))) fun x17 =>
      bindO (pickV x13 (Value.bool true) x17) fun x18 =>
      M.bind (guardM x18 false (M.ret x4)) fun x19 =>
      M.bind (guardM x18 false (F.disk_Disk_Create x19 (Value.string (ByteArray.mk #[97, 47, 102])))) fun x20 =>
      M.bind (guardM x18 false (F.granarylaw1_num x20)) fun x21 =>
      M.bind (guardM x18 false (optM (binV BinOp.neq x21 (Value.int IntKind.i64 0)))) fun x22 =>
      bindO (pickV x18 (Value.bool true) x22) fun x23 =>
      M.bind (guardM x23 false (M.ret x4)) fun x24 =>
      M.bind (guardM x23 false (M.ret a0)) fun x25 =>
      M.bind (guardM x23 false (F.disk_Disk_Append x24 (Value.string (ByteArray.mk #[97, 47, 102])) x25)) fun x26 =>
      M.bind (guardM x23 false (F.granarylaw1_num x26)) fun x27 =>
      M.bind (guardM x23 false (optM (binV BinOp.neq x27 (Value.int IntKind.i64 0)))) fun x28 =>
      bindO (pickV x23 (Value.bool true) x28) fun x29 =>
      M.bind (guardM x29 false (M.ret x4)) fun x30 =>
      M.bind (guardM x29 false (F.disk_Disk_Sync x30 (Value.string (ByteArray.mk #[97, 47, 102])))) fun x31 =>
      M.bind (guardM x29 false (F.granarylaw1_num x31)) fun x32 =>
      M.bind (guardM x29 false (optM (binV BinOp.neq x32 (Value.int IntKind.i64 0)))) fun x33 =>
      bindO (pickV x29 (Value.bool true) x33) fun x34 =>
      M.bind (guardM x34 false (M.ret x4)) fun x35 =>
      M.bind (guardM x34 false (F.disk_Disk_SyncDir x35 (Value.string (ByteArray.mk #[97])))) fun x36 =>
      M.bind (guardM x34 false (F.granarylaw1_num x36)) fun x37 =>
      M.bind (guardM x34 false (optM (binV BinOp.neq x37 (Value.int IntKind.i64 0)))) fun x38 =>
      bindO (pickV x34 (Value.bool true) x38) fun x39 =>
      condM x39 (
        M.ret (Value.bool false)) (
        M.bind (loopM (fun l40 =>
          bindO (lenL a1) fun x41 =>
          bindO (binV BinOp.lss (getL l40 0) x41) fun x42 =>
          condM x42 (
            M.bind (
              bindO (idxA 6 a1 (getL l40 0)) fun x43 =>
              M.bind (rdM (ldA 6 x43)) fun x44 =>
              M.bind (F.granarylaw1_touches x44) fun x45 =>
              bindO (notV x45) fun x46 =>
              condM x46 (
                bindO (idxA 6 a1 (getL l40 0)) fun x47 =>
                M.bind (rdM (ldA 6 x47)) fun x48 =>
                M.bind (F.granarylaw1_step x4 x48) fun _ =>
                M.ret (Out.norm [])) (
                M.ret (Out.norm []))) fun o51 =>
            outK o51 (fun _ =>
              bindO (binV BinOp.add (getL l40 0) (Value.int IntKind.i64 1)) fun x54 =>
              M.ret (Out.norm [x54])) (fun _ _ =>
              M.fail) (fun r53 => M.ret (Out.ret r53))) (
            M.ret (Out.exit 0 [(getL l40 0)]))) [(Value.int IntKind.i64 0)]) fun o57 =>
        outK o57 (fun _ => M.fail) (fun k58 _ =>
          bif Nat.beq k58 0 then (
            M.bind (F.disk_Disk_Crash x4 a2 a3) fun _ =>
            M.bind (F.granarylaw1_whole x4 (Value.string (ByteArray.mk #[97, 47, 102]))) fun x61 =>
            bindO (extV 0 x61) fun x62 =>
            bindO (extV 1 x61) fun x63 =>
            M.bind (guardM x63 true (M.ret x62)) fun x64 =>
            M.bind (guardM x63 true (M.ret a0)) fun x65 =>
            M.bind (guardM x63 true (optM (binV BinOp.eql x64 x65))) fun x66 =>
            bindO (pickV x63 x66 (Value.bool false)) fun x67 =>
            M.ret x67) else
          M.fail) (fun r59 => M.ret r59))))
def F.granarylaw1_DiskKeeps.plan : Plan := (seq leaf (seq (seq leaf (cond (seq leaf leaf) leaf)) (seq leaf (seq (seq leaf (cond (seq leaf leaf) leaf)) (seq (seq leaf (cond (seq leaf leaf) leaf)) (seq (seq leaf (body (loop [11] [11, 12, 64, 65, 66, 67, 68, 69, 70, 71, 72, 73, 74, 75, 76, 77, 78, 79, 80, 81, 82] [0] (seq (seq leaf (cond leaf leaf)) (fork [] [12, 70, 71, 72, 73, 74, 75, 76, 77, 78, 79, 80, 81, 82] [] (body (seq leaf (seq leaf (cond leaf leaf)))) leaf))))) (seq leaf (seq leaf (seq leaf leaf)))))))))
theorem F.granarylaw1_DiskKeeps.lift : LiftOk Tryd.prog 4 (ap4 F.granarylaw1_DiskKeeps) :=
  lift4 (g := evFn Tryd.prog (tcons 8 (ap1 F.disk_New) (tcons 9 (ap1 F.granarylaw1_num) (tcons 10 (ap2 F.disk_Disk_Create) (tcons 11 (ap3 F.disk_Disk_Append) (tcons 12 (ap2 F.disk_Disk_Sync) (tcons 13 (ap2 F.disk_Disk_SyncDir) (tcons 18 (ap3 F.disk_Disk_Crash) (tcons 19 (ap2 F.granarylaw1_whole) (tcons 20 (ap2 F.disk_Disk_Mkdir) (tcons 21 (ap1 F.granarylaw1_touches) (tcons 22 (ap2 F.granarylaw1_step) tnil))))))))))) tnil 4 Tryd.f4 F.granarylaw1_DiskKeeps.plan) (evFn_sound (tcons_ok F.disk_New.lift (tcons_ok F.granarylaw1_num.lift (tcons_ok F.disk_Disk_Create.lift (tcons_ok F.disk_Disk_Append.lift (tcons_ok F.disk_Disk_Sync.lift (tcons_ok F.disk_Disk_SyncDir.lift (tcons_ok F.disk_Disk_Crash.lift (tcons_ok F.granarylaw1_whole.lift (tcons_ok F.disk_Disk_Mkdir.lift (tcons_ok F.granarylaw1_touches.lift (tcons_ok F.granarylaw1_step.lift tnil_ok))))))))))) tnil_ok Tryd.func4 (by kernel_rfl)) (fun x0 x1 x2 x3 => by kernel_rfl)

/-- granary/granarylaw1.act -/
noncomputable def F.granarylaw1_act (a0 a1 : Value) : M Value :=
  M.bind (newM 44 (Value.cells a1)) fun x1 =>
  bindO (fieldA 0 x1) fun x2 =>
  M.bind (rdM (ld1 x2)) fun x3 =>
  bindO (binV BinOp.eql x3 (Value.int IntKind.i64 1)) fun x4 =>
  condM x4 (
    bindO (fieldA 4 x1) fun x5 =>
    M.bind (rdM (ld1 x5)) fun x6 =>
    M.bind (F.disk_Disk_Mkdir a0 x6) fun x7 =>
    M.ret x7) (
    bindO (binV BinOp.eql x3 (Value.int IntKind.i64 2)) fun x8 =>
    condM x8 (
      bindO (fieldA 4 x1) fun x9 =>
      M.bind (rdM (ld1 x9)) fun x10 =>
      M.bind (F.disk_Disk_Create a0 x10) fun x11 =>
      M.ret x11) (
      bindO (binV BinOp.eql x3 (Value.int IntKind.i64 3)) fun x12 =>
      condM x12 (
        bindO (fieldA 4 x1) fun x13 =>
        M.bind (rdM (ld1 x13)) fun x14 =>
        bindO (fieldA 5 x1) fun x15 =>
        M.bind (rdM (ld1 x15)) fun x16 =>
        M.bind (F.disk_Disk_Append a0 x14 x16) fun x17 =>
        M.ret x17) (
        bindO (binV BinOp.eql x3 (Value.int IntKind.i64 4)) fun x18 =>
        condM x18 (
          bindO (fieldA 4 x1) fun x19 =>
          M.bind (rdM (ld1 x19)) fun x20 =>
          bindO (fieldA 2 x1) fun x21 =>
          M.bind (rdM (ld1 x21)) fun x22 =>
          M.bind (F.disk_Disk_Truncate a0 x20 x22) fun x23 =>
          M.ret x23) (
          bindO (binV BinOp.eql x3 (Value.int IntKind.i64 5)) fun x24 =>
          condM x24 (
            bindO (fieldA 4 x1) fun x25 =>
            M.bind (rdM (ld1 x25)) fun x26 =>
            bindO (fieldA 5 x1) fun x27 =>
            M.bind (rdM (ld1 x27)) fun x28 =>
            M.bind (F.disk_Disk_Rename a0 x26 x28) fun x29 =>
            M.ret x29) (
            bindO (fieldA 4 x1) fun x30 =>
            M.bind (rdM (ld1 x30)) fun x31 =>
            M.bind (F.disk_Disk_Remove a0 x31) fun x32 =>
            M.ret x32)))))
def F.granarylaw1_act.plan : Plan := (seq leaf (seq (seq leaf (body (seq leaf (cond (seq leaf leaf) (seq leaf (cond (seq leaf leaf) (seq leaf (cond (seq leaf leaf) (seq leaf (cond (seq leaf leaf) (seq leaf (cond (seq leaf leaf) leaf)))))))))))) (seq leaf leaf)))
theorem F.granarylaw1_act.lift : LiftOk Tryd.prog 23 (ap2 F.granarylaw1_act) :=
  lift2 (g := evFn Tryd.prog (tcons 10 (ap2 F.disk_Disk_Create) (tcons 11 (ap3 F.disk_Disk_Append) (tcons 15 (ap2 F.disk_Disk_Remove) (tcons 20 (ap2 F.disk_Disk_Mkdir) (tcons 37 (ap3 F.disk_Disk_Rename) (tcons 42 (ap3 F.disk_Disk_Truncate) tnil)))))) tnil 23 Tryd.f23 F.granarylaw1_act.plan) (evFn_sound (tcons_ok F.disk_Disk_Create.lift (tcons_ok F.disk_Disk_Append.lift (tcons_ok F.disk_Disk_Remove.lift (tcons_ok F.disk_Disk_Mkdir.lift (tcons_ok F.disk_Disk_Rename.lift (tcons_ok F.disk_Disk_Truncate.lift tnil_ok)))))) tnil_ok Tryd.func23 (by kernel_rfl)) (fun x0 x1 => by kernel_rfl)

/-- (*granary/disk.Disk).Pending -/
noncomputable def F.disk_Disk_Pending (a0 : Value) : M Value :=
  bindO (eqV (EqSh.one EqK.ptr) a0 (Value.pointer none)) fun x1 =>
  condM x1 (
    M.ret (Value.int IntKind.i64 0)) (
    bindO (nilChk a0) fun x2 =>
    bindO (fieldA 9 x2) fun x3 =>
    M.bind (rdM (ld1 x3)) fun x4 =>
    bindO (lenL x4) fun x5 =>
    M.ret x5)
def F.disk_Disk_Pending.plan : Plan := (seq leaf (seq (seq leaf (cond (seq leaf leaf) leaf)) (seq leaf leaf)))
theorem F.disk_Disk_Pending.lift : LiftOk Tryd.prog 24 (ap1 F.disk_Disk_Pending) :=
  lift1 (g := evFn Tryd.prog tnil tnil 24 Tryd.f24 F.disk_Disk_Pending.plan) (evFn_sound tnil_ok tnil_ok Tryd.func24 (by kernel_rfl)) (fun x0 => by kernel_rfl)

/-- granary/granarylaw1.within -/
noncomputable def F.granarylaw1_within (a0 a1 : Value) : M Value :=
  bindO (binV BinOp.lss a0 (Value.int IntKind.i64 0)) fun x1 =>
  condM x1 (
    M.ret (Value.int IntKind.i64 0)) (
    bindO (binV BinOp.gtr a0 a1) fun x2 =>
    condM x2 (
      M.ret a1) (
      M.ret a0))
def F.granarylaw1_within.plan : Plan := (seq leaf (seq (seq leaf (cond (seq leaf leaf) leaf)) (seq (seq leaf (cond (seq leaf leaf) leaf)) (seq leaf leaf))))
theorem F.granarylaw1_within.lift : LiftOk Tryd.prog 25 (ap2 F.granarylaw1_within) :=
  lift2 (g := evFn Tryd.prog tnil tnil 25 Tryd.f25 F.granarylaw1_within.plan) (evFn_sound tnil_ok tnil_ok Tryd.func25 (by kernel_rfl)) (fun x0 x1 => by kernel_rfl)

/-- math/bits.Len32 -/
noncomputable def F.bits_Len32 (a0 : Value) : M Value :=
  M.bind (
    bindO (binV BinOp.geq a0 (Value.int IntKind.u32 65536)) fun x1 =>
    condM x1 (
      bindO (shV BinOp.shr a0 (Value.int IntKind.u64 16)) fun x2 =>
      M.ret (Out.norm [x2, (Value.int IntKind.i64 16)])) (
      M.ret (Out.norm [a0, (Value.int IntKind.i64 0)]))) fun o4 =>
  outK o4 (fun l3 =>
    M.bind (
      bindO (binV BinOp.geq (getL l3 0) (Value.int IntKind.u32 256)) fun x7 =>
      condM x7 (
        bindO (shV BinOp.shr (getL l3 0) (Value.int IntKind.u64 8)) fun x8 =>
        bindO (binV BinOp.add (getL l3 1) (Value.int IntKind.i64 8)) fun x9 =>
        M.ret (Out.norm [x8, x9])) (
        M.ret (Out.norm [(getL l3 0), (getL l3 1)]))) fun o11 =>
    outK o11 (fun l10 =>
      bindO (cvtI IntKind.u8 (getL l10 0)) fun x14 =>
      bindO (idxS (Value.string (ByteArray.mk #[0, 1, 2, 2, 3, 3, 3, 3, 4, 4, 4, 4, 4, 4, 4, 4, 5, 5, 5, 5, 5, 5, 5, 5, 5, 5, 5, 5, 5, 5, 5, 5, 6, 6, 6, 6, 6, 6, 6, 6, 6, 6, 6, 6, 6, 6, 6, 6, 6, 6, 6, 6, 6, 6, 6, 6, 6, 6, 6, 6, 6, 6, 6, 6, 7, 7, 7, 7, 7, 7, 7, 7, 7, 7, 7, 7, 7, 7, 7, 7, 7, 7, 7, 7, 7, 7, 7, 7, 7, 7, 7, 7, 7, 7, 7, 7, 7, 7, 7, 7, 7, 7, 7, 7, 7, 7, 7, 7, 7, 7, 7, 7, 7, 7, 7, 7, 7, 7, 7, 7, 7, 7, 7, 7, 7, 7, 7, 7, 8, 8, 8, 8, 8, 8, 8, 8, 8, 8, 8, 8, 8, 8, 8, 8, 8, 8, 8, 8, 8, 8, 8, 8, 8, 8, 8, 8, 8, 8, 8, 8, 8, 8, 8, 8, 8, 8, 8, 8, 8, 8, 8, 8, 8, 8, 8, 8, 8, 8, 8, 8, 8, 8, 8, 8, 8, 8, 8, 8, 8, 8, 8, 8, 8, 8, 8, 8, 8, 8, 8, 8, 8, 8, 8, 8, 8, 8, 8, 8, 8, 8, 8, 8, 8, 8, 8, 8, 8, 8, 8, 8, 8, 8, 8, 8, 8, 8, 8, 8, 8, 8, 8, 8, 8, 8, 8, 8, 8, 8, 8, 8, 8, 8, 8, 8, 8, 8, 8, 8, 8, 8, 8, 8, 8, 8, 8, 8])) x14) fun x15 =>
      bindO (cvtI IntKind.i64 x15) fun x16 =>
      bindO (binV BinOp.add (getL l10 1) x16) fun x17 =>
      M.ret x17) (fun _ _ =>
      M.fail) (fun r13 => M.ret r13)) (fun _ _ =>
    M.fail) (fun r6 => M.ret r6)
def F.bits_Len32.plan : Plan := (seq leaf (fork [0, 2] [0, 2, 3, 4, 5, 6] [] (seq leaf (cond (seq leaf leaf) leaf)) (fork [0, 2] [0, 2, 7, 8, 9, 10, 11, 12] [] (seq leaf (cond (seq leaf leaf) leaf)) (seq leaf leaf))))
theorem F.bits_Len32.lift : LiftOk Tryd.prog 65 (ap1 F.bits_Len32) :=
  lift1 (g := evFn Tryd.prog tnil tnil 65 Tryd.f65 F.bits_Len32.plan) (evFn_sound tnil_ok tnil_ok Tryd.func65 (by kernel_rfl)) (fun x0 => by kernel_rfl)

/-- math/bits.Len64 -/
noncomputable def F.bits_Len64 (a0 : Value) : M Value :=
  M.bind (
    bindO (binV BinOp.geq a0 (Value.int IntKind.u64 4294967296)) fun x1 =>
    condM x1 (
      bindO (shV BinOp.shr a0 (Value.int IntKind.u64 32)) fun x2 =>
      M.ret (Out.norm [x2, (Value.int IntKind.i64 32)])) (
      M.ret (Out.norm [a0, (Value.int IntKind.i64 0)]))) fun o4 =>
  outK o4 (fun l3 =>
    M.bind (
      bindO (binV BinOp.geq (getL l3 0) (Value.int IntKind.u64 65536)) fun x7 =>
      condM x7 (
        bindO (shV BinOp.shr (getL l3 0) (Value.int IntKind.u64 16)) fun x8 =>
        bindO (binV BinOp.add (getL l3 1) (Value.int IntKind.i64 16)) fun x9 =>
        M.ret (Out.norm [x8, x9])) (
        M.ret (Out.norm [(getL l3 0), (getL l3 1)]))) fun o11 =>
    outK o11 (fun l10 =>
      M.bind (
        bindO (binV BinOp.geq (getL l10 0) (Value.int IntKind.u64 256)) fun x14 =>
        condM x14 (
          bindO (shV BinOp.shr (getL l10 0) (Value.int IntKind.u64 8)) fun x15 =>
          bindO (binV BinOp.add (getL l10 1) (Value.int IntKind.i64 8)) fun x16 =>
          M.ret (Out.norm [x15, x16])) (
          M.ret (Out.norm [(getL l10 0), (getL l10 1)]))) fun o18 =>
      outK o18 (fun l17 =>
        bindO (cvtI IntKind.u8 (getL l17 0)) fun x21 =>
        bindO (idxS (Value.string (ByteArray.mk #[0, 1, 2, 2, 3, 3, 3, 3, 4, 4, 4, 4, 4, 4, 4, 4, 5, 5, 5, 5, 5, 5, 5, 5, 5, 5, 5, 5, 5, 5, 5, 5, 6, 6, 6, 6, 6, 6, 6, 6, 6, 6, 6, 6, 6, 6, 6, 6, 6, 6, 6, 6, 6, 6, 6, 6, 6, 6, 6, 6, 6, 6, 6, 6, 7, 7, 7, 7, 7, 7, 7, 7, 7, 7, 7, 7, 7, 7, 7, 7, 7, 7, 7, 7, 7, 7, 7, 7, 7, 7, 7, 7, 7, 7, 7, 7, 7, 7, 7, 7, 7, 7, 7, 7, 7, 7, 7, 7, 7, 7, 7, 7, 7, 7, 7, 7, 7, 7, 7, 7, 7, 7, 7, 7, 7, 7, 7, 7, 8, 8, 8, 8, 8, 8, 8, 8, 8, 8, 8, 8, 8, 8, 8, 8, 8, 8, 8, 8, 8, 8, 8, 8, 8, 8, 8, 8, 8, 8, 8, 8, 8, 8, 8, 8, 8, 8, 8, 8, 8, 8, 8, 8, 8, 8, 8, 8, 8, 8, 8, 8, 8, 8, 8, 8, 8, 8, 8, 8, 8, 8, 8, 8, 8, 8, 8, 8, 8, 8, 8, 8, 8, 8, 8, 8, 8, 8, 8, 8, 8, 8, 8, 8, 8, 8, 8, 8, 8, 8, 8, 8, 8, 8, 8, 8, 8, 8, 8, 8, 8, 8, 8, 8, 8, 8, 8, 8, 8, 8, 8, 8, 8, 8, 8, 8, 8, 8, 8, 8, 8, 8, 8, 8, 8, 8, 8, 8])) x21) fun x22 =>
        bindO (cvtI IntKind.i64 x22) fun x23 =>
        bindO (binV BinOp.add (getL l17 1) x23) fun x24 =>
        M.ret x24) (fun _ _ =>
        M.fail) (fun r20 => M.ret r20)) (fun _ _ =>
      M.fail) (fun r13 => M.ret r13)) (fun _ _ =>
    M.fail) (fun r6 => M.ret r6)
def F.bits_Len64.plan : Plan := (seq leaf (fork [0, 2] [0, 2, 3, 4, 5, 6] [] (seq leaf (cond (seq leaf leaf) leaf)) (fork [0, 2] [0, 2, 7, 8, 9, 10, 11, 12] [] (seq leaf (cond (seq leaf leaf) leaf)) (fork [0, 2] [0, 2, 13, 14, 15, 16, 17, 18] [] (seq leaf (cond (seq leaf leaf) leaf)) (seq leaf leaf)))))
theorem F.bits_Len64.lift : LiftOk Tryd.prog 66 (ap1 F.bits_Len64) :=
  lift1 (g := evFn Tryd.prog tnil tnil 66 Tryd.f66 F.bits_Len64.plan) (evFn_sound tnil_ok tnil_ok Tryd.func66 (by kernel_rfl)) (fun x0 => by kernel_rfl)

/-- (*granary/disk.Disk).Dump$1 -/
noncomputable def F.disk_Disk_Dump_1 (a0 a1 : Value) : M Value :=
  M.bind (newM 54 (Value.cells a0)) fun x1 =>
  M.bind (newM 54 (Value.cells a1)) fun x2 =>
  bindO (fieldA 0 x1) fun x3 =>
  M.bind (rdM (ld1 x3)) fun x4 =>
  bindO (fieldA 0 x2) fun x5 =>
  M.bind (rdM (ld1 x5)) fun x6 =>
  M.bind (F.strings_Compare x4 x6) fun x7 =>
  M.ret x7
def F.disk_Disk_Dump_1.plan : Plan := (seq leaf (seq leaf leaf))
theorem F.disk_Disk_Dump_1.lift : LiftOk Tryd.prog 44 (ap2 F.disk_Disk_Dump_1) :=
  lift2 (g := evFn Tryd.prog (tcons 45 (ap2 F.strings_Compare) tnil) tnil 44 Tryd.f44 F.disk_Disk_Dump_1.plan) (evFn_sound (tcons_ok F.strings_Compare.lift tnil_ok) tnil_ok Tryd.func44 (by kernel_rfl)) (fun x0 x1 => by kernel_rfl)

/-- What function values come to. -/
noncomputable def F.clos : Tab := (tcons 44 (ap2 F.disk_Disk_Dump_1) tnil)
theorem F.clos_ok : TabOk Tryd.prog F.clos := (tcons_ok F.disk_Disk_Dump_1.lift tnil_ok)

/-- slices.insertionSortCmpFunc[granary/api.Stored] -/
noncomputable def F.slices_insertionSortCmpFunc_Stored (a0 a1 a2 a3 : Value) : M Value :=
  bindO (binV BinOp.add a1 (Value.int IntKind.i64 1)) fun x1 =>
  M.bind (loopM (fun l2 =>
    bindO (binV BinOp.lss (getL l2 0) a2) fun x3 =>
    condM x3 (
      M.bind (loopM (fun l4 =>
        drewM <|
        bindO (binV BinOp.gtr (getL l4 0) a1) fun x5 =>
        M.bind (guardM x5 true (M.ret a3)) fun x6 =>
        M.bind (guardM x5 true (M.ret a0)) fun x7 =>
        M.bind (guardM x5 true (M.ret (getL l4 0))) fun x8 =>
        M.bind (guardM x5 true (optM (idxA 3 x7 x8))) fun x9 =>
        M.bind (guardM x5 true (rdM (ldA 3 x9))) fun x10 =>
        M.bind (guardM x5 true (M.ret a0)) fun x11 =>
        M.bind (guardM x5 true (M.ret (getL l4 0))) fun x12 =>
        M.bind (guardM x5 true (optM (binV BinOp.sub x12 (Value.int IntKind.i64 1)))) fun x13 =>
        M.bind (guardM x5 true (optM (idxA 3 x11 x13))) fun x14 =>
        M.bind (guardM x5 true (rdM (ldA 3 x14))) fun x15 =>
        M.bind (guardM x5 true (callV F.clos x6 [x10, x15])) fun x16 =>
        M.bind (guardM x5 true (optM (binV BinOp.lss x16 (Value.int IntKind.i64 0)))) fun x17 =>
        bindO (pickV x5 x17 (Value.bool false)) fun x18 =>
        condM x18 (
          drewM <|
          bindO (binV BinOp.sub (getL l4 0) (Value.int IntKind.i64 1)) fun x19 =>
          bindO (binV BinOp.sub (getL l4 0) (Value.int IntKind.i64 1)) fun x20 =>
          bindO (idxA 3 a0 x20) fun x21 =>
          M.bind (rdM (ldA 3 x21)) fun x22 =>
          bindO (idxA 3 a0 (getL l4 0)) fun x23 =>
          M.bind (rdM (ldA 3 x23)) fun x24 =>
          bindO (idxA 3 a0 (getL l4 0)) fun x25 =>
          M.bind (stM 3 x25 x22) fun _ =>
          bindO (idxA 3 a0 x19) fun x27 =>
          M.bind (stM 3 x27 x24) fun _ =>
          bindO (binV BinOp.sub (getL l4 0) (Value.int IntKind.i64 1)) fun x29 =>
          M.ret (Out.norm [x29])) (
          M.ret (Out.exit 2 [(getL l4 0)]))) [(getL l2 0)]) fun o31 =>
      outK o31 (fun _ => M.fail) (fun k32 _ =>
        bif Nat.beq k32 2 then (
          bindO (binV BinOp.add (getL l2 0) (Value.int IntKind.i64 1)) fun x34 =>
          M.ret (Out.norm [x34])) else
        M.fail) (fun r33 => M.ret (Out.ret r33))) (
      M.ret (Out.exit 0 [(getL l2 0)]))) [x1]) fun o36 =>
  outK o36 (fun _ => M.fail) (fun k37 _ =>
    bif Nat.beq k37 0 then (
      M.ret (Value.tuple #[])) else
    M.fail) (fun r38 => M.ret r38)
def F.slices_insertionSortCmpFunc_Stored.plan : Plan := (seq leaf (body (loop [8] [8, 9, 12, 13, 14, 15, 16, 17, 18, 19, 20, 21, 22, 23, 24, 25, 26, 27, 28, 29, 30, 31, 32, 33, 34, 35, 36, 37, 38, 39, 40, 41, 42, 43, 44, 45, 46, 47, 48, 49, 50, 51, 52] [0] (seq (seq leaf (cond leaf leaf)) (seq (body (seq leaf (body (loop [9] [9, 18, 19, 20, 21, 22, 23, 24, 25, 26, 27, 28, 29, 30, 31, 32, 33, 34, 35, 36, 37, 38, 39, 40, 41, 42, 43, 44, 45, 46, 47, 48, 49, 50, 51, 52] [2] (seq (seq leaf (cond leaf leaf)) (seq (body leaf) leaf)))))) leaf)))))
theorem F.slices_insertionSortCmpFunc_Stored.lift : LiftOk Tryd.prog 57 (ap4 F.slices_insertionSortCmpFunc_Stored) :=
  lift4 (g := evFn Tryd.prog tnil F.clos 57 Tryd.f57 F.slices_insertionSortCmpFunc_Stored.plan) (evFn_sound tnil_ok F.clos_ok Tryd.func57 (by kernel_rfl)) (fun x0 x1 x2 x3 => by kernel_rfl)

/-- slices.siftDownCmpFunc[granary/api.Stored] -/
noncomputable def F.slices_siftDownCmpFunc_Stored (a0 a1 a2 a3 a4 : Value) : M Value :=
  M.bind (loopM (fun l1 =>
    bindO (binV BinOp.mul (Value.int IntKind.i64 2) (getL l1 0)) fun x2 =>
    bindO (binV BinOp.add x2 (Value.int IntKind.i64 1)) fun x3 =>
    bindO (binV BinOp.geq x3 a2) fun x4 =>
    condM x4 (
      M.ret (Out.exit 0 [(getL l1 0)])) (
      M.bind (
        drewM <|
        bindO (binV BinOp.add x3 (Value.int IntKind.i64 1)) fun x5 =>
        bindO (binV BinOp.lss x5 a2) fun x6 =>
        M.bind (guardM x6 true (M.ret a4)) fun x7 =>
        M.bind (guardM x6 true (M.ret a0)) fun x8 =>
        M.bind (guardM x6 true (M.ret a3)) fun x9 =>
        M.bind (guardM x6 true (M.ret x3)) fun x10 =>
        M.bind (guardM x6 true (optM (binV BinOp.add x9 x10))) fun x11 =>
        M.bind (guardM x6 true (optM (idxA 3 x8 x11))) fun x12 =>
        M.bind (guardM x6 true (rdM (ldA 3 x12))) fun x13 =>
        M.bind (guardM x6 true (M.ret a0)) fun x14 =>
        M.bind (guardM x6 true (M.ret a3)) fun x15 =>
        M.bind (guardM x6 true (M.ret x3)) fun x16 =>
        M.bind (guardM x6 true (optM (binV BinOp.add x15 x16))) fun x17 =>
        M.bind (guardM x6 true (optM (binV BinOp.add x17 (Value.int IntKind.i64 1)))) fun x18 =>
        M.bind (guardM x6 true (optM (idxA 3 x14 x18))) fun x19 =>
        M.bind (guardM x6 true (rdM (ldA 3 x19))) fun x20 =>
        M.bind (guardM x6 true (callV F.clos x7 [x13, x20])) fun x21 =>
        M.bind (guardM x6 true (optM (binV BinOp.lss x21 (Value.int IntKind.i64 0)))) fun x22 =>
        bindO (pickV x6 x22 (Value.bool false)) fun x23 =>
        condM x23 (
          bindO (binV BinOp.add x3 (Value.int IntKind.i64 1)) fun x24 =>
          M.ret (Out.norm [x24])) (
          M.ret (Out.norm [x3]))) fun o26 =>
      outK o26 (fun l25 =>
        drewM <|
        bindO (binV BinOp.add a3 (getL l1 0)) fun x29 =>
        bindO (idxA 3 a0 x29) fun x30 =>
        M.bind (rdM (ldA 3 x30)) fun x31 =>
        bindO (binV BinOp.add a3 (getL l25 0)) fun x32 =>
        bindO (idxA 3 a0 x32) fun x33 =>
        M.bind (rdM (ldA 3 x33)) fun x34 =>
        M.bind (callV F.clos a4 [x31, x34]) fun x35 =>
        bindO (binV BinOp.lss x35 (Value.int IntKind.i64 0)) fun x36 =>
        bindO (notV x36) fun x37 =>
        condM x37 (
          M.ret (Out.ret (Value.tuple #[]))) (
          drewM <|
          bindO (binV BinOp.add a3 (getL l1 0)) fun x38 =>
          bindO (binV BinOp.add a3 (getL l25 0)) fun x39 =>
          bindO (binV BinOp.add a3 (getL l25 0)) fun x40 =>
          bindO (idxA 3 a0 x40) fun x41 =>
          M.bind (rdM (ldA 3 x41)) fun x42 =>
          bindO (binV BinOp.add a3 (getL l1 0)) fun x43 =>
          bindO (idxA 3 a0 x43) fun x44 =>
          M.bind (rdM (ldA 3 x44)) fun x45 =>
          bindO (idxA 3 a0 x38) fun x46 =>
          M.bind (stM 3 x46 x42) fun _ =>
          bindO (idxA 3 a0 x39) fun x48 =>
          M.bind (stM 3 x48 x45) fun _ =>
          M.ret (Out.norm [(getL l25 0)]))) (fun _ _ =>
        M.fail) (fun r28 => M.ret (Out.ret r28)))) [a1]) fun o52 =>
  outK o52 (fun _ => M.fail) (fun k53 _ =>
    bif Nat.beq k53 0 then (
      M.ret (Value.tuple #[])) else
    M.fail) (fun r54 => M.ret r54)
def F.slices_siftDownCmpFunc_Stored.plan : Plan := (seq leaf (body (loop [10] [10, 11, 13, 14, 15, 16, 17, 18, 19, 20, 21, 22, 23, 24, 25, 26, 27, 28, 29, 30, 31, 32, 33, 34, 35, 36, 37, 38, 39, 40, 41, 42, 43, 44, 45, 46, 47, 48, 49, 50, 51, 52, 53, 54, 55, 56, 57, 58, 59, 60, 61, 62, 63, 64, 65, 66, 67, 68, 69, 70, 71, 72, 73, 74, 75, 76, 77, 78, 79, 80, 81] [0] (body (seq leaf (seq (seq leaf (cond leaf leaf)) (fork [11] [11, 19, 20, 21, 22, 23, 24, 25, 26, 27, 28, 29, 30, 31, 32, 33, 34, 35, 36, 37, 38, 39, 40, 41, 42] [] (seq leaf (cond leaf leaf)) (seq (seq leaf (cond leaf leaf)) (seq leaf leaf)))))))))
theorem F.slices_siftDownCmpFunc_Stored.lift : LiftOk Tryd.prog 75 (ap5 F.slices_siftDownCmpFunc_Stored) :=
  lift5 (g := evFn Tryd.prog tnil F.clos 75 Tryd.f75 F.slices_siftDownCmpFunc_Stored.plan) (evFn_sound tnil_ok F.clos_ok Tryd.func75 (by kernel_rfl)) (fun x0 x1 x2 x3 x4 => by kernel_rfl)

/-- slices.heapSortCmpFunc[granary/api.Stored] -/
noncomputable def F.slices_heapSortCmpFunc_Stored (a0 a1 a2 a3 : Value) : M Value :=
  bindO (binV BinOp.sub a2 a1) fun x1 =>
  bindO (binV BinOp.sub x1 (Value.int IntKind.i64 1)) fun x2 =>
  bindO (binV BinOp.quo x2 (Value.int IntKind.i64 2)) fun x3 =>
  M.bind (loopM (fun l4 =>
    bindO (binV BinOp.geq (getL l4 0) (Value.int IntKind.i64 0)) fun x5 =>
    condM x5 (
      M.bind (F.slices_siftDownCmpFunc_Stored a0 (getL l4 0) x1 a1 a3) fun _ =>
      bindO (binV BinOp.sub (getL l4 0) (Value.int IntKind.i64 1)) fun x7 =>
      M.ret (Out.norm [x7])) (
      M.ret (Out.exit 0 [(getL l4 0)]))) [x3]) fun o9 =>
  outK o9 (fun _ => M.fail) (fun k10 _ =>
    bif Nat.beq k10 0 then (
      bindO (binV BinOp.sub x1 (Value.int IntKind.i64 1)) fun x12 =>
      M.bind (loopM (fun l13 =>
        bindO (binV BinOp.geq (getL l13 0) (Value.int IntKind.i64 0)) fun x14 =>
        condM x14 (
          drewM <|
          bindO (binV BinOp.add a1 (getL l13 0)) fun x15 =>
          bindO (binV BinOp.add a1 (getL l13 0)) fun x16 =>
          bindO (idxA 3 a0 x16) fun x17 =>
          M.bind (rdM (ldA 3 x17)) fun x18 =>
          bindO (idxA 3 a0 a1) fun x19 =>
          M.bind (rdM (ldA 3 x19)) fun x20 =>
          bindO (idxA 3 a0 a1) fun x21 =>
          M.bind (stM 3 x21 x18) fun _ =>
          bindO (idxA 3 a0 x15) fun x23 =>
          M.bind (stM 3 x23 x20) fun _ =>
          M.bind (F.slices_siftDownCmpFunc_Stored a0 (Value.int IntKind.i64 0) (getL l13 0) a1 a3) fun _ =>
          bindO (binV BinOp.sub (getL l13 0) (Value.int IntKind.i64 1)) fun x26 =>
          M.ret (Out.norm [x26])) (
          M.ret (Out.exit 2 [(getL l13 0)]))) [x12]) fun o28 =>
      outK o28 (fun _ => M.fail) (fun k29 _ =>
        bif Nat.beq k29 2 then (
          M.ret (Value.tuple #[])) else
        M.fail) (fun r30 => M.ret r30)) else
    M.fail) (fun r11 => M.ret r11)
def F.slices_heapSortCmpFunc_Stored.plan : Plan := (seq leaf (seq leaf (seq leaf (seq (seq leaf (body (loop [11] [11, 20, 21, 22, 23, 24, 25, 26, 27, 28, 29] [0] (seq (seq leaf (cond leaf leaf)) (seq (body leaf) leaf))))) (seq leaf (body (loop [12] [12, 32, 33, 34, 35, 36, 37, 38, 39, 40, 41, 42, 43, 44, 45, 46, 47, 48, 49, 50, 51, 52, 53, 54, 55, 56, 57, 58, 59] [2] (seq (seq leaf (cond leaf leaf)) (seq (body (seq leaf leaf)) leaf)))))))))
theorem F.slices_heapSortCmpFunc_Stored.lift : LiftOk Tryd.prog 58 (ap4 F.slices_heapSortCmpFunc_Stored) :=
  lift4 (g := evFn Tryd.prog (tcons 75 (ap5 F.slices_siftDownCmpFunc_Stored) tnil) tnil 58 Tryd.f58 F.slices_heapSortCmpFunc_Stored.plan) (evFn_sound (tcons_ok F.slices_siftDownCmpFunc_Stored.lift tnil_ok) tnil_ok Tryd.func58 (by kernel_rfl)) (fun x0 x1 x2 x3 => by kernel_rfl)

/-- slices.nextPowerOfTwo -/
noncomputable def F.slices_nextPowerOfTwo (a0 : Value) : M Value :=
  bindO (cvtI IntKind.u64 a0) fun x1 =>
  M.bind (F.bits_Len x1) fun x2 =>
  bindO (shV BinOp.shl (Value.int IntKind.u64 1) x2) fun x3 =>
  M.ret x3
def F.slices_nextPowerOfTwo.plan : Plan := (seq leaf (seq leaf leaf))
theorem F.slices_nextPowerOfTwo.lift : LiftOk Tryd.prog 76 (ap1 F.slices_nextPowerOfTwo) :=
  lift1 (g := evFn Tryd.prog (tcons 51 (ap1 F.bits_Len) tnil) tnil 76 Tryd.f76 F.slices_nextPowerOfTwo.plan) (evFn_sound (tcons_ok F.bits_Len.lift tnil_ok) tnil_ok Tryd.func76 (by kernel_rfl)) (fun x0 => by kernel_rfl)

/-- (*slices.xorshift).Next -/
noncomputable def F.slices_xorshift_Next (a0 : Value) : M Value :=
  drewM <|
  bindO (nilChk a0) fun x1 =>
  M.bind (rdM (ld1 x1)) fun x2 =>
  bindO (nilChk a0) fun x3 =>
  M.bind (rdM (ld1 x3)) fun x4 =>
  bindO (shV BinOp.shl x4 (Value.int IntKind.u64 13)) fun x5 =>
  bindO (binV BinOp.xor x2 x5) fun x6 =>
  bindO (nilChk a0) fun x7 =>
  M.bind (stM 1 x7 x6) fun _ =>
  drewM <|
  bindO (nilChk a0) fun x9 =>
  M.bind (rdM (ld1 x9)) fun x10 =>
  bindO (nilChk a0) fun x11 =>
  M.bind (rdM (ld1 x11)) fun x12 =>
  bindO (shV BinOp.shr x12 (Value.int IntKind.u64 7)) fun x13 =>
  bindO (binV BinOp.xor x10 x13) fun x14 =>
  bindO (nilChk a0) fun x15 =>
  M.bind (stM 1 x15 x14) fun _ =>
  drewM <|
  bindO (nilChk a0) fun x17 =>
  M.bind (rdM (ld1 x17)) fun x18 =>
  bindO (nilChk a0) fun x19 =>
  M.bind (rdM (ld1 x19)) fun x20 =>
  bindO (shV BinOp.shl x20 (Value.int IntKind.u64 17)) fun x21 =>
  bindO (binV BinOp.xor x18 x21) fun x22 =>
  bindO (nilChk a0) fun x23 =>
  M.bind (stM 1 x23 x22) fun _ =>
  bindO (nilChk a0) fun x25 =>
  M.bind (rdM (ld1 x25)) fun x26 =>
  M.ret x26
def F.slices_xorshift_Next.plan : Plan := (seq leaf (seq leaf (seq leaf (seq leaf (seq leaf leaf)))))
theorem F.slices_xorshift_Next.lift : LiftOk Tryd.prog 77 (ap1 F.slices_xorshift_Next) :=
  lift1 (g := evFn Tryd.prog tnil tnil 77 Tryd.f77 F.slices_xorshift_Next.plan) (evFn_sound tnil_ok tnil_ok Tryd.func77 (by kernel_rfl)) (fun x0 => by kernel_rfl)

/-- slices.breakPatternsCmpFunc[granary/api.Stored] -/
noncomputable def F.slices_breakPatternsCmpFunc_Stored (a0 a1 a2 _a3 : Value) : M Value :=
  bindO (binV BinOp.sub a2 a1) fun x1 =>
  bindO (binV BinOp.geq x1 (Value.int IntKind.i64 8)) fun x2 =>
  condM x2 (
    bindO (cvtI IntKind.u64 x1) fun x3 =>
    M.bind (newM 120 #[(Value.int IntKind.u64 0)]) fun x4 =>
    M.bind (stM 1 x4 x3) fun _ =>
    M.bind (F.slices_nextPowerOfTwo x1) fun x6 =>
    bindO (binV BinOp.quo x1 (Value.int IntKind.i64 4)) fun x7 =>
    bindO (binV BinOp.mul x7 (Value.int IntKind.i64 2)) fun x8 =>
    bindO (binV BinOp.add a1 x8) fun x9 =>
    bindO (binV BinOp.sub x9 (Value.int IntKind.i64 1)) fun x10 =>
    M.bind (loopM (fun l11 =>
      bindO (binV BinOp.quo x1 (Value.int IntKind.i64 4)) fun x12 =>
      bindO (binV BinOp.mul x12 (Value.int IntKind.i64 2)) fun x13 =>
      bindO (binV BinOp.add a1 x13) fun x14 =>
      bindO (binV BinOp.add x14 (Value.int IntKind.i64 1)) fun x15 =>
      bindO (binV BinOp.leq (getL l11 0) x15) fun x16 =>
      condM x16 (
        M.bind (F.slices_xorshift_Next x4) fun x17 =>
        bindO (binV BinOp.sub x6 (Value.int IntKind.u64 1)) fun x18 =>
        bindO (binV BinOp.and x17 x18) fun x19 =>
        bindO (cvtI IntKind.i64 x19) fun x20 =>
        M.bind (
          bindO (binV BinOp.geq x20 x1) fun x21 =>
          condM x21 (
            bindO (binV BinOp.sub x20 x1) fun x22 =>
            M.ret (Out.norm [x22])) (
            M.ret (Out.norm [x20]))) fun o24 =>
        outK o24 (fun l23 =>
          drewM <|
          bindO (binV BinOp.add a1 (getL l23 0)) fun x27 =>
          bindO (binV BinOp.add a1 (getL l23 0)) fun x28 =>
          bindO (idxA 3 a0 x28) fun x29 =>
          M.bind (rdM (ldA 3 x29)) fun x30 =>
          bindO (idxA 3 a0 (getL l11 0)) fun x31 =>
          M.bind (rdM (ldA 3 x31)) fun x32 =>
          bindO (idxA 3 a0 (getL l11 0)) fun x33 =>
          M.bind (stM 3 x33 x30) fun _ =>
          bindO (idxA 3 a0 x27) fun x35 =>
          M.bind (stM 3 x35 x32) fun _ =>
          bindO (binV BinOp.add (getL l11 0) (Value.int IntKind.i64 1)) fun x37 =>
          M.ret (Out.norm [x37])) (fun _ _ =>
          M.fail) (fun r26 => M.ret (Out.ret r26))) (
        M.ret (Out.exit 0 [(getL l11 0)]))) [x10]) fun o40 =>
    outK o40 (fun _ => M.fail) (fun k41 _ =>
      bif Nat.beq k41 0 then (
        M.ret (Value.tuple #[])) else
      M.fail) (fun r42 => M.ret r42)) (
    M.ret (Value.tuple #[]))
def F.slices_breakPatternsCmpFunc_Stored.plan : Plan := (seq leaf (seq leaf (cond (seq leaf (seq leaf (seq leaf (body (loop [11] [11, 12, 28, 29, 30, 31, 32, 33, 34, 35, 36, 37, 38, 39, 40, 41, 42, 43, 44, 45, 46, 47, 48, 49, 50, 51, 52, 53, 54, 55, 56, 57, 58, 59, 60, 61, 62, 63, 64, 65, 66] [0] (seq (seq leaf (cond leaf leaf)) (seq (body (seq leaf (fork [12] [12, 43, 44, 45, 46, 47, 48] [] (seq leaf (cond leaf leaf)) leaf))) leaf))))))) leaf)))
theorem F.slices_breakPatternsCmpFunc_Stored.lift : LiftOk Tryd.prog 59 (ap4 F.slices_breakPatternsCmpFunc_Stored) :=
  lift4 (g := evFn Tryd.prog (tcons 76 (ap1 F.slices_nextPowerOfTwo) (tcons 77 (ap1 F.slices_xorshift_Next) tnil)) tnil 59 Tryd.f59 F.slices_breakPatternsCmpFunc_Stored.plan) (evFn_sound (tcons_ok F.slices_nextPowerOfTwo.lift (tcons_ok F.slices_xorshift_Next.lift tnil_ok)) tnil_ok Tryd.func59 (by kernel_rfl)) (fun x0 x1 x2 x3 => by kernel_rfl)

/-- slices.order2CmpFunc[granary/api.Stored] -/
noncomputable def F.slices_order2CmpFunc_Stored (a0 a1 a2 a3 a4 : Value) : M Value :=
  drewM <|
  bindO (idxA 3 a0 a2) fun x1 =>
  M.bind (rdM (ldA 3 x1)) fun x2 =>
  bindO (idxA 3 a0 a1) fun x3 =>
  M.bind (rdM (ldA 3 x3)) fun x4 =>
  M.bind (callV F.clos a4 [x2, x4]) fun x5 =>
  bindO (binV BinOp.lss x5 (Value.int IntKind.i64 0)) fun x6 =>
  condM x6 (
    bindO (nilChk a3) fun x7 =>
    M.bind (rdM (ld1 x7)) fun x8 =>
    bindO (binV BinOp.add x8 (Value.int IntKind.i64 1)) fun x9 =>
    bindO (nilChk a3) fun x10 =>
    M.bind (stM 1 x10 x9) fun _ =>
    M.ret (Value.tuple #[a2, a1])) (
    M.ret (Value.tuple #[a1, a2]))
def F.slices_order2CmpFunc_Stored.plan : Plan := (seq leaf (seq (seq leaf (cond (seq leaf (seq leaf leaf)) leaf)) (seq leaf leaf)))
theorem F.slices_order2CmpFunc_Stored.lift : LiftOk Tryd.prog 84 (ap5 F.slices_order2CmpFunc_Stored) :=
  lift5 (g := evFn Tryd.prog tnil F.clos 84 Tryd.f84 F.slices_order2CmpFunc_Stored.plan) (evFn_sound tnil_ok F.clos_ok Tryd.func84 (by kernel_rfl)) (fun x0 x1 x2 x3 x4 => by kernel_rfl)

/-- slices.medianCmpFunc[granary/api.Stored] -/
noncomputable def F.slices_medianCmpFunc_Stored (a0 a1 a2 a3 a4 a5 : Value) : M Value :=
  M.bind (F.slices_order2CmpFunc_Stored a0 a1 a2 a4 a5) fun x1 =>
  bindO (extV 0 x1) fun x2 =>
  bindO (extV 1 x1) fun x3 =>
  M.bind (F.slices_order2CmpFunc_Stored a0 x3 a3 a4 a5) fun x4 =>
  bindO (extV 0 x4) fun x5 =>
  bindO (extV 1 x4) fun _ =>
  M.bind (F.slices_order2CmpFunc_Stored a0 x2 x5 a4 a5) fun x7 =>
  bindO (extV 0 x7) fun _ =>
  bindO (extV 1 x7) fun x9 =>
  M.ret x9
def F.slices_medianCmpFunc_Stored.plan : Plan := (seq leaf (seq leaf (seq leaf (seq leaf (seq leaf leaf)))))
theorem F.slices_medianCmpFunc_Stored.lift : LiftOk Tryd.prog 79 (ap6 F.slices_medianCmpFunc_Stored) :=
  lift6 (g := evFn Tryd.prog (tcons 84 (ap5 F.slices_order2CmpFunc_Stored) tnil) tnil 79 Tryd.f79 F.slices_medianCmpFunc_Stored.plan) (evFn_sound (tcons_ok F.slices_order2CmpFunc_Stored.lift tnil_ok) tnil_ok Tryd.func79 (by kernel_rfl)) (fun x0 x1 x2 x3 x4 x5 => by kernel_rfl)

/-- slices.medianAdjacentCmpFunc[granary/api.Stored] -/
noncomputable def F.slices_medianAdjacentCmpFunc_Stored (a0 a1 a2 a3 : Value) : M Value :=
  bindO (binV BinOp.sub a1 (Value.int IntKind.i64 1)) fun x1 =>
  bindO (binV BinOp.add a1 (Value.int IntKind.i64 1)) fun x2 =>
  M.bind (F.slices_medianCmpFunc_Stored a0 x1 a1 x2 a2 a3) fun x3 =>
  M.ret x3
def F.slices_medianAdjacentCmpFunc_Stored.plan : Plan := (seq leaf (seq leaf leaf))
theorem F.slices_medianAdjacentCmpFunc_Stored.lift : LiftOk Tryd.prog 78 (ap4 F.slices_medianAdjacentCmpFunc_Stored) :=
  lift4 (g := evFn Tryd.prog (tcons 79 (ap6 F.slices_medianCmpFunc_Stored) tnil) tnil 78 Tryd.f78 F.slices_medianAdjacentCmpFunc_Stored.plan) (evFn_sound (tcons_ok F.slices_medianCmpFunc_Stored.lift tnil_ok) tnil_ok Tryd.func78 (by kernel_rfl)) (fun x0 x1 x2 x3 => by kernel_rfl)

/-- slices.choosePivotCmpFunc[granary/api.Stored] -/
noncomputable def F.slices_choosePivotCmpFunc_Stored (a0 a1 a2 a3 : Value) : M Value :=
  bindO (binV BinOp.sub a2 a1) fun x1 =>
  M.bind (newM 3 #[(Value.int IntKind.i64 0)]) fun x2 =>
  bindO (binV BinOp.quo x1 (Value.int IntKind.i64 4)) fun x3 =>
  bindO (binV BinOp.mul x3 (Value.int IntKind.i64 1)) fun x4 =>
  bindO (binV BinOp.add a1 x4) fun x5 =>
  bindO (binV BinOp.quo x1 (Value.int IntKind.i64 4)) fun x6 =>
  bindO (binV BinOp.mul x6 (Value.int IntKind.i64 2)) fun x7 =>
  bindO (binV BinOp.add a1 x7) fun x8 =>
  bindO (binV BinOp.quo x1 (Value.int IntKind.i64 4)) fun x9 =>
  bindO (binV BinOp.mul x9 (Value.int IntKind.i64 3)) fun x10 =>
  bindO (binV BinOp.add a1 x10) fun x11 =>
  M.bind (
    bindO (binV BinOp.geq x1 (Value.int IntKind.i64 8)) fun x12 =>
    condM x12 (
      M.bind (
        bindO (binV BinOp.geq x1 (Value.int IntKind.i64 50)) fun x13 =>
        condM x13 (
          M.bind (F.slices_medianAdjacentCmpFunc_Stored a0 x5 x2 a3) fun x14 =>
          M.bind (F.slices_medianAdjacentCmpFunc_Stored a0 x8 x2 a3) fun x15 =>
          M.bind (F.slices_medianAdjacentCmpFunc_Stored a0 x11 x2 a3) fun x16 =>
          M.ret (Out.norm [x14, x15, x16])) (
          M.ret (Out.norm [x5, x8, x11]))) fun o18 =>
      outK o18 (fun l17 =>
        M.bind (F.slices_medianCmpFunc_Stored a0 (getL l17 0) (getL l17 1) (getL l17 2) x2 a3) fun x21 =>
        M.ret (Out.norm [x21])) (fun _ _ =>
        M.fail) (fun r20 => M.ret (Out.ret r20))) (
      M.ret (Out.norm [x8]))) fun o24 =>
  outK o24 (fun l23 =>
    M.bind (rdM (ld1 x2)) fun x27 =>
    bindO (binV BinOp.eql x27 (Value.int IntKind.i64 0)) fun x28 =>
    condM x28 (
      M.ret (Value.tuple #[(getL l23 0), (Value.int IntKind.i64 1)])) (
      bindO (binV BinOp.eql x27 (Value.int IntKind.i64 12)) fun x29 =>
      condM x29 (
        M.ret (Value.tuple #[(getL l23 0), (Value.int IntKind.i64 2)])) (
        M.ret (Value.tuple #[(getL l23 0), (Value.int IntKind.i64 0)])))) (fun _ _ =>
    M.fail) (fun r26 => M.ret r26)
def F.slices_choosePivotCmpFunc_Stored.plan : Plan := (seq leaf (seq leaf (seq leaf (seq leaf (seq leaf (seq leaf (fork [13] [12, 13, 14, 33, 34, 35, 36, 37, 38, 39, 40, 41, 42, 43, 44, 45, 46, 47, 48, 49, 50, 51, 52, 53, 54] [] (seq leaf (cond (fork [12, 13, 14] [12, 13, 14, 35, 36, 37, 38, 39, 40, 41, 42, 43, 44, 45, 46, 47, 48] [] (seq leaf (cond (seq leaf (seq leaf leaf)) leaf)) leaf) leaf)) (seq leaf (body (seq leaf (cond (seq leaf leaf) (seq leaf (cond (seq leaf leaf) (seq leaf leaf))))))))))))))
theorem F.slices_choosePivotCmpFunc_Stored.lift : LiftOk Tryd.prog 60 (ap4 F.slices_choosePivotCmpFunc_Stored) :=
  lift4 (g := evFn Tryd.prog (tcons 78 (ap4 F.slices_medianAdjacentCmpFunc_Stored) (tcons 79 (ap6 F.slices_medianCmpFunc_Stored) tnil)) tnil 60 Tryd.f60 F.slices_choosePivotCmpFunc_Stored.plan) (evFn_sound (tcons_ok F.slices_medianAdjacentCmpFunc_Stored.lift (tcons_ok F.slices_medianCmpFunc_Stored.lift tnil_ok)) tnil_ok Tryd.func60 (by kernel_rfl)) (fun x0 x1 x2 x3 => by kernel_rfl)

/-- slices.reverseRangeCmpFunc[granary/api.Stored] -/
noncomputable def F.slices_reverseRangeCmpFunc_Stored (a0 a1 a2 _a3 : Value) : M Value :=
  bindO (binV BinOp.sub a2 (Value.int IntKind.i64 1)) fun x1 =>
  M.bind (loopM (fun l2 =>
    bindO (binV BinOp.lss (getL l2 0) (getL l2 1)) fun x3 =>
    condM x3 (
      drewM <|
      bindO (idxA 3 a0 (getL l2 1)) fun x4 =>
      M.bind (rdM (ldA 3 x4)) fun x5 =>
      bindO (idxA 3 a0 (getL l2 0)) fun x6 =>
      M.bind (rdM (ldA 3 x6)) fun x7 =>
      bindO (idxA 3 a0 (getL l2 0)) fun x8 =>
      M.bind (stM 3 x8 x5) fun _ =>
      bindO (idxA 3 a0 (getL l2 1)) fun x10 =>
      M.bind (stM 3 x10 x7) fun _ =>
      bindO (binV BinOp.add (getL l2 0) (Value.int IntKind.i64 1)) fun x12 =>
      bindO (binV BinOp.sub (getL l2 1) (Value.int IntKind.i64 1)) fun x13 =>
      M.ret (Out.norm [x12, x13])) (
      M.ret (Out.exit 0 [(getL l2 0), (getL l2 1)]))) [a1, x1]) fun o15 =>
  outK o15 (fun _ => M.fail) (fun k16 _ =>
    bif Nat.beq k16 0 then (
      M.ret (Value.tuple #[])) else
    M.fail) (fun r17 => M.ret r17)
def F.slices_reverseRangeCmpFunc_Stored.plan : Plan := (seq leaf (seq leaf (body (loop [8, 9] [8, 9, 13, 14, 15, 16, 17, 18, 19, 20, 21, 22, 23, 24, 25, 26, 27, 28, 29, 30, 31, 32, 33] [0] (seq (seq leaf (cond leaf leaf)) (body (seq leaf (seq leaf leaf))))))))
theorem F.slices_reverseRangeCmpFunc_Stored.lift : LiftOk Tryd.prog 61 (ap4 F.slices_reverseRangeCmpFunc_Stored) :=
  lift4 (g := evFn Tryd.prog tnil tnil 61 Tryd.f61 F.slices_reverseRangeCmpFunc_Stored.plan) (evFn_sound tnil_ok tnil_ok Tryd.func61 (by kernel_rfl)) (fun x0 x1 x2 x3 => by kernel_rfl)

/-- slices.partialInsertionSortCmpFunc[granary/api.Stored] -/
noncomputable def F.slices_partialInsertionSortCmpFunc_Stored (a0 a1 a2 a3 : Value) : M Value :=
  bindO (binV BinOp.add a1 (Value.int IntKind.i64 1)) fun x1 =>
  M.bind (loopM (fun l2 =>
    bindO (binV BinOp.lss (getL l2 1) (Value.int IntKind.i64 5)) fun x3 =>
    condM x3 (
      M.bind (
        M.bind (loopM (fun l4 =>
          drewM <|
          bindO (binV BinOp.lss (getL l4 0) a2) fun x5 =>
          M.bind (guardM x5 true (M.ret a3)) fun x6 =>
          M.bind (guardM x5 true (M.ret a0)) fun x7 =>
          M.bind (guardM x5 true (M.ret (getL l4 0))) fun x8 =>
          M.bind (guardM x5 true (optM (idxA 3 x7 x8))) fun x9 =>
          M.bind (guardM x5 true (rdM (ldA 3 x9))) fun x10 =>
          M.bind (guardM x5 true (M.ret a0)) fun x11 =>
          M.bind (guardM x5 true (M.ret (getL l4 0))) fun x12 =>
          M.bind (guardM x5 true (optM (binV BinOp.sub x12 (Value.int IntKind.i64 1)))) fun x13 =>
          M.bind (guardM x5 true (optM (idxA 3 x11 x13))) fun x14 =>
          M.bind (guardM x5 true (rdM (ldA 3 x14))) fun x15 =>
          M.bind (guardM x5 true (callV F.clos x6 [x10, x15])) fun x16 =>
          M.bind (guardM x5 true (optM (binV BinOp.lss x16 (Value.int IntKind.i64 0)))) fun x17 =>
          M.bind (guardM x5 true (optM (notV x17))) fun x18 =>
          bindO (pickV x5 x18 (Value.bool false)) fun x19 =>
          condM x19 (
            bindO (binV BinOp.add (getL l4 0) (Value.int IntKind.i64 1)) fun x20 =>
            M.ret (Out.norm [x20])) (
            M.ret (Out.exit 2 [(getL l4 0)]))) [(getL l2 0)]) fun o22 =>
        outK o22 (fun _ => M.fail) (fun k23 l21 =>
          bif Nat.beq k23 2 then (
            bindO (binV BinOp.eql (getL l21 0) a2) fun x25 =>
            condM x25 (
              M.ret (Out.ret (Value.bool true))) (
              bindO (binV BinOp.sub a2 a1) fun x26 =>
              bindO (binV BinOp.lss x26 (Value.int IntKind.i64 50)) fun x27 =>
              condM x27 (
                M.ret (Out.ret (Value.bool false))) (
                drewM <|
                bindO (binV BinOp.sub (getL l21 0) (Value.int IntKind.i64 1)) fun x28 =>
                bindO (binV BinOp.sub (getL l21 0) (Value.int IntKind.i64 1)) fun x29 =>
                bindO (idxA 3 a0 x29) fun x30 =>
                M.bind (rdM (ldA 3 x30)) fun x31 =>
                bindO (idxA 3 a0 (getL l21 0)) fun x32 =>
                M.bind (rdM (ldA 3 x32)) fun x33 =>
                bindO (idxA 3 a0 (getL l21 0)) fun x34 =>
                M.bind (stM 3 x34 x31) fun _ =>
                bindO (idxA 3 a0 x28) fun x36 =>
                M.bind (stM 3 x36 x33) fun _ =>
                M.bind (
                  bindO (binV BinOp.sub (getL l21 0) a1) fun x38 =>
                  bindO (binV BinOp.geq x38 (Value.int IntKind.i64 2)) fun x39 =>
                  condM x39 (
                    bindO (binV BinOp.sub (getL l21 0) (Value.int IntKind.i64 1)) fun x40 =>
                    M.bind (loopM (fun l41 =>
                      bindO (binV BinOp.geq (getL l41 0) (Value.int IntKind.i64 1)) fun x42 =>
                      condM x42 (
                        drewM <|
                        bindO (idxA 3 a0 (getL l41 0)) fun x43 =>
                        M.bind (rdM (ldA 3 x43)) fun x44 =>
                        bindO (binV BinOp.sub (getL l41 0) (Value.int IntKind.i64 1)) fun x45 =>
                        bindO (idxA 3 a0 x45) fun x46 =>
                        M.bind (rdM (ldA 3 x46)) fun x47 =>
                        M.bind (callV F.clos a3 [x44, x47]) fun x48 =>
                        bindO (binV BinOp.lss x48 (Value.int IntKind.i64 0)) fun x49 =>
                        bindO (notV x49) fun x50 =>
                        condM x50 (
                          M.ret (Out.exit 4 [(getL l41 0)])) (
                          drewM <|
                          bindO (binV BinOp.sub (getL l41 0) (Value.int IntKind.i64 1)) fun x51 =>
                          bindO (binV BinOp.sub (getL l41 0) (Value.int IntKind.i64 1)) fun x52 =>
                          bindO (idxA 3 a0 x52) fun x53 =>
                          M.bind (rdM (ldA 3 x53)) fun x54 =>
                          bindO (idxA 3 a0 (getL l41 0)) fun x55 =>
                          M.bind (rdM (ldA 3 x55)) fun x56 =>
                          bindO (idxA 3 a0 (getL l41 0)) fun x57 =>
                          M.bind (stM 3 x57 x54) fun _ =>
                          bindO (idxA 3 a0 x51) fun x59 =>
                          M.bind (stM 3 x59 x56) fun _ =>
                          bindO (binV BinOp.sub (getL l41 0) (Value.int IntKind.i64 1)) fun x61 =>
                          M.ret (Out.norm [x61]))) (
                        M.ret (Out.exit 4 [(getL l41 0)]))) [x40]) fun o63 =>
                    outK o63 (fun _ => M.fail) (fun k64 _ =>
                      bif Nat.beq k64 4 then (
                        M.ret (Out.norm [])) else
                      M.fail) (fun r65 => M.ret (Out.ret r65))) (
                    M.ret (Out.norm []))) fun o67 =>
                outK o67 (fun _ =>
                  bindO (binV BinOp.sub a2 (getL l21 0)) fun x70 =>
                  bindO (binV BinOp.geq x70 (Value.int IntKind.i64 2)) fun x71 =>
                  condM x71 (
                    bindO (binV BinOp.add (getL l21 0) (Value.int IntKind.i64 1)) fun x72 =>
                    M.bind (loopM (fun l73 =>
                      bindO (binV BinOp.lss (getL l73 0) a2) fun x74 =>
                      condM x74 (
                        drewM <|
                        bindO (idxA 3 a0 (getL l73 0)) fun x75 =>
                        M.bind (rdM (ldA 3 x75)) fun x76 =>
                        bindO (binV BinOp.sub (getL l73 0) (Value.int IntKind.i64 1)) fun x77 =>
                        bindO (idxA 3 a0 x77) fun x78 =>
                        M.bind (rdM (ldA 3 x78)) fun x79 =>
                        M.bind (callV F.clos a3 [x76, x79]) fun x80 =>
                        bindO (binV BinOp.lss x80 (Value.int IntKind.i64 0)) fun x81 =>
                        bindO (notV x81) fun x82 =>
                        condM x82 (
                          M.ret (Out.exit 6 [(getL l73 0)])) (
                          drewM <|
                          bindO (binV BinOp.sub (getL l73 0) (Value.int IntKind.i64 1)) fun x83 =>
                          bindO (binV BinOp.sub (getL l73 0) (Value.int IntKind.i64 1)) fun x84 =>
                          bindO (idxA 3 a0 x84) fun x85 =>
                          M.bind (rdM (ldA 3 x85)) fun x86 =>
                          bindO (idxA 3 a0 (getL l73 0)) fun x87 =>
                          M.bind (rdM (ldA 3 x87)) fun x88 =>
                          bindO (idxA 3 a0 (getL l73 0)) fun x89 =>
                          M.bind (stM 3 x89 x86) fun _ =>
                          bindO (idxA 3 a0 x83) fun x91 =>
                          M.bind (stM 3 x91 x88) fun _ =>
                          bindO (binV BinOp.add (getL l73 0) (Value.int IntKind.i64 1)) fun x93 =>
                          M.ret (Out.norm [x93]))) (
                        M.ret (Out.exit 6 [(getL l73 0)]))) [x72]) fun o95 =>
                    outK o95 (fun _ => M.fail) (fun k96 _ =>
                      bif Nat.beq k96 6 then (
                        M.ret (Out.norm [(getL l21 0)])) else
                      M.fail) (fun r97 => M.ret (Out.ret r97))) (
                    M.ret (Out.norm [(getL l21 0)]))) (fun _ _ =>
                  M.fail) (fun r69 => M.ret (Out.ret r69))))) else
          M.fail) (fun r24 => M.ret (Out.ret r24))) fun o100 =>
      outK o100 (fun l99 =>
        bindO (binV BinOp.add (getL l2 1) (Value.int IntKind.i64 1)) fun x103 =>
        M.ret (Out.norm [(getL l99 0), x103])) (fun _ _ =>
        M.fail) (fun r102 => M.ret (Out.ret r102))) (
      M.ret (Out.exit 0 [(getL l2 0), (getL l2 1)]))) [x1, (Value.int IntKind.i64 0)]) fun o106 =>
  outK o106 (fun _ => M.fail) (fun k107 _ =>
    bif Nat.beq k107 0 then (
      M.ret (Value.bool false)) else
    M.fail) (fun r108 => M.ret r108)
def F.slices_partialInsertionSortCmpFunc_Stored.plan : Plan := (seq leaf (seq leaf (seq (seq leaf (body (loop [9, 10] [8, 9, 10, 11, 12, 15, 16, 17, 18, 19, 20, 21, 22, 23, 24, 25, 26, 27, 28, 29, 30, 31, 32, 33, 34, 35, 36, 37, 38, 39, 40, 41, 42, 43, 44, 45, 46, 47, 48, 49, 50, 51, 52, 53, 54, 55, 56, 57, 58, 59, 60, 61, 62, 63, 64, 65, 66, 67, 68, 69, 70, 71, 72, 73, 74, 75, 76, 77, 78, 79, 80, 81, 82, 83, 84, 85, 86, 87, 88, 89, 90, 91, 92, 93, 94, 95, 96, 97, 98, 99, 100, 101, 102, 103, 104, 105, 106, 107, 108, 109, 110, 111, 112, 113, 114, 115, 116, 117, 118, 119, 120, 121, 122, 123, 124, 125, 126, 127, 128, 129, 130, 131, 132, 133, 134, 135, 136, 137, 138, 139, 140] [0] (seq (seq leaf (cond leaf leaf)) (fork [9] [8, 9, 11, 12, 19, 20, 21, 22, 23, 24, 25, 26, 27, 28, 29, 30, 31, 32, 33, 34, 35, 36, 37, 38, 39, 40, 41, 42, 43, 44, 45, 46, 47, 48, 49, 50, 51, 52, 53, 54, 55, 56, 57, 58, 59, 60, 61, 62, 63, 64, 65, 66, 67, 68, 69, 70, 71, 72, 73, 74, 75, 76, 77, 78, 79, 80, 81, 82, 83, 84, 85, 86, 87, 88, 89, 90, 91, 92, 93, 94, 95, 96, 97, 98, 99, 100, 101, 102, 103, 104, 105, 106, 107, 108, 109, 110, 111, 112, 113, 114, 115, 116, 117, 118, 119, 120, 121, 122, 123, 124, 125, 126, 127, 128, 129, 130, 131, 132, 133, 134, 135, 136, 137, 138, 139, 140] [] (body (seq (body (loop [9] [9, 19, 20, 21, 22, 23, 24, 25, 26, 27, 28, 29, 30, 31, 32, 33, 34, 35, 36, 37, 38] [2] (seq (seq leaf (cond leaf leaf)) (body leaf)))) (seq (seq leaf (cond (seq leaf leaf) leaf)) (seq (seq leaf (cond (seq leaf leaf) leaf)) (seq leaf (fork [] [11, 62, 63, 64, 65, 66, 67, 68, 69, 70, 71, 72, 73, 74, 75, 76, 77, 78, 79, 80, 81, 82, 83, 84, 85, 86, 87, 88, 89, 90, 91, 92, 93, 94, 95, 96, 97, 98, 99, 100] [] (seq leaf (cond (seq leaf (body (loop [11] [11, 68, 69, 70, 71, 72, 73, 74, 75, 76, 77, 78, 79, 80, 81, 82, 83, 84, 85, 86, 87, 88, 89, 90, 91, 92, 93, 94, 95, 96, 97, 98, 99, 100] [4] (seq (seq leaf (cond leaf leaf)) (seq (body (seq (seq leaf (cond leaf leaf)) leaf)) leaf))))) leaf)) (seq leaf (cond (seq leaf (body (loop [12] [12, 107, 108, 109, 110, 111, 112, 113, 114, 115, 116, 117, 118, 119, 120, 121, 122, 123, 124, 125, 126, 127, 128, 129, 130, 131, 132, 133, 134, 135, 136, 137, 138, 139, 140] [6] (seq (seq leaf (cond leaf leaf)) (seq (body (seq (seq leaf (cond leaf leaf)) leaf)) leaf))))) leaf)))))))) leaf))))) (seq leaf leaf))))
theorem F.slices_partialInsertionSortCmpFunc_Stored.lift : LiftOk Tryd.prog 62 (ap4 F.slices_partialInsertionSortCmpFunc_Stored) :=
  lift4 (g := evFn Tryd.prog tnil F.clos 62 Tryd.f62 F.slices_partialInsertionSortCmpFunc_Stored.plan) (evFn_sound tnil_ok F.clos_ok Tryd.func62 (by kernel_rfl)) (fun x0 x1 x2 x3 => by kernel_rfl)

/-- slices.partitionEqualCmpFunc[granary/api.Stored] -/
noncomputable def F.slices_partitionEqualCmpFunc_Stored (a0 a1 a2 a3 a4 : Value) : M Value :=
  drewM <|
  bindO (idxA 3 a0 a3) fun x1 =>
  M.bind (rdM (ldA 3 x1)) fun x2 =>
  bindO (idxA 3 a0 a1) fun x3 =>
  M.bind (rdM (ldA 3 x3)) fun x4 =>
  bindO (idxA 3 a0 a1) fun x5 =>
  M.bind (stM 3 x5 x2) fun _ =>
  bindO (idxA 3 a0 a3) fun x7 =>
  M.bind (stM 3 x7 x4) fun _ =>
  bindO (binV BinOp.add a1 (Value.int IntKind.i64 1)) fun x9 =>
  bindO (binV BinOp.sub a2 (Value.int IntKind.i64 1)) fun x10 =>
  M.bind (loopM (fun l11 =>
    M.bind (loopM (fun l12 =>
      drewM <|
      bindO (binV BinOp.leq (getL l12 0) (getL l11 1)) fun x13 =>
      M.bind (guardM x13 true (M.ret a4)) fun x14 =>
      M.bind (guardM x13 true (M.ret a0)) fun x15 =>
      M.bind (guardM x13 true (M.ret a1)) fun x16 =>
      M.bind (guardM x13 true (optM (idxA 3 x15 x16))) fun x17 =>
      M.bind (guardM x13 true (rdM (ldA 3 x17))) fun x18 =>
      M.bind (guardM x13 true (M.ret a0)) fun x19 =>
      M.bind (guardM x13 true (M.ret (getL l12 0))) fun x20 =>
      M.bind (guardM x13 true (optM (idxA 3 x19 x20))) fun x21 =>
      M.bind (guardM x13 true (rdM (ldA 3 x21))) fun x22 =>
      M.bind (guardM x13 true (callV F.clos x14 [x18, x22])) fun x23 =>
      M.bind (guardM x13 true (optM (binV BinOp.lss x23 (Value.int IntKind.i64 0)))) fun x24 =>
      M.bind (guardM x13 true (optM (notV x24))) fun x25 =>
      bindO (pickV x13 x25 (Value.bool false)) fun x26 =>
      condM x26 (
        bindO (binV BinOp.add (getL l12 0) (Value.int IntKind.i64 1)) fun x27 =>
        M.ret (Out.norm [x27])) (
        M.ret (Out.exit 2 [(getL l12 0)]))) [(getL l11 0)]) fun o29 =>
    outK o29 (fun _ => M.fail) (fun k30 l28 =>
      bif Nat.beq k30 2 then (
        M.bind (loopM (fun l32 =>
          drewM <|
          bindO (binV BinOp.leq (getL l28 0) (getL l32 0)) fun x33 =>
          M.bind (guardM x33 true (M.ret a4)) fun x34 =>
          M.bind (guardM x33 true (M.ret a0)) fun x35 =>
          M.bind (guardM x33 true (M.ret a1)) fun x36 =>
          M.bind (guardM x33 true (optM (idxA 3 x35 x36))) fun x37 =>
          M.bind (guardM x33 true (rdM (ldA 3 x37))) fun x38 =>
          M.bind (guardM x33 true (M.ret a0)) fun x39 =>
          M.bind (guardM x33 true (M.ret (getL l32 0))) fun x40 =>
          M.bind (guardM x33 true (optM (idxA 3 x39 x40))) fun x41 =>
          M.bind (guardM x33 true (rdM (ldA 3 x41))) fun x42 =>
          M.bind (guardM x33 true (callV F.clos x34 [x38, x42])) fun x43 =>
          M.bind (guardM x33 true (optM (binV BinOp.lss x43 (Value.int IntKind.i64 0)))) fun x44 =>
          bindO (pickV x33 x44 (Value.bool false)) fun x45 =>
          condM x45 (
            bindO (binV BinOp.sub (getL l32 0) (Value.int IntKind.i64 1)) fun x46 =>
            M.ret (Out.norm [x46])) (
            M.ret (Out.exit 4 [(getL l32 0)]))) [(getL l11 1)]) fun o48 =>
        outK o48 (fun _ => M.fail) (fun k49 l47 =>
          bif Nat.beq k49 4 then (
            bindO (binV BinOp.gtr (getL l28 0) (getL l47 0)) fun x51 =>
            condM x51 (
              M.ret (Out.exit 0 [(getL l28 0), (getL l47 0)])) (
              drewM <|
              bindO (idxA 3 a0 (getL l47 0)) fun x52 =>
              M.bind (rdM (ldA 3 x52)) fun x53 =>
              bindO (idxA 3 a0 (getL l28 0)) fun x54 =>
              M.bind (rdM (ldA 3 x54)) fun x55 =>
              bindO (idxA 3 a0 (getL l28 0)) fun x56 =>
              M.bind (stM 3 x56 x53) fun _ =>
              bindO (idxA 3 a0 (getL l47 0)) fun x58 =>
              M.bind (stM 3 x58 x55) fun _ =>
              bindO (binV BinOp.add (getL l28 0) (Value.int IntKind.i64 1)) fun x60 =>
              bindO (binV BinOp.sub (getL l47 0) (Value.int IntKind.i64 1)) fun x61 =>
              M.ret (Out.norm [x60, x61]))) else
          M.fail) (fun r50 => M.ret (Out.ret r50))) else
      M.fail) (fun r31 => M.ret (Out.ret r31))) [x9, x10]) fun o63 =>
  outK o63 (fun _ => M.fail) (fun k64 l62 =>
    bif Nat.beq k64 0 then (
      M.ret (getL l62 0)) else
    M.fail) (fun r65 => M.ret r65)
def F.slices_partitionEqualCmpFunc_Stored.plan : Plan := (seq leaf (seq leaf (seq leaf (seq (body (loop [11, 12] [11, 12, 31, 32, 33, 34, 35, 36, 37, 38, 39, 40, 41, 42, 43, 44, 45, 46, 47, 48, 49, 50, 51, 52, 53, 54, 55, 56, 57, 58, 59, 60, 61, 62, 63, 64, 65, 66, 67, 68, 69, 70, 71, 72, 73, 74, 75, 76, 77, 78, 79, 80, 81, 82, 83, 84, 85, 86, 87, 88] [0] (body (seq (body (loop [11] [11, 31, 32, 33, 34, 35, 36, 37, 38, 39, 40, 41, 42, 43, 44, 45, 46, 47, 48, 49] [2] (seq (seq leaf (cond leaf leaf)) (body leaf)))) (seq (body (loop [12] [12, 50, 51, 52, 53, 54, 55, 56, 57, 58, 59, 60, 61, 62, 63, 64, 65, 66, 67] [4] (seq (seq leaf (cond leaf leaf)) (body leaf)))) (seq (seq leaf (cond leaf leaf)) (seq leaf (seq leaf leaf)))))))) (seq leaf leaf)))))
theorem F.slices_partitionEqualCmpFunc_Stored.lift : LiftOk Tryd.prog 63 (ap5 F.slices_partitionEqualCmpFunc_Stored) :=
  lift5 (g := evFn Tryd.prog tnil F.clos 63 Tryd.f63 F.slices_partitionEqualCmpFunc_Stored.plan) (evFn_sound tnil_ok F.clos_ok Tryd.func63 (by kernel_rfl)) (fun x0 x1 x2 x3 x4 => by kernel_rfl)

/-- slices.partitionCmpFunc[granary/api.Stored] -/
noncomputable def F.slices_partitionCmpFunc_Stored (a0 a1 a2 a3 a4 : Value) : M Value :=
  drewM <|
  bindO (idxA 3 a0 a3) fun x1 =>
  M.bind (rdM (ldA 3 x1)) fun x2 =>
  bindO (idxA 3 a0 a1) fun x3 =>
  M.bind (rdM (ldA 3 x3)) fun x4 =>
  bindO (idxA 3 a0 a1) fun x5 =>
  M.bind (stM 3 x5 x2) fun _ =>
  bindO (idxA 3 a0 a3) fun x7 =>
  M.bind (stM 3 x7 x4) fun _ =>
  bindO (binV BinOp.add a1 (Value.int IntKind.i64 1)) fun x9 =>
  bindO (binV BinOp.sub a2 (Value.int IntKind.i64 1)) fun x10 =>
  M.bind (loopM (fun l11 =>
    drewM <|
    bindO (binV BinOp.leq (getL l11 0) x10) fun x12 =>
    M.bind (guardM x12 true (M.ret a4)) fun x13 =>
    M.bind (guardM x12 true (M.ret a0)) fun x14 =>
    M.bind (guardM x12 true (M.ret (getL l11 0))) fun x15 =>
    M.bind (guardM x12 true (optM (idxA 3 x14 x15))) fun x16 =>
    M.bind (guardM x12 true (rdM (ldA 3 x16))) fun x17 =>
    M.bind (guardM x12 true (M.ret a0)) fun x18 =>
    M.bind (guardM x12 true (M.ret a1)) fun x19 =>
    M.bind (guardM x12 true (optM (idxA 3 x18 x19))) fun x20 =>
    M.bind (guardM x12 true (rdM (ldA 3 x20))) fun x21 =>
    M.bind (guardM x12 true (callV F.clos x13 [x17, x21])) fun x22 =>
    M.bind (guardM x12 true (optM (binV BinOp.lss x22 (Value.int IntKind.i64 0)))) fun x23 =>
    bindO (pickV x12 x23 (Value.bool false)) fun x24 =>
    condM x24 (
      bindO (binV BinOp.add (getL l11 0) (Value.int IntKind.i64 1)) fun x25 =>
      M.ret (Out.norm [x25])) (
      M.ret (Out.exit 0 [(getL l11 0)]))) [x9]) fun o27 =>
  outK o27 (fun _ => M.fail) (fun k28 l26 =>
    bif Nat.beq k28 0 then (
      M.bind (loopM (fun l30 =>
        drewM <|
        bindO (binV BinOp.leq (getL l26 0) (getL l30 0)) fun x31 =>
        M.bind (guardM x31 true (M.ret a4)) fun x32 =>
        M.bind (guardM x31 true (M.ret a0)) fun x33 =>
        M.bind (guardM x31 true (M.ret (getL l30 0))) fun x34 =>
        M.bind (guardM x31 true (optM (idxA 3 x33 x34))) fun x35 =>
        M.bind (guardM x31 true (rdM (ldA 3 x35))) fun x36 =>
        M.bind (guardM x31 true (M.ret a0)) fun x37 =>
        M.bind (guardM x31 true (M.ret a1)) fun x38 =>
        M.bind (guardM x31 true (optM (idxA 3 x37 x38))) fun x39 =>
        M.bind (guardM x31 true (rdM (ldA 3 x39))) fun x40 =>
        M.bind (guardM x31 true (callV F.clos x32 [x36, x40])) fun x41 =>
        M.bind (guardM x31 true (optM (binV BinOp.lss x41 (Value.int IntKind.i64 0)))) fun x42 =>
        M.bind (guardM x31 true (optM (notV x42))) fun x43 =>
        bindO (pickV x31 x43 (Value.bool false)) fun x44 =>
        condM x44 (
          bindO (binV BinOp.sub (getL l30 0) (Value.int IntKind.i64 1)) fun x45 =>
          M.ret (Out.norm [x45])) (
          M.ret (Out.exit 2 [(getL l30 0)]))) [x10]) fun o47 =>
      outK o47 (fun _ => M.fail) (fun k48 l46 =>
        bif Nat.beq k48 2 then (
          bindO (binV BinOp.gtr (getL l26 0) (getL l46 0)) fun x50 =>
          condM x50 (
            drewM <|
            bindO (idxA 3 a0 a1) fun x51 =>
            M.bind (rdM (ldA 3 x51)) fun x52 =>
            bindO (idxA 3 a0 (getL l46 0)) fun x53 =>
            M.bind (rdM (ldA 3 x53)) fun x54 =>
            bindO (idxA 3 a0 (getL l46 0)) fun x55 =>
            M.bind (stM 3 x55 x52) fun _ =>
            bindO (idxA 3 a0 a1) fun x57 =>
            M.bind (stM 3 x57 x54) fun _ =>
            M.ret (Value.tuple #[(getL l46 0), (Value.bool true)])) (
            drewM <|
            bindO (idxA 3 a0 (getL l46 0)) fun x59 =>
            M.bind (rdM (ldA 3 x59)) fun x60 =>
            bindO (idxA 3 a0 (getL l26 0)) fun x61 =>
            M.bind (rdM (ldA 3 x61)) fun x62 =>
            bindO (idxA 3 a0 (getL l26 0)) fun x63 =>
            M.bind (stM 3 x63 x60) fun _ =>
            bindO (idxA 3 a0 (getL l46 0)) fun x65 =>
            M.bind (stM 3 x65 x62) fun _ =>
            bindO (binV BinOp.add (getL l26 0) (Value.int IntKind.i64 1)) fun x67 =>
            bindO (binV BinOp.sub (getL l46 0) (Value.int IntKind.i64 1)) fun x68 =>
            M.bind (loopM (fun l69 =>
              M.bind (loopM (fun l70 =>
                drewM <|
                bindO (binV BinOp.leq (getL l70 0) (getL l69 1)) fun x71 =>
                M.bind (guardM x71 true (M.ret a4)) fun x72 =>
                M.bind (guardM x71 true (M.ret a0)) fun x73 =>
                M.bind (guardM x71 true (M.ret (getL l70 0))) fun x74 =>
                M.bind (guardM x71 true (optM (idxA 3 x73 x74))) fun x75 =>
                M.bind (guardM x71 true (rdM (ldA 3 x75))) fun x76 =>
                M.bind (guardM x71 true (M.ret a0)) fun x77 =>
                M.bind (guardM x71 true (M.ret a1)) fun x78 =>
                M.bind (guardM x71 true (optM (idxA 3 x77 x78))) fun x79 =>
                M.bind (guardM x71 true (rdM (ldA 3 x79))) fun x80 =>
                M.bind (guardM x71 true (callV F.clos x72 [x76, x80])) fun x81 =>
                M.bind (guardM x71 true (optM (binV BinOp.lss x81 (Value.int IntKind.i64 0)))) fun x82 =>
                bindO (pickV x71 x82 (Value.bool false)) fun x83 =>
                condM x83 (
                  bindO (binV BinOp.add (getL l70 0) (Value.int IntKind.i64 1)) fun x84 =>
                  M.ret (Out.norm [x84])) (
                  M.ret (Out.exit 6 [(getL l70 0)]))) [(getL l69 0)]) fun o86 =>
              outK o86 (fun _ => M.fail) (fun k87 l85 =>
                bif Nat.beq k87 6 then (
                  M.bind (loopM (fun l89 =>
                    drewM <|
                    bindO (binV BinOp.leq (getL l85 0) (getL l89 0)) fun x90 =>
                    M.bind (guardM x90 true (M.ret a4)) fun x91 =>
                    M.bind (guardM x90 true (M.ret a0)) fun x92 =>
                    M.bind (guardM x90 true (M.ret (getL l89 0))) fun x93 =>
                    M.bind (guardM x90 true (optM (idxA 3 x92 x93))) fun x94 =>
                    M.bind (guardM x90 true (rdM (ldA 3 x94))) fun x95 =>
                    M.bind (guardM x90 true (M.ret a0)) fun x96 =>
                    M.bind (guardM x90 true (M.ret a1)) fun x97 =>
                    M.bind (guardM x90 true (optM (idxA 3 x96 x97))) fun x98 =>
                    M.bind (guardM x90 true (rdM (ldA 3 x98))) fun x99 =>
                    M.bind (guardM x90 true (callV F.clos x91 [x95, x99])) fun x100 =>
                    M.bind (guardM x90 true (optM (binV BinOp.lss x100 (Value.int IntKind.i64 0)))) fun x101 =>
                    M.bind (guardM x90 true (optM (notV x101))) fun x102 =>
                    bindO (pickV x90 x102 (Value.bool false)) fun x103 =>
                    condM x103 (
                      bindO (binV BinOp.sub (getL l89 0) (Value.int IntKind.i64 1)) fun x104 =>
                      M.ret (Out.norm [x104])) (
                      M.ret (Out.exit 8 [(getL l89 0)]))) [(getL l69 1)]) fun o106 =>
                  outK o106 (fun _ => M.fail) (fun k107 l105 =>
                    bif Nat.beq k107 8 then (
                      bindO (binV BinOp.gtr (getL l85 0) (getL l105 0)) fun x109 =>
                      condM x109 (
                        M.ret (Out.exit 4 [(getL l85 0), (getL l105 0)])) (
                        drewM <|
                        bindO (idxA 3 a0 (getL l105 0)) fun x110 =>
                        M.bind (rdM (ldA 3 x110)) fun x111 =>
                        bindO (idxA 3 a0 (getL l85 0)) fun x112 =>
                        M.bind (rdM (ldA 3 x112)) fun x113 =>
                        bindO (idxA 3 a0 (getL l85 0)) fun x114 =>
                        M.bind (stM 3 x114 x111) fun _ =>
                        bindO (idxA 3 a0 (getL l105 0)) fun x116 =>
                        M.bind (stM 3 x116 x113) fun _ =>
                        bindO (binV BinOp.add (getL l85 0) (Value.int IntKind.i64 1)) fun x118 =>
                        bindO (binV BinOp.sub (getL l105 0) (Value.int IntKind.i64 1)) fun x119 =>
                        M.ret (Out.norm [x118, x119]))) else
                    M.fail) (fun r108 => M.ret (Out.ret r108))) else
                M.fail) (fun r88 => M.ret (Out.ret r88))) [x67, x68]) fun o121 =>
            outK o121 (fun _ => M.fail) (fun k122 l120 =>
              bif Nat.beq k122 4 then (
                drewM <|
                bindO (idxA 3 a0 a1) fun x124 =>
                M.bind (rdM (ldA 3 x124)) fun x125 =>
                bindO (idxA 3 a0 (getL l120 1)) fun x126 =>
                M.bind (rdM (ldA 3 x126)) fun x127 =>
                bindO (idxA 3 a0 (getL l120 1)) fun x128 =>
                M.bind (stM 3 x128 x125) fun _ =>
                bindO (idxA 3 a0 a1) fun x130 =>
                M.bind (stM 3 x130 x127) fun _ =>
                M.ret (Value.tuple #[(getL l120 1), (Value.bool false)])) else
              M.fail) (fun r123 => M.ret r123))) else
        M.fail) (fun r49 => M.ret r49)) else
    M.fail) (fun r29 => M.ret r29)
def F.slices_partitionCmpFunc_Stored.plan : Plan := (seq leaf (seq leaf (seq leaf (seq (body (loop [12] [12, 32, 33, 34, 35, 36, 37, 38, 39, 40, 41, 42, 43, 44, 45, 46, 47, 48, 49] [0] (seq (seq leaf (cond leaf leaf)) (body leaf)))) (seq (body (loop [13] [13, 50, 51, 52, 53, 54, 55, 56, 57, 58, 59, 60, 61, 62, 63, 64, 65, 66, 67, 68] [2] (seq (seq leaf (cond leaf leaf)) (body leaf)))) (seq (seq leaf (cond (seq leaf (seq leaf leaf)) leaf)) (seq leaf (seq leaf (seq leaf (seq (body (loop [12, 13] [12, 13, 105, 106, 107, 108, 109, 110, 111, 112, 113, 114, 115, 116, 117, 118, 119, 120, 121, 122, 123, 124, 125, 126, 127, 128, 129, 130, 131, 132, 133, 134, 135, 136, 137, 138, 139, 140, 141, 142, 143, 144, 145, 146, 147, 148, 149, 150, 151, 152, 153, 154, 155, 156, 157, 158, 159, 160, 161, 162] [4] (body (seq (body (loop [12] [12, 105, 106, 107, 108, 109, 110, 111, 112, 113, 114, 115, 116, 117, 118, 119, 120, 121, 122] [6] (seq (seq leaf (cond leaf leaf)) (body leaf)))) (seq (body (loop [13] [13, 123, 124, 125, 126, 127, 128, 129, 130, 131, 132, 133, 134, 135, 136, 137, 138, 139, 140, 141] [8] (seq (seq leaf (cond leaf leaf)) (body leaf)))) (seq (seq leaf (cond leaf leaf)) (seq leaf (seq leaf leaf)))))))) (seq leaf (seq leaf leaf))))))))))))
theorem F.slices_partitionCmpFunc_Stored.lift : LiftOk Tryd.prog 64 (ap5 F.slices_partitionCmpFunc_Stored) :=
  lift5 (g := evFn Tryd.prog tnil F.clos 64 Tryd.f64 F.slices_partitionCmpFunc_Stored.plan) (evFn_sound tnil_ok F.clos_ok Tryd.func64 (by kernel_rfl)) (fun x0 x1 x2 x3 x4 => by kernel_rfl)

/-- slices.pdqsortCmpFunc[granary/api.Stored], the calls of itself left open -/
noncomputable def F.slices_pdqsortCmpFunc_Stored.step (rec : Value → Value → Value → Value → Value → M Value) (a0 a1 a2 a3 a4 : Value) : M Value :=
  M.bind (loopM (fun l1 =>
    bindO (binV BinOp.sub (getL l1 1) (getL l1 0)) fun x2 =>
    bindO (binV BinOp.leq x2 (Value.int IntKind.i64 12)) fun x3 =>
    condM x3 (
      M.bind (F.slices_insertionSortCmpFunc_Stored a0 (getL l1 0) (getL l1 1) a4) fun _ =>
      M.ret (Out.ret (Value.tuple #[]))) (
      bindO (binV BinOp.eql (getL l1 2) (Value.int IntKind.i64 0)) fun x5 =>
      condM x5 (
        M.bind (F.slices_heapSortCmpFunc_Stored a0 (getL l1 0) (getL l1 1) a4) fun _ =>
        M.ret (Out.ret (Value.tuple #[]))) (
        M.bind (
          bindO (notV (getL l1 3)) fun x7 =>
          condM x7 (
            M.bind (F.slices_breakPatternsCmpFunc_Stored a0 (getL l1 0) (getL l1 1) a4) fun _ =>
            bindO (binV BinOp.sub (getL l1 2) (Value.int IntKind.i64 1)) fun x9 =>
            M.ret (Out.norm [x9])) (
            M.ret (Out.norm [(getL l1 2)]))) fun o11 =>
        outK o11 (fun l10 =>
          M.bind (F.slices_choosePivotCmpFunc_Stored a0 (getL l1 0) (getL l1 1) a4) fun x14 =>
          bindO (extV 0 x14) fun x15 =>
          bindO (extV 1 x14) fun x16 =>
          M.bind (
            bindO (binV BinOp.eql x16 (Value.int IntKind.i64 2)) fun x17 =>
            condM x17 (
              M.bind (F.slices_reverseRangeCmpFunc_Stored a0 (getL l1 0) (getL l1 1) a4) fun _ =>
              bindO (binV BinOp.sub (getL l1 1) (Value.int IntKind.i64 1)) fun x19 =>
              bindO (binV BinOp.sub x15 (getL l1 0)) fun x20 =>
              bindO (binV BinOp.sub x19 x20) fun x21 =>
              M.ret (Out.norm [x21, (Value.int IntKind.i64 1)])) (
              M.ret (Out.norm [x15, x16]))) fun o23 =>
          outK o23 (fun l22 =>
            M.bind (
              M.bind (guardM (getL l1 3) true (M.ret (getL l1 4))) fun x26 =>
              bindO (pickV (getL l1 3) x26 (Value.bool false)) fun x27 =>
              M.bind (guardM x27 true (M.ret (getL l22 1))) fun x28 =>
              M.bind (guardM x27 true (optM (binV BinOp.eql x28 (Value.int IntKind.i64 1)))) fun x29 =>
              bindO (pickV x27 x29 (Value.bool false)) fun x30 =>
              condM x30 (
                M.bind (F.slices_partialInsertionSortCmpFunc_Stored a0 (getL l1 0) (getL l1 1) a4) fun x31 =>
                condM x31 (
                  M.ret (Out.ret (Value.tuple #[]))) (
                  M.ret (Out.norm []))) (
                M.ret (Out.norm []))) fun o33 =>
            outK o33 (fun _ =>
              drewM <|
              bindO (binV BinOp.gtr (getL l1 0) (Value.int IntKind.i64 0)) fun x36 =>
              M.bind (guardM x36 true (M.ret a4)) fun x37 =>
              M.bind (guardM x36 true (M.ret a0)) fun x38 =>
              M.bind (guardM x36 true (M.ret (getL l1 0))) fun x39 =>
              M.bind (guardM x36 true (optM (binV BinOp.sub x39 (Value.int IntKind.i64 1)))) fun x40 =>
              M.bind (guardM x36 true (optM (idxA 3 x38 x40))) fun x41 =>
              M.bind (guardM x36 true (rdM (ldA 3 x41))) fun x42 =>
              M.bind (guardM x36 true (M.ret a0)) fun x43 =>
              M.bind (guardM x36 true (M.ret (getL l22 0))) fun x44 =>
              M.bind (guardM x36 true (optM (idxA 3 x43 x44))) fun x45 =>
              M.bind (guardM x36 true (rdM (ldA 3 x45))) fun x46 =>
              M.bind (guardM x36 true (callV F.clos x37 [x42, x46])) fun x47 =>
              M.bind (guardM x36 true (optM (binV BinOp.lss x47 (Value.int IntKind.i64 0)))) fun x48 =>
              M.bind (guardM x36 true (optM (notV x48))) fun x49 =>
              bindO (pickV x36 x49 (Value.bool false)) fun x50 =>
              condM x50 (
                M.bind (F.slices_partitionEqualCmpFunc_Stored a0 (getL l1 0) (getL l1 1) (getL l22 0) a4) fun x51 =>
                M.ret (Out.norm [x51, (getL l1 1), (getL l10 0), (getL l1 3), (getL l1 4)])) (
                M.bind (F.slices_partitionCmpFunc_Stored a0 (getL l1 0) (getL l1 1) (getL l22 0) a4) fun x52 =>
                bindO (extV 0 x52) fun x53 =>
                bindO (extV 1 x52) fun x54 =>
                bindO (binV BinOp.sub x53 (getL l1 0)) fun x55 =>
                bindO (binV BinOp.sub (getL l1 1) x53) fun x56 =>
                bindO (binV BinOp.quo x2 (Value.int IntKind.i64 8)) fun x57 =>
                bindO (binV BinOp.lss x55 x56) fun x58 =>
                condM x58 (
                  bindO (binV BinOp.geq x55 x57) fun x59 =>
                  M.bind (rec a0 (getL l1 0) x53 (getL l10 0) a4) fun _ =>
                  bindO (binV BinOp.add x53 (Value.int IntKind.i64 1)) fun x61 =>
                  M.ret (Out.norm [x61, (getL l1 1), (getL l10 0), x59, x54])) (
                  bindO (binV BinOp.geq x56 x57) fun x62 =>
                  bindO (binV BinOp.add x53 (Value.int IntKind.i64 1)) fun x63 =>
                  M.bind (rec a0 x63 (getL l1 1) (getL l10 0) a4) fun _ =>
                  M.ret (Out.norm [(getL l1 0), x53, (getL l10 0), x62, x54])))) (fun _ _ =>
              M.fail) (fun r35 => M.ret (Out.ret r35))) (fun _ _ =>
            M.fail) (fun r25 => M.ret (Out.ret r25))) (fun _ _ =>
          M.fail) (fun r13 => M.ret (Out.ret r13))))) [a1, a2, a3, (Value.bool true), (Value.bool true)]) fun o69 =>
  outK o69 (fun _ => M.fail) (fun _ _ =>
    M.fail) (fun r71 => M.ret r71)
def F.slices_pdqsortCmpFunc_Stored.plan : Plan := (seq leaf (seq leaf (body (loop [1, 2, 3, 10, 11] [1, 2, 3, 10, 11, 12, 13, 14, 15, 16, 17, 18, 19, 20, 21, 22, 23, 24, 25, 26, 27, 28, 29, 30, 31, 32, 33, 34, 35, 36, 37, 38, 39, 40, 41, 42, 43, 44, 45, 46, 47, 48, 49, 50, 51, 52, 53, 54, 55, 56, 57, 58, 59, 60, 61, 62, 63, 64, 65, 66, 67, 68, 69, 70, 71, 72, 73, 74, 75, 76, 77, 78, 79, 80, 81, 82, 83, 84, 85, 86, 87, 88, 89, 90, 91, 92, 93, 94, 95, 96, 97, 98, 99, 100, 101, 102, 103, 104, 105, 106, 107, 108, 109, 110, 111, 112, 113, 114, 115, 116, 117, 118, 119, 120, 121, 122, 123, 124, 125, 126, 127, 128, 129, 130, 131, 132, 133, 134, 135, 136, 137, 138, 139, 140, 141, 142, 143, 144, 145, 146, 147] [] (body (seq leaf (seq (seq leaf (cond (seq leaf leaf) leaf)) (seq (seq leaf (cond (seq leaf leaf) leaf)) (fork [3] [3, 38, 39, 40, 41, 42, 43, 44, 45, 46] [] (seq leaf (cond (seq leaf leaf) leaf)) (seq leaf (fork [13, 14] [13, 14, 55, 56, 57, 58, 59, 60, 61, 62, 63, 64, 65, 66, 67] [] (seq leaf (cond (seq leaf (seq leaf leaf)) leaf)) (fork [] [68, 69, 70, 71, 72, 73, 74, 75, 76, 77, 78, 79, 80] [] (seq leaf (cond (seq leaf (cond leaf leaf)) leaf)) (seq (seq leaf (cond (seq leaf (seq leaf leaf)) leaf)) (seq leaf (seq leaf (seq leaf (seq leaf (seq leaf (cond (seq leaf (seq leaf leaf)) (seq leaf (seq leaf leaf)))))))))))))))))))))
theorem F.slices_pdqsortCmpFunc_Stored.step_lift {rec : Value → Value → Value → Value → Value → M Value} (hrec : LiftOk Tryd.prog 50 (ap5 rec)) : LiftOk Tryd.prog 50 (ap5 (F.slices_pdqsortCmpFunc_Stored.step rec)) :=
  lift5 (g := evFn Tryd.prog (tcons 50 (ap5 rec) (tcons 57 (ap4 F.slices_insertionSortCmpFunc_Stored) (tcons 58 (ap4 F.slices_heapSortCmpFunc_Stored) (tcons 59 (ap4 F.slices_breakPatternsCmpFunc_Stored) (tcons 60 (ap4 F.slices_choosePivotCmpFunc_Stored) (tcons 61 (ap4 F.slices_reverseRangeCmpFunc_Stored) (tcons 62 (ap4 F.slices_partialInsertionSortCmpFunc_Stored) (tcons 63 (ap5 F.slices_partitionEqualCmpFunc_Stored) (tcons 64 (ap5 F.slices_partitionCmpFunc_Stored) tnil))))))))) F.clos 50 Tryd.f50 F.slices_pdqsortCmpFunc_Stored.plan) (evFn_sound (tcons_ok hrec (tcons_ok F.slices_insertionSortCmpFunc_Stored.lift (tcons_ok F.slices_heapSortCmpFunc_Stored.lift (tcons_ok F.slices_breakPatternsCmpFunc_Stored.lift (tcons_ok F.slices_choosePivotCmpFunc_Stored.lift (tcons_ok F.slices_reverseRangeCmpFunc_Stored.lift (tcons_ok F.slices_partialInsertionSortCmpFunc_Stored.lift (tcons_ok F.slices_partitionEqualCmpFunc_Stored.lift (tcons_ok F.slices_partitionCmpFunc_Stored.lift tnil_ok))))))))) F.clos_ok Tryd.func50 (by kernel_rfl)) (fun x0 x1 x2 x3 x4 => by kernel_rfl)
noncomputable def F.slices_pdqsortCmpFunc_Stored.it : Nat → Value → Value → Value → Value → Value → M Value
  | 0 => fun _ _ _ _ _ => M.fail
  | n + 1 => F.slices_pdqsortCmpFunc_Stored.step (F.slices_pdqsortCmpFunc_Stored.it n)
theorem F.slices_pdqsortCmpFunc_Stored.it_lift : ∀ n, LiftOk Tryd.prog 50 (ap5 (F.slices_pdqsortCmpFunc_Stored.it n))
  | 0 => lift_fail fun args => by unfold ap5; split <;> rfl
  | n + 1 => F.slices_pdqsortCmpFunc_Stored.step_lift (F.slices_pdqsortCmpFunc_Stored.it_lift n)
/-- slices.pdqsortCmpFunc[granary/api.Stored] -/
noncomputable def F.slices_pdqsortCmpFunc_Stored (x0 x1 x2 x3 x4 : Value) : M Value := recL (fun n => ap5 (F.slices_pdqsortCmpFunc_Stored.it n)) [x0, x1, x2, x3, x4]
theorem F.slices_pdqsortCmpFunc_Stored.lift : LiftOk Tryd.prog 50 (ap5 F.slices_pdqsortCmpFunc_Stored) := lift5 (recL_lift F.slices_pdqsortCmpFunc_Stored.it_lift) fun _ _ _ _ _ => rfl
theorem F.slices_pdqsortCmpFunc_Stored.own : Own Tryd.prog 50 := ⟨⟨Tryd.f50, Tryd.func50, by kernel_rfl, by kernel_rfl⟩, by kernel_rfl⟩
theorem F.slices_pdqsortCmpFunc_Stored.run {n : Nat} {x0 x1 x2 x3 x4 : Value} {w : World} {Q : Value → World → Prop} (h : Run (F.slices_pdqsortCmpFunc_Stored.it n x0 x1 x2 x3 x4) w Q) : Run (F.slices_pdqsortCmpFunc_Stored x0 x1 x2 x3 x4) w Q := recL_run F.slices_pdqsortCmpFunc_Stored.it_lift F.slices_pdqsortCmpFunc_Stored.own (n := n) h

/-- slices.SortFunc[[]granary/api.Stored,granary/api.Stored] -/
noncomputable def F.slices_SortFunc_Stored (a0 a1 : Value) : M Value :=
  bindO (lenL a0) fun x1 =>
  bindO (cvtI IntKind.u64 x1) fun x2 =>
  M.bind (F.bits_Len x2) fun x3 =>
  M.bind (F.slices_pdqsortCmpFunc_Stored a0 (Value.int IntKind.i64 0) x1 x3 a1) fun _ =>
  M.ret (Value.tuple #[])
def F.slices_SortFunc_Stored.plan : Plan := (seq leaf leaf)
theorem F.slices_SortFunc_Stored.lift : LiftOk Tryd.prog 43 (ap2 F.slices_SortFunc_Stored) :=
  lift2 (g := evFn Tryd.prog (tcons 50 (ap5 F.slices_pdqsortCmpFunc_Stored) (tcons 51 (ap1 F.bits_Len) tnil)) tnil 43 Tryd.f43 F.slices_SortFunc_Stored.plan) (evFn_sound (tcons_ok F.slices_pdqsortCmpFunc_Stored.lift (tcons_ok F.bits_Len.lift tnil_ok)) tnil_ok Tryd.func43 (by kernel_rfl)) (fun x0 x1 => by kernel_rfl)

/-- (*granary/disk.Disk).Dump -/
noncomputable def F.disk_Disk_Dump (a0 : Value) : M Value :=
  bindO (eqV (EqSh.one EqK.ptr) a0 (Value.pointer none)) fun x1 =>
  condM x1 (
    M.ret (Value.slice none 0 0)) (
    M.bind (mkmM) fun x2 =>
    bindO (nilChk a0) fun x3 =>
    bindO (fieldA 7 x3) fun x4 =>
    M.bind (rdM (ld1 x4)) fun x5 =>
    M.bind (rngM x5) fun x6 =>
    M.bind (loopM (fun _ =>
      M.bind (nxtM x6) fun x8 =>
      bindO (extV 0 x8) fun x9 =>
      condM x9 (
        M.bind (rdM (entV x6)) fun x10 =>
        bindO (extV 0 x10) fun x11 =>
        bindO (extV 1 x10) fun x12 =>
        M.bind (newM 68 #[(Value.int IntKind.i64 0), (Value.string ByteArray.empty)]) fun x13 =>
        M.bind (stM 2 x13 x11) fun _ =>
        M.bind (rdM (ldA 2 x13)) fun x15 =>
        M.bind (updM Tryd.prog 3 (EqSh.one EqK.int) x2 x12 x15) fun _ =>
        M.ret (Out.norm [])) (
        M.ret (Out.exit 0 []))) []) fun o18 =>
    outK o18 (fun _ => M.fail) (fun k19 _ =>
      bif Nat.beq k19 0 then (
        M.bind (rngM x2) fun x21 =>
        M.bind (loopM (fun l22 =>
          M.bind (nxtM x21) fun x23 =>
          bindO (extV 0 x23) fun x24 =>
          condM x24 (
            M.bind (rdM (entV x21)) fun x25 =>
            bindO (extV 0 x25) fun x26 =>
            bindO (extV 1 x25) fun x27 =>
            M.bind (newM 68 #[(Value.int IntKind.i64 0), (Value.string ByteArray.empty)]) fun x28 =>
            M.bind (stM 2 x28 x27) fun _ =>
            bindO (fieldA 1 x28) fun x30 =>
            M.bind (rdM (ld1 x30)) fun x31 =>
            M.bind (loopM (fun l32 =>
              bindO (fieldA 0 x28) fun x33 =>
              M.bind (rdM (ld1 x33)) fun x34 =>
              bindO (binV BinOp.neq x34 (Value.int IntKind.i64 0)) fun x35 =>
              condM x35 (
                bindO (fieldA 0 x28) fun x36 =>
                M.bind (rdM (ld1 x36)) fun x37 =>
                M.bind (rdM (lookV Tryd.prog 3 (EqSh.one EqK.int) (Value.agg #[(Value.int IntKind.i64 0), (Value.string ByteArray.empty)]) false x2 x37)) fun x38 =>
                M.bind (stM 2 x28 x38) fun _ =>
                bindO (fieldA 1 x28) fun x40 =>
                M.bind (rdM (ld1 x40)) fun x41 =>
                bindO (binV BinOp.add x41 (Value.string (ByteArray.mk #[47]))) fun x42 =>
                bindO (binV BinOp.add x42 (getL l32 0)) fun x43 =>
                M.ret (Out.norm [x43])) (
                M.ret (Out.exit 4 [(getL l32 0)]))) [x31]) fun o45 =>
            outK o45 (fun _ => M.fail) (fun k46 l44 =>
              bif Nat.beq k46 4 then (
                drewM <|
                bindO (nilChk a0) fun x48 =>
                bindO (fieldA 6 x48) fun x49 =>
                M.bind (rdM (ld1 x49)) fun x50 =>
                bindO (idxA 3 x50 x26) fun x51 =>
                bindO (fieldA 0 x51) fun x52 =>
                M.bind (rdM (ld1 x52)) fun x53 =>
                bindO (nilChk a0) fun x54 =>
                bindO (fieldA 6 x54) fun x55 =>
                M.bind (rdM (ld1 x55)) fun x56 =>
                bindO (idxA 3 x56 x26) fun x57 =>
                bindO (fieldA 1 x57) fun x58 =>
                M.bind (rdM (ld1 x58)) fun x59 =>
                bindO (buildV #[(Value.string ByteArray.empty), (Value.int IntKind.i64 0), (Value.string ByteArray.empty)] [(0, 1, (getL l44 0)), (1, 1, x53), (2, 1, x59)]) fun x60 =>
                M.bind (bslM 54 1 (Builtin.zeroCells #[(Value.string ByteArray.empty), (Value.int IntKind.i64 0), (Value.string ByteArray.empty)] 1) [(0, 3, x60)]) fun x61 =>
                M.bind (appM 54 3 40 #[(Value.string ByteArray.empty), (Value.int IntKind.i64 0), (Value.string ByteArray.empty)] (getL l22 0) x61) fun x62 =>
                M.ret (Out.norm [x62])) else
              M.fail) (fun r47 => M.ret (Out.ret r47))) (
            M.ret (Out.exit 2 [(getL l22 0)]))) [(Value.slice none 0 0)]) fun o64 =>
        outK o64 (fun _ => M.fail) (fun k65 l63 =>
          bif Nat.beq k65 2 then (
            M.bind (F.slices_SortFunc_Stored (getL l63 0) (Value.func (Fn.func 44) #[] #[])) fun _ =>
            M.ret (getL l63 0)) else
          M.fail) (fun r66 => M.ret r66)) else
      M.fail) (fun r20 => M.ret r20))
def F.disk_Disk_Dump.plan : Plan := (seq leaf (seq (seq leaf (cond (seq leaf leaf) leaf)) (seq leaf (seq (seq leaf (body (loop [] [4, 5, 18, 19, 20, 21, 22, 23, 24, 25] [0] (seq leaf (seq (cond leaf leaf) (body (seq leaf leaf))))))) (seq leaf (seq (seq leaf (body (loop [6] [6, 7, 8, 9, 28, 29, 30, 31, 32, 33, 34, 35, 36, 37, 38, 39, 40, 41, 42, 43, 44, 45, 46, 47, 48, 49, 50, 51, 52, 53, 54, 55, 56, 57, 58, 59, 60, 61, 62, 63, 64, 65, 66, 67] [2] (seq leaf (seq (cond leaf leaf) (body (seq leaf (seq leaf (seq (body (loop [9] [9, 35, 36, 37, 38, 39, 40, 41, 42, 43, 44, 45, 46] [4] (seq (seq leaf (cond leaf leaf)) (body (seq leaf leaf))))) leaf))))))))) (seq leaf (seq leaf leaf))))))))
theorem F.disk_Disk_Dump.lift : LiftOk Tryd.prog 27 (ap1 F.disk_Disk_Dump) :=
  lift1 (g := evFn Tryd.prog (tcons 43 (ap2 F.slices_SortFunc_Stored) tnil) tnil 27 Tryd.f27 F.disk_Disk_Dump.plan) (evFn_sound (tcons_ok F.slices_SortFunc_Stored.lift tnil_ok) tnil_ok Tryd.func27 (by kernel_rfl)) (fun x0 => by kernel_rfl)

/-- granary/granarylaw1.sameStored -/
noncomputable def F.granarylaw1_sameStored (a0 a1 : Value) : M Value :=
  bindO (lenL a0) fun x1 =>
  bindO (lenL a1) fun x2 =>
  bindO (binV BinOp.neq x1 x2) fun x3 =>
  condM x3 (
    M.ret (Value.bool false)) (
    M.bind (loopM (fun l4 =>
      bindO (lenL a0) fun x5 =>
      bindO (binV BinOp.lss (getL l4 0) x5) fun x6 =>
      condM x6 (
        drewM <|
        bindO (idxA 3 a0 (getL l4 0)) fun x7 =>
        M.bind (rdM (ldA 3 x7)) fun x8 =>
        bindO (idxA 3 a1 (getL l4 0)) fun x9 =>
        M.bind (rdM (ldA 3 x9)) fun x10 =>
        bindO (neV (EqSh.offs [(EqK.str, 0), (EqK.int, 1), (EqK.str, 2)]) x8 x10) fun x11 =>
        condM x11 (
          M.ret (Out.ret (Value.bool false))) (
          bindO (binV BinOp.add (getL l4 0) (Value.int IntKind.i64 1)) fun x12 =>
          M.ret (Out.norm [x12]))) (
        M.ret (Out.exit 0 [(getL l4 0)]))) [(Value.int IntKind.i64 0)]) fun o14 =>
    outK o14 (fun _ => M.fail) (fun k15 _ =>
      bif Nat.beq k15 0 then (
        M.ret (Value.bool true)) else
      M.fail) (fun r16 => M.ret r16))
def F.granarylaw1_sameStored.plan : Plan := (seq leaf (seq (seq leaf (cond (seq leaf leaf) leaf)) (seq (seq leaf (body (loop [5] [4, 5, 11, 12, 13, 14, 15, 16, 17, 18, 19, 20, 21, 22, 23, 24, 25] [0] (seq (seq leaf (cond leaf leaf)) (seq (body (seq leaf (cond (seq leaf leaf) leaf))) leaf))))) (seq leaf leaf))))
theorem F.granarylaw1_sameStored.lift : LiftOk Tryd.prog 26 (ap2 F.granarylaw1_sameStored) :=
  lift2 (g := evFn Tryd.prog tnil tnil 26 Tryd.f26 F.granarylaw1_sameStored.plan) (evFn_sound tnil_ok tnil_ok Tryd.func26 (by kernel_rfl)) (fun x0 x1 => by kernel_rfl)

/-- granary/granarylaw1.DiskPrefix -/
noncomputable def F.granarylaw1_DiskPrefix (a0 a1 a2 a3 : Value) : M Value :=
  M.bind (F.disk_New a0) fun x1 =>
  bindO (extV 0 x1) fun x2 =>
  bindO (extV 1 x1) fun x3 =>
  M.bind (F.disk_New a0) fun x4 =>
  bindO (extV 0 x4) fun x5 =>
  bindO (extV 1 x4) fun x6 =>
  bindO (binV BinOp.lss a0 (Value.int IntKind.i64 0)) fun x7 =>
  M.bind (guardM x7 false (M.ret a0)) fun x8 =>
  M.bind (guardM x7 false (optM (binV BinOp.gtr x8 (Value.int IntKind.i64 1073741824)))) fun x9 =>
  bindO (pickV x7 (Value.bool true) x9) fun x10 =>
  condM x10 (
    bindO (eqV (EqSh.one EqK.ptr) x2 (Value.pointer none)) fun x11 =>
    M.bind (guardM x11 true (M.ret x5)) fun x12 =>
    M.bind (guardM x11 true (optM (eqV (EqSh.one EqK.ptr) x12 (Value.pointer none)))) fun x13 =>
    bindO (pickV x11 x13 (Value.bool false)) fun x14 =>
    M.bind (guardM x14 true (M.ret x3)) fun x15 =>
    M.bind (guardM x14 true (F.granarylaw1_num x15)) fun x16 =>
    M.bind (guardM x14 true (optM (binV BinOp.eql x16 (Value.int IntKind.i64 1)))) fun x17 =>
    bindO (pickV x14 x17 (Value.bool false)) fun x18 =>
    M.bind (guardM x18 true (M.ret x6)) fun x19 =>
    M.bind (guardM x18 true (F.granarylaw1_num x19)) fun x20 =>
    M.bind (guardM x18 true (optM (binV BinOp.eql x20 (Value.int IntKind.i64 1)))) fun x21 =>
    bindO (pickV x18 x21 (Value.bool false)) fun x22 =>
    M.ret x22) (
    bindO (eqV (EqSh.one EqK.ptr) x2 (Value.pointer none)) fun x23 =>
    M.bind (guardM x23 false (M.ret x5)) fun x24 =>
    M.bind (guardM x23 false (optM (eqV (EqSh.one EqK.ptr) x24 (Value.pointer none)))) fun x25 =>
    bindO (pickV x23 (Value.bool true) x25) fun x26 =>
    M.bind (guardM x26 false (M.ret x3)) fun x27 =>
    M.bind (guardM x26 false (F.granarylaw1_num x27)) fun x28 =>
    M.bind (guardM x26 false (optM (binV BinOp.neq x28 (Value.int IntKind.i64 0)))) fun x29 =>
    bindO (pickV x26 (Value.bool true) x29) fun x30 =>
    M.bind (guardM x30 false (M.ret x6)) fun x31 =>
    M.bind (guardM x30 false (F.granarylaw1_num x31)) fun x32 =>
    M.bind (guardM x30 false (optM (binV BinOp.neq x32 (Value.int IntKind.i64 0)))) fun x33 =>
    bindO (pickV x30 (Value.bool true) x33) fun x34 =>
    condM x34 (
      M.ret (Value.bool false)) (
      M.bind (loopM (fun l35 =>
        bindO (lenL a1) fun x36 =>
        bindO (binV BinOp.lss (getL l35 1) x36) fun x37 =>
        condM x37 (
          M.bind (
            bindO (idxA 6 a1 (getL l35 1)) fun x38 =>
            bindO (fieldA 0 x38) fun x39 =>
            M.bind (rdM (ld1 x39)) fun x40 =>
            bindO (binV BinOp.geq x40 (Value.int IntKind.i64 1)) fun x41 =>
            M.bind (guardM x41 true (M.ret a1)) fun x42 =>
            M.bind (guardM x41 true (M.ret (getL l35 1))) fun x43 =>
            M.bind (guardM x41 true (optM (idxA 6 x42 x43))) fun x44 =>
            M.bind (guardM x41 true (optM (fieldA 0 x44))) fun x45 =>
            M.bind (guardM x41 true (rdM (ld1 x45))) fun x46 =>
            M.bind (guardM x41 true (optM (binV BinOp.leq x46 (Value.int IntKind.i64 6)))) fun x47 =>
            bindO (pickV x41 x47 (Value.bool false)) fun x48 =>
            M.bind (guardM x48 true (M.ret x2)) fun x49 =>
            M.bind (guardM x48 true (M.ret a1)) fun x50 =>
            M.bind (guardM x48 true (M.ret (getL l35 1))) fun x51 =>
            M.bind (guardM x48 true (optM (idxA 6 x50 x51))) fun x52 =>
            M.bind (guardM x48 true (rdM (ldA 6 x52))) fun x53 =>
            M.bind (guardM x48 true (F.granarylaw1_act x49 x53)) fun x54 =>
            M.bind (guardM x48 true (F.granarylaw1_num x54)) fun x55 =>
            M.bind (guardM x48 true (optM (binV BinOp.eql x55 (Value.int IntKind.i64 0)))) fun x56 =>
            bindO (pickV x48 x56 (Value.bool false)) fun x57 =>
            condM x57 (
              bindO (idxA 6 a1 (getL l35 1)) fun x58 =>
              M.bind (rdM (ldA 6 x58)) fun x59 =>
              M.bind (bslM 44 1 (Builtin.zeroCells #[(Value.int IntKind.i64 0), (Value.int IntKind.i64 0), (Value.int IntKind.i64 0), (Value.int IntKind.i64 0), (Value.string ByteArray.empty), (Value.string ByteArray.empty)] 1) [(0, 6, x59)]) fun x60 =>
              M.bind (appM 44 6 64 #[(Value.int IntKind.i64 0), (Value.int IntKind.i64 0), (Value.int IntKind.i64 0), (Value.int IntKind.i64 0), (Value.string ByteArray.empty), (Value.string ByteArray.empty)] (getL l35 0) x60) fun x61 =>
              M.ret (Out.norm [x61])) (
              M.ret (Out.norm [(getL l35 0)]))) fun o63 =>
          outK o63 (fun l62 =>
            bindO (binV BinOp.add (getL l35 1) (Value.int IntKind.i64 1)) fun x66 =>
            M.ret (Out.norm [(getL l62 0), x66])) (fun _ _ =>
            M.fail) (fun r65 => M.ret (Out.ret r65))) (
          M.ret (Out.exit 0 [(getL l35 0), (getL l35 1)]))) [(Value.slice none 0 0), (Value.int IntKind.i64 0)]) fun o69 =>
      outK o69 (fun _ => M.fail) (fun k70 l68 =>
        bif Nat.beq k70 0 then (
          M.bind (F.disk_Disk_Pending x2) fun x72 =>
          bindO (lenL (getL l68 0)) fun x73 =>
          bindO (binV BinOp.neq x72 x73) fun x74 =>
          condM x74 (
            M.ret (Value.bool false)) (
            bindO (lenL (getL l68 0)) fun x75 =>
            M.bind (F.granarylaw1_within a2 x75) fun x76 =>
            M.bind (F.disk_Disk_Crash x2 a2 a3) fun x77 =>
            bindO (lenL (getL l68 0)) fun x78 =>
            bindO (binV BinOp.sub x78 x76) fun x79 =>
            bindO (binV BinOp.neq x77 x79) fun x80 =>
            condM x80 (
              M.ret (Value.bool false)) (
              M.bind (loopM (fun l81 =>
                bindO (binV BinOp.lss (getL l81 0) x76) fun x82 =>
                condM x82 (
                  bindO (idxA 6 (getL l68 0) (getL l81 0)) fun x83 =>
                  M.bind (rdM (ldA 6 x83)) fun x84 =>
                  M.bind (F.granarylaw1_act x5 x84) fun x85 =>
                  M.bind (F.granarylaw1_num x85) fun x86 =>
                  bindO (binV BinOp.neq x86 (Value.int IntKind.i64 0)) fun x87 =>
                  condM x87 (
                    M.ret (Out.ret (Value.bool false))) (
                    bindO (binV BinOp.add (getL l81 0) (Value.int IntKind.i64 1)) fun x88 =>
                    M.ret (Out.norm [x88]))) (
                  M.ret (Out.exit 2 [(getL l81 0)]))) [(Value.int IntKind.i64 0)]) fun o90 =>
              outK o90 (fun _ => M.fail) (fun k91 _ =>
                bif Nat.beq k91 2 then (
                  M.bind (
                    bindO (lenL (getL l68 0)) fun x93 =>
                    bindO (binV BinOp.lss x76 x93) fun x94 =>
                    M.bind (guardM x94 true (M.ret (getL l68 0))) fun x95 =>
                    M.bind (guardM x94 true (M.ret x76)) fun x96 =>
                    M.bind (guardM x94 true (optM (idxA 6 x95 x96))) fun x97 =>
                    M.bind (guardM x94 true (optM (fieldA 0 x97))) fun x98 =>
                    M.bind (guardM x94 true (rdM (ld1 x98))) fun x99 =>
                    M.bind (guardM x94 true (optM (binV BinOp.eql x99 (Value.int IntKind.i64 3)))) fun x100 =>
                    bindO (pickV x94 x100 (Value.bool false)) fun x101 =>
                    condM x101 (
                      bindO (idxA 6 (getL l68 0) x76) fun x102 =>
                      bindO (fieldA 5 x102) fun x103 =>
                      M.bind (rdM (ld1 x103)) fun x104 =>
                      bindO (lenS x104) fun x105 =>
                      M.bind (F.granarylaw1_within a3 x105) fun x106 =>
                      drewM <|
                      bindO (idxA 6 (getL l68 0) x76) fun x107 =>
                      bindO (fieldA 4 x107) fun x108 =>
                      M.bind (rdM (ld1 x108)) fun x109 =>
                      bindO (idxA 6 (getL l68 0) x76) fun x110 =>
                      bindO (fieldA 5 x110) fun x111 =>
                      M.bind (rdM (ld1 x111)) fun x112 =>
                      bindO (sliceS x112 none (some x106)) fun x113 =>
                      M.bind (F.disk_Disk_Append x5 x109 x113) fun x114 =>
                      M.bind (F.granarylaw1_num x114) fun x115 =>
                      bindO (binV BinOp.neq x115 (Value.int IntKind.i64 0)) fun x116 =>
                      condM x116 (
                        M.ret (Out.ret (Value.bool false))) (
                        M.ret (Out.norm []))) (
                      M.ret (Out.norm []))) fun o118 =>
                  outK o118 (fun _ =>
                    M.bind (F.disk_Disk_Dump x2) fun x121 =>
                    M.bind (F.disk_Disk_Dump x5) fun x122 =>
                    M.bind (F.granarylaw1_sameStored x121 x122) fun x123 =>
                    M.bind (guardM x123 true (M.ret x2)) fun x124 =>
                    M.bind (guardM x123 true (F.disk_Disk_Used x124)) fun x125 =>
                    M.bind (guardM x123 true (M.ret x5)) fun x126 =>
                    M.bind (guardM x123 true (F.disk_Disk_Used x126)) fun x127 =>
                    M.bind (guardM x123 true (optM (binV BinOp.eql x125 x127))) fun x128 =>
                    bindO (pickV x123 x128 (Value.bool false)) fun x129 =>
                    M.bind (guardM x129 true (M.ret x2)) fun x130 =>
                    M.bind (guardM x129 true (F.disk_Disk_Pending x130)) fun x131 =>
                    M.bind (guardM x129 true (optM (binV BinOp.eql x131 (Value.int IntKind.i64 0)))) fun x132 =>
                    bindO (pickV x129 x132 (Value.bool false)) fun x133 =>
                    M.ret x133) (fun _ _ =>
                    M.fail) (fun r120 => M.ret r120)) else
                M.fail) (fun r92 => M.ret r92)))) else
        M.fail) (fun r71 => M.ret r71)))
def F.granarylaw1_DiskPrefix.plan : Plan := (seq leaf (seq leaf (seq leaf (seq (seq leaf (cond (seq leaf leaf) leaf)) (seq (seq leaf (cond (seq leaf leaf) leaf)) (seq leaf (seq (seq leaf (body (loop [13, 14] [13, 14, 66, 67, 68, 69, 70, 71, 72, 73, 74, 75, 76, 77, 78, 79, 80, 81, 82, 83, 84, 85, 86, 87, 88, 89, 90, 91, 92, 93, 94, 95, 96, 97, 98, 99, 100, 101, 102] [0] (seq (seq leaf (cond leaf leaf)) (fork [13] [13, 72, 73, 74, 75, 76, 77, 78, 79, 80, 81, 82, 83, 84, 85, 86, 87, 88, 89, 90, 91, 92, 93, 94, 95, 96, 97, 98, 99, 100, 101, 102] [] (body (seq leaf (cond leaf leaf))) leaf))))) (seq (seq leaf (cond (seq leaf leaf) leaf)) (seq leaf (seq (seq leaf (cond (seq leaf leaf) leaf)) (seq (seq leaf (body (loop [16] [8, 16, 121, 122, 123, 124, 125, 126, 127, 128, 129, 130, 131, 132, 133] [2] (seq (seq leaf (cond leaf leaf)) (seq (body (seq leaf (cond (seq leaf leaf) leaf))) leaf))))) (fork [] [8, 17, 134, 135, 136, 137, 138, 139, 140, 141, 142, 143, 144, 145, 146, 147, 148, 149, 150, 151, 152, 153, 154, 155, 156, 157, 158, 159, 160, 161, 162, 163, 164, 165, 166, 167, 168, 169] [] (seq leaf (cond (seq leaf (seq leaf (cond (seq leaf leaf) leaf))) leaf)) (seq leaf leaf)))))))))))))
theorem F.granarylaw1_DiskPrefix.lift : LiftOk Tryd.prog 5 (ap4 F.granarylaw1_DiskPrefix) :=
  lift4 (g := evFn Tryd.prog (tcons 8 (ap1 F.disk_New) (tcons 9 (ap1 F.granarylaw1_num) (tcons 11 (ap3 F.disk_Disk_Append) (tcons 18 (ap3 F.disk_Disk_Crash) (tcons 23 (ap2 F.granarylaw1_act) (tcons 24 (ap1 F.disk_Disk_Pending) (tcons 25 (ap2 F.granarylaw1_within) (tcons 26 (ap2 F.granarylaw1_sameStored) (tcons 27 (ap1 F.disk_Disk_Dump) (tcons 28 (ap1 F.disk_Disk_Used) tnil)))))))))) tnil 5 Tryd.f5 F.granarylaw1_DiskPrefix.plan) (evFn_sound (tcons_ok F.disk_New.lift (tcons_ok F.granarylaw1_num.lift (tcons_ok F.disk_Disk_Append.lift (tcons_ok F.disk_Disk_Crash.lift (tcons_ok F.granarylaw1_act.lift (tcons_ok F.disk_Disk_Pending.lift (tcons_ok F.granarylaw1_within.lift (tcons_ok F.granarylaw1_sameStored.lift (tcons_ok F.disk_Disk_Dump.lift (tcons_ok F.disk_Disk_Used.lift tnil_ok)))))))))) tnil_ok Tryd.func5 (by kernel_rfl)) (fun x0 x1 x2 x3 => by kernel_rfl)

/-- granary/granarylaw1.DiskSafe -/
noncomputable def F.granarylaw1_DiskSafe (a0 : Value) : M Value :=
  M.bind (F.disk_New (Value.int IntKind.i64 1073741824)) fun x1 =>
  bindO (extV 0 x1) fun x2 =>
  bindO (extV 1 x1) fun x3 =>
  M.bind (F.granarylaw1_num x3) fun x4 =>
  bindO (binV BinOp.neq x4 (Value.int IntKind.i64 0)) fun x5 =>
  M.bind (guardM x5 false (M.ret x2)) fun x6 =>
  M.bind (guardM x5 false (optM (eqV (EqSh.one EqK.ptr) x6 (Value.pointer none)))) fun x7 =>
  bindO (pickV x5 (Value.bool true) x7) fun x8 =>
  M.bind (guardM x8 false (M.ret x2)) fun x9 =>
  M.bind (guardM x8 false (F.disk_Disk_Create x9 (Value.string (ByteArray.mk #[102, 105, 114, 115, 116])))) fun x10 =>
  M.bind (guardM x8 false (F.granarylaw1_num x10)) fun x11 =>
  M.bind (guardM x8 false (optM (binV BinOp.neq x11 (Value.int IntKind.i64 0)))) fun x12 =>
  bindO (pickV x8 (Value.bool true) x12) fun x13 =>
  condM x13 (
    M.ret (Value.bool false)) (
    M.bind (loopM (fun l14 =>
      bindO (lenL a0) fun x15 =>
      bindO (binV BinOp.lss (getL l14 0) x15) fun x16 =>
      condM x16 (
        M.bind (
          bindO (idxA 6 a0 (getL l14 0)) fun x17 =>
          bindO (fieldA 0 x17) fun x18 =>
          M.bind (rdM (ld1 x18)) fun x19 =>
          bindO (binV BinOp.neq x19 (Value.int IntKind.i64 20)) fun x20 =>
          condM x20 (
            bindO (idxA 6 a0 (getL l14 0)) fun x21 =>
            M.bind (rdM (ldA 6 x21)) fun x22 =>
            M.bind (F.granarylaw1_step x2 x22) fun _ =>
            M.ret (Out.norm [])) (
            M.ret (Out.norm []))) fun o25 =>
        outK o25 (fun _ =>
          bindO (binV BinOp.add (getL l14 0) (Value.int IntKind.i64 1)) fun x28 =>
          M.ret (Out.norm [x28])) (fun _ _ =>
          M.fail) (fun r27 => M.ret (Out.ret r27))) (
        M.ret (Out.exit 0 [(getL l14 0)]))) [(Value.int IntKind.i64 0)]) fun o31 =>
    outK o31 (fun _ => M.fail) (fun k32 _ =>
      bif Nat.beq k32 0 then (
        M.bind (F.disk_Disk_Dump x2) fun x34 =>
        M.bind (F.disk_Disk_SyncDir x2 (Value.string (ByteArray.mk #[]))) fun x35 =>
        M.bind (F.granarylaw1_num x35) fun x36 =>
        bindO (binV BinOp.neq x36 (Value.int IntKind.i64 0)) fun x37 =>
        condM x37 (
          M.ret (Value.bool false)) (
          M.bind (loopM (fun l38 =>
            bindO (lenL x34) fun x39 =>
            bindO (binV BinOp.lss (getL l38 0) x39) fun x40 =>
            condM x40 (
              bindO (idxA 3 x34 (getL l38 0)) fun x41 =>
              bindO (fieldA 1 x41) fun x42 =>
              M.bind (rdM (ld1 x42)) fun x43 =>
              bindO (binV BinOp.eql x43 (Value.int IntKind.i64 1)) fun x44 =>
              M.bind (guardM x44 true (M.ret x2)) fun x45 =>
              M.bind (guardM x44 true (M.ret x34)) fun x46 =>
              M.bind (guardM x44 true (M.ret (getL l38 0))) fun x47 =>
              M.bind (guardM x44 true (optM (idxA 3 x46 x47))) fun x48 =>
              M.bind (guardM x44 true (optM (fieldA 0 x48))) fun x49 =>
              M.bind (guardM x44 true (rdM (ld1 x49))) fun x50 =>
              M.bind (guardM x44 true (F.disk_Disk_SyncDir x45 x50)) fun x51 =>
              M.bind (guardM x44 true (F.granarylaw1_num x51)) fun x52 =>
              M.bind (guardM x44 true (optM (binV BinOp.neq x52 (Value.int IntKind.i64 0)))) fun x53 =>
              bindO (pickV x44 x53 (Value.bool false)) fun x54 =>
              condM x54 (
                M.ret (Out.ret (Value.bool false))) (
                bindO (idxA 3 x34 (getL l38 0)) fun x55 =>
                bindO (fieldA 1 x55) fun x56 =>
                M.bind (rdM (ld1 x56)) fun x57 =>
                bindO (binV BinOp.eql x57 (Value.int IntKind.i64 2)) fun x58 =>
                M.bind (guardM x58 true (M.ret x2)) fun x59 =>
                M.bind (guardM x58 true (M.ret x34)) fun x60 =>
                M.bind (guardM x58 true (M.ret (getL l38 0))) fun x61 =>
                M.bind (guardM x58 true (optM (idxA 3 x60 x61))) fun x62 =>
                M.bind (guardM x58 true (optM (fieldA 0 x62))) fun x63 =>
                M.bind (guardM x58 true (rdM (ld1 x63))) fun x64 =>
                M.bind (guardM x58 true (F.disk_Disk_Sync x59 x64)) fun x65 =>
                M.bind (guardM x58 true (F.granarylaw1_num x65)) fun x66 =>
                M.bind (guardM x58 true (optM (binV BinOp.neq x66 (Value.int IntKind.i64 0)))) fun x67 =>
                bindO (pickV x58 x67 (Value.bool false)) fun x68 =>
                condM x68 (
                  M.ret (Out.ret (Value.bool false))) (
                  bindO (binV BinOp.add (getL l38 0) (Value.int IntKind.i64 1)) fun x69 =>
                  M.ret (Out.norm [x69])))) (
              M.ret (Out.exit 2 [(getL l38 0)]))) [(Value.int IntKind.i64 0)]) fun o71 =>
          outK o71 (fun _ => M.fail) (fun k72 _ =>
            bif Nat.beq k72 2 then (
              M.bind (F.disk_Disk_Crash x2 (Value.int IntKind.i64 0) (Value.int IntKind.i64 0)) fun _ =>
              M.bind (F.disk_Disk_Dump x2) fun x75 =>
              M.bind (F.granarylaw1_sameStored x34 x75) fun x76 =>
              M.ret x76) else
            M.fail) (fun r73 => M.ret r73))) else
      M.fail) (fun r33 => M.ret r33))
def F.granarylaw1_DiskSafe.plan : Plan := (seq leaf (seq leaf (seq (seq leaf (cond (seq leaf leaf) leaf)) (seq (seq leaf (body (loop [5] [5, 25, 26, 27, 28, 29, 30, 31, 32, 33, 34, 35, 36, 37, 38, 39, 40, 41, 42] [0] (seq (seq leaf (cond leaf leaf)) (fork [] [31, 32, 33, 34, 35, 36, 37, 38, 39, 40, 41, 42] [] (body (seq leaf (cond leaf leaf))) leaf))))) (seq leaf (seq (seq leaf (cond (seq leaf leaf) leaf)) (seq (seq leaf (body (loop [7] [2, 7, 49, 50, 51, 52, 53, 54, 55, 56, 57, 58, 59, 60, 61, 62, 63, 64, 65, 66, 67, 68, 69, 70, 71, 72, 73, 74, 75, 76, 77, 78, 79, 80, 81, 82, 83, 84, 85, 86, 87, 88] [2] (seq (seq leaf (cond leaf leaf)) (seq (body (seq (seq leaf (cond (seq leaf leaf) leaf)) (seq leaf (cond (seq leaf leaf) leaf)))) leaf))))) (seq leaf (seq leaf leaf)))))))))
theorem F.granarylaw1_DiskSafe.lift : LiftOk Tryd.prog 6 (ap1 F.granarylaw1_DiskSafe) :=
  lift1 (g := evFn Tryd.prog (tcons 8 (ap1 F.disk_New) (tcons 9 (ap1 F.granarylaw1_num) (tcons 10 (ap2 F.disk_Disk_Create) (tcons 12 (ap2 F.disk_Disk_Sync) (tcons 13 (ap2 F.disk_Disk_SyncDir) (tcons 18 (ap3 F.disk_Disk_Crash) (tcons 22 (ap2 F.granarylaw1_step) (tcons 26 (ap2 F.granarylaw1_sameStored) (tcons 27 (ap1 F.disk_Disk_Dump) tnil))))))))) tnil 6 Tryd.f6 F.granarylaw1_DiskSafe.plan) (evFn_sound (tcons_ok F.disk_New.lift (tcons_ok F.granarylaw1_num.lift (tcons_ok F.disk_Disk_Create.lift (tcons_ok F.disk_Disk_Sync.lift (tcons_ok F.disk_Disk_SyncDir.lift (tcons_ok F.disk_Disk_Crash.lift (tcons_ok F.granarylaw1_step.lift (tcons_ok F.granarylaw1_sameStored.lift (tcons_ok F.disk_Disk_Dump.lift tnil_ok))))))))) tnil_ok Tryd.func6 (by kernel_rfl)) (fun x0 => by kernel_rfl)

/-- (*granary/disk.Disk).Acts -/
noncomputable def F.disk_Disk_Acts (a0 : Value) : M Value :=
  bindO (eqV (EqSh.one EqK.ptr) a0 (Value.pointer none)) fun x1 =>
  condM x1 (
    M.ret (Value.int IntKind.i64 0)) (
    bindO (nilChk a0) fun x2 =>
    bindO (fieldA 1 x2) fun x3 =>
    M.bind (rdM (ld1 x3)) fun x4 =>
    M.ret x4)
def F.disk_Disk_Acts.plan : Plan := (seq leaf (seq (seq leaf (cond (seq leaf leaf) leaf)) (seq leaf leaf)))
theorem F.disk_Disk_Acts.lift : LiftOk Tryd.prog 29 (ap1 F.disk_Disk_Acts) :=
  lift1 (g := evFn Tryd.prog tnil tnil 29 Tryd.f29 F.disk_Disk_Acts.plan) (evFn_sound tnil_ok tnil_ok Tryd.func29 (by kernel_rfl)) (fun x0 => by kernel_rfl)

/-- (*granary/disk.Disk).Reads -/
noncomputable def F.disk_Disk_Reads (a0 : Value) : M Value :=
  bindO (eqV (EqSh.one EqK.ptr) a0 (Value.pointer none)) fun x1 =>
  condM x1 (
    M.ret (Value.int IntKind.i64 0)) (
    bindO (nilChk a0) fun x2 =>
    bindO (fieldA 2 x2) fun x3 =>
    M.bind (rdM (ld1 x3)) fun x4 =>
    M.ret x4)
def F.disk_Disk_Reads.plan : Plan := (seq leaf (seq (seq leaf (cond (seq leaf leaf) leaf)) (seq leaf leaf)))
theorem F.disk_Disk_Reads.lift : LiftOk Tryd.prog 30 (ap1 F.disk_Disk_Reads) :=
  lift1 (g := evFn Tryd.prog tnil tnil 30 Tryd.f30 F.disk_Disk_Reads.plan) (evFn_sound tnil_ok tnil_ok Tryd.func30 (by kernel_rfl)) (fun x0 => by kernel_rfl)

/-- granary/granarylaw1.DiskRefuses -/
noncomputable def F.granarylaw1_DiskRefuses (a0 a1 : Value) : M Value :=
  M.bind (
    bindO (binV BinOp.lss a0 (Value.int IntKind.i64 0)) fun x1 =>
    M.bind (guardM x1 false (M.ret a0)) fun x2 =>
    M.bind (guardM x1 false (optM (binV BinOp.gtr x2 (Value.int IntKind.i64 1073741824)))) fun x3 =>
    bindO (pickV x1 (Value.bool true) x3) fun x4 =>
    condM x4 (
      M.ret (Out.norm [(Value.int IntKind.i64 100)])) (
      M.ret (Out.norm [a0]))) fun o6 =>
  outK o6 (fun l5 =>
    M.bind (F.disk_New (getL l5 0)) fun x9 =>
    bindO (extV 0 x9) fun x10 =>
    bindO (extV 1 x9) fun x11 =>
    M.bind (F.granarylaw1_num x11) fun x12 =>
    bindO (binV BinOp.neq x12 (Value.int IntKind.i64 0)) fun x13 =>
    M.bind (guardM x13 false (M.ret x10)) fun x14 =>
    M.bind (guardM x13 false (optM (eqV (EqSh.one EqK.ptr) x14 (Value.pointer none)))) fun x15 =>
    bindO (pickV x13 (Value.bool true) x15) fun x16 =>
    M.bind (guardM x16 false (M.ret x10)) fun x17 =>
    M.bind (guardM x16 false (F.disk_Disk_Create x17 (Value.string (ByteArray.mk #[102, 105, 114, 115, 116])))) fun x18 =>
    M.bind (guardM x16 false (F.granarylaw1_num x18)) fun x19 =>
    M.bind (guardM x16 false (optM (binV BinOp.neq x19 (Value.int IntKind.i64 0)))) fun x20 =>
    bindO (pickV x16 (Value.bool true) x20) fun x21 =>
    M.bind (guardM x21 false (M.ret x10)) fun x22 =>
    M.bind (guardM x21 false (F.disk_Disk_Dump x22)) fun x23 =>
    M.bind (guardM x21 false (optM (lenL x23))) fun x24 =>
    M.bind (guardM x21 false (optM (binV BinOp.neq x24 (Value.int IntKind.i64 1)))) fun x25 =>
    bindO (pickV x21 (Value.bool true) x25) fun x26 =>
    condM x26 (
      M.ret (Value.bool false)) (
      M.bind (loopM (fun l27 =>
        bindO (lenL a1) fun x28 =>
        bindO (binV BinOp.lss (getL l27 0) x28) fun x29 =>
        condM x29 (
          M.bind (
            bindO (idxA 6 a1 (getL l27 0)) fun x30 =>
            M.bind (rdM (ldA 6 x30)) fun x31 =>
            M.bind (newM 44 #[(Value.int IntKind.i64 0), (Value.int IntKind.i64 0), (Value.int IntKind.i64 0), (Value.int IntKind.i64 0), (Value.string ByteArray.empty), (Value.string ByteArray.empty)]) fun x32 =>
            M.bind (stM 6 x32 x31) fun _ =>
            M.bind (F.disk_Disk_Dump x10) fun x34 =>
            M.bind (F.disk_Disk_Used x10) fun x35 =>
            M.bind (F.disk_Disk_Acts x10) fun x36 =>
            M.bind (F.disk_Disk_Reads x10) fun x37 =>
            M.bind (F.disk_Disk_Pending x10) fun x38 =>
            M.bind (
              bindO (fieldA 0 x32) fun x39 =>
              M.bind (rdM (ld1 x39)) fun x40 =>
              bindO (binV BinOp.geq x40 (Value.int IntKind.i64 1)) fun x41 =>
              M.bind (guardM x41 true (optM (fieldA 0 x32))) fun x42 =>
              M.bind (guardM x41 true (rdM (ld1 x42))) fun x43 =>
              M.bind (guardM x41 true (optM (binV BinOp.leq x43 (Value.int IntKind.i64 6)))) fun x44 =>
              bindO (pickV x41 x44 (Value.bool false)) fun x45 =>
              condM x45 (
                M.bind (rdM (ldA 6 x32)) fun x46 =>
                M.bind (F.granarylaw1_act x10 x46) fun x47 =>
                M.ret (Out.norm [x47])) (
                bindO (fieldA 0 x32) fun x48 =>
                M.bind (rdM (ld1 x48)) fun x49 =>
                bindO (binV BinOp.eql x49 (Value.int IntKind.i64 7)) fun x50 =>
                condM x50 (
                  bindO (fieldA 4 x32) fun x51 =>
                  M.bind (rdM (ld1 x51)) fun x52 =>
                  M.bind (F.disk_Disk_Sync x10 x52) fun x53 =>
                  M.ret (Out.norm [x53])) (
                  bindO (fieldA 0 x32) fun x54 =>
                  M.bind (rdM (ld1 x54)) fun x55 =>
                  bindO (binV BinOp.eql x55 (Value.int IntKind.i64 8)) fun x56 =>
                  condM x56 (
                    bindO (fieldA 4 x32) fun x57 =>
                    M.bind (rdM (ld1 x57)) fun x58 =>
                    M.bind (F.disk_Disk_SyncDir x10 x58) fun x59 =>
                    M.ret (Out.norm [x59])) (
                    bindO (fieldA 0 x32) fun x60 =>
                    M.bind (rdM (ld1 x60)) fun x61 =>
                    bindO (binV BinOp.eql x61 (Value.int IntKind.i64 9)) fun x62 =>
                    condM x62 (
                      bindO (fieldA 4 x32) fun x63 =>
                      M.bind (rdM (ld1 x63)) fun x64 =>
                      bindO (fieldA 2 x32) fun x65 =>
                      M.bind (rdM (ld1 x65)) fun x66 =>
                      bindO (fieldA 3 x32) fun x67 =>
                      M.bind (rdM (ld1 x67)) fun x68 =>
                      M.bind (F.disk_Disk_Read x10 x64 x66 x68) fun x69 =>
                      bindO (extV 0 x69) fun _ =>
                      bindO (extV 1 x69) fun x71 =>
                      M.ret (Out.norm [x71])) (
                      bindO (fieldA 0 x32) fun x72 =>
                      M.bind (rdM (ld1 x72)) fun x73 =>
                      bindO (binV BinOp.eql x73 (Value.int IntKind.i64 20)) fun x74 =>
                      condM x74 (
                        bindO (fieldA 2 x32) fun x75 =>
                        M.bind (rdM (ld1 x75)) fun x76 =>
                        M.bind (F.disk_Disk_Arm x10 x76) fun x77 =>
                        M.ret (Out.norm [x77])) (
                        bindO (fieldA 0 x32) fun x78 =>
                        M.bind (rdM (ld1 x78)) fun x79 =>
                        bindO (binV BinOp.eql x79 (Value.int IntKind.i64 21)) fun x80 =>
                        condM x80 (
                          bindO (fieldA 2 x32) fun x81 =>
                          M.bind (rdM (ld1 x81)) fun x82 =>
                          bindO (fieldA 3 x32) fun x83 =>
                          M.bind (rdM (ld1 x83)) fun x84 =>
                          M.bind (F.disk_Disk_Crash x10 x82 x84) fun _ =>
                          M.ret (Out.norm [(Value.int IntKind.i64 0)])) (
                          M.ret (Out.norm [(Value.int IntKind.i64 0)])))))))) fun o87 =>
            outK o87 (fun l86 =>
              M.bind (F.granarylaw1_num (getL l86 0)) fun x90 =>
              bindO (binV BinOp.neq x90 (Value.int IntKind.i64 0)) fun x91 =>
              condM x91 (
                M.bind (F.disk_Disk_Dump x10) fun x92 =>
                M.bind (F.granarylaw1_sameStored x34 x92) fun x93 =>
                bindO (notV x93) fun x94 =>
                M.bind (guardM x94 false (M.ret x35)) fun x95 =>
                M.bind (guardM x94 false (M.ret x10)) fun x96 =>
                M.bind (guardM x94 false (F.disk_Disk_Used x96)) fun x97 =>
                M.bind (guardM x94 false (optM (binV BinOp.neq x95 x97))) fun x98 =>
                bindO (pickV x94 (Value.bool true) x98) fun x99 =>
                M.bind (guardM x99 false (M.ret x36)) fun x100 =>
                M.bind (guardM x99 false (M.ret x10)) fun x101 =>
                M.bind (guardM x99 false (F.disk_Disk_Acts x101)) fun x102 =>
                M.bind (guardM x99 false (optM (binV BinOp.neq x100 x102))) fun x103 =>
                bindO (pickV x99 (Value.bool true) x103) fun x104 =>
                M.bind (guardM x104 false (M.ret x37)) fun x105 =>
                M.bind (guardM x104 false (M.ret x10)) fun x106 =>
                M.bind (guardM x104 false (F.disk_Disk_Reads x106)) fun x107 =>
                M.bind (guardM x104 false (optM (binV BinOp.neq x105 x107))) fun x108 =>
                bindO (pickV x104 (Value.bool true) x108) fun x109 =>
                M.bind (guardM x109 false (M.ret x38)) fun x110 =>
                M.bind (guardM x109 false (M.ret x10)) fun x111 =>
                M.bind (guardM x109 false (F.disk_Disk_Pending x111)) fun x112 =>
                M.bind (guardM x109 false (optM (binV BinOp.neq x110 x112))) fun x113 =>
                bindO (pickV x109 (Value.bool true) x113) fun x114 =>
                condM x114 (
                  M.ret (Out.ret (Value.bool false))) (
                  M.ret (Out.norm []))) (
                M.ret (Out.norm []))) (fun _ _ =>
              M.fail) (fun r89 => M.ret (Out.ret r89))) fun o117 =>
          outK o117 (fun _ =>
            bindO (binV BinOp.add (getL l27 0) (Value.int IntKind.i64 1)) fun x120 =>
            M.ret (Out.norm [x120])) (fun _ _ =>
            M.fail) (fun r119 => M.ret (Out.ret r119))) (
          M.ret (Out.exit 0 [(getL l27 0)]))) [(Value.int IntKind.i64 0)]) fun o123 =>
      outK o123 (fun _ => M.fail) (fun k124 _ =>
        bif Nat.beq k124 0 then (
          M.ret (Value.bool true)) else
        M.fail) (fun r125 => M.ret r125))) (fun _ _ =>
    M.fail) (fun r8 => M.ret r8)
def F.granarylaw1_DiskRefuses.plan : Plan := (seq leaf (seq leaf (fork [5] [5, 17, 18, 19, 20, 21, 22] [] (seq leaf (cond leaf leaf)) (seq leaf (seq (seq leaf (cond (seq leaf leaf) leaf)) (seq (seq leaf (body (loop [8] [4, 8, 9, 10, 11, 12, 13, 14, 15, 47, 48, 49, 50, 51, 52, 53, 54, 55, 56, 57, 58, 59, 60, 61, 62, 63, 64, 65, 66, 67, 68, 69, 70, 71, 72, 73, 74, 75, 76, 77, 78, 79, 80, 81, 82, 83, 84, 85, 86, 87, 88, 89, 90, 91, 92, 93, 94, 95, 96, 97, 98, 99, 100, 101, 102, 103, 104, 105, 106, 107, 108, 109, 110, 111, 112, 113, 114, 115, 116, 117, 118, 119, 120, 121, 122, 123, 124, 125, 126, 127, 128, 129, 130, 131, 132, 133, 134, 135, 136, 137, 138, 139, 140, 141, 142, 143, 144, 145, 146, 147, 148, 149, 150, 151, 152, 153, 154, 155, 156, 157, 158, 159] [0] (seq (seq leaf (cond leaf leaf)) (fork [] [4, 9, 10, 11, 12, 13, 14, 15, 53, 54, 55, 56, 57, 58, 59, 60, 61, 62, 63, 64, 65, 66, 67, 68, 69, 70, 71, 72, 73, 74, 75, 76, 77, 78, 79, 80, 81, 82, 83, 84, 85, 86, 87, 88, 89, 90, 91, 92, 93, 94, 95, 96, 97, 98, 99, 100, 101, 102, 103, 104, 105, 106, 107, 108, 109, 110, 111, 112, 113, 114, 115, 116, 117, 118, 119, 120, 121, 122, 123, 124, 125, 126, 127, 128, 129, 130, 131, 132, 133, 134, 135, 136, 137, 138, 139, 140, 141, 142, 143, 144, 145, 146, 147, 148, 149, 150, 151, 152, 153, 154, 155, 156, 157, 158, 159] [] (body (seq leaf (seq leaf (seq leaf (seq leaf (seq leaf (seq leaf (seq leaf (fork [15] [15, 67, 68, 69, 70, 71, 72, 73, 74, 75, 76, 77, 78, 79, 80, 81, 82, 83, 84, 85, 86, 87, 88, 89, 90, 91, 92, 93, 94, 95, 96, 97, 98, 99, 100, 101, 102, 103, 104, 105, 106, 107, 108, 109, 110, 111, 112, 113, 114, 115, 116, 117, 118, 119, 120, 121, 122, 123, 124, 125, 126, 127] [] (body (seq leaf (cond leaf (seq leaf (cond leaf (seq leaf (cond leaf (seq leaf (cond leaf (seq leaf (cond leaf (seq leaf (cond leaf leaf))))))))))))) (seq leaf (cond (seq leaf (cond (seq leaf leaf) leaf)) leaf))))))))))) leaf))))) (seq leaf leaf)))))))
theorem F.granarylaw1_DiskRefuses.lift : LiftOk Tryd.prog 7 (ap2 F.granarylaw1_DiskRefuses) :=
  lift2 (g := evFn Tryd.prog (tcons 8 (ap1 F.disk_New) (tcons 9 (ap1 F.granarylaw1_num) (tcons 10 (ap2 F.disk_Disk_Create) (tcons 12 (ap2 F.disk_Disk_Sync) (tcons 13 (ap2 F.disk_Disk_SyncDir) (tcons 16 (ap2 F.disk_Disk_Arm) (tcons 18 (ap3 F.disk_Disk_Crash) (tcons 23 (ap2 F.granarylaw1_act) (tcons 24 (ap1 F.disk_Disk_Pending) (tcons 26 (ap2 F.granarylaw1_sameStored) (tcons 27 (ap1 F.disk_Disk_Dump) (tcons 28 (ap1 F.disk_Disk_Used) (tcons 29 (ap1 F.disk_Disk_Acts) (tcons 30 (ap1 F.disk_Disk_Reads) (tcons 31 (ap4 F.disk_Disk_Read) tnil))))))))))))))) tnil 7 Tryd.f7 F.granarylaw1_DiskRefuses.plan) (evFn_sound (tcons_ok F.disk_New.lift (tcons_ok F.granarylaw1_num.lift (tcons_ok F.disk_Disk_Create.lift (tcons_ok F.disk_Disk_Sync.lift (tcons_ok F.disk_Disk_SyncDir.lift (tcons_ok F.disk_Disk_Arm.lift (tcons_ok F.disk_Disk_Crash.lift (tcons_ok F.granarylaw1_act.lift (tcons_ok F.disk_Disk_Pending.lift (tcons_ok F.granarylaw1_sameStored.lift (tcons_ok F.disk_Disk_Dump.lift (tcons_ok F.disk_Disk_Used.lift (tcons_ok F.disk_Disk_Acts.lift (tcons_ok F.disk_Disk_Reads.lift (tcons_ok F.disk_Disk_Read.lift tnil_ok))))))))))))))) tnil_ok Tryd.func7 (by kernel_rfl)) (fun x0 x1 => by kernel_rfl)

end Go.Proofs.YtojnickeblbgoaaDoor
