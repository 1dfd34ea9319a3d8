/-
  THE FUNCTIONAL FORMS of the functions of this seat's translation, and that each function comes to its form: printed by a program of the prover's own (lift.py).
-/
import Derived.Test.YtpiceodfdjihhaaG2
namespace Go.Proofs.Ytpiceodfdjihhaa
open Go.Lift Go.Lift.Plan
/-- (*granary/granarylaw15.Play).kept -/
noncomputable def F.granarylaw15_Play_kept (a0 : Value) : M Value :=
  M.bind (loopM (fun l1 =>
    bindO (nilChk a0) fun x2 =>
    bindO (fieldA 1 x2) fun x3 =>
    M.bind (rdM (ld1 x3)) fun x4 =>
    bindO (lenL x4) fun x5 =>
    bindO (binV BinOp.lss (getL l1 0) x5) fun x6 =>
    condM x6 (
      drewM <|
      bindO (nilChk a0) fun x7 =>
      bindO (fieldA 9 x7) fun x8 =>
      M.bind (rdM (ld1 x8)) fun x9 =>
      bindO (idxA 1 x9 (getL l1 0)) fun x10 =>
      M.bind (rdM (ld1 x10)) fun x11 =>
      bindO (binV BinOp.geq x11 (Value.int IntKind.i64 0)) fun x12 =>
      M.bind (guardM x12 true (M.ret a0)) fun x13 =>
      M.bind (guardM x12 true (optM (nilChk x13))) fun x14 =>
      M.bind (guardM x12 true (optM (fieldA 1 x14))) fun x15 =>
      M.bind (guardM x12 true (rdM (ld1 x15))) fun x16 =>
      M.bind (guardM x12 true (M.ret (getL l1 0))) fun x17 =>
      M.bind (guardM x12 true (optM (idxA 8 x16 x17))) fun x18 =>
      M.bind (guardM x12 true (optM (fieldA 0 x18))) fun x19 =>
      M.bind (guardM x12 true (rdM (ld1 x19))) fun x20 =>
      M.bind (guardM x12 true (M.ret a0)) fun x21 =>
      M.bind (guardM x12 true (optM (nilChk x21))) fun x22 =>
      M.bind (guardM x12 true (optM (fieldA 9 x22))) fun x23 =>
      M.bind (guardM x12 true (rdM (ld1 x23))) fun x24 =>
      M.bind (guardM x12 true (M.ret (getL l1 0))) fun x25 =>
      M.bind (guardM x12 true (optM (idxA 1 x24 x25))) fun x26 =>
      M.bind (guardM x12 true (rdM (ld1 x26))) fun x27 =>
      M.bind (guardM x12 true (optM (binV BinOp.neq x20 x27))) fun x28 =>
      bindO (pickV x12 x28 (Value.bool false)) fun x29 =>
      condM x29 (
        M.ret (Out.ret (Value.bool false))) (
        bindO (binV BinOp.add (getL l1 0) (Value.int IntKind.i64 1)) fun x30 =>
        M.ret (Out.norm [x30]))) (
      M.ret (Out.exit 0 [(getL l1 0)]))) [(Value.int IntKind.i64 0)]) fun o32 =>
  outK o32 (fun _ => M.fail) (fun i33 _ =>
    bif Nat.beq i33 0 then (
      M.ret (Value.bool true)) else
    M.fail) (fun r34 => M.ret r34)
def F.granarylaw15_Play_kept.plan : Plan := (seq leaf (seq (seq leaf (body (loop [3] [2, 3, 4, 5, 6, 7, 8, 9, 10, 11, 12, 13, 14, 15, 16, 17, 18, 19, 20, 21, 22, 23, 24, 25, 26, 27, 28, 29, 30, 31, 32, 33, 34, 35, 36, 37, 38] [0] (seq (seq leaf (cond leaf leaf)) (seq (body (seq leaf (cond (seq leaf leaf) leaf))) leaf))))) (seq leaf leaf)))
theorem F.granarylaw15_Play_kept.lift : LiftOk Try.prog 23 (ap1 F.granarylaw15_Play_kept) :=
  lift1 (g := evFn Try.prog tnil tnil 23 Try.f23 F.granarylaw15_Play_kept.plan) (evFn_sound tnil_ok tnil_ok Try.func23 (by kernel_rfl)) (fun x0 => by kernel_rfl)

/-- (*granary/granarylaw15.Play).begun -/
noncomputable def F.granarylaw15_Play_begun (a0 : Value) : M Value :=
  bindO (nilChk a0) fun x1 =>
  bindO (fieldA 0 x1) fun x2 =>
  M.bind (rdM (ld1 x2)) fun x3 =>
  M.bind (F.control_Control_Busy x3) fun x4 =>
  M.bind (guardM x4 false (M.ret a0)) fun x5 =>
  M.bind (guardM x4 false (optM (buildV #[(Value.int IntKind.i64 0), (Value.int IntKind.i64 0), (Value.int IntKind.i64 0)] [(0, 1, (Value.int IntKind.i64 1))]))) fun x6 =>
  M.bind (guardM x4 false (F.granarylaw15_Play_begin x5 x6)) fun x7 =>
  bindO (pickV x4 (Value.bool true) x7) fun x8 =>
  M.ret x8
def F.granarylaw15_Play_begun.plan : Plan := (seq leaf (seq leaf leaf))
theorem F.granarylaw15_Play_begun.lift : LiftOk Try.prog 24 (ap1 F.granarylaw15_Play_begun) :=
  lift1 (g := evFn Try.prog (tcons 12 (ap1 F.control_Control_Busy) (tcons 39 (ap2 F.granarylaw15_Play_begin) tnil)) tnil 24 Try.f24 F.granarylaw15_Play_begun.plan) (evFn_sound (tcons_ok F.control_Control_Busy.lift (tcons_ok F.granarylaw15_Play_begin.lift tnil_ok)) tnil_ok Try.func24 (by kernel_rfl)) (fun x0 => by kernel_rfl)

/-- granary/granarylaw15.ControlAtomic -/
noncomputable def F.granarylaw15_ControlAtomic (a0 a1 a2 : Value) : M Value :=
  M.bind (newM 23 (Value.cells a1)) fun x1 =>
  M.bind (rdM (ldA 3 x1)) fun x2 =>
  M.bind (F.granarylaw15_made a0 x2) fun x3 =>
  M.bind (F.granarylaw15_started x3) fun x4 =>
  bindO (extV 0 x4) fun x5 =>
  bindO (extV 1 x4) fun x6 =>
  bindO (notV x6) fun x7 =>
  condM x7 (
    M.ret (Value.bool false)) (
    M.bind (loopM (fun l8 =>
      bindO (lenL a2) fun x9 =>
      bindO (binV BinOp.lss (getL l8 0) x9) fun x10 =>
      M.bind (guardM x10 true (M.ret (getL l8 0))) fun x11 =>
      M.bind (guardM x10 true (optM (binV BinOp.lss x11 (Value.int IntKind.i64 1099511627776)))) fun x12 =>
      bindO (pickV x10 x12 (Value.bool false)) fun x13 =>
      condM x13 (
        bindO (idxA 3 a2 (getL l8 0)) fun x14 =>
        M.bind (rdM (ldA 3 x14)) fun x15 =>
        M.bind (F.granarylaw15_Play_step x5 x15) fun x16 =>
        bindO (notV x16) fun x17 =>
        M.bind (guardM x17 false (M.ret x5)) fun x18 =>
        M.bind (guardM x17 false (F.granarylaw15_Play_kept x18)) fun x19 =>
        M.bind (guardM x17 false (optM (notV x19))) fun x20 =>
        bindO (pickV x17 (Value.bool true) x20) fun x21 =>
        condM x21 (
          M.ret (Out.ret (Value.bool false))) (
          bindO (binV BinOp.add (getL l8 0) (Value.int IntKind.i64 1)) fun x22 =>
          M.ret (Out.norm [x22]))) (
        M.ret (Out.exit 0 [(getL l8 0)]))) [(Value.int IntKind.i64 0)]) fun o24 =>
    outK o24 (fun _ => M.fail) (fun i25 _ =>
      bif Nat.beq i25 0 then (
        M.bind (F.granarylaw15_Play_begun x5) fun x27 =>
        M.ret x27) else
      M.fail) (fun r26 => M.ret r26))
def F.granarylaw15_ControlAtomic.plan : Plan := (seq leaf (seq leaf (seq (seq leaf (cond (seq leaf leaf) leaf)) (seq (seq leaf (body (loop [9] [6, 9, 19, 20, 21, 22, 23, 24, 25, 26, 27, 28, 29, 30, 31, 32, 33, 34, 35, 36, 37, 38, 39, 40] [0] (seq (seq leaf (cond leaf leaf)) (seq (body (seq leaf (cond (seq leaf leaf) leaf))) leaf))))) (seq leaf leaf)))))
theorem F.granarylaw15_ControlAtomic.lift : LiftOk Try.prog 5 (ap3 F.granarylaw15_ControlAtomic) :=
  lift3 (g := evFn Try.prog (tcons 7 (ap2 F.granarylaw15_made) (tcons 21 (ap1 F.granarylaw15_started) (tcons 22 (ap2 F.granarylaw15_Play_step) (tcons 23 (ap1 F.granarylaw15_Play_kept) (tcons 24 (ap1 F.granarylaw15_Play_begun) tnil))))) tnil 5 Try.f5 F.granarylaw15_ControlAtomic.plan) (evFn_sound (tcons_ok F.granarylaw15_made.lift (tcons_ok F.granarylaw15_started.lift (tcons_ok F.granarylaw15_Play_step.lift (tcons_ok F.granarylaw15_Play_kept.lift (tcons_ok F.granarylaw15_Play_begun.lift tnil_ok))))) tnil_ok Try.func5 (by kernel_rfl)) (fun x0 x1 x2 => by kernel_rfl)

/-- granary/granarylaw15.idle -/
noncomputable def F.granarylaw15_idle (a0 a1 : Value) : M Value :=
  M.bind (newM 26 (Value.cells a1)) fun x1 =>
  M.bind (loopM (fun l2 =>
    bindO (fieldA 17 x1) fun x3 =>
    M.bind (rdM (ld1 x3)) fun x4 =>
    bindO (fieldA 15 x1) fun x5 =>
    M.bind (rdM (ld1 x5)) fun x6 =>
    bindO (binV BinOp.mul (Value.int IntKind.i64 2) x6) fun x7 =>
    bindO (fieldA 16 x1) fun x8 =>
    M.bind (rdM (ld1 x8)) fun x9 =>
    bindO (binV BinOp.mul x7 x9) fun x10 =>
    bindO (binV BinOp.add x4 x10) fun x11 =>
    bindO (binV BinOp.leq (getL l2 0) x11) fun x12 =>
    M.bind (guardM x12 true (M.ret a0)) fun x13 =>
    M.bind (guardM x12 true (F.control_Control_Busy x13)) fun x14 =>
    bindO (pickV x12 x14 (Value.bool false)) fun x15 =>
    condM x15 (
      M.bind (F.control_Control_Tick a0) fun x16 =>
      bindO (extV 0 x16) fun _ =>
      bindO (extV 1 x16) fun x18 =>
      M.bind (F.granarylaw15_num x18) fun x19 =>
      bindO (binV BinOp.neq x19 (Value.int IntKind.i64 0)) fun x20 =>
      condM x20 (
        M.ret (Out.ret (Value.bool false))) (
        bindO (binV BinOp.add (getL l2 0) (Value.int IntKind.i64 1)) fun x21 =>
        M.ret (Out.norm [x21]))) (
      M.ret (Out.exit 0 [(getL l2 0)]))) [(Value.int IntKind.i64 0)]) fun o23 =>
  outK o23 (fun _ => M.fail) (fun i24 _ =>
    bif Nat.beq i24 0 then (
      M.bind (F.control_Control_Busy a0) fun x26 =>
      bindO (notV x26) fun x27 =>
      M.ret x27) else
    M.fail) (fun r25 => M.ret r25)
def F.granarylaw15_idle.plan : Plan := (seq leaf (seq (seq leaf (body (loop [5] [4, 5, 6, 7, 8, 9, 10, 11, 12, 13, 14, 15, 16, 17, 18, 19, 20, 21, 22, 23, 24, 25, 26, 27, 28, 29, 30, 31, 32] [0] (seq (seq leaf (cond leaf leaf)) (seq (body (seq leaf (seq leaf (cond (seq leaf leaf) leaf)))) leaf))))) (seq leaf leaf)))
theorem F.granarylaw15_idle.lift : LiftOk Try.prog 27 (ap2 F.granarylaw15_idle) :=
  lift2 (g := evFn Try.prog (tcons 11 (ap1 F.granarylaw15_num) (tcons 12 (ap1 F.control_Control_Busy) (tcons 19 (ap1 F.control_Control_Tick) tnil))) tnil 27 Try.f27 F.granarylaw15_idle.plan) (evFn_sound (tcons_ok F.granarylaw15_num.lift (tcons_ok F.control_Control_Busy.lift (tcons_ok F.control_Control_Tick.lift tnil_ok))) tnil_ok Try.func27 (by kernel_rfl)) (fun x0 x1 => by kernel_rfl)

/-- granary/granarylaw15.takenBack -/
noncomputable def F.granarylaw15_takenBack (a0 a1 a2 a3 a4 a5 : Value) : M Value :=
  M.bind (newM 26 (Value.cells a1)) fun x1 =>
  M.bind (F.control_Control_Begin a0 (Value.int IntKind.i64 2) a2) fun x2 =>
  bindO (extV 0 x2) fun x3 =>
  bindO (extV 1 x2) fun x4 =>
  M.bind (F.granarylaw15_num x4) fun x5 =>
  bindO (binV BinOp.neq x5 (Value.int IntKind.i64 0)) fun x6 =>
  M.bind (guardM x6 false (M.ret x3)) fun x7 =>
  M.bind (guardM x6 false (optM (lenL x7))) fun x8 =>
  M.bind (guardM x6 false (optM (fieldA 22 x1))) fun x9 =>
  M.bind (guardM x6 false (rdM (ld1 x9))) fun x10 =>
  M.bind (guardM x6 false (optM (lenL x10))) fun x11 =>
  M.bind (guardM x6 false (optM (binV BinOp.neq x8 x11))) fun x12 =>
  bindO (pickV x6 (Value.bool true) x12) fun x13 =>
  condM x13 (
    M.ret (Value.bool false)) (
    bindO (buildV #[(Value.int IntKind.i64 0), (Value.int IntKind.i64 0), (Value.int IntKind.i64 0), (Value.int IntKind.i64 0), (Value.int IntKind.i64 0), (Value.int IntKind.i64 0), (Value.int IntKind.i64 0), (Value.int IntKind.i64 0), (Value.int IntKind.i64 0), (Value.string ByteArray.empty), (Value.string ByteArray.empty)] [(0, 1, (Value.int IntKind.i64 6)), (1, 1, a4), (2, 1, (Value.int IntKind.i64 64)), (3, 1, a5), (4, 1, a5), (5, 1, (Value.int IntKind.i64 1)), (8, 1, (Value.int IntKind.i64 122))]) fun x14 =>
    M.bind (F.control_Control_Take a0 x14) fun x15 =>
    bindO (extV 0 x15) fun x16 =>
    bindO (extV 1 x15) fun x17 =>
    M.bind (F.granarylaw15_num x17) fun x18 =>
    bindO (binV BinOp.neq x18 (Value.int IntKind.i64 0)) fun x19 =>
    M.bind (guardM x19 false (M.ret x16)) fun x20 =>
    M.bind (guardM x19 false (optM (lenL x20))) fun x21 =>
    M.bind (guardM x19 false (optM (fieldA 22 x1))) fun x22 =>
    M.bind (guardM x19 false (rdM (ld1 x22))) fun x23 =>
    M.bind (guardM x19 false (optM (lenL x23))) fun x24 =>
    M.bind (guardM x19 false (optM (binV BinOp.neq x21 x24))) fun x25 =>
    bindO (pickV x19 (Value.bool true) x25) fun x26 =>
    condM x26 (
      M.ret (Value.bool false)) (
      M.bind (loopM (fun l27 =>
        bindO (lenL x16) fun x28 =>
        bindO (binV BinOp.lss (getL l27 0) x28) fun x29 =>
        condM x29 (
          bindO (idxA 11 x16 (getL l27 0)) fun x30 =>
          bindO (fieldA 0 x30) fun x31 =>
          M.bind (rdM (ld1 x31)) fun x32 =>
          bindO (binV BinOp.neq x32 (Value.int IntKind.i64 7)) fun x33 =>
          M.bind (guardM x33 false (M.ret x16)) fun x34 =>
          M.bind (guardM x33 false (M.ret (getL l27 0))) fun x35 =>
          M.bind (guardM x33 false (optM (idxA 11 x34 x35))) fun x36 =>
          M.bind (guardM x33 false (optM (fieldA 2 x36))) fun x37 =>
          M.bind (guardM x33 false (rdM (ld1 x37))) fun x38 =>
          M.bind (guardM x33 false (M.ret (getL l27 0))) fun x39 =>
          M.bind (guardM x33 false (optM (binV BinOp.neq x38 x39))) fun x40 =>
          bindO (pickV x33 (Value.bool true) x40) fun x41 =>
          M.bind (guardM x41 false (M.ret x16)) fun x42 =>
          M.bind (guardM x41 false (M.ret (getL l27 0))) fun x43 =>
          M.bind (guardM x41 false (optM (idxA 11 x42 x43))) fun x44 =>
          M.bind (guardM x41 false (optM (fieldA 4 x44))) fun x45 =>
          M.bind (guardM x41 false (rdM (ld1 x45))) fun x46 =>
          M.bind (guardM x41 false (M.ret a5)) fun x47 =>
          M.bind (guardM x41 false (optM (binV BinOp.neq x46 x47))) fun x48 =>
          bindO (pickV x41 (Value.bool true) x48) fun x49 =>
          M.bind (guardM x49 false (M.ret x16)) fun x50 =>
          M.bind (guardM x49 false (M.ret (getL l27 0))) fun x51 =>
          M.bind (guardM x49 false (optM (idxA 11 x50 x51))) fun x52 =>
          M.bind (guardM x49 false (optM (fieldA 5 x52))) fun x53 =>
          M.bind (guardM x49 false (rdM (ld1 x53))) fun x54 =>
          M.bind (guardM x49 false (optM (binV BinOp.neq x54 (Value.int IntKind.i64 2)))) fun x55 =>
          bindO (pickV x49 (Value.bool true) x55) fun x56 =>
          condM x56 (
            M.ret (Out.ret (Value.bool false))) (
            bindO (binV BinOp.add (getL l27 0) (Value.int IntKind.i64 1)) fun x57 =>
            M.ret (Out.norm [x57]))) (
          M.ret (Out.exit 0 [(getL l27 0)]))) [(Value.int IntKind.i64 0)]) fun o59 =>
      outK o59 (fun _ => M.fail) (fun i60 _ =>
        bif Nat.beq i60 0 then (
          M.bind (F.granarylaw15_answers a0 x3 a3) fun x62 =>
          bindO (extV 0 x62) fun x63 =>
          bindO (extV 1 x62) fun x64 =>
          bindO (notV x64) fun x65 =>
          M.bind (guardM x65 false (M.ret x63)) fun x66 =>
          M.bind (guardM x65 false (optM (lenL x66))) fun x67 =>
          M.bind (guardM x65 false (optM (binV BinOp.neq x67 (Value.int IntKind.i64 0)))) fun x68 =>
          bindO (pickV x65 (Value.bool true) x68) fun x69 =>
          M.bind (guardM x69 false (M.ret a0)) fun x70 =>
          M.bind (guardM x69 false (F.control_Control_Busy x70)) fun x71 =>
          M.bind (guardM x69 false (optM (notV x71))) fun x72 =>
          bindO (pickV x69 (Value.bool true) x72) fun x73 =>
          condM x73 (
            M.ret (Value.bool false)) (
            M.bind (F.granarylaw15_answers a0 x16 a3) fun x74 =>
            bindO (extV 0 x74) fun x75 =>
            bindO (extV 1 x74) fun x76 =>
            M.bind (F.control_Control_Report a0) fun x77 =>
            bindO (extV 0 x77) fun x78 =>
            bindO (extV 1 x77) fun x79 =>
            M.bind (newM 39 #[(Value.int IntKind.i64 0), (Value.int IntKind.i64 0), (Value.int IntKind.i64 0), (Value.int IntKind.i64 0), (Value.slice none 0 0), (Value.slice none 0 0)]) fun x80 =>
            M.bind (stM 6 x80 x78) fun _ =>
            bindO (notV x76) fun x82 =>
            M.bind (guardM x82 false (M.ret x75)) fun x83 =>
            M.bind (guardM x82 false (optM (lenL x83))) fun x84 =>
            M.bind (guardM x82 false (optM (binV BinOp.neq x84 (Value.int IntKind.i64 0)))) fun x85 =>
            bindO (pickV x82 (Value.bool true) x85) fun x86 =>
            M.bind (guardM x86 false (M.ret a0)) fun x87 =>
            M.bind (guardM x86 false (F.control_Control_Busy x87)) fun x88 =>
            bindO (pickV x86 (Value.bool true) x88) fun x89 =>
            M.bind (guardM x89 false (M.ret x79)) fun x90 =>
            M.bind (guardM x89 false (F.granarylaw15_num x90)) fun x91 =>
            M.bind (guardM x89 false (optM (binV BinOp.neq x91 (Value.int IntKind.i64 0)))) fun x92 =>
            bindO (pickV x89 (Value.bool true) x92) fun x93 =>
            M.bind (guardM x93 false (optM (fieldA 0 x80))) fun x94 =>
            M.bind (guardM x93 false (rdM (ld1 x94))) fun x95 =>
            M.bind (guardM x93 false (M.ret a5)) fun x96 =>
            M.bind (guardM x93 false (optM (binV BinOp.neq x95 x96))) fun x97 =>
            bindO (pickV x93 (Value.bool true) x97) fun x98 =>
            M.bind (guardM x98 false (optM (fieldA 3 x80))) fun x99 =>
            M.bind (guardM x98 false (rdM (ld1 x99))) fun x100 =>
            M.bind (guardM x98 false (optM (binV BinOp.neq x100 (Value.int IntKind.i64 2)))) fun x101 =>
            bindO (pickV x98 (Value.bool true) x101) fun x102 =>
            M.bind (guardM x102 false (optM (fieldA 5 x80))) fun x103 =>
            M.bind (guardM x102 false (rdM (ld1 x103))) fun x104 =>
            M.bind (guardM x102 false (optM (lenL x104))) fun x105 =>
            M.bind (guardM x102 false (optM (binV BinOp.neq x105 (Value.int IntKind.i64 0)))) fun x106 =>
            bindO (pickV x102 (Value.bool true) x106) fun x107 =>
            M.bind (guardM x107 false (optM (fieldA 4 x80))) fun x108 =>
            M.bind (guardM x107 false (rdM (ld1 x108))) fun x109 =>
            M.bind (guardM x107 false (optM (lenL x109))) fun x110 =>
            M.bind (guardM x107 false (optM (fieldA 22 x1))) fun x111 =>
            M.bind (guardM x107 false (rdM (ld1 x111))) fun x112 =>
            M.bind (guardM x107 false (optM (lenL x112))) fun x113 =>
            M.bind (guardM x107 false (optM (binV BinOp.neq x110 x113))) fun x114 =>
            bindO (pickV x107 (Value.bool true) x114) fun x115 =>
            condM x115 (
              M.ret (Value.bool false)) (
              M.bind (loopM (fun l116 =>
                bindO (fieldA 4 x80) fun x117 =>
                M.bind (rdM (ld1 x117)) fun x118 =>
                bindO (lenL x118) fun x119 =>
                bindO (binV BinOp.lss (getL l116 0) x119) fun x120 =>
                condM x120 (
                  bindO (fieldA 4 x80) fun x121 =>
                  M.bind (rdM (ld1 x121)) fun x122 =>
                  bindO (idxA 1 x122 (getL l116 0)) fun x123 =>
                  M.bind (rdM (ld1 x123)) fun x124 =>
                  bindO (binV BinOp.neq x124 a3) fun x125 =>
                  condM x125 (
                    M.ret (Out.ret (Value.bool false))) (
                    bindO (binV BinOp.add (getL l116 0) (Value.int IntKind.i64 1)) fun x126 =>
                    M.ret (Out.norm [x126]))) (
                  M.ret (Out.exit 2 [(getL l116 0)]))) [(Value.int IntKind.i64 0)]) fun o128 =>
              outK o128 (fun _ => M.fail) (fun i129 _ =>
                bif Nat.beq i129 2 then (
                  M.ret (Value.bool true)) else
                M.fail) (fun r130 => M.ret r130)))) else
        M.fail) (fun r61 => M.ret r61)))
def F.granarylaw15_takenBack.plan : Plan := (seq leaf (seq leaf (seq (seq leaf (cond (seq leaf leaf) leaf)) (seq leaf (seq (seq leaf (cond (seq leaf leaf) leaf)) (seq (seq leaf (body (loop [17] [12, 17, 60, 61, 62, 63, 64, 65, 66, 67, 68, 69, 70, 71, 72, 73, 74, 75, 76, 77, 78, 79, 80, 81, 82, 83, 84, 85, 86, 87, 88, 89, 90, 91, 92, 93, 94, 95, 96, 97] [0] (seq (seq leaf (cond leaf leaf)) (seq (body (seq leaf (cond (seq leaf leaf) leaf))) leaf))))) (seq leaf (seq (seq leaf (cond (seq leaf leaf) leaf)) (seq leaf (seq leaf (seq (seq leaf (cond (seq leaf leaf) leaf)) (seq (seq leaf (body (loop [22] [12, 22, 171, 172, 173, 174, 175, 176, 177, 178, 179, 180, 181, 182, 183, 184] [2] (seq (seq leaf (cond leaf leaf)) (seq (body (seq leaf (cond (seq leaf leaf) leaf))) leaf))))) (seq leaf leaf)))))))))))))
theorem F.granarylaw15_takenBack.lift : LiftOk Try.prog 28 (ap6 F.granarylaw15_takenBack) :=
  lift6 (g := evFn Try.prog (tcons 11 (ap1 F.granarylaw15_num) (tcons 12 (ap1 F.control_Control_Busy) (tcons 13 (ap1 F.control_Control_Report) (tcons 15 (ap3 F.granarylaw15_answers) (tcons 17 (ap3 F.control_Control_Begin) (tcons 20 (ap2 F.control_Control_Take) tnil)))))) tnil 28 Try.f28 F.granarylaw15_takenBack.plan) (evFn_sound (tcons_ok F.granarylaw15_num.lift (tcons_ok F.control_Control_Busy.lift (tcons_ok F.control_Control_Report.lift (tcons_ok F.granarylaw15_answers.lift (tcons_ok F.control_Control_Begin.lift (tcons_ok F.control_Control_Take.lift tnil_ok)))))) tnil_ok Try.func28 (by kernel_rfl)) (fun x0 x1 x2 x3 x4 x5 => by kernel_rfl)

/-- granary/granarylaw15.ControlGoes -/
noncomputable def F.granarylaw15_ControlGoes (a0 a1 a2 a3 a4 a5 : Value) : M Value :=
  M.bind (newM 23 (Value.cells a1)) fun x1 =>
  M.bind (rdM (ldA 3 x1)) fun x2 =>
  M.bind (F.granarylaw15_made a0 x2) fun x3 =>
  M.bind (newM 26 #[(Value.string ByteArray.empty), (Value.int IntKind.i64 0), (Value.int IntKind.i64 0), (Value.int IntKind.i64 0), (Value.int IntKind.i64 0), (Value.int IntKind.i64 0), (Value.int IntKind.i64 0), (Value.int IntKind.i64 0), (Value.int IntKind.i64 0), (Value.int IntKind.i64 0), (Value.int IntKind.i64 0), (Value.int IntKind.i64 0), (Value.int IntKind.i64 0), (Value.int IntKind.i64 0), (Value.int IntKind.i64 0), (Value.int IntKind.i64 0), (Value.int IntKind.i64 0), (Value.int IntKind.i64 0), (Value.int IntKind.i64 0), (Value.int IntKind.i64 0), (Value.int IntKind.i64 0), (Value.int IntKind.i64 0), (Value.slice none 0 0)]) fun x4 =>
  M.bind (stM 23 x4 x3) fun _ =>
  bindO (fieldA 0 x1) fun x6 =>
  M.bind (rdM (ld1 x6)) fun x7 =>
  M.bind (F.granarylaw15_mod x7 (Value.int IntKind.i64 16)) fun x8 =>
  bindO (binV BinOp.add (Value.int IntKind.i64 1) x8) fun x9 =>
  bindO (fieldA 15 x4) fun x10 =>
  M.bind (stM 1 x10 x9) fun _ =>
  bindO (fieldA 1 x1) fun x12 =>
  M.bind (rdM (ld1 x12)) fun x13 =>
  M.bind (F.granarylaw15_mod x13 (Value.int IntKind.i64 8)) fun x14 =>
  bindO (binV BinOp.add (Value.int IntKind.i64 1) x14) fun x15 =>
  bindO (fieldA 16 x4) fun x16 =>
  M.bind (stM 1 x16 x15) fun _ =>
  bindO (fieldA 2 x1) fun x18 =>
  M.bind (rdM (ld1 x18)) fun x19 =>
  M.bind (F.granarylaw15_mod x19 (Value.int IntKind.i64 256)) fun x20 =>
  bindO (binV BinOp.add (Value.int IntKind.i64 1) x20) fun x21 =>
  bindO (fieldA 17 x4) fun x22 =>
  M.bind (stM 1 x22 x21) fun _ =>
  M.bind (rdM (ldA 23 x4)) fun x24 =>
  M.bind (F.control_New x24) fun x25 =>
  bindO (extV 0 x25) fun x26 =>
  bindO (extV 1 x25) fun x27 =>
  M.bind (F.granarylaw15_num x27) fun x28 =>
  bindO (binV BinOp.neq x28 (Value.int IntKind.i64 0)) fun x29 =>
  M.bind (guardM x29 false (M.ret x26)) fun x30 =>
  M.bind (guardM x29 false (optM (eqV (EqSh.one EqK.ptr) x30 (Value.pointer none)))) fun x31 =>
  bindO (pickV x29 (Value.bool true) x31) fun x32 =>
  condM x32 (
    M.ret (Value.bool false)) (
    M.bind (loopM (fun l33 =>
      bindO (lenL a2) fun x34 =>
      bindO (binV BinOp.lss (getL l33 1) x34) fun x35 =>
      M.bind (guardM x35 true (M.ret (getL l33 1))) fun x36 =>
      M.bind (guardM x35 true (optM (binV BinOp.lss x36 (Value.int IntKind.i64 1099511627776)))) fun x37 =>
      bindO (pickV x35 x37 (Value.bool false)) fun x38 =>
      condM x38 (
        M.bind (
          bindO (idxA 14 a2 (getL l33 1)) fun x39 =>
          M.bind (rdM (ldA 14 x39)) fun x40 =>
          M.bind (newM 67 #[(Value.int IntKind.i64 0), (Value.int IntKind.i64 0), (Value.int IntKind.i64 0), (Value.int IntKind.i64 0), (Value.int IntKind.i64 0), (Value.int IntKind.i64 0), (Value.int IntKind.i64 0), (Value.int IntKind.i64 0), (Value.int IntKind.i64 0), (Value.int IntKind.i64 0), (Value.int IntKind.i64 0), (Value.int IntKind.i64 0), (Value.string ByteArray.empty), (Value.string ByteArray.empty)]) fun x41 =>
          M.bind (stM 14 x41 x40) fun _ =>
          bindO (fieldA 0 x41) fun x43 =>
          M.bind (rdM (ld1 x43)) fun x44 =>
          bindO (binV BinOp.eql x44 (Value.int IntKind.i64 1)) fun x45 =>
          condM x45 (
            bindO (fieldA 1 x41) fun x46 =>
            M.bind (rdM (ld1 x46)) fun x47 =>
            bindO (fieldA 2 x41) fun x48 =>
            M.bind (rdM (ld1 x48)) fun x49 =>
            M.bind (F.control_Control_Begin x26 x47 x49) fun x50 =>
            bindO (extV 0 x50) fun _ =>
            bindO (extV 1 x50) fun x52 =>
            M.bind (F.granarylaw15_num x52) fun x53 =>
            bindO (binV BinOp.eql x53 (Value.int IntKind.i64 0)) fun x54 =>
            condM x54 (
              bindO (binV BinOp.add (getL l33 0) (Value.int IntKind.i64 1)) fun x55 =>
              M.ret (Out.norm [x55])) (
              M.ret (Out.norm [(getL l33 0)]))) (
            bindO (binV BinOp.eql x44 (Value.int IntKind.i64 2)) fun x56 =>
            condM x56 (
              bindO (fieldA 3 x41) fun x57 =>
              M.bind (rdM (ldA 11 x57)) fun x58 =>
              M.bind (F.control_Control_Take x26 x58) fun _ =>
              M.ret (Out.norm [(getL l33 0)])) (
              bindO (binV BinOp.eql x44 (Value.int IntKind.i64 3)) fun x60 =>
              condM x60 (
                M.bind (F.control_Control_Tick x26) fun _ =>
                M.ret (Out.norm [(getL l33 0)])) (
                bindO (binV BinOp.eql x44 (Value.int IntKind.i64 4)) fun x62 =>
                condM x62 (
                  M.bind (F.control_Control_Stop x26) fun _ =>
                  M.ret (Out.norm [(getL l33 0)])) (
                  bindO (binV BinOp.eql x44 (Value.int IntKind.i64 5)) fun x64 =>
                  condM x64 (
                    M.bind (F.control_Control_Revive x26) fun _ =>
                    M.ret (Out.norm [(getL l33 0)])) (
                    M.ret (Out.norm [(getL l33 0)]))))))) fun o67 =>
        outK o67 (fun l66 =>
          bindO (binV BinOp.add (getL l33 1) (Value.int IntKind.i64 1)) fun x70 =>
          M.ret (Out.norm [(getL l66 0), x70])) (fun _ _ =>
          M.fail) (fun r69 => M.ret (Out.ret r69))) (
        M.ret (Out.exit 0 [(getL l33 0), (getL l33 1)]))) [(Value.int IntKind.i64 0), (Value.int IntKind.i64 0)]) fun o73 =>
    outK o73 (fun _ => M.fail) (fun i74 l72 =>
      bif Nat.beq i74 0 then (
        M.bind (rdM (ldA 23 x4)) fun x76 =>
        M.bind (F.granarylaw15_idle x26 x76) fun x77 =>
        bindO (notV x77) fun x78 =>
        condM x78 (
          M.ret (Value.bool false)) (
          M.bind (F.granarylaw15_mod a3 (Value.int IntKind.i64 999999)) fun x79 =>
          bindO (binV BinOp.add (Value.int IntKind.i64 1) x79) fun x80 =>
          M.bind (F.granarylaw15_mod a4 (Value.int IntKind.i64 999999)) fun x81 =>
          bindO (binV BinOp.add (Value.int IntKind.i64 1) x81) fun x82 =>
          M.bind (loopM (fun l83 =>
            bindO (binV BinOp.leq (getL l83 0) (Value.int IntKind.i64 3)) fun x84 =>
            condM x84 (
              M.bind (rdM (ldA 23 x4)) fun x85 =>
              bindO (binV BinOp.add (getL l72 0) (getL l83 0)) fun x86 =>
              M.bind (F.granarylaw15_goes x26 x85 (getL l83 0) x80 x82 x86) fun x87 =>
              bindO (notV x87) fun x88 =>
              condM x88 (
                M.ret (Out.ret (Value.bool false))) (
                bindO (binV BinOp.add (getL l83 0) (Value.int IntKind.i64 1)) fun x89 =>
                M.ret (Out.norm [x89]))) (
              M.ret (Out.exit 3 [(getL l83 0)]))) [(Value.int IntKind.i64 1)]) fun o91 =>
          outK o91 (fun _ => M.fail) (fun i92 _ =>
            bif Nat.beq i92 3 then (
              drewM <|
              getM fun _ =>
              M.bind (rdM (ldA 23 x4)) fun x95 =>
              bindO (fieldA 22 x4) fun x96 =>
              M.bind (rdM (ld1 x96)) fun x97 =>
              bindO (lenL x97) fun x98 =>
              M.bind (F.granarylaw15_mod a5 x98) fun x99 =>
              getM fun W100 =>
              bindO (binV BinOp.add (getL l72 0) (Value.int IntKind.i64 4)) fun x101 =>
              M.bind (F.granarylaw15_takenBack x26 x95 x80 x82 x99 x101) fun x102 =>
              getM fun _ =>
              reqM (ldA 23 x4 W100 = some x95) <|
              M.ret x102) else
            M.fail) (fun r93 => M.ret r93))) else
      M.fail) (fun r75 => M.ret r75))
def F.granarylaw15_ControlGoes.plan : Plan := (seq leaf (seq leaf (seq leaf (seq leaf (seq leaf (seq leaf (seq (seq leaf (cond (seq leaf leaf) leaf)) (seq leaf (seq (seq leaf (body (loop [16, 17] [16, 17, 18, 19, 20, 54, 55, 56, 57, 58, 59, 60, 61, 62, 63, 64, 65, 66, 67, 68, 69, 70, 71, 72, 73, 74, 75, 76, 77, 78, 79, 80, 81, 82, 83, 84, 85, 86, 87, 88, 89, 90, 91, 92, 93, 94, 95, 96, 97, 98, 99, 100, 101, 102, 103] [0] (seq (seq leaf (cond leaf leaf)) (fork [16] [16, 18, 19, 20, 64, 65, 66, 67, 68, 69, 70, 71, 72, 73, 74, 75, 76, 77, 78, 79, 80, 81, 82, 83, 84, 85, 86, 87, 88, 89, 90, 91, 92, 93, 94, 95, 96, 97, 98, 99, 100, 101, 102, 103] [] (body (seq leaf (seq leaf (body (seq leaf (cond (seq leaf (seq leaf (cond leaf leaf))) (seq leaf (cond leaf (seq leaf (cond leaf (seq leaf (cond leaf (seq leaf (cond leaf leaf)))))))))))))) leaf))))) (seq (seq leaf (cond (seq leaf leaf) leaf)) (seq leaf (seq leaf (seq (seq leaf (body (loop [23] [12, 23, 114, 115, 116, 117, 118, 119, 120, 121, 122, 123, 124, 125, 126, 127] [3] (seq (seq leaf (cond leaf leaf)) (seq (body (seq leaf (cond (seq leaf leaf) leaf))) leaf))))) (seq leaf leaf))))))))))))))
theorem F.granarylaw15_ControlGoes.lift : LiftOk Try.prog 6 (ap6 F.granarylaw15_ControlGoes) :=
  lift6 (g := evFn Try.prog (tcons 7 (ap2 F.granarylaw15_made) (tcons 8 (ap2 F.granarylaw15_mod) (tcons 11 (ap1 F.granarylaw15_num) (tcons 14 (ap6 F.granarylaw15_goes) (tcons 16 (ap1 F.control_New) (tcons 17 (ap3 F.control_Control_Begin) (tcons 19 (ap1 F.control_Control_Tick) (tcons 20 (ap2 F.control_Control_Take) (tcons 25 (ap1 F.control_Control_Stop) (tcons 26 (ap1 F.control_Control_Revive) (tcons 27 (ap2 F.granarylaw15_idle) (tcons 28 (ap6 F.granarylaw15_takenBack) tnil)))))))))))) tnil 6 Try.f6 F.granarylaw15_ControlGoes.plan) (evFn_sound (tcons_ok F.granarylaw15_made.lift (tcons_ok F.granarylaw15_mod.lift (tcons_ok F.granarylaw15_num.lift (tcons_ok F.granarylaw15_goes.lift (tcons_ok F.control_New.lift (tcons_ok F.control_Control_Begin.lift (tcons_ok F.control_Control_Tick.lift (tcons_ok F.control_Control_Take.lift (tcons_ok F.control_Control_Stop.lift (tcons_ok F.control_Control_Revive.lift (tcons_ok F.granarylaw15_idle.lift (tcons_ok F.granarylaw15_takenBack.lift tnil_ok)))))))))))) tnil_ok Try.func6 (by kernel_rfl)) (fun x0 x1 x2 x3 x4 x5 => by kernel_rfl)

end Go.Proofs.Ytpiceodfdjihhaa
