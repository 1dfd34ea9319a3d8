/-
  THE FUNCTIONAL FORMS of the functions of this seat's translation, and that each function comes to its form: printed by a program of the prover's own (lift.py).
-/
import Derived.Test.YtpiceodfdjihhaaG1
namespace Go.Proofs.Ytpiceodfdjihhaa
open Go.Lift Go.Lift.Plan
/-- granary/granarylaw15.ControlResumes -/
noncomputable def F.granarylaw15_ControlResumes (a0 a1 a2 a3 a4 a5 a6 : Value) : M Value :=
  M.bind (newM 23 (Value.cells a1)) fun x1 =>
  M.bind (rdM (ldA 3 x1)) fun x2 =>
  M.bind (F.granarylaw15_made a0 x2) fun x3 =>
  M.bind (newM 26 #[(Value.string ByteArray.empty), (Value.int IntKind.i64 0), (Value.int IntKind.i64 0), (Value.int IntKind.i64 0), (Value.int IntKind.i64 0), (Value.int IntKind.i64 0), (Value.int IntKind.i64 0), (Value.int IntKind.i64 0), (Value.int IntKind.i64 0), (Value.int IntKind.i64 0), (Value.int IntKind.i64 0), (Value.int IntKind.i64 0), (Value.int IntKind.i64 0), (Value.int IntKind.i64 0), (Value.int IntKind.i64 0), (Value.int IntKind.i64 0), (Value.int IntKind.i64 0), (Value.int IntKind.i64 0), (Value.int IntKind.i64 0), (Value.int IntKind.i64 0), (Value.int IntKind.i64 0), (Value.int IntKind.i64 0), (Value.slice none 0 0)]) fun x4 =>
  M.bind (stM 23 x4 x3) fun _ =>
  M.bind (F.granarylaw15_mod a2 (Value.int IntKind.i64 1000000000)) fun x6 =>
  bindO (binV BinOp.add (Value.int IntKind.i64 1) x6) fun x7 =>
  M.bind (F.granarylaw15_mod a3 (Value.int IntKind.i64 2)) fun x8 =>
  bindO (binV BinOp.add (Value.int IntKind.i64 1) x8) fun x9 =>
  M.bind (F.granarylaw15_mod a4 (Value.int IntKind.i64 999999)) fun x10 =>
  bindO (binV BinOp.add (Value.int IntKind.i64 1) x10) fun x11 =>
  M.bind (F.granarylaw15_mod a6 (Value.int IntKind.i64 999999)) fun x12 =>
  bindO (binV BinOp.add (Value.int IntKind.i64 1) x12) fun x13 =>
  M.bind (rdM (ldA 23 x4)) fun x14 =>
  M.bind (F.granarylaw15_twin x14) fun x15 =>
  M.bind (F.control_Resume x15 x7 x9 x11 a5) fun x16 =>
  bindO (extV 0 x16) fun x17 =>
  bindO (extV 1 x16) fun x18 =>
  bindO (extV 2 x16) fun x19 =>
  M.bind (F.granarylaw15_num x19) fun x20 =>
  bindO (binV BinOp.neq x20 (Value.int IntKind.i64 0)) fun x21 =>
  M.bind (guardM x21 false (M.ret x17)) fun x22 =>
  M.bind (guardM x21 false (optM (eqV (EqSh.one EqK.ptr) x22 (Value.pointer none)))) fun x23 =>
  bindO (pickV x21 (Value.bool true) x23) fun x24 =>
  M.bind (guardM x24 false (M.ret x17)) fun x25 =>
  M.bind (guardM x24 false (F.control_Control_Busy x25)) fun x26 =>
  M.bind (guardM x24 false (M.ret a5)) fun x27 =>
  M.bind (guardM x24 false (optM (neV (EqSh.one EqK.bool) x26 x27))) fun x28 =>
  bindO (pickV x24 (Value.bool true) x28) fun x29 =>
  condM x29 (
    M.ret (Value.bool false)) (
    M.bind (F.control_Control_Report x17) fun x30 =>
    bindO (extV 0 x30) fun x31 =>
    bindO (extV 1 x30) fun x32 =>
    M.bind (newM 39 #[(Value.int IntKind.i64 0), (Value.int IntKind.i64 0), (Value.int IntKind.i64 0), (Value.int IntKind.i64 0), (Value.slice none 0 0), (Value.slice none 0 0)]) fun x33 =>
    M.bind (stM 6 x33 x31) fun _ =>
    M.bind (F.granarylaw15_num x32) fun x35 =>
    bindO (binV BinOp.neq x35 (Value.int IntKind.i64 151)) fun x36 =>
    condM x36 (
      M.ret (Value.bool false)) (
      bindO (notV a5) fun x37 =>
      condM x37 (
        bindO (lenL x18) fun x38 =>
        bindO (binV BinOp.eql x38 (Value.int IntKind.i64 0)) fun x39 =>
        M.bind (guardM x39 true (M.ret x17)) fun x40 =>
        M.bind (guardM x39 true (rdM (ldA 23 x4))) fun x41 =>
        M.bind (guardM x39 true (M.ret x11)) fun x42 =>
        M.bind (guardM x39 true (M.ret x13)) fun x43 =>
        M.bind (guardM x39 true (M.ret x7)) fun x44 =>
        M.bind (guardM x39 true (optM (binV BinOp.add x44 (Value.int IntKind.i64 1)))) fun x45 =>
        M.bind (guardM x39 true (F.granarylaw15_goes x40 x41 (Value.int IntKind.i64 2) x42 x43 x45)) fun x46 =>
        bindO (pickV x39 x46 (Value.bool false)) fun x47 =>
        M.ret x47) (
        bindO (lenL x18) fun x48 =>
        bindO (fieldA 22 x4) fun x49 =>
        M.bind (rdM (ld1 x49)) fun x50 =>
        bindO (lenL x50) fun x51 =>
        bindO (binV BinOp.neq x48 x51) fun x52 =>
        condM x52 (
          M.ret (Value.bool false)) (
          M.bind (loopM (fun l53 =>
            bindO (lenL x18) fun x54 =>
            bindO (binV BinOp.lss (getL l53 0) x54) fun x55 =>
            condM x55 (
              bindO (idxA 11 x18 (getL l53 0)) fun x56 =>
              M.bind (rdM (ldA 11 x56)) fun x57 =>
              M.bind (newM 44 #[(Value.int IntKind.i64 0), (Value.int IntKind.i64 0), (Value.int IntKind.i64 0), (Value.int IntKind.i64 0), (Value.int IntKind.i64 0), (Value.int IntKind.i64 0), (Value.int IntKind.i64 0), (Value.int IntKind.i64 0), (Value.int IntKind.i64 0), (Value.string ByteArray.empty), (Value.string ByteArray.empty)]) fun x58 =>
              M.bind (stM 11 x58 x57) fun _ =>
              bindO (fieldA 0 x58) fun x60 =>
              M.bind (rdM (ld1 x60)) fun x61 =>
              bindO (binV BinOp.neq x61 (Value.int IntKind.i64 7)) fun x62 =>
              M.bind (guardM x62 false (optM (fieldA 1 x58))) fun x63 =>
              M.bind (guardM x62 false (rdM (ld1 x63))) fun x64 =>
              M.bind (guardM x62 false (optM (binV BinOp.neq x64 (Value.int IntKind.i64 64)))) fun x65 =>
              bindO (pickV x62 (Value.bool true) x65) fun x66 =>
              M.bind (guardM x66 false (optM (fieldA 2 x58))) fun x67 =>
              M.bind (guardM x66 false (rdM (ld1 x67))) fun x68 =>
              M.bind (guardM x66 false (M.ret (getL l53 0))) fun x69 =>
              M.bind (guardM x66 false (optM (binV BinOp.neq x68 x69))) fun x70 =>
              bindO (pickV x66 (Value.bool true) x70) fun x71 =>
              M.bind (guardM x71 false (optM (fieldA 3 x58))) fun x72 =>
              M.bind (guardM x71 false (rdM (ld1 x72))) fun x73 =>
              M.bind (guardM x71 false (M.ret x7)) fun x74 =>
              M.bind (guardM x71 false (optM (binV BinOp.neq x73 x74))) fun x75 =>
              bindO (pickV x71 (Value.bool true) x75) fun x76 =>
              M.bind (guardM x76 false (optM (fieldA 4 x58))) fun x77 =>
              M.bind (guardM x76 false (rdM (ld1 x77))) fun x78 =>
              M.bind (guardM x76 false (M.ret x7)) fun x79 =>
              M.bind (guardM x76 false (optM (binV BinOp.neq x78 x79))) fun x80 =>
              bindO (pickV x76 (Value.bool true) x80) fun x81 =>
              M.bind (guardM x81 false (optM (fieldA 5 x58))) fun x82 =>
              M.bind (guardM x81 false (rdM (ld1 x82))) fun x83 =>
              M.bind (guardM x81 false (optM (binV BinOp.neq x83 (Value.int IntKind.i64 2)))) fun x84 =>
              bindO (pickV x81 (Value.bool true) x84) fun x85 =>
              M.bind (guardM x85 false (optM (fieldA 6 x58))) fun x86 =>
              M.bind (guardM x85 false (rdM (ld1 x86))) fun x87 =>
              M.bind (guardM x85 false (optM (binV BinOp.neq x87 (Value.int IntKind.i64 0)))) fun x88 =>
              bindO (pickV x85 (Value.bool true) x88) fun x89 =>
              condM x89 (
                M.ret (Out.ret (Value.bool false))) (
                bindO (binV BinOp.add (getL l53 0) (Value.int IntKind.i64 1)) fun x90 =>
                M.ret (Out.norm [x90]))) (
              M.ret (Out.exit 0 [(getL l53 0)]))) [(Value.int IntKind.i64 0)]) fun o92 =>
          outK o92 (fun _ => M.fail) (fun i93 _ =>
            bif Nat.beq i93 0 then (
              M.bind (F.granarylaw15_answers x17 x18 x13) fun x95 =>
              bindO (extV 0 x95) fun x96 =>
              bindO (extV 1 x95) fun x97 =>
              M.bind (F.control_Control_Report x17) fun x98 =>
              bindO (extV 0 x98) fun x99 =>
              bindO (extV 1 x98) fun x100 =>
              M.bind (newM 39 #[(Value.int IntKind.i64 0), (Value.int IntKind.i64 0), (Value.int IntKind.i64 0), (Value.int IntKind.i64 0), (Value.slice none 0 0), (Value.slice none 0 0)]) fun x101 =>
              M.bind (stM 6 x101 x99) fun _ =>
              bindO (notV x97) fun x103 =>
              M.bind (guardM x103 false (M.ret x96)) fun x104 =>
              M.bind (guardM x103 false (optM (lenL x104))) fun x105 =>
              M.bind (guardM x103 false (optM (binV BinOp.neq x105 (Value.int IntKind.i64 0)))) fun x106 =>
              bindO (pickV x103 (Value.bool true) x106) fun x107 =>
              M.bind (guardM x107 false (M.ret x17)) fun x108 =>
              M.bind (guardM x107 false (F.control_Control_Busy x108)) fun x109 =>
              bindO (pickV x107 (Value.bool true) x109) fun x110 =>
              M.bind (guardM x110 false (M.ret x100)) fun x111 =>
              M.bind (guardM x110 false (F.granarylaw15_num x111)) fun x112 =>
              M.bind (guardM x110 false (optM (binV BinOp.neq x112 (Value.int IntKind.i64 0)))) fun x113 =>
              bindO (pickV x110 (Value.bool true) x113) fun x114 =>
              M.bind (guardM x114 false (optM (fieldA 0 x101))) fun x115 =>
              M.bind (guardM x114 false (rdM (ld1 x115))) fun x116 =>
              M.bind (guardM x114 false (M.ret x7)) fun x117 =>
              M.bind (guardM x114 false (optM (binV BinOp.neq x116 x117))) fun x118 =>
              bindO (pickV x114 (Value.bool true) x118) fun x119 =>
              M.bind (guardM x119 false (optM (fieldA 1 x101))) fun x120 =>
              M.bind (guardM x119 false (rdM (ld1 x120))) fun x121 =>
              M.bind (guardM x119 false (M.ret x9)) fun x122 =>
              M.bind (guardM x119 false (optM (binV BinOp.neq x121 x122))) fun x123 =>
              bindO (pickV x119 (Value.bool true) x123) fun x124 =>
              M.bind (guardM x124 false (optM (fieldA 2 x101))) fun x125 =>
              M.bind (guardM x124 false (rdM (ld1 x125))) fun x126 =>
              M.bind (guardM x124 false (M.ret x11)) fun x127 =>
              M.bind (guardM x124 false (optM (binV BinOp.neq x126 x127))) fun x128 =>
              bindO (pickV x124 (Value.bool true) x128) fun x129 =>
              M.bind (guardM x129 false (optM (fieldA 3 x101))) fun x130 =>
              M.bind (guardM x129 false (rdM (ld1 x130))) fun x131 =>
              M.bind (guardM x129 false (optM (binV BinOp.neq x131 (Value.int IntKind.i64 2)))) fun x132 =>
              bindO (pickV x129 (Value.bool true) x132) fun x133 =>
              M.bind (guardM x133 false (optM (fieldA 5 x101))) fun x134 =>
              M.bind (guardM x133 false (rdM (ld1 x134))) fun x135 =>
              M.bind (guardM x133 false (optM (lenL x135))) fun x136 =>
              M.bind (guardM x133 false (optM (binV BinOp.neq x136 (Value.int IntKind.i64 0)))) fun x137 =>
              bindO (pickV x133 (Value.bool true) x137) fun x138 =>
              M.bind (guardM x138 false (optM (fieldA 4 x101))) fun x139 =>
              M.bind (guardM x138 false (rdM (ld1 x139))) fun x140 =>
              M.bind (guardM x138 false (optM (lenL x140))) fun x141 =>
              M.bind (guardM x138 false (optM (fieldA 22 x4))) fun x142 =>
              M.bind (guardM x138 false (rdM (ld1 x142))) fun x143 =>
              M.bind (guardM x138 false (optM (lenL x143))) fun x144 =>
              M.bind (guardM x138 false (optM (binV BinOp.neq x141 x144))) fun x145 =>
              bindO (pickV x138 (Value.bool true) x145) fun x146 =>
              condM x146 (
                M.ret (Value.bool false)) (
                M.bind (loopM (fun l147 =>
                  bindO (fieldA 4 x101) fun x148 =>
                  M.bind (rdM (ld1 x148)) fun x149 =>
                  bindO (lenL x149) fun x150 =>
                  bindO (binV BinOp.lss (getL l147 0) x150) fun x151 =>
                  condM x151 (
                    bindO (fieldA 4 x101) fun x152 =>
                    M.bind (rdM (ld1 x152)) fun x153 =>
                    bindO (idxA 1 x153 (getL l147 0)) fun x154 =>
                    M.bind (rdM (ld1 x154)) fun x155 =>
                    bindO (binV BinOp.neq x155 x13) fun x156 =>
                    condM x156 (
                      M.ret (Out.ret (Value.bool false))) (
                      bindO (binV BinOp.add (getL l147 0) (Value.int IntKind.i64 1)) fun x157 =>
                      M.ret (Out.norm [x157]))) (
                    M.ret (Out.exit 2 [(getL l147 0)]))) [(Value.int IntKind.i64 0)]) fun o159 =>
                outK o159 (fun _ => M.fail) (fun i160 _ =>
                  bif Nat.beq i160 2 then (
                    M.bind (rdM (ldA 23 x4)) fun x162 =>
                    bindO (binV BinOp.add x7 (Value.int IntKind.i64 1)) fun x163 =>
                    M.bind (F.granarylaw15_goes x17 x162 (Value.int IntKind.i64 1) x11 x13 x163) fun x164 =>
                    M.ret x164) else
                  M.fail) (fun r161 => M.ret r161))) else
            M.fail) (fun r94 => M.ret r94)))))
def F.granarylaw15_ControlResumes.plan : Plan := (seq leaf (seq leaf (seq leaf (seq leaf (seq leaf (seq leaf (seq leaf (seq (seq leaf (cond (seq leaf leaf) leaf)) (seq leaf (seq (seq leaf (cond (seq leaf leaf) leaf)) (seq (seq leaf (cond (seq leaf leaf) leaf)) (seq (seq leaf (cond (seq leaf leaf) leaf)) (seq (seq leaf (body (loop [25] [14, 25, 26, 99, 100, 101, 102, 103, 104, 105, 106, 107, 108, 109, 110, 111, 112, 113, 114, 115, 116, 117, 118, 119, 120, 121, 122, 123, 124, 125, 126, 127, 128, 129, 130, 131, 132, 133, 134, 135, 136, 137, 138, 139, 140, 141, 142, 143, 144] [0] (seq (seq leaf (cond leaf leaf)) (seq (body (seq leaf (seq leaf (cond (seq leaf leaf) leaf)))) leaf))))) (seq leaf (seq leaf (seq (seq leaf (cond (seq leaf leaf) leaf)) (seq (seq leaf (body (loop [31] [14, 31, 211, 212, 213, 214, 215, 216, 217, 218, 219, 220, 221, 222, 223, 224] [2] (seq (seq leaf (cond leaf leaf)) (seq (body (seq leaf (cond (seq leaf leaf) leaf))) leaf))))) (seq leaf leaf))))))))))))))))))
theorem F.granarylaw15_ControlResumes.lift : LiftOk Try.prog 3 (ap7 F.granarylaw15_ControlResumes) :=
  lift7 (g := evFn Try.prog (tcons 7 (ap2 F.granarylaw15_made) (tcons 8 (ap2 F.granarylaw15_mod) (tcons 9 (ap5 F.control_Resume) (tcons 10 (ap1 F.granarylaw15_twin) (tcons 11 (ap1 F.granarylaw15_num) (tcons 12 (ap1 F.control_Control_Busy) (tcons 13 (ap1 F.control_Control_Report) (tcons 14 (ap6 F.granarylaw15_goes) (tcons 15 (ap3 F.granarylaw15_answers) tnil))))))))) tnil 3 Try.f3 F.granarylaw15_ControlResumes.plan) (evFn_sound (tcons_ok F.granarylaw15_made.lift (tcons_ok F.granarylaw15_mod.lift (tcons_ok F.control_Resume.lift (tcons_ok F.granarylaw15_twin.lift (tcons_ok F.granarylaw15_num.lift (tcons_ok F.control_Control_Busy.lift (tcons_ok F.control_Control_Report.lift (tcons_ok F.granarylaw15_goes.lift (tcons_ok F.granarylaw15_answers.lift tnil_ok))))))))) tnil_ok Try.func3 (by kernel_rfl)) (fun x0 x1 x2 x3 x4 x5 x6 => by kernel_rfl)

/-- granary/granarylaw15.counted -/
noncomputable def F.granarylaw15_counted (a0 a1 : Value) : M Value :=
  M.bind (newM 52 (Value.cells a0)) fun x1 =>
  M.bind (newM 52 #[(Value.int IntKind.i64 0), (Value.int IntKind.i64 0), (Value.int IntKind.i64 0), (Value.int IntKind.i64 0)]) fun x2 =>
  M.bind (loopM (fun l3 =>
    bindO (lenL a1) fun x4 =>
    bindO (binV BinOp.lss (getL l3 0) x4) fun x5 =>
    condM x5 (
      M.bind (
        bindO (idxA 11 a1 (getL l3 0)) fun x6 =>
        bindO (fieldA 2 x6) fun x7 =>
        M.bind (rdM (ld1 x7)) fun x8 =>
        bindO (binV BinOp.eql x8 (Value.int IntKind.i64 0)) fun x9 =>
        M.bind (guardM x9 true (M.ret a1)) fun x10 =>
        M.bind (guardM x9 true (M.ret (getL l3 0))) fun x11 =>
        M.bind (guardM x9 true (optM (idxA 11 x10 x11))) fun x12 =>
        M.bind (guardM x9 true (optM (fieldA 0 x12))) fun x13 =>
        M.bind (guardM x9 true (rdM (ld1 x13))) fun x14 =>
        M.bind (guardM x9 true (optM (binV BinOp.geq x14 (Value.int IntKind.i64 3)))) fun x15 =>
        bindO (pickV x9 x15 (Value.bool false)) fun x16 =>
        M.bind (guardM x16 true (M.ret a1)) fun x17 =>
        M.bind (guardM x16 true (M.ret (getL l3 0))) fun x18 =>
        M.bind (guardM x16 true (optM (idxA 11 x17 x18))) fun x19 =>
        M.bind (guardM x16 true (optM (fieldA 0 x19))) fun x20 =>
        M.bind (guardM x16 true (rdM (ld1 x20))) fun x21 =>
        M.bind (guardM x16 true (optM (binV BinOp.leq x21 (Value.int IntKind.i64 9)))) fun x22 =>
        bindO (pickV x16 x22 (Value.bool false)) fun x23 =>
        M.bind (guardM x23 true (M.ret a1)) fun x24 =>
        M.bind (guardM x23 true (M.ret (getL l3 0))) fun x25 =>
        M.bind (guardM x23 true (optM (idxA 11 x24 x25))) fun x26 =>
        M.bind (guardM x23 true (optM (fieldA 0 x26))) fun x27 =>
        M.bind (guardM x23 true (rdM (ld1 x27))) fun x28 =>
        M.bind (guardM x23 true (optM (binV BinOp.rem x28 (Value.int IntKind.i64 2)))) fun x29 =>
        M.bind (guardM x23 true (optM (binV BinOp.eql x29 (Value.int IntKind.i64 1)))) fun x30 =>
        bindO (pickV x23 x30 (Value.bool false)) fun x31 =>
        condM x31 (
          bindO (idxA 11 a1 (getL l3 0)) fun x32 =>
          bindO (fieldA 0 x32) fun x33 =>
          M.bind (rdM (ld1 x33)) fun x34 =>
          bindO (binV BinOp.sub x34 (Value.int IntKind.i64 3)) fun x35 =>
          bindO (binV BinOp.quo x35 (Value.int IntKind.i64 2)) fun x36 =>
          bindO (idxR 4 1 x1 x36) fun x37 =>
          M.bind (rdM (ld1 x37)) fun x38 =>
          bindO (binV BinOp.add x38 (Value.int IntKind.i64 1)) fun x39 =>
          bindO (idxR 4 1 x1 x36) fun x40 =>
          M.bind (stM 1 x40 x39) fun _ =>
          M.ret (Out.norm [])) (
          M.ret (Out.norm []))) fun o43 =>
      outK o43 (fun _ =>
        bindO (binV BinOp.add (getL l3 0) (Value.int IntKind.i64 1)) fun x46 =>
        M.ret (Out.norm [x46])) (fun _ _ =>
        M.fail) (fun r45 => M.ret (Out.ret r45))) (
      M.ret (Out.exit 0 [(getL l3 0)]))) [(Value.int IntKind.i64 0)]) fun o49 =>
  outK o49 (fun _ => M.fail) (fun i50 _ =>
    bif Nat.beq i50 0 then (
      M.bind (rdM (ldA 4 x1)) fun x52 =>
      M.bind (stM 4 x2 x52) fun _ =>
      M.bind (rdM (ldA 4 x2)) fun x54 =>
      M.ret x54) else
    M.fail) (fun r51 => M.ret r51)
def F.granarylaw15_counted.plan : Plan := (seq leaf (seq (seq leaf (body (loop [5] [5, 6, 7, 8, 9, 10, 11, 12, 13, 14, 15, 16, 17, 18, 19, 20, 21, 22, 23, 24, 25, 26, 27, 28, 29, 30, 31, 32, 33, 34, 35, 36, 37, 38, 39, 40, 41, 42, 43, 44, 45, 46, 47, 48, 49, 50, 51, 52, 53] [0] (seq (seq leaf (cond leaf leaf)) (fork [] [12, 13, 14, 15, 16, 17, 18, 19, 20, 21, 22, 23, 24, 25, 26, 27, 28, 29, 30, 31, 32, 33, 34, 35, 36, 37, 38, 39, 40, 41, 42, 43, 44, 45, 46, 47, 48, 49, 50, 51, 52, 53] [] (body (seq leaf (cond leaf leaf))) leaf))))) (seq leaf leaf)))
theorem F.granarylaw15_counted.lift : LiftOk Try.prog 18 (ap2 F.granarylaw15_counted) :=
  lift2 (g := evFn Try.prog tnil tnil 18 Try.f18 F.granarylaw15_counted.plan) (evFn_sound tnil_ok tnil_ok Try.func18 (by kernel_rfl)) (fun x0 x1 => by kernel_rfl)

/-- (*granary/control.fetching).late -/
noncomputable def F.control_fetching_late (_a0 a1 : Value) : M Value :=
  M.bind (F.control_Control_back a1) fun x1 =>
  M.ret x1
def F.control_fetching_late.plan : Plan := (seq leaf (seq leaf leaf))
theorem F.control_fetching_late.lift : LiftOk Try.prog 35 (ap2 F.control_fetching_late) :=
  lift2 (g := evFn Try.prog (tcons 30 (ap1 F.control_Control_back) tnil) tnil 35 Try.f35 F.control_fetching_late.plan) (evFn_sound (tcons_ok F.control_Control_back.lift tnil_ok) tnil_ok Try.func35 (by kernel_rfl)) (fun x0 x1 => by kernel_rfl)

/-- (*granary/control.ledger).due -/
noncomputable def F.control_ledger_due (a0 a1 : Value) : M Value :=
  bindO (nilChk a0) fun x1 =>
  bindO (fieldA 2 x1) fun x2 =>
  M.bind (rdM (ld1 x2)) fun x3 =>
  bindO (binV BinOp.rem x3 a1) fun x4 =>
  bindO (binV BinOp.eql x4 (Value.int IntKind.i64 0)) fun x5 =>
  M.ret x5
def F.control_ledger_due.plan : Plan := (seq leaf (seq leaf leaf))
theorem F.control_ledger_due.lift : LiftOk Try.prog 36 (ap2 F.control_ledger_due) :=
  lift2 (g := evFn Try.prog tnil tnil 36 Try.f36 F.control_ledger_due.plan) (evFn_sound tnil_ok tnil_ok Try.func36 (by kernel_rfl)) (fun x0 x1 => by kernel_rfl)

/-- (*granary/control.swapping).late -/
noncomputable def F.control_swapping_late (_a0 a1 : Value) : M Value :=
  M.bind (F.control_Control_back a1) fun x1 =>
  M.ret x1
def F.control_swapping_late.plan : Plan := (seq leaf (seq leaf leaf))
theorem F.control_swapping_late.lift : LiftOk Try.prog 109 (ap2 F.control_swapping_late) :=
  lift2 (g := evFn Try.prog (tcons 30 (ap1 F.control_Control_back) tnil) tnil 109 Try.f109 F.control_swapping_late.plan) (evFn_sound (tcons_ok F.control_Control_back.lift tnil_ok) tnil_ok Try.func109 (by kernel_rfl)) (fun x0 x1 => by kernel_rfl)

/-- (*granary/control.looking).late -/
noncomputable def F.control_looking_late (_a0 a1 : Value) : M Value :=
  M.bind (F.control_Control_end a1 (Value.int IntKind.i64 3)) fun x1 =>
  M.ret x1
def F.control_looking_late.plan : Plan := (seq leaf (seq leaf leaf))
theorem F.control_looking_late.lift : LiftOk Try.prog 115 (ap2 F.control_looking_late) :=
  lift2 (g := evFn Try.prog (tcons 44 (ap2 F.control_Control_end) tnil) tnil 115 Try.f115 F.control_looking_late.plan) (evFn_sound (tcons_ok F.control_Control_end.lift tnil_ok) tnil_ok Try.func115 (by kernel_rfl)) (fun x0 x1 => by kernel_rfl)

/-- (*granary/control.backing).late -/
noncomputable def F.control_backing_late (_a0 a1 : Value) : M Value :=
  M.bind (F.control_Control_end a1 (Value.int IntKind.i64 3)) fun x1 =>
  M.ret x1
def F.control_backing_late.plan : Plan := (seq leaf (seq leaf leaf))
theorem F.control_backing_late.lift : LiftOk Try.prog 121 (ap2 F.control_backing_late) :=
  lift2 (g := evFn Try.prog (tcons 44 (ap2 F.control_Control_end) tnil) tnil 121 Try.f121 F.control_backing_late.plan) (evFn_sound (tcons_ok F.control_Control_end.lift tnil_ok) tnil_ok Try.func121 (by kernel_rfl)) (fun x0 x1 => by kernel_rfl)

/-- What this function's calls through interface values come to. -/
noncomputable def F.control_Control_Tick.inv : Tab := (tcons 35 (ap2 F.control_fetching_late) (tcons 101 (ap1 F.control_ledger_book) (tcons 109 (ap2 F.control_swapping_late) (tcons 115 (ap2 F.control_looking_late) (tcons 121 (ap2 F.control_backing_late) tnil)))))
theorem F.control_Control_Tick.inv_ok : TabOk Try.prog F.control_Control_Tick.inv := (tcons_ok F.control_fetching_late.lift (tcons_ok F.control_ledger_book.lift (tcons_ok F.control_swapping_late.lift (tcons_ok F.control_looking_late.lift (tcons_ok F.control_backing_late.lift tnil_ok)))))
theorem F.control_Control_Tick.inv_88_book (v : Value) : invV Try.prog F.control_Control_Tick.inv "granary/control.book" (.iface 88 v) [] = (match fieldA 0 v with | some p => F.control_ledger_book p | none => M.fail) := by kernel_rfl
theorem F.control_Control_Tick.inv_88_late (v x0 : Value) : invV Try.prog F.control_Control_Tick.inv "granary/control.late" (.iface 88 v) [x0] = F.control_fetching_late v x0 := by kernel_rfl
theorem F.control_Control_Tick.inv_91_book (v : Value) : invV Try.prog F.control_Control_Tick.inv "granary/control.book" (.iface 91 v) [] = (match fieldA 0 v with | some p => F.control_ledger_book p | none => M.fail) := by kernel_rfl
theorem F.control_Control_Tick.inv_91_late (v x0 : Value) : invV Try.prog F.control_Control_Tick.inv "granary/control.late" (.iface 91 v) [x0] = F.control_swapping_late v x0 := by kernel_rfl
theorem F.control_Control_Tick.inv_93_book (v : Value) : invV Try.prog F.control_Control_Tick.inv "granary/control.book" (.iface 93 v) [] = (match fieldA 0 v with | some p => F.control_ledger_book p | none => M.fail) := by kernel_rfl
theorem F.control_Control_Tick.inv_93_late (v x0 : Value) : invV Try.prog F.control_Control_Tick.inv "granary/control.late" (.iface 93 v) [x0] = F.control_looking_late v x0 := by kernel_rfl
theorem F.control_Control_Tick.inv_115_book (v : Value) : invV Try.prog F.control_Control_Tick.inv "granary/control.book" (.iface 115 v) [] = (match fieldA 0 v with | some p => F.control_ledger_book p | none => M.fail) := by kernel_rfl
theorem F.control_Control_Tick.inv_115_late (v x0 : Value) : invV Try.prog F.control_Control_Tick.inv "granary/control.late" (.iface 115 v) [x0] = F.control_backing_late v x0 := by kernel_rfl
/-- (*granary/control.Control).Tick -/
noncomputable def F.control_Control_Tick (a0 : Value) : M Value :=
  bindO (eqV (EqSh.one EqK.ptr) a0 (Value.pointer none)) fun x1 =>
  condM x1 (
    M.ret (Value.tuple #[(Value.slice none 0 0), (Value.int IntKind.i64 2)])) (
    bindO (nilChk a0) fun x2 =>
    bindO (fieldA 7 x2) fun x3 =>
    M.bind (rdM (ld1 x3)) fun x4 =>
    bindO (eqV (EqSh.one EqK.ifn) x4 Value.nilIface) fun x5 =>
    condM x5 (
      M.ret (Value.tuple #[(Value.slice none 0 0), (Value.int IntKind.i64 0)])) (
      bindO (nilChk a0) fun x6 =>
      bindO (fieldA 7 x6) fun x7 =>
      M.bind (rdM (ld1 x7)) fun x8 =>
      bindO (asrV true (Value.pointer none) 88 x8) fun x9 =>
      bindO (extV 0 x9) fun x10 =>
      bindO (extV 1 x9) fun x11 =>
      condM x11 (
        bindO (nilChk x10) fun x12 =>
        bindO (fieldA 0 x12) fun x13 =>
        bindO (fieldA 2 x13) fun x14 =>
        M.bind (rdM (ld1 x14)) fun x15 =>
        bindO (binV BinOp.add x15 (Value.int IntKind.i64 1)) fun x16 =>
        bindO (nilChk x10) fun x17 =>
        bindO (fieldA 0 x17) fun x18 =>
        bindO (fieldA 2 x18) fun x19 =>
        M.bind (stM 1 x19 x16) fun _ =>
        drewM <|
        bindO (nilChk x10) fun x21 =>
        bindO (fieldA 0 x21) fun x22 =>
        bindO (fieldA 2 x22) fun x23 =>
        M.bind (rdM (ld1 x23)) fun x24 =>
        bindO (nilChk a0) fun x25 =>
        bindO (fieldA 3 x25) fun x26 =>
        M.bind (rdM (ld1 x26)) fun x27 =>
        bindO (binV BinOp.geq x24 x27) fun x28 =>
        condM x28 (
          M.bind (F.control_fetching_late x10 a0) fun x29 =>
          M.ret (Value.tuple #[x29, (Value.int IntKind.i64 0)])) (
          drewM <|
          bindO (nilChk x10) fun x30 =>
          bindO (fieldA 0 x30) fun x31 =>
          bindO (nilChk a0) fun x32 =>
          bindO (fieldA 1 x32) fun x33 =>
          M.bind (rdM (ld1 x33)) fun x34 =>
          M.bind (F.control_ledger_due x31 x34) fun x35 =>
          condM x35 (
            M.bind (F.control_Control_send a0) fun x36 =>
            M.ret (Value.tuple #[x36, (Value.int IntKind.i64 0)])) (
            M.ret (Value.tuple #[(Value.slice none 0 0), (Value.int IntKind.i64 0)])))) (
        bindO (nilChk a0) fun x37 =>
        bindO (fieldA 7 x37) fun x38 =>
        M.bind (rdM (ld1 x38)) fun x39 =>
        M.bind (invV Try.prog F.control_Control_Tick.inv "granary/control.book" x39 []) fun x40 =>
        bindO (nilChk x40) fun x41 =>
        bindO (fieldA 2 x41) fun x42 =>
        M.bind (rdM (ld1 x42)) fun x43 =>
        bindO (binV BinOp.add x43 (Value.int IntKind.i64 1)) fun x44 =>
        bindO (nilChk x40) fun x45 =>
        bindO (fieldA 2 x45) fun x46 =>
        M.bind (stM 1 x46 x44) fun _ =>
        bindO (nilChk a0) fun x48 =>
        bindO (fieldA 1 x48) fun x49 =>
        M.bind (rdM (ld1 x49)) fun x50 =>
        M.bind (F.control_ledger_due x40 x50) fun x51 =>
        bindO (notV x51) fun x52 =>
        condM x52 (
          M.ret (Value.tuple #[(Value.slice none 0 0), (Value.int IntKind.i64 0)])) (
          drewM <|
          bindO (nilChk x40) fun x53 =>
          bindO (fieldA 3 x53) fun x54 =>
          M.bind (rdM (ld1 x54)) fun x55 =>
          bindO (nilChk a0) fun x56 =>
          bindO (fieldA 2 x56) fun x57 =>
          M.bind (rdM (ld1 x57)) fun x58 =>
          bindO (binV BinOp.geq x55 x58) fun x59 =>
          condM x59 (
            bindO (nilChk a0) fun x60 =>
            bindO (fieldA 7 x60) fun x61 =>
            M.bind (rdM (ld1 x61)) fun x62 =>
            M.bind (invV Try.prog F.control_Control_Tick.inv "granary/control.late" x62 [a0]) fun x63 =>
            M.ret (Value.tuple #[x63, (Value.int IntKind.i64 0)])) (
            bindO (nilChk x40) fun x64 =>
            bindO (fieldA 3 x64) fun x65 =>
            M.bind (rdM (ld1 x65)) fun x66 =>
            bindO (binV BinOp.add x66 (Value.int IntKind.i64 1)) fun x67 =>
            bindO (nilChk x40) fun x68 =>
            bindO (fieldA 3 x68) fun x69 =>
            M.bind (stM 1 x69 x67) fun _ =>
            M.bind (F.control_Control_send a0) fun x71 =>
            M.ret (Value.tuple #[x71, (Value.int IntKind.i64 0)]))))))
def F.control_Control_Tick.plan : Plan := (seq leaf (seq (seq leaf (cond (seq leaf leaf) leaf)) (seq (seq leaf (cond (seq leaf leaf) leaf)) (seq (seq leaf (seq leaf (cond (seq leaf (seq (body (seq leaf (cond (seq leaf leaf) (seq leaf (cond (seq leaf leaf) leaf))))) (seq leaf leaf))) leaf))) (seq leaf (seq leaf (seq (body (seq leaf (cond (seq leaf leaf) (seq leaf (cond (seq leaf leaf) leaf))))) (seq leaf (seq leaf leaf)))))))))
theorem F.control_Control_Tick.lift : LiftOk Try.prog 19 (ap1 F.control_Control_Tick) :=
  lift1 (g := evFn Try.prog (tcons 35 (ap2 F.control_fetching_late) (tcons 36 (ap2 F.control_ledger_due) (tcons 37 (ap1 F.control_Control_send) tnil))) F.control_Control_Tick.inv 19 Try.f19 F.control_Control_Tick.plan) (evFn_sound (tcons_ok F.control_fetching_late.lift (tcons_ok F.control_ledger_due.lift (tcons_ok F.control_Control_send.lift tnil_ok))) F.control_Control_Tick.inv_ok Try.func19 (by kernel_rfl)) (fun x0 => by kernel_rfl)

/-- granary/granarylaw15.ControlEnds -/
noncomputable def F.granarylaw15_ControlEnds (a0 a1 a2 a3 a4 : Value) : M Value :=
  M.bind (newM 23 (Value.cells a1)) fun x1 =>
  M.bind (rdM (ldA 3 x1)) fun x2 =>
  M.bind (F.granarylaw15_made a0 x2) fun x3 =>
  M.bind (newM 26 #[(Value.string ByteArray.empty), (Value.int IntKind.i64 0), (Value.int IntKind.i64 0), (Value.int IntKind.i64 0), (Value.int IntKind.i64 0), (Value.int IntKind.i64 0), (Value.int IntKind.i64 0), (Value.int IntKind.i64 0), (Value.int IntKind.i64 0), (Value.int IntKind.i64 0), (Value.int IntKind.i64 0), (Value.int IntKind.i64 0), (Value.int IntKind.i64 0), (Value.int IntKind.i64 0), (Value.int IntKind.i64 0), (Value.int IntKind.i64 0), (Value.int IntKind.i64 0), (Value.int IntKind.i64 0), (Value.int IntKind.i64 0), (Value.int IntKind.i64 0), (Value.int IntKind.i64 0), (Value.int IntKind.i64 0), (Value.slice none 0 0)]) fun x4 =>
  M.bind (stM 23 x4 x3) fun _ =>
  bindO (fieldA 0 x1) fun x6 =>
  M.bind (rdM (ld1 x6)) fun x7 =>
  M.bind (F.granarylaw15_mod x7 (Value.int IntKind.i64 16)) fun x8 =>
  bindO (binV BinOp.add (Value.int IntKind.i64 1) x8) fun x9 =>
  bindO (fieldA 15 x4) fun x10 =>
  M.bind (stM 1 x10 x9) fun _ =>
  bindO (fieldA 1 x1) fun x12 =>
  M.bind (rdM (ld1 x12)) fun x13 =>
  M.bind (F.granarylaw15_mod x13 (Value.int IntKind.i64 8)) fun x14 =>
  bindO (binV BinOp.add (Value.int IntKind.i64 1) x14) fun x15 =>
  bindO (fieldA 16 x4) fun x16 =>
  M.bind (stM 1 x16 x15) fun _ =>
  bindO (fieldA 2 x1) fun x18 =>
  M.bind (rdM (ld1 x18)) fun x19 =>
  M.bind (F.granarylaw15_mod x19 (Value.int IntKind.i64 256)) fun x20 =>
  bindO (binV BinOp.add (Value.int IntKind.i64 1) x20) fun x21 =>
  bindO (fieldA 17 x4) fun x22 =>
  M.bind (stM 1 x22 x21) fun _ =>
  M.bind (rdM (ldA 23 x4)) fun x24 =>
  M.bind (F.control_New x24) fun x25 =>
  bindO (extV 0 x25) fun x26 =>
  bindO (extV 1 x25) fun x27 =>
  M.bind (F.granarylaw15_num x27) fun x28 =>
  bindO (binV BinOp.neq x28 (Value.int IntKind.i64 0)) fun x29 =>
  M.bind (guardM x29 false (M.ret x26)) fun x30 =>
  M.bind (guardM x29 false (optM (eqV (EqSh.one EqK.ptr) x30 (Value.pointer none)))) fun x31 =>
  bindO (pickV x29 (Value.bool true) x31) fun x32 =>
  condM x32 (
    M.ret (Value.bool false)) (
    M.bind (F.granarylaw15_mod a2 (Value.int IntKind.i64 3)) fun x33 =>
    bindO (binV BinOp.add (Value.int IntKind.i64 1) x33) fun x34 =>
    M.bind (F.granarylaw15_mod a3 (Value.int IntKind.i64 999999)) fun x35 =>
    bindO (binV BinOp.add (Value.int IntKind.i64 1) x35) fun x36 =>
    bindO (fieldA 17 x4) fun x37 =>
    M.bind (rdM (ld1 x37)) fun x38 =>
    bindO (fieldA 15 x4) fun x39 =>
    M.bind (rdM (ld1 x39)) fun x40 =>
    bindO (binV BinOp.mul (Value.int IntKind.i64 2) x40) fun x41 =>
    bindO (fieldA 16 x4) fun x42 =>
    M.bind (rdM (ld1 x42)) fun x43 =>
    bindO (binV BinOp.mul x41 x43) fun x44 =>
    bindO (binV BinOp.add x38 x44) fun x45 =>
    M.bind (
      bindO (binV BinOp.eql x34 (Value.int IntKind.i64 2)) fun x46 =>
      condM x46 (
        bindO (fieldA 15 x4) fun x47 =>
        M.bind (rdM (ld1 x47)) fun x48 =>
        bindO (binV BinOp.mul (Value.int IntKind.i64 2) x48) fun x49 =>
        bindO (fieldA 16 x4) fun x50 =>
        M.bind (rdM (ld1 x50)) fun x51 =>
        bindO (binV BinOp.mul x49 x51) fun x52 =>
        M.ret (Out.norm [x52])) (
        M.ret (Out.norm [x45]))) fun o54 =>
    outK o54 (fun l53 =>
      M.bind (
        bindO (binV BinOp.eql x34 (Value.int IntKind.i64 3)) fun x57 =>
        condM x57 (
          bindO (fieldA 15 x4) fun x58 =>
          M.bind (rdM (ld1 x58)) fun x59 =>
          bindO (fieldA 16 x4) fun x60 =>
          M.bind (rdM (ld1 x60)) fun x61 =>
          bindO (binV BinOp.mul x59 x61) fun x62 =>
          M.ret (Out.norm [(Value.int IntKind.i64 0), x62])) (
          M.ret (Out.norm [x36, (getL l53 0)]))) fun o64 =>
      outK o64 (fun l63 =>
        M.bind (F.control_Control_Begin x26 x34 (getL l63 0)) fun x67 =>
        bindO (extV 0 x67) fun x68 =>
        bindO (extV 1 x67) fun x69 =>
        bindO (buildV #[(Value.int IntKind.i64 0), (Value.int IntKind.i64 0), (Value.int IntKind.i64 0), (Value.int IntKind.i64 0)] []) fun x70 =>
        M.bind (F.granarylaw15_counted x70 x68) fun x71 =>
        M.bind (newM 52 #[(Value.int IntKind.i64 0), (Value.int IntKind.i64 0), (Value.int IntKind.i64 0), (Value.int IntKind.i64 0)]) fun x72 =>
        M.bind (stM 4 x72 x71) fun _ =>
        M.bind (loopM (fun l74 =>
          bindO (binV BinOp.lss (getL l74 1) (getL l63 1)) fun x75 =>
          condM x75 (
            M.bind (F.granarylaw15_num (getL l74 0)) fun x76 =>
            bindO (binV BinOp.neq x76 (Value.int IntKind.i64 0)) fun x77 =>
            M.bind (guardM x77 false (M.ret x26)) fun x78 =>
            M.bind (guardM x77 false (F.control_Control_Busy x78)) fun x79 =>
            M.bind (guardM x77 false (optM (notV x79))) fun x80 =>
            bindO (pickV x77 (Value.bool true) x80) fun x81 =>
            condM x81 (
              M.bind (F.granarylaw15_num (getL l74 0)) fun x82 =>
              bindO (binV BinOp.eql x82 (Value.int IntKind.i64 0)) fun x83 =>
              M.ret (Out.ret x83)) (
              M.bind (F.control_Control_Tick x26) fun x84 =>
              bindO (extV 0 x84) fun x85 =>
              bindO (extV 1 x84) fun x86 =>
              M.bind (rdM (ldA 4 x72)) fun x87 =>
              M.bind (F.granarylaw15_counted x87 x85) fun x88 =>
              M.bind (stM 4 x72 x88) fun _ =>
              M.bind (
                bindO (lenL a4) fun x90 =>
                bindO (binV BinOp.lss (getL l74 1) x90) fun x91 =>
                condM x91 (
                  bindO (idxA 11 a4 (getL l74 1)) fun x92 =>
                  M.bind (rdM (ldA 11 x92)) fun x93 =>
                  M.bind (F.control_Control_Take x26 x93) fun x94 =>
                  bindO (extV 0 x94) fun x95 =>
                  bindO (extV 1 x94) fun x96 =>
                  M.bind (rdM (ldA 4 x72)) fun x97 =>
                  M.bind (F.granarylaw15_counted x97 x95) fun x98 =>
                  M.bind (stM 4 x72 x98) fun _ =>
                  M.bind (F.granarylaw15_num x96) fun x100 =>
                  bindO (binV BinOp.neq x100 (Value.int IntKind.i64 0)) fun x101 =>
                  condM x101 (
                    M.ret (Out.ret (Value.bool false))) (
                    M.ret (Out.norm []))) (
                  M.ret (Out.norm []))) fun o103 =>
              outK o103 (fun _ =>
                drewM <|
                bindO (idxR 4 1 x72 (Value.int IntKind.i64 0)) fun x106 =>
                M.bind (rdM (ld1 x106)) fun x107 =>
                bindO (fieldA 17 x4) fun x108 =>
                M.bind (rdM (ld1 x108)) fun x109 =>
                bindO (fieldA 15 x4) fun x110 =>
                M.bind (rdM (ld1 x110)) fun x111 =>
                bindO (binV BinOp.quo x109 x111) fun x112 =>
                bindO (binV BinOp.add (Value.int IntKind.i64 1) x112) fun x113 =>
                bindO (binV BinOp.gtr x107 x113) fun x114 =>
                M.bind (guardM x114 false (optM (idxR 4 1 x72 (Value.int IntKind.i64 1)))) fun x115 =>
                M.bind (guardM x114 false (rdM (ld1 x115))) fun x116 =>
                M.bind (guardM x114 false (optM (fieldA 16 x4))) fun x117 =>
                M.bind (guardM x114 false (rdM (ld1 x117))) fun x118 =>
                M.bind (guardM x114 false (optM (binV BinOp.gtr x116 x118))) fun x119 =>
                bindO (pickV x114 (Value.bool true) x119) fun x120 =>
                M.bind (guardM x120 false (optM (idxR 4 1 x72 (Value.int IntKind.i64 2)))) fun x121 =>
                M.bind (guardM x120 false (rdM (ld1 x121))) fun x122 =>
                M.bind (guardM x120 false (optM (fieldA 16 x4))) fun x123 =>
                M.bind (guardM x120 false (rdM (ld1 x123))) fun x124 =>
                M.bind (guardM x120 false (optM (binV BinOp.gtr x122 x124))) fun x125 =>
                bindO (pickV x120 (Value.bool true) x125) fun x126 =>
                M.bind (guardM x126 false (optM (idxR 4 1 x72 (Value.int IntKind.i64 3)))) fun x127 =>
                M.bind (guardM x126 false (rdM (ld1 x127))) fun x128 =>
                M.bind (guardM x126 false (optM (fieldA 16 x4))) fun x129 =>
                M.bind (guardM x126 false (rdM (ld1 x129))) fun x130 =>
                M.bind (guardM x126 false (optM (binV BinOp.gtr x128 x130))) fun x131 =>
                bindO (pickV x126 (Value.bool true) x131) fun x132 =>
                condM x132 (
                  M.ret (Out.ret (Value.bool false))) (
                  bindO (binV BinOp.add (getL l74 1) (Value.int IntKind.i64 1)) fun x133 =>
                  M.ret (Out.norm [x86, x133]))) (fun _ _ =>
                M.fail) (fun r105 => M.ret (Out.ret r105)))) (
            M.ret (Out.exit 0 [(getL l74 0), (getL l74 1)]))) [x69, (Value.int IntKind.i64 0)]) fun o136 =>
        outK o136 (fun _ => M.fail) (fun i137 l135 =>
          bif Nat.beq i137 0 then (
            M.bind (F.control_Control_Report x26) fun x139 =>
            bindO (extV 0 x139) fun x140 =>
            bindO (extV 1 x139) fun x141 =>
            M.bind (newM 39 #[(Value.int IntKind.i64 0), (Value.int IntKind.i64 0), (Value.int IntKind.i64 0), (Value.int IntKind.i64 0), (Value.slice none 0 0), (Value.slice none 0 0)]) fun x142 =>
            M.bind (stM 6 x142 x140) fun _ =>
            M.bind (F.granarylaw15_num (getL l135 0)) fun x144 =>
            bindO (binV BinOp.eql x144 (Value.int IntKind.i64 0)) fun x145 =>
            M.bind (guardM x145 true (M.ret x26)) fun x146 =>
            M.bind (guardM x145 true (F.control_Control_Busy x146)) fun x147 =>
            M.bind (guardM x145 true (optM (notV x147))) fun x148 =>
            bindO (pickV x145 x148 (Value.bool false)) fun x149 =>
            M.bind (guardM x149 true (M.ret x141)) fun x150 =>
            M.bind (guardM x149 true (F.granarylaw15_num x150)) fun x151 =>
            M.bind (guardM x149 true (optM (binV BinOp.eql x151 (Value.int IntKind.i64 0)))) fun x152 =>
            bindO (pickV x149 x152 (Value.bool false)) fun x153 =>
            M.bind (guardM x153 true (optM (fieldA 0 x142))) fun x154 =>
            M.bind (guardM x153 true (rdM (ld1 x154))) fun x155 =>
            M.bind (guardM x153 true (optM (binV BinOp.eql x155 (Value.int IntKind.i64 1)))) fun x156 =>
            bindO (pickV x153 x156 (Value.bool false)) fun x157 =>
            M.bind (guardM x157 true (optM (fieldA 1 x142))) fun x158 =>
            M.bind (guardM x157 true (rdM (ld1 x158))) fun x159 =>
            M.bind (guardM x157 true (M.ret x34)) fun x160 =>
            M.bind (guardM x157 true (optM (binV BinOp.eql x159 x160))) fun x161 =>
            bindO (pickV x157 x161 (Value.bool false)) fun x162 =>
            M.bind (guardM x162 true (optM (fieldA 2 x142))) fun x163 =>
            M.bind (guardM x162 true (rdM (ld1 x163))) fun x164 =>
            M.bind (guardM x162 true (M.ret (getL l63 0))) fun x165 =>
            M.bind (guardM x162 true (optM (binV BinOp.eql x164 x165))) fun x166 =>
            bindO (pickV x162 x166 (Value.bool false)) fun x167 =>
            M.ret x167) else
          M.fail) (fun r138 => M.ret r138)) (fun _ _ =>
        M.fail) (fun r66 => M.ret r66)) (fun _ _ =>
      M.fail) (fun r56 => M.ret r56))
def F.granarylaw15_ControlEnds.plan : Plan := (seq leaf (seq leaf (seq leaf (seq leaf (seq leaf (seq leaf (seq (seq leaf (cond (seq leaf leaf) leaf)) (seq leaf (seq leaf (seq leaf (fork [16] [16, 69, 70, 71, 72, 73, 74, 75, 76] [] (seq leaf (cond leaf leaf)) (fork [15, 16] [15, 16, 77, 78, 79, 80, 81, 82, 83] [] (seq leaf (cond (seq leaf leaf) leaf)) (seq leaf (seq leaf (seq (seq leaf (body (loop [18, 20] [10, 17, 18, 20, 21, 94, 95, 96, 97, 98, 99, 100, 101, 102, 103, 104, 105, 106, 107, 108, 109, 110, 111, 112, 113, 114, 115, 116, 117, 118, 119, 120, 121, 122, 123, 124, 125, 126, 127, 128, 129, 130, 131, 132, 133, 134, 135, 136, 137, 138, 139, 140, 141, 142, 143, 144, 145, 146, 147, 148, 149, 150, 151, 152, 153, 154, 155, 156, 157, 158, 159, 160, 161, 162, 163, 164, 165, 166] [0] (seq (seq leaf (cond leaf leaf)) (seq (body (seq (seq leaf (cond (seq leaf leaf) leaf)) (seq leaf (seq leaf (fork [] [10, 17, 21, 118, 119, 120, 121, 122, 123, 124, 125, 126, 127, 128, 129, 130, 131, 132, 133, 134, 135, 136] [] (seq leaf (cond (seq leaf (seq leaf (seq leaf (seq leaf (cond (seq leaf leaf) leaf))))) leaf)) (seq leaf (cond (seq leaf leaf) leaf))))))) leaf))))) (seq leaf (seq leaf leaf)))))))))))))))))
theorem F.granarylaw15_ControlEnds.lift : LiftOk Try.prog 4 (ap5 F.granarylaw15_ControlEnds) :=
  lift5 (g := evFn Try.prog (tcons 7 (ap2 F.granarylaw15_made) (tcons 8 (ap2 F.granarylaw15_mod) (tcons 11 (ap1 F.granarylaw15_num) (tcons 12 (ap1 F.control_Control_Busy) (tcons 13 (ap1 F.control_Control_Report) (tcons 16 (ap1 F.control_New) (tcons 17 (ap3 F.control_Control_Begin) (tcons 18 (ap2 F.granarylaw15_counted) (tcons 19 (ap1 F.control_Control_Tick) (tcons 20 (ap2 F.control_Control_Take) tnil)))))))))) tnil 4 Try.f4 F.granarylaw15_ControlEnds.plan) (evFn_sound (tcons_ok F.granarylaw15_made.lift (tcons_ok F.granarylaw15_mod.lift (tcons_ok F.granarylaw15_num.lift (tcons_ok F.control_Control_Busy.lift (tcons_ok F.control_Control_Report.lift (tcons_ok F.control_New.lift (tcons_ok F.control_Control_Begin.lift (tcons_ok F.granarylaw15_counted.lift (tcons_ok F.control_Control_Tick.lift (tcons_ok F.control_Control_Take.lift tnil_ok)))))))))) tnil_ok Try.func4 (by kernel_rfl)) (fun x0 x1 x2 x3 x4 => by kernel_rfl)

/-- granary/granarylaw15.started -/
noncomputable def F.granarylaw15_started (a0 : Value) : M Value :=
  M.bind (newM 26 (Value.cells a0)) fun x1 =>
  M.bind (rdM (ldA 23 x1)) fun x2 =>
  M.bind (F.control_New x2) fun x3 =>
  bindO (extV 0 x3) fun x4 =>
  bindO (extV 1 x3) fun x5 =>
  M.bind (F.granarylaw15_num x5) fun x6 =>
  bindO (binV BinOp.neq x6 (Value.int IntKind.i64 0)) fun x7 =>
  M.bind (guardM x7 false (M.ret x4)) fun x8 =>
  M.bind (guardM x7 false (optM (eqV (EqSh.one EqK.ptr) x8 (Value.pointer none)))) fun x9 =>
  bindO (pickV x7 (Value.bool true) x9) fun x10 =>
  M.bind (guardM x10 false (M.ret x4)) fun x11 =>
  M.bind (guardM x10 false (F.control_Control_Busy x11)) fun x12 =>
  bindO (pickV x10 (Value.bool true) x12) fun x13 =>
  condM x13 (
    M.ret (Value.tuple #[(Value.pointer none), (Value.bool false)])) (
    bindO (buildV #[(Value.pointer none), (Value.slice none 0 0), (Value.slice none 0 0), (Value.int IntKind.i64 0), (Value.int IntKind.i64 0), (Value.int IntKind.i64 0), (Value.slice none 0 0), (Value.slice none 0 0), (Value.bool false), (Value.slice none 0 0)] [(0, 1, x4)]) fun x14 =>
    M.bind (newM 105 (Value.cells x14)) fun x15 =>
    M.bind (loopM (fun l16 =>
      bindO (fieldA 22 x1) fun x17 =>
      M.bind (rdM (ld1 x17)) fun x18 =>
      bindO (lenL x18) fun x19 =>
      bindO (binV BinOp.lss (getL l16 0) x19) fun x20 =>
      condM x20 (
        bindO (nilChk x15) fun x21 =>
        bindO (fieldA 1 x21) fun x22 =>
        M.bind (rdM (ld1 x22)) fun x23 =>
        bindO (buildV #[(Value.int IntKind.i64 0), (Value.int IntKind.i64 0), (Value.int IntKind.i64 0), (Value.int IntKind.i64 0), (Value.int IntKind.i64 0), (Value.int IntKind.i64 0), (Value.bool false), (Value.bool false)] []) fun x24 =>
        M.bind (bslM 107 1 (Builtin.zeroCells #[(Value.int IntKind.i64 0), (Value.int IntKind.i64 0), (Value.int IntKind.i64 0), (Value.int IntKind.i64 0), (Value.int IntKind.i64 0), (Value.int IntKind.i64 0), (Value.bool false), (Value.bool false)] 1) [(0, 8, x24)]) fun x25 =>
        M.bind (appM 107 8 56 #[(Value.int IntKind.i64 0), (Value.int IntKind.i64 0), (Value.int IntKind.i64 0), (Value.int IntKind.i64 0), (Value.int IntKind.i64 0), (Value.int IntKind.i64 0), (Value.bool false), (Value.bool false)] x23 x25) fun x26 =>
        bindO (nilChk x15) fun x27 =>
        bindO (fieldA 1 x27) fun x28 =>
        M.bind (stM 1 x28 x26) fun _ =>
        bindO (nilChk x15) fun x30 =>
        bindO (fieldA 9 x30) fun x31 =>
        M.bind (rdM (ld1 x31)) fun x32 =>
        M.bind (bslM 3 1 (Builtin.zeroCells #[(Value.int IntKind.i64 0)] 1) [(0, 1, (Value.int IntKind.i64 (-1)))]) fun x33 =>
        M.bind (appM 3 1 8 #[(Value.int IntKind.i64 0)] x32 x33) fun x34 =>
        bindO (nilChk x15) fun x35 =>
        bindO (fieldA 9 x35) fun x36 =>
        M.bind (stM 1 x36 x34) fun _ =>
        bindO (binV BinOp.add (getL l16 0) (Value.int IntKind.i64 1)) fun x38 =>
        M.ret (Out.norm [x38])) (
        M.ret (Out.exit 0 [(getL l16 0)]))) [(Value.int IntKind.i64 0)]) fun o40 =>
    outK o40 (fun _ => M.fail) (fun i41 _ =>
      bif Nat.beq i41 0 then (
        M.ret (Value.tuple #[x15, (Value.bool true)])) else
      M.fail) (fun r42 => M.ret r42))
def F.granarylaw15_started.plan : Plan := (seq leaf (seq leaf (seq (seq leaf (cond (seq leaf leaf) leaf)) (seq leaf (seq (seq leaf (body (loop [7] [7, 27, 28, 29, 30, 31, 32, 33, 34, 35, 36, 37, 38, 39, 40, 41, 42, 43, 44, 45, 46, 47, 48, 49, 50, 51, 52] [0] (seq (seq leaf (cond leaf leaf)) (seq (body (seq leaf leaf)) leaf))))) (seq leaf leaf))))))
theorem F.granarylaw15_started.lift : LiftOk Try.prog 21 (ap1 F.granarylaw15_started) :=
  lift1 (g := evFn Try.prog (tcons 11 (ap1 F.granarylaw15_num) (tcons 12 (ap1 F.control_Control_Busy) (tcons 16 (ap1 F.control_New) tnil))) tnil 21 Try.f21 F.granarylaw15_started.plan) (evFn_sound (tcons_ok F.granarylaw15_num.lift (tcons_ok F.control_Control_Busy.lift (tcons_ok F.control_New.lift tnil_ok))) tnil_ok Try.func21 (by kernel_rfl)) (fun x0 => by kernel_rfl)

/-- granary/granarylaw15.none -/
noncomputable def F.granarylaw15_none (a0 : Value) : M Value :=
  M.bind (loopM (fun l1 =>
    bindO (binV BinOp.lss (getL l1 1) a0) fun x2 =>
    condM x2 (
      M.bind (bslM 4 1 (Builtin.zeroCells #[(Value.bool false)] 1) [(0, 1, (Value.bool false))]) fun x3 =>
      M.bind (appM 4 1 1 #[(Value.bool false)] (getL l1 0) x3) fun x4 =>
      bindO (binV BinOp.add (getL l1 1) (Value.int IntKind.i64 1)) fun x5 =>
      M.ret (Out.norm [x4, x5])) (
      M.ret (Out.exit 0 [(getL l1 0), (getL l1 1)]))) [(Value.slice none 0 0), (Value.int IntKind.i64 0)]) fun o7 =>
  outK o7 (fun _ => M.fail) (fun i8 l6 =>
    bif Nat.beq i8 0 then (
      M.ret (getL l6 0)) else
    M.fail) (fun r9 => M.ret r9)
def F.granarylaw15_none.plan : Plan := (seq leaf (seq leaf (seq (seq leaf (body (loop [3, 4] [3, 4, 5, 6, 7, 8, 9, 10, 11, 12] [0] (seq (seq leaf (cond leaf leaf)) (seq (body leaf) leaf))))) (seq leaf leaf))))
theorem F.granarylaw15_none.lift : LiftOk Try.prog 41 (ap1 F.granarylaw15_none) :=
  lift1 (g := evFn Try.prog tnil tnil 41 Try.f41 F.granarylaw15_none.plan) (evFn_sound tnil_ok tnil_ok Try.func41 (by kernel_rfl)) (fun x0 => by kernel_rfl)

/-- granary/granarylaw15.every -/
noncomputable def F.granarylaw15_every (a0 : Value) : M Value :=
  M.bind (loopM (fun l1 =>
    bindO (lenL a0) fun x2 =>
    bindO (binV BinOp.lss (getL l1 0) x2) fun x3 =>
    condM x3 (
      bindO (idxA 1 a0 (getL l1 0)) fun x4 =>
      M.bind (rdM (ld1 x4)) fun x5 =>
      bindO (notV x5) fun x6 =>
      condM x6 (
        M.ret (Out.ret (Value.bool false))) (
        bindO (binV BinOp.add (getL l1 0) (Value.int IntKind.i64 1)) fun x7 =>
        M.ret (Out.norm [x7]))) (
      M.ret (Out.exit 0 [(getL l1 0)]))) [(Value.int IntKind.i64 0)]) fun o9 =>
  outK o9 (fun _ => M.fail) (fun i10 _ =>
    bif Nat.beq i10 0 then (
      M.ret (Value.bool true)) else
    M.fail) (fun r11 => M.ret r11)
def F.granarylaw15_every.plan : Plan := (seq leaf (seq (seq leaf (body (loop [3] [2, 3, 4, 5, 6, 7, 8, 9, 10, 11, 12, 13, 14] [0] (seq (seq leaf (cond leaf leaf)) (seq (body (seq leaf (cond (seq leaf leaf) leaf))) leaf))))) (seq leaf leaf)))
theorem F.granarylaw15_every.lift : LiftOk Try.prog 58 (ap1 F.granarylaw15_every) :=
  lift1 (g := evFn Try.prog tnil tnil 58 Try.f58 F.granarylaw15_every.plan) (evFn_sound tnil_ok tnil_ok Try.func58 (by kernel_rfl)) (fun x0 => by kernel_rfl)

/-- (*granary/granarylaw15.Play).right -/
noncomputable def F.granarylaw15_Play_right (a0 a1 : Value) : M Value :=
  M.bind (newM 44 (Value.cells a1)) fun x1 =>
  drewM <|
  bindO (fieldA 1 x1) fun x2 =>
  M.bind (rdM (ld1 x2)) fun x3 =>
  bindO (binV BinOp.neq x3 (Value.int IntKind.i64 64)) fun x4 =>
  M.bind (guardM x4 false (optM (fieldA 2 x1))) fun x5 =>
  M.bind (guardM x4 false (rdM (ld1 x5))) fun x6 =>
  M.bind (guardM x4 false (optM (binV BinOp.lss x6 (Value.int IntKind.i64 0)))) fun x7 =>
  bindO (pickV x4 (Value.bool true) x7) fun x8 =>
  M.bind (guardM x8 false (optM (fieldA 2 x1))) fun x9 =>
  M.bind (guardM x8 false (rdM (ld1 x9))) fun x10 =>
  M.bind (guardM x8 false (M.ret a0)) fun x11 =>
  M.bind (guardM x8 false (optM (nilChk x11))) fun x12 =>
  M.bind (guardM x8 false (optM (fieldA 1 x12))) fun x13 =>
  M.bind (guardM x8 false (rdM (ld1 x13))) fun x14 =>
  M.bind (guardM x8 false (optM (lenL x14))) fun x15 =>
  M.bind (guardM x8 false (optM (binV BinOp.geq x10 x15))) fun x16 =>
  bindO (pickV x8 (Value.bool true) x16) fun x17 =>
  M.bind (guardM x17 false (optM (fieldA 3 x1))) fun x18 =>
  M.bind (guardM x17 false (rdM (ld1 x18))) fun x19 =>
  M.bind (guardM x17 false (M.ret a0)) fun x20 =>
  M.bind (guardM x17 false (optM (nilChk x20))) fun x21 =>
  M.bind (guardM x17 false (optM (fieldA 3 x21))) fun x22 =>
  M.bind (guardM x17 false (rdM (ld1 x22))) fun x23 =>
  M.bind (guardM x17 false (optM (binV BinOp.neq x19 x23))) fun x24 =>
  bindO (pickV x17 (Value.bool true) x24) fun x25 =>
  M.bind (guardM x25 false (optM (fieldA 4 x1))) fun x26 =>
  M.bind (guardM x25 false (rdM (ld1 x26))) fun x27 =>
  M.bind (guardM x25 false (M.ret a0)) fun x28 =>
  M.bind (guardM x25 false (optM (nilChk x28))) fun x29 =>
  M.bind (guardM x25 false (optM (fieldA 3 x29))) fun x30 =>
  M.bind (guardM x25 false (rdM (ld1 x30))) fun x31 =>
  M.bind (guardM x25 false (optM (binV BinOp.neq x27 x31))) fun x32 =>
  bindO (pickV x25 (Value.bool true) x32) fun x33 =>
  M.bind (guardM x33 false (optM (fieldA 8 x1))) fun x34 =>
  M.bind (guardM x33 false (rdM (ld1 x34))) fun x35 =>
  M.bind (guardM x33 false (F.granarylaw15_num x35)) fun x36 =>
  M.bind (guardM x33 false (optM (binV BinOp.neq x36 (Value.int IntKind.i64 0)))) fun x37 =>
  bindO (pickV x33 (Value.bool true) x37) fun x38 =>
  M.bind (guardM x38 false (optM (fieldA 7 x1))) fun x39 =>
  M.bind (guardM x38 false (rdM (ld1 x39))) fun x40 =>
  M.bind (guardM x38 false (optM (binV BinOp.neq x40 (Value.int IntKind.i64 0)))) fun x41 =>
  bindO (pickV x38 (Value.bool true) x41) fun x42 =>
  M.bind (guardM x42 false (optM (fieldA 9 x1))) fun x43 =>
  M.bind (guardM x42 false (rdM (ld1 x43))) fun x44 =>
  M.bind (guardM x42 false (optM (binV BinOp.neq x44 (Value.string (ByteArray.mk #[]))))) fun x45 =>
  bindO (pickV x42 (Value.bool true) x45) fun x46 =>
  M.bind (guardM x46 false (optM (fieldA 10 x1))) fun x47 =>
  M.bind (guardM x46 false (rdM (ld1 x47))) fun x48 =>
  M.bind (guardM x46 false (optM (binV BinOp.neq x48 (Value.string (ByteArray.mk #[]))))) fun x49 =>
  bindO (pickV x46 (Value.bool true) x49) fun x50 =>
  condM x50 (
    M.ret (Value.bool false)) (
    bindO (fieldA 0 x1) fun x51 =>
    M.bind (rdM (ld1 x51)) fun x52 =>
    bindO (binV BinOp.eql x52 (Value.int IntKind.i64 3)) fun x53 =>
    condM x53 (
      drewM <|
      bindO (nilChk a0) fun x54 =>
      bindO (fieldA 4 x54) fun x55 =>
      M.bind (rdM (ld1 x55)) fun x56 =>
      bindO (binV BinOp.eql x56 (Value.int IntKind.i64 1)) fun x57 =>
      M.bind (guardM x57 true (M.ret a0)) fun x58 =>
      M.bind (guardM x57 true (optM (nilChk x58))) fun x59 =>
      M.bind (guardM x57 true (optM (fieldA 8 x59))) fun x60 =>
      M.bind (guardM x57 true (rdM (ld1 x60))) fun x61 =>
      M.bind (guardM x57 true (optM (notV x61))) fun x62 =>
      bindO (pickV x57 x62 (Value.bool false)) fun x63 =>
      M.bind (guardM x63 true (optM (fieldA 5 x1))) fun x64 =>
      M.bind (guardM x63 true (rdM (ld1 x64))) fun x65 =>
      M.bind (guardM x63 true (optM (binV BinOp.eql x65 (Value.int IntKind.i64 0)))) fun x66 =>
      bindO (pickV x63 x66 (Value.bool false)) fun x67 =>
      M.bind (guardM x67 true (optM (fieldA 6 x1))) fun x68 =>
      M.bind (guardM x67 true (rdM (ld1 x68))) fun x69 =>
      M.bind (guardM x67 true (M.ret a0)) fun x70 =>
      M.bind (guardM x67 true (optM (nilChk x70))) fun x71 =>
      M.bind (guardM x67 true (optM (fieldA 5 x71))) fun x72 =>
      M.bind (guardM x67 true (rdM (ld1 x72))) fun x73 =>
      M.bind (guardM x67 true (optM (binV BinOp.eql x69 x73))) fun x74 =>
      bindO (pickV x67 x74 (Value.bool false)) fun x75 =>
      M.ret x75) (
      bindO (binV BinOp.eql x52 (Value.int IntKind.i64 5)) fun x76 =>
      condM x76 (
        drewM <|
        bindO (nilChk a0) fun x77 =>
        bindO (fieldA 8 x77) fun x78 =>
        M.bind (rdM (ld1 x78)) fun x79 =>
        bindO (notV x79) fun x80 =>
        M.bind (guardM x80 true (optM (fieldA 5 x1))) fun x81 =>
        M.bind (guardM x80 true (rdM (ld1 x81))) fun x82 =>
        M.bind (guardM x80 true (optM (binV BinOp.eql x82 (Value.int IntKind.i64 1)))) fun x83 =>
        bindO (pickV x80 x83 (Value.bool false)) fun x84 =>
        M.bind (guardM x84 true (optM (fieldA 6 x1))) fun x85 =>
        M.bind (guardM x84 true (rdM (ld1 x85))) fun x86 =>
        M.bind (guardM x84 true (M.ret a0)) fun x87 =>
        M.bind (guardM x84 true (optM (nilChk x87))) fun x88 =>
        M.bind (guardM x84 true (optM (fieldA 5 x88))) fun x89 =>
        M.bind (guardM x84 true (rdM (ld1 x89))) fun x90 =>
        M.bind (guardM x84 true (optM (binV BinOp.eql x86 x90))) fun x91 =>
        bindO (pickV x84 x91 (Value.bool false)) fun x92 =>
        M.bind (guardM x92 true (M.ret a0)) fun x93 =>
        M.bind (guardM x92 true (optM (nilChk x93))) fun x94 =>
        M.bind (guardM x92 true (optM (fieldA 4 x94))) fun x95 =>
        M.bind (guardM x92 true (rdM (ld1 x95))) fun x96 =>
        M.bind (guardM x92 true (optM (binV BinOp.eql x96 (Value.int IntKind.i64 2)))) fun x97 =>
        M.bind (guardM x92 true (M.ret x97)) fun x98 =>
        M.bind (guardM x98 false (M.ret a0)) fun x99 =>
        M.bind (guardM x98 false (optM (nilChk x99))) fun x100 =>
        M.bind (guardM x98 false (optM (fieldA 6 x100))) fun x101 =>
        M.bind (guardM x98 false (rdM (ld1 x101))) fun x102 =>
        M.bind (guardM x98 false (F.granarylaw15_every x102)) fun x103 =>
        M.bind (guardM x92 true (optM (pickV x98 (Value.bool true) x103))) fun x104 =>
        bindO (pickV x92 x104 (Value.bool false)) fun x105 =>
        M.ret x105) (
        bindO (binV BinOp.eql x52 (Value.int IntKind.i64 7)) fun x106 =>
        condM x106 (
          bindO (fieldA 5 x1) fun x107 =>
          M.bind (rdM (ld1 x107)) fun x108 =>
          bindO (binV BinOp.eql x108 (Value.int IntKind.i64 2)) fun x109 =>
          M.bind (guardM x109 true (optM (fieldA 6 x1))) fun x110 =>
          M.bind (guardM x109 true (rdM (ld1 x110))) fun x111 =>
          M.bind (guardM x109 true (optM (binV BinOp.eql x111 (Value.int IntKind.i64 0)))) fun x112 =>
          bindO (pickV x109 x112 (Value.bool false)) fun x113 =>
          M.ret x113) (
          M.ret (Value.bool false)))))
def F.granarylaw15_Play_right.plan : Plan := (seq leaf (seq (seq leaf (cond (seq leaf leaf) leaf)) (seq (seq leaf (body (seq leaf (cond (seq leaf leaf) (seq leaf (cond (seq leaf leaf) (seq leaf (cond (seq leaf leaf) leaf)))))))) (seq leaf leaf))))
theorem F.granarylaw15_Play_right.lift : LiftOk Try.prog 51 (ap2 F.granarylaw15_Play_right) :=
  lift2 (g := evFn Try.prog (tcons 11 (ap1 F.granarylaw15_num) (tcons 58 (ap1 F.granarylaw15_every) tnil)) tnil 51 Try.f51 F.granarylaw15_Play_right.plan) (evFn_sound (tcons_ok F.granarylaw15_num.lift (tcons_ok F.granarylaw15_every.lift tnil_ok)) tnil_ok Try.func51 (by kernel_rfl)) (fun x0 x1 => by kernel_rfl)

/-- (*granary/granarylaw15.Play).restored -/
noncomputable def F.granarylaw15_Play_restored (a0 a1 a2 : Value) : M Value :=
  bindO (nilChk a0) fun x1 =>
  bindO (fieldA 1 x1) fun x2 =>
  M.bind (rdM (ld1 x2)) fun x3 =>
  bindO (idxA 8 x3 a1) fun x4 =>
  M.bind (rdM (ldA 8 x4)) fun x5 =>
  M.bind (newM 107 #[(Value.int IntKind.i64 0), (Value.int IntKind.i64 0), (Value.int IntKind.i64 0), (Value.int IntKind.i64 0), (Value.int IntKind.i64 0), (Value.int IntKind.i64 0), (Value.bool false), (Value.bool false)]) fun x6 =>
  M.bind (stM 8 x6 x5) fun _ =>
  drewM <|
  bindO (nilChk a0) fun x8 =>
  bindO (fieldA 9 x8) fun x9 =>
  M.bind (rdM (ld1 x9)) fun x10 =>
  bindO (fieldA 0 x6) fun x11 =>
  M.bind (rdM (ld1 x11)) fun x12 =>
  bindO (idxA 1 x10 a1) fun x13 =>
  M.bind (stM 1 x13 x12) fun _ =>
  drewM <|
  bindO (fieldA 0 x6) fun x15 =>
  M.bind (rdM (ld1 x15)) fun x16 =>
  bindO (binV BinOp.eql a2 x16) fun x17 =>
  M.bind (guardM x17 true (optM (fieldA 4 x6))) fun x18 =>
  M.bind (guardM x17 true (rdM (ld1 x18))) fun x19 =>
  M.bind (guardM x17 true (M.ret a0)) fun x20 =>
  M.bind (guardM x17 true (optM (nilChk x20))) fun x21 =>
  M.bind (guardM x17 true (optM (fieldA 3 x21))) fun x22 =>
  M.bind (guardM x17 true (rdM (ld1 x22))) fun x23 =>
  M.bind (guardM x17 true (optM (binV BinOp.neq x19 x23))) fun x24 =>
  M.bind (guardM x17 true (M.ret x24)) fun x25 =>
  M.bind (guardM x25 false (optM (fieldA 0 x6))) fun x26 =>
  M.bind (guardM x25 false (rdM (ld1 x26))) fun x27 =>
  M.bind (guardM x25 false (optM (fieldA 5 x6))) fun x28 =>
  M.bind (guardM x25 false (rdM (ld1 x28))) fun x29 =>
  M.bind (guardM x25 false (optM (binV BinOp.eql x27 x29))) fun x30 =>
  M.bind (guardM x17 true (optM (pickV x25 (Value.bool true) x30))) fun x31 =>
  bindO (pickV x17 x31 (Value.bool false)) fun x32 =>
  M.bind (guardM x32 true (optM (fieldA 2 x6))) fun x33 =>
  M.bind (guardM x32 true (rdM (ld1 x33))) fun x34 =>
  M.bind (guardM x32 true (M.ret a0)) fun x35 =>
  M.bind (guardM x32 true (optM (nilChk x35))) fun x36 =>
  M.bind (guardM x32 true (optM (fieldA 3 x36))) fun x37 =>
  M.bind (guardM x32 true (rdM (ld1 x37))) fun x38 =>
  M.bind (guardM x32 true (optM (binV BinOp.eql x34 x38))) fun x39 =>
  M.bind (guardM x32 true (M.ret x39)) fun x40 =>
  M.bind (guardM x40 true (optM (fieldA 3 x6))) fun x41 =>
  M.bind (guardM x40 true (rdM (ld1 x41))) fun x42 =>
  M.bind (guardM x40 true (optM (binV BinOp.eql x42 (Value.int IntKind.i64 2)))) fun x43 =>
  M.bind (guardM x32 true (optM (pickV x40 x43 (Value.bool false)))) fun x44 =>
  bindO (pickV x32 x44 (Value.bool false)) fun x45 =>
  M.ret x45
def F.granarylaw15_Play_restored.plan : Plan := (seq leaf (seq leaf (seq leaf (seq leaf leaf))))
theorem F.granarylaw15_Play_restored.lift : LiftOk Try.prog 59 (ap3 F.granarylaw15_Play_restored) :=
  lift3 (g := evFn Try.prog tnil tnil 59 Try.f59 F.granarylaw15_Play_restored.plan) (evFn_sound tnil_ok tnil_ok Try.func59 (by kernel_rfl)) (fun x0 x1 x2 => by kernel_rfl)

/-- (*granary/granarylaw15.Play).ended -/
noncomputable def F.granarylaw15_Play_ended (a0 : Value) : M Value :=
  bindO (nilChk a0) fun x1 =>
  bindO (fieldA 0 x1) fun x2 =>
  M.bind (rdM (ld1 x2)) fun x3 =>
  M.bind (F.control_Control_Report x3) fun x4 =>
  bindO (extV 0 x4) fun x5 =>
  bindO (extV 1 x4) fun x6 =>
  M.bind (newM 39 #[(Value.int IntKind.i64 0), (Value.int IntKind.i64 0), (Value.int IntKind.i64 0), (Value.int IntKind.i64 0), (Value.slice none 0 0), (Value.slice none 0 0)]) fun x7 =>
  M.bind (stM 6 x7 x5) fun _ =>
  drewM <|
  M.bind (F.granarylaw15_num x6) fun x9 =>
  bindO (binV BinOp.neq x9 (Value.int IntKind.i64 0)) fun x10 =>
  M.bind (guardM x10 false (optM (fieldA 0 x7))) fun x11 =>
  M.bind (guardM x10 false (rdM (ld1 x11))) fun x12 =>
  M.bind (guardM x10 false (M.ret a0)) fun x13 =>
  M.bind (guardM x10 false (optM (nilChk x13))) fun x14 =>
  M.bind (guardM x10 false (optM (fieldA 3 x14))) fun x15 =>
  M.bind (guardM x10 false (rdM (ld1 x15))) fun x16 =>
  M.bind (guardM x10 false (optM (binV BinOp.neq x12 x16))) fun x17 =>
  bindO (pickV x10 (Value.bool true) x17) fun x18 =>
  M.bind (guardM x18 false (optM (fieldA 1 x7))) fun x19 =>
  M.bind (guardM x18 false (rdM (ld1 x19))) fun x20 =>
  M.bind (guardM x18 false (M.ret a0)) fun x21 =>
  M.bind (guardM x18 false (optM (nilChk x21))) fun x22 =>
  M.bind (guardM x18 false (optM (fieldA 4 x22))) fun x23 =>
  M.bind (guardM x18 false (rdM (ld1 x23))) fun x24 =>
  M.bind (guardM x18 false (optM (binV BinOp.neq x20 x24))) fun x25 =>
  bindO (pickV x18 (Value.bool true) x25) fun x26 =>
  M.bind (guardM x26 false (optM (fieldA 2 x7))) fun x27 =>
  M.bind (guardM x26 false (rdM (ld1 x27))) fun x28 =>
  M.bind (guardM x26 false (M.ret a0)) fun x29 =>
  M.bind (guardM x26 false (optM (nilChk x29))) fun x30 =>
  M.bind (guardM x26 false (optM (fieldA 5 x30))) fun x31 =>
  M.bind (guardM x26 false (rdM (ld1 x31))) fun x32 =>
  M.bind (guardM x26 false (optM (binV BinOp.neq x28 x32))) fun x33 =>
  bindO (pickV x26 (Value.bool true) x33) fun x34 =>
  M.bind (guardM x34 false (optM (fieldA 4 x7))) fun x35 =>
  M.bind (guardM x34 false (rdM (ld1 x35))) fun x36 =>
  M.bind (guardM x34 false (optM (lenL x36))) fun x37 =>
  M.bind (guardM x34 false (M.ret a0)) fun x38 =>
  M.bind (guardM x34 false (optM (nilChk x38))) fun x39 =>
  M.bind (guardM x34 false (optM (fieldA 1 x39))) fun x40 =>
  M.bind (guardM x34 false (rdM (ld1 x40))) fun x41 =>
  M.bind (guardM x34 false (optM (lenL x41))) fun x42 =>
  M.bind (guardM x34 false (optM (binV BinOp.neq x37 x42))) fun x43 =>
  bindO (pickV x34 (Value.bool true) x43) fun x44 =>
  condM x44 (
    M.ret (Value.bool false)) (
    M.bind (loopM (fun l45 =>
      bindO (nilChk a0) fun x46 =>
      bindO (fieldA 1 x46) fun x47 =>
      M.bind (rdM (ld1 x47)) fun x48 =>
      bindO (lenL x48) fun x49 =>
      bindO (binV BinOp.lss (getL l45 1) x49) fun x50 =>
      condM x50 (
        M.bind (
          bindO (nilChk a0) fun x51 =>
          bindO (fieldA 9 x51) fun x52 =>
          M.bind (rdM (ld1 x52)) fun x53 =>
          bindO (idxA 1 x53 (getL l45 1)) fun x54 =>
          M.bind (stM 1 x54 (Value.int IntKind.i64 (-1))) fun _ =>
          bindO (fieldA 3 x7) fun x56 =>
          M.bind (rdM (ld1 x56)) fun x57 =>
          bindO (binV BinOp.eql x57 (Value.int IntKind.i64 1)) fun x58 =>
          condM x58 (
            drewM <|
            bindO (nilChk a0) fun x59 =>
            bindO (fieldA 9 x59) fun x60 =>
            M.bind (rdM (ld1 x60)) fun x61 =>
            bindO (nilChk a0) fun x62 =>
            bindO (fieldA 5 x62) fun x63 =>
            M.bind (rdM (ld1 x63)) fun x64 =>
            bindO (idxA 1 x61 (getL l45 1)) fun x65 =>
            M.bind (stM 1 x65 x64) fun _ =>
            drewM <|
            bindO (nilChk a0) fun x67 =>
            bindO (fieldA 1 x67) fun x68 =>
            M.bind (rdM (ld1 x68)) fun x69 =>
            bindO (idxA 8 x69 (getL l45 1)) fun x70 =>
            bindO (fieldA 0 x70) fun x71 =>
            M.bind (rdM (ld1 x71)) fun x72 =>
            bindO (nilChk a0) fun x73 =>
            bindO (fieldA 5 x73) fun x74 =>
            M.bind (rdM (ld1 x74)) fun x75 =>
            bindO (binV BinOp.neq x72 x75) fun x76 =>
            M.bind (guardM x76 false (optM (fieldA 4 x7))) fun x77 =>
            M.bind (guardM x76 false (rdM (ld1 x77))) fun x78 =>
            M.bind (guardM x76 false (M.ret (getL l45 1))) fun x79 =>
            M.bind (guardM x76 false (optM (idxA 1 x78 x79))) fun x80 =>
            M.bind (guardM x76 false (rdM (ld1 x80))) fun x81 =>
            M.bind (guardM x76 false (M.ret a0)) fun x82 =>
            M.bind (guardM x76 false (optM (nilChk x82))) fun x83 =>
            M.bind (guardM x76 false (optM (fieldA 5 x83))) fun x84 =>
            M.bind (guardM x76 false (rdM (ld1 x84))) fun x85 =>
            M.bind (guardM x76 false (optM (binV BinOp.neq x81 x85))) fun x86 =>
            bindO (pickV x76 (Value.bool true) x86) fun x87 =>
            M.bind (guardM x87 false (M.ret a0)) fun x88 =>
            M.bind (guardM x87 false (optM (nilChk x88))) fun x89 =>
            M.bind (guardM x87 false (optM (fieldA 8 x89))) fun x90 =>
            M.bind (guardM x87 false (rdM (ld1 x90))) fun x91 =>
            bindO (pickV x87 (Value.bool true) x91) fun x92 =>
            condM x92 (
              M.ret (Out.ret (Value.bool false))) (
              M.ret (Out.norm [(getL l45 0)]))) (
            bindO (binV BinOp.eql x57 (Value.int IntKind.i64 2)) fun x93 =>
            condM x93 (
              bindO (nilChk a0) fun x94 =>
              bindO (fieldA 7 x94) fun x95 =>
              M.bind (rdM (ld1 x95)) fun x96 =>
              bindO (idxA 1 x96 (getL l45 1)) fun x97 =>
              M.bind (rdM (ld1 x97)) fun x98 =>
              bindO (notV x98) fun x99 =>
              M.bind (guardM x99 false (M.ret a0)) fun x100 =>
              M.bind (guardM x99 false (M.ret (getL l45 1))) fun x101 =>
              M.bind (guardM x99 false (optM (fieldA 4 x7))) fun x102 =>
              M.bind (guardM x99 false (rdM (ld1 x102))) fun x103 =>
              M.bind (guardM x99 false (M.ret (getL l45 1))) fun x104 =>
              M.bind (guardM x99 false (optM (idxA 1 x103 x104))) fun x105 =>
              M.bind (guardM x99 false (rdM (ld1 x105))) fun x106 =>
              M.bind (guardM x99 false (F.granarylaw15_Play_restored x100 x101 x106)) fun x107 =>
              M.bind (guardM x99 false (optM (notV x107))) fun x108 =>
              bindO (pickV x99 (Value.bool true) x108) fun x109 =>
              condM x109 (
                M.ret (Out.ret (Value.bool false))) (
                M.ret (Out.norm [(getL l45 0)]))) (
              bindO (binV BinOp.eql x57 (Value.int IntKind.i64 3)) fun x110 =>
              condM x110 (
                bindO (nilChk a0) fun x111 =>
                bindO (fieldA 7 x111) fun x112 =>
                M.bind (rdM (ld1 x112)) fun x113 =>
                bindO (idxA 1 x113 (getL l45 1)) fun x114 =>
                M.bind (rdM (ld1 x114)) fun x115 =>
                condM x115 (
                  bindO (fieldA 4 x7) fun x116 =>
                  M.bind (rdM (ld1 x116)) fun x117 =>
                  bindO (idxA 1 x117 (getL l45 1)) fun x118 =>
                  M.bind (rdM (ld1 x118)) fun x119 =>
                  M.bind (F.granarylaw15_Play_restored a0 (getL l45 1) x119) fun x120 =>
                  bindO (notV x120) fun x121 =>
                  condM x121 (
                    M.ret (Out.ret (Value.bool false))) (
                    M.ret (Out.norm [(getL l45 0)]))) (
                  bindO (fieldA 5 x7) fun x122 =>
                  M.bind (rdM (ld1 x122)) fun x123 =>
                  bindO (lenL x123) fun x124 =>
                  bindO (binV BinOp.geq (getL l45 0) x124) fun x125 =>
                  M.bind (guardM x125 false (optM (fieldA 5 x7))) fun x126 =>
                  M.bind (guardM x125 false (rdM (ld1 x126))) fun x127 =>
                  M.bind (guardM x125 false (M.ret (getL l45 0))) fun x128 =>
                  M.bind (guardM x125 false (optM (idxA 1 x127 x128))) fun x129 =>
                  M.bind (guardM x125 false (rdM (ld1 x129))) fun x130 =>
                  M.bind (guardM x125 false (M.ret (getL l45 1))) fun x131 =>
                  M.bind (guardM x125 false (optM (binV BinOp.neq x130 x131))) fun x132 =>
                  bindO (pickV x125 (Value.bool true) x132) fun x133 =>
                  M.bind (guardM x133 false (optM (fieldA 4 x7))) fun x134 =>
                  M.bind (guardM x133 false (rdM (ld1 x134))) fun x135 =>
                  M.bind (guardM x133 false (M.ret (getL l45 1))) fun x136 =>
                  M.bind (guardM x133 false (optM (idxA 1 x135 x136))) fun x137 =>
                  M.bind (guardM x133 false (rdM (ld1 x137))) fun x138 =>
                  M.bind (guardM x133 false (optM (binV BinOp.neq x138 (Value.int IntKind.i64 (-1))))) fun x139 =>
                  bindO (pickV x133 (Value.bool true) x139) fun x140 =>
                  condM x140 (
                    M.ret (Out.ret (Value.bool false))) (
                    bindO (binV BinOp.add (getL l45 0) (Value.int IntKind.i64 1)) fun x141 =>
                    M.ret (Out.norm [x141])))) (
                M.ret (Out.ret (Value.bool false)))))) fun o143 =>
        outK o143 (fun l142 =>
          bindO (binV BinOp.add (getL l45 1) (Value.int IntKind.i64 1)) fun x146 =>
          M.ret (Out.norm [(getL l142 0), x146])) (fun _ _ =>
          M.fail) (fun r145 => M.ret (Out.ret r145))) (
        M.ret (Out.exit 0 [(getL l45 0), (getL l45 1)]))) [(Value.int IntKind.i64 0), (Value.int IntKind.i64 0)]) fun o149 =>
    outK o149 (fun _ => M.fail) (fun i150 l148 =>
      bif Nat.beq i150 0 then (
        bindO (fieldA 5 x7) fun x152 =>
        M.bind (rdM (ld1 x152)) fun x153 =>
        bindO (lenL x153) fun x154 =>
        bindO (binV BinOp.eql (getL l148 0) x154) fun x155 =>
        M.bind (guardM x155 true (optM (fieldA 3 x7))) fun x156 =>
        M.bind (guardM x155 true (rdM (ld1 x156))) fun x157 =>
        M.bind (guardM x155 true (optM (binV BinOp.neq x157 (Value.int IntKind.i64 3)))) fun x158 =>
        M.bind (guardM x155 true (M.ret x158)) fun x159 =>
        M.bind (guardM x159 false (M.ret (getL l148 0))) fun x160 =>
        M.bind (guardM x159 false (optM (binV BinOp.gtr x160 (Value.int IntKind.i64 0)))) fun x161 =>
        M.bind (guardM x155 true (optM (pickV x159 (Value.bool true) x161))) fun x162 =>
        bindO (pickV x155 x162 (Value.bool false)) fun x163 =>
        M.bind (guardM x163 true (optM (fieldA 3 x7))) fun x164 =>
        M.bind (guardM x163 true (rdM (ld1 x164))) fun x165 =>
        M.bind (guardM x163 true (optM (binV BinOp.eql x165 (Value.int IntKind.i64 1)))) fun x166 =>
        M.bind (guardM x163 true (M.ret x166)) fun x167 =>
        M.bind (guardM x167 false (M.ret a0)) fun x168 =>
        M.bind (guardM x167 false (optM (nilChk x168))) fun x169 =>
        M.bind (guardM x167 false (optM (fieldA 8 x169))) fun x170 =>
        M.bind (guardM x167 false (rdM (ld1 x170))) fun x171 =>
        M.bind (guardM x163 true (optM (pickV x167 (Value.bool true) x171))) fun x172 =>
        bindO (pickV x163 x172 (Value.bool false)) fun x173 =>
        M.ret x173) else
      M.fail) (fun r151 => M.ret r151))
def F.granarylaw15_Play_ended.plan : Plan := (seq leaf (seq leaf (seq (seq leaf (cond (seq leaf leaf) leaf)) (seq leaf (seq (seq leaf (body (loop [5, 6] [2, 5, 6, 56, 57, 58, 59, 60, 61, 62, 63, 64, 65, 66, 67, 68, 69, 70, 71, 72, 73, 74, 75, 76, 77, 78, 79, 80, 81, 82, 83, 84, 85, 86, 87, 88, 89, 90, 91, 92, 93, 94, 95, 96, 97, 98, 99, 100, 101, 102, 103, 104, 105, 106, 107, 108, 109, 110, 111, 112, 113, 114, 115, 116, 117, 118, 119, 120, 121, 122, 123, 124, 125, 126, 127, 128, 129, 130, 131, 132, 133, 134, 135, 136, 137, 138, 139, 140, 141, 142, 143, 144, 145, 146, 147, 148, 149, 150, 151, 152, 153, 154, 155, 156, 157, 158, 159, 160, 161, 162, 163, 164, 165, 166, 167, 168, 169, 170, 171, 172, 173, 174, 175, 176, 177, 178] [0] (seq (seq leaf (cond leaf leaf)) (fork [5] [2, 5, 65, 66, 67, 68, 69, 70, 71, 72, 73, 74, 75, 76, 77, 78, 79, 80, 81, 82, 83, 84, 85, 86, 87, 88, 89, 90, 91, 92, 93, 94, 95, 96, 97, 98, 99, 100, 101, 102, 103, 104, 105, 106, 107, 108, 109, 110, 111, 112, 113, 114, 115, 116, 117, 118, 119, 120, 121, 122, 123, 124, 125, 126, 127, 128, 129, 130, 131, 132, 133, 134, 135, 136, 137, 138, 139, 140, 141, 142, 143, 144, 145, 146, 147, 148, 149, 150, 151, 152, 153, 154, 155, 156, 157, 158, 159, 160, 161, 162, 163, 164, 165, 166, 167, 168, 169, 170, 171, 172, 173, 174, 175, 176, 177, 178] [] (body (seq leaf (seq leaf (body (seq leaf (cond (seq leaf (seq leaf (cond (seq leaf leaf) leaf))) (seq leaf (cond (seq leaf (cond (seq leaf leaf) leaf)) (seq leaf (cond (seq (seq leaf (cond (seq (seq leaf (cond (seq leaf leaf) leaf)) leaf) leaf)) (seq (seq leaf (cond (seq leaf leaf) leaf)) leaf)) (seq leaf leaf))))))))))) leaf))))) (seq leaf leaf))))))
theorem F.granarylaw15_Play_ended.lift : LiftOk Try.prog 52 (ap1 F.granarylaw15_Play_ended) :=
  lift1 (g := evFn Try.prog (tcons 11 (ap1 F.granarylaw15_num) (tcons 13 (ap1 F.control_Control_Report) (tcons 59 (ap3 F.granarylaw15_Play_restored) tnil))) tnil 52 Try.f52 F.granarylaw15_Play_ended.plan) (evFn_sound (tcons_ok F.granarylaw15_num.lift (tcons_ok F.control_Control_Report.lift (tcons_ok F.granarylaw15_Play_restored.lift tnil_ok))) tnil_ok Try.func52 (by kernel_rfl)) (fun x0 => by kernel_rfl)

/-- (*granary/granarylaw15.Play).went -/
noncomputable def F.granarylaw15_Play_went (a0 a1 a2 a3 : Value) : M Value :=
  M.bind (F.granarylaw15_num a2) fun x1 =>
  bindO (binV BinOp.neq x1 (Value.int IntKind.i64 0)) fun x2 =>
  condM x2 (
    M.ret (Value.bool false)) (
    M.bind (loopM (fun l3 =>
      bindO (lenL a1) fun x4 =>
      bindO (binV BinOp.lss (getL l3 0) x4) fun x5 =>
      condM x5 (
        bindO (idxA 11 a1 (getL l3 0)) fun x6 =>
        M.bind (rdM (ldA 11 x6)) fun x7 =>
        M.bind (F.granarylaw15_Play_right a0 x7) fun x8 =>
        bindO (notV x8) fun x9 =>
        condM x9 (
          M.ret (Out.ret (Value.bool false))) (
          M.bind (
            bindO (idxA 11 a1 (getL l3 0)) fun x10 =>
            bindO (fieldA 0 x10) fun x11 =>
            M.bind (rdM (ld1 x11)) fun x12 =>
            bindO (binV BinOp.eql x12 (Value.int IntKind.i64 7)) fun x13 =>
            condM x13 (
              bindO (nilChk a0) fun x14 =>
              bindO (fieldA 8 x14) fun x15 =>
              M.bind (stM 1 x15 (Value.bool true)) fun _ =>
              M.ret (Out.norm [])) (
              M.ret (Out.norm []))) fun o18 =>
          outK o18 (fun _ =>
            drewM <|
            getM fun _ =>
            bindO (nilChk a0) fun x22 =>
            bindO (fieldA 2 x22) fun x23 =>
            M.bind (rdM (ld1 x23)) fun x24 =>
            bindO (idxA 11 a1 (getL l3 0)) fun x25 =>
            M.bind (rdM (ldA 11 x25)) fun x26 =>
            M.bind (bslM 44 1 (Builtin.zeroCells #[(Value.int IntKind.i64 0), (Value.int IntKind.i64 0), (Value.int IntKind.i64 0), (Value.int IntKind.i64 0), (Value.int IntKind.i64 0), (Value.int IntKind.i64 0), (Value.int IntKind.i64 0), (Value.int IntKind.i64 0), (Value.int IntKind.i64 0), (Value.string ByteArray.empty), (Value.string ByteArray.empty)] 1) [(0, 11, x26)]) fun x27 =>
            getM fun W28 =>
            M.bind (appM 44 11 104 #[(Value.int IntKind.i64 0), (Value.int IntKind.i64 0), (Value.int IntKind.i64 0), (Value.int IntKind.i64 0), (Value.int IntKind.i64 0), (Value.int IntKind.i64 0), (Value.int IntKind.i64 0), (Value.int IntKind.i64 0), (Value.int IntKind.i64 0), (Value.string ByteArray.empty), (Value.string ByteArray.empty)] x24 x27) fun x29 =>
            getM fun _ =>
            bindO (nilChk a0) fun x31 =>
            bindO (fieldA 2 x31) fun x32 =>
            M.bind (stM 1 x32 x29) fun _ =>
            getM fun _ =>
            reqM (ld1 x23 W28 = some x24) <|
            bindO (binV BinOp.add (getL l3 0) (Value.int IntKind.i64 1)) fun x35 =>
            M.ret (Out.norm [x35])) (fun _ _ =>
            M.fail) (fun r20 => M.ret (Out.ret r20)))) (
        M.ret (Out.exit 0 [(getL l3 0)]))) [(Value.int IntKind.i64 0)]) fun o38 =>
    outK o38 (fun _ => M.fail) (fun i39 _ =>
      bif Nat.beq i39 0 then (
        M.bind (guardM a3 true (M.ret a0)) fun x41 =>
        M.bind (guardM a3 true (optM (nilChk x41))) fun x42 =>
        M.bind (guardM a3 true (optM (fieldA 0 x42))) fun x43 =>
        M.bind (guardM a3 true (rdM (ld1 x43))) fun x44 =>
        M.bind (guardM a3 true (F.control_Control_Busy x44)) fun x45 =>
        M.bind (guardM a3 true (optM (notV x45))) fun x46 =>
        bindO (pickV a3 x46 (Value.bool false)) fun x47 =>
        condM x47 (
          bindO (lenL a1) fun x48 =>
          bindO (binV BinOp.eql x48 (Value.int IntKind.i64 0)) fun x49 =>
          M.bind (guardM x49 true (M.ret a0)) fun x50 =>
          M.bind (guardM x49 true (F.granarylaw15_Play_ended x50)) fun x51 =>
          bindO (pickV x49 x51 (Value.bool false)) fun x52 =>
          M.ret x52) (
          M.bind (guardM a3 false (M.ret a1)) fun x53 =>
          M.bind (guardM a3 false (optM (lenL x53))) fun x54 =>
          M.bind (guardM a3 false (optM (binV BinOp.eql x54 (Value.int IntKind.i64 0)))) fun x55 =>
          bindO (pickV a3 (Value.bool true) x55) fun x56 =>
          M.ret x56)) else
      M.fail) (fun r40 => M.ret r40))
def F.granarylaw15_Play_went.plan : Plan := (seq leaf (seq (seq leaf (cond (seq leaf leaf) leaf)) (seq (seq leaf (body (loop [9] [8, 9, 13, 14, 15, 16, 17, 18, 19, 20, 21, 22, 23, 24, 25, 26, 27, 28, 29, 30, 31, 32, 33, 34, 35, 36, 37, 38, 39, 40, 41, 42, 43, 44, 45, 46, 47] [0] (seq (seq leaf (cond leaf leaf)) (seq (body (seq (seq leaf (cond (seq leaf leaf) leaf)) (fork [] [26, 27, 28, 29, 30, 31, 32, 33, 34] [] (seq leaf (cond leaf leaf)) leaf))) leaf))))) (seq (seq leaf (cond (seq leaf leaf) leaf)) (seq leaf leaf)))))
theorem F.granarylaw15_Play_went.lift : LiftOk Try.prog 40 (ap4 F.granarylaw15_Play_went) :=
  lift4 (g := evFn Try.prog (tcons 11 (ap1 F.granarylaw15_num) (tcons 12 (ap1 F.control_Control_Busy) (tcons 51 (ap2 F.granarylaw15_Play_right) (tcons 52 (ap1 F.granarylaw15_Play_ended) tnil)))) tnil 40 Try.f40 F.granarylaw15_Play_went.plan) (evFn_sound (tcons_ok F.granarylaw15_num.lift (tcons_ok F.control_Control_Busy.lift (tcons_ok F.granarylaw15_Play_right.lift (tcons_ok F.granarylaw15_Play_ended.lift tnil_ok)))) tnil_ok Try.func40 (by kernel_rfl)) (fun x0 x1 x2 x3 => by kernel_rfl)

/-- (*granary/granarylaw15.Play).begin -/
noncomputable def F.granarylaw15_Play_begin (a0 a1 : Value) : M Value :=
  M.bind (newM 63 (Value.cells a1)) fun x1 =>
  bindO (fieldA 1 x1) fun x2 =>
  M.bind (rdM (ld1 x2)) fun x3 =>
  M.bind (F.granarylaw15_mod x3 (Value.int IntKind.i64 2)) fun x4 =>
  bindO (binV BinOp.add (Value.int IntKind.i64 1) x4) fun x5 =>
  bindO (fieldA 2 x1) fun x6 =>
  M.bind (rdM (ld1 x6)) fun x7 =>
  M.bind (F.granarylaw15_mod x7 (Value.int IntKind.i64 9)) fun x8 =>
  bindO (binV BinOp.add (Value.int IntKind.i64 1) x8) fun x9 =>
  bindO (nilChk a0) fun x10 =>
  bindO (fieldA 0 x10) fun x11 =>
  M.bind (rdM (ld1 x11)) fun x12 =>
  M.bind (F.control_Control_Busy x12) fun x13 =>
  condM x13 (
    bindO (nilChk a0) fun x14 =>
    bindO (fieldA 0 x14) fun x15 =>
    M.bind (rdM (ld1 x15)) fun x16 =>
    M.bind (F.control_Control_Begin x16 x5 x9) fun x17 =>
    bindO (extV 0 x17) fun x18 =>
    bindO (extV 1 x17) fun x19 =>
    M.bind (F.granarylaw15_num x19) fun x20 =>
    bindO (binV BinOp.eql x20 (Value.int IntKind.i64 150)) fun x21 =>
    M.bind (guardM x21 true (M.ret x18)) fun x22 =>
    M.bind (guardM x21 true (optM (lenL x22))) fun x23 =>
    M.bind (guardM x21 true (optM (binV BinOp.eql x23 (Value.int IntKind.i64 0)))) fun x24 =>
    bindO (pickV x21 x24 (Value.bool false)) fun x25 =>
    M.ret x25) (
    bindO (nilChk a0) fun x26 =>
    bindO (fieldA 0 x26) fun x27 =>
    M.bind (rdM (ld1 x27)) fun x28 =>
    M.bind (F.control_Control_Begin x28 x5 x9) fun x29 =>
    bindO (extV 0 x29) fun x30 =>
    bindO (extV 1 x29) fun x31 =>
    bindO (nilChk a0) fun x32 =>
    bindO (fieldA 3 x32) fun x33 =>
    M.bind (rdM (ld1 x33)) fun x34 =>
    bindO (binV BinOp.add x34 (Value.int IntKind.i64 1)) fun x35 =>
    bindO (nilChk a0) fun x36 =>
    bindO (fieldA 3 x36) fun x37 =>
    M.bind (stM 1 x37 x35) fun _ =>
    bindO (nilChk a0) fun x39 =>
    bindO (fieldA 4 x39) fun x40 =>
    M.bind (stM 1 x40 x5) fun _ =>
    bindO (nilChk a0) fun x42 =>
    bindO (fieldA 5 x42) fun x43 =>
    M.bind (stM 1 x43 x9) fun _ =>
    bindO (nilChk a0) fun x45 =>
    bindO (fieldA 1 x45) fun x46 =>
    M.bind (rdM (ld1 x46)) fun x47 =>
    bindO (lenL x47) fun x48 =>
    M.bind (F.granarylaw15_none x48) fun x49 =>
    bindO (nilChk a0) fun x50 =>
    bindO (fieldA 6 x50) fun x51 =>
    M.bind (stM 1 x51 x49) fun _ =>
    bindO (nilChk a0) fun x53 =>
    bindO (fieldA 1 x53) fun x54 =>
    M.bind (rdM (ld1 x54)) fun x55 =>
    bindO (lenL x55) fun x56 =>
    M.bind (F.granarylaw15_none x56) fun x57 =>
    bindO (nilChk a0) fun x58 =>
    bindO (fieldA 7 x58) fun x59 =>
    M.bind (stM 1 x59 x57) fun _ =>
    bindO (nilChk a0) fun x61 =>
    bindO (fieldA 8 x61) fun x62 =>
    M.bind (stM 1 x62 (Value.bool false)) fun _ =>
    M.bind (loopM (fun l64 =>
      bindO (nilChk a0) fun x65 =>
      bindO (fieldA 9 x65) fun x66 =>
      M.bind (rdM (ld1 x66)) fun x67 =>
      bindO (lenL x67) fun x68 =>
      bindO (binV BinOp.lss (getL l64 0) x68) fun x69 =>
      condM x69 (
        bindO (nilChk a0) fun x70 =>
        bindO (fieldA 9 x70) fun x71 =>
        M.bind (rdM (ld1 x71)) fun x72 =>
        bindO (idxA 1 x72 (getL l64 0)) fun x73 =>
        M.bind (stM 1 x73 (Value.int IntKind.i64 (-1))) fun _ =>
        bindO (binV BinOp.add (getL l64 0) (Value.int IntKind.i64 1)) fun x75 =>
        M.ret (Out.norm [x75])) (
        M.ret (Out.exit 0 [(getL l64 0)]))) [(Value.int IntKind.i64 0)]) fun o77 =>
    outK o77 (fun _ => M.fail) (fun i78 _ =>
      bif Nat.beq i78 0 then (
        bindO (nilChk a0) fun x80 =>
        bindO (fieldA 0 x80) fun x81 =>
        M.bind (rdM (ld1 x81)) fun x82 =>
        M.bind (F.control_Control_Busy x82) fun x83 =>
        bindO (notV x83) fun x84 =>
        M.bind (guardM x84 false (M.ret x30)) fun x85 =>
        M.bind (guardM x84 false (optM (lenL x85))) fun x86 =>
        M.bind (guardM x84 false (M.ret a0)) fun x87 =>
        M.bind (guardM x84 false (optM (nilChk x87))) fun x88 =>
        M.bind (guardM x84 false (optM (fieldA 1 x88))) fun x89 =>
        M.bind (guardM x84 false (rdM (ld1 x89))) fun x90 =>
        M.bind (guardM x84 false (optM (lenL x90))) fun x91 =>
        M.bind (guardM x84 false (optM (binV BinOp.neq x86 x91))) fun x92 =>
        bindO (pickV x84 (Value.bool true) x92) fun x93 =>
        M.bind (guardM x93 false (M.ret a0)) fun x94 =>
        M.bind (guardM x93 false (M.ret x30)) fun x95 =>
        M.bind (guardM x93 false (M.ret x31)) fun x96 =>
        M.bind (guardM x93 false (F.granarylaw15_Play_went x94 x95 x96 (Value.bool true))) fun x97 =>
        M.bind (guardM x93 false (optM (notV x97))) fun x98 =>
        bindO (pickV x93 (Value.bool true) x98) fun x99 =>
        condM x99 (
          M.ret (Value.bool false)) (
          M.bind (loopM (fun l100 =>
            bindO (lenL x30) fun x101 =>
            bindO (binV BinOp.lss (getL l100 0) x101) fun x102 =>
            condM x102 (
              bindO (idxA 11 x30 (getL l100 0)) fun x103 =>
              bindO (fieldA 2 x103) fun x104 =>
              M.bind (rdM (ld1 x104)) fun x105 =>
              bindO (binV BinOp.neq x105 (getL l100 0)) fun x106 =>
              M.bind (guardM x106 false (M.ret x30)) fun x107 =>
              M.bind (guardM x106 false (M.ret (getL l100 0))) fun x108 =>
              M.bind (guardM x106 false (optM (idxA 11 x107 x108))) fun x109 =>
              M.bind (guardM x106 false (optM (fieldA 0 x109))) fun x110 =>
              M.bind (guardM x106 false (rdM (ld1 x110))) fun x111 =>
              M.bind (guardM x106 false (optM (binV BinOp.neq x111 (Value.int IntKind.i64 3)))) fun x112 =>
              M.bind (guardM x106 false (M.ret x112)) fun x113 =>
              M.bind (guardM x113 true (M.ret x5)) fun x114 =>
              M.bind (guardM x113 true (optM (binV BinOp.eql x114 (Value.int IntKind.i64 1)))) fun x115 =>
              M.bind (guardM x106 false (optM (pickV x113 x115 (Value.bool false)))) fun x116 =>
              bindO (pickV x106 (Value.bool true) x116) fun x117 =>
              M.bind (guardM x117 false (M.ret x30)) fun x118 =>
              M.bind (guardM x117 false (M.ret (getL l100 0))) fun x119 =>
              M.bind (guardM x117 false (optM (idxA 11 x118 x119))) fun x120 =>
              M.bind (guardM x117 false (optM (fieldA 0 x120))) fun x121 =>
              M.bind (guardM x117 false (rdM (ld1 x121))) fun x122 =>
              M.bind (guardM x117 false (optM (binV BinOp.neq x122 (Value.int IntKind.i64 5)))) fun x123 =>
              M.bind (guardM x117 false (M.ret x123)) fun x124 =>
              M.bind (guardM x124 true (M.ret x5)) fun x125 =>
              M.bind (guardM x124 true (optM (binV BinOp.eql x125 (Value.int IntKind.i64 2)))) fun x126 =>
              M.bind (guardM x117 false (optM (pickV x124 x126 (Value.bool false)))) fun x127 =>
              bindO (pickV x117 (Value.bool true) x127) fun x128 =>
              condM x128 (
                M.ret (Out.ret (Value.bool false))) (
                bindO (binV BinOp.add (getL l100 0) (Value.int IntKind.i64 1)) fun x129 =>
                M.ret (Out.norm [x129]))) (
              M.ret (Out.exit 2 [(getL l100 0)]))) [(Value.int IntKind.i64 0)]) fun o131 =>
          outK o131 (fun _ => M.fail) (fun i132 _ =>
            bif Nat.beq i132 2 then (
              M.ret (Value.bool true)) else
            M.fail) (fun r133 => M.ret r133))) else
      M.fail) (fun r79 => M.ret r79))
def F.granarylaw15_Play_begin.plan : Plan := (seq leaf (seq leaf (seq leaf (seq leaf (seq (seq leaf (cond (seq leaf (seq leaf leaf)) leaf)) (seq leaf (seq leaf (seq leaf (seq leaf (seq leaf (seq leaf (seq leaf (seq (seq leaf (body (loop [12] [12, 92, 93, 94, 95, 96, 97, 98, 99, 100, 101, 102, 103, 104, 105, 106] [0] (seq (seq leaf (cond leaf leaf)) (seq (body leaf) leaf))))) (seq (seq leaf (cond (seq leaf leaf) leaf)) (seq (seq leaf (body (loop [13] [4, 13, 130, 131, 132, 133, 134, 135, 136, 137, 138, 139, 140, 141, 142, 143, 144, 145, 146, 147, 148, 149, 150, 151, 152, 153, 154, 155, 156, 157, 158, 159, 160, 161, 162, 163, 164, 165, 166] [2] (seq (seq leaf (cond leaf leaf)) (seq (body (seq leaf (cond (seq leaf leaf) leaf))) leaf))))) (seq leaf leaf))))))))))))))))
theorem F.granarylaw15_Play_begin.lift : LiftOk Try.prog 39 (ap2 F.granarylaw15_Play_begin) :=
  lift2 (g := evFn Try.prog (tcons 8 (ap2 F.granarylaw15_mod) (tcons 11 (ap1 F.granarylaw15_num) (tcons 12 (ap1 F.control_Control_Busy) (tcons 17 (ap3 F.control_Control_Begin) (tcons 40 (ap4 F.granarylaw15_Play_went) (tcons 41 (ap1 F.granarylaw15_none) tnil)))))) tnil 39 Try.f39 F.granarylaw15_Play_begin.plan) (evFn_sound (tcons_ok F.granarylaw15_mod.lift (tcons_ok F.granarylaw15_num.lift (tcons_ok F.control_Control_Busy.lift (tcons_ok F.control_Control_Begin.lift (tcons_ok F.granarylaw15_Play_went.lift (tcons_ok F.granarylaw15_none.lift tnil_ok)))))) tnil_ok Try.func39 (by kernel_rfl)) (fun x0 x1 => by kernel_rfl)

/-- What this function's calls through interface values come to. -/
noncomputable def F.control_Control_Revive.inv : Tab := (tcons 101 (ap1 F.control_ledger_book) tnil)
theorem F.control_Control_Revive.inv_ok : TabOk Try.prog F.control_Control_Revive.inv := (tcons_ok F.control_ledger_book.lift tnil_ok)
theorem F.control_Control_Revive.inv_88_book (v : Value) : invV Try.prog F.control_Control_Revive.inv "granary/control.book" (.iface 88 v) [] = (match fieldA 0 v with | some p => F.control_ledger_book p | none => M.fail) := by kernel_rfl
theorem F.control_Control_Revive.inv_91_book (v : Value) : invV Try.prog F.control_Control_Revive.inv "granary/control.book" (.iface 91 v) [] = (match fieldA 0 v with | some p => F.control_ledger_book p | none => M.fail) := by kernel_rfl
theorem F.control_Control_Revive.inv_93_book (v : Value) : invV Try.prog F.control_Control_Revive.inv "granary/control.book" (.iface 93 v) [] = (match fieldA 0 v with | some p => F.control_ledger_book p | none => M.fail) := by kernel_rfl
theorem F.control_Control_Revive.inv_115_book (v : Value) : invV Try.prog F.control_Control_Revive.inv "granary/control.book" (.iface 115 v) [] = (match fieldA 0 v with | some p => F.control_ledger_book p | none => M.fail) := by kernel_rfl
/-- (*granary/control.Control).Revive -/
noncomputable def F.control_Control_Revive (a0 : Value) : M Value :=
  bindO (eqV (EqSh.one EqK.ptr) a0 (Value.pointer none)) fun x1 =>
  condM x1 (
    M.ret (Value.tuple #[(Value.slice none 0 0), (Value.int IntKind.i64 2)])) (
    bindO (nilChk a0) fun x2 =>
    bindO (fieldA 7 x2) fun x3 =>
    M.bind (rdM (ld1 x3)) fun x4 =>
    bindO (eqV (EqSh.one EqK.ifn) x4 Value.nilIface) fun x5 =>
    condM x5 (
      M.ret (Value.tuple #[(Value.slice none 0 0), (Value.int IntKind.i64 151)])) (
      bindO (nilChk a0) fun x6 =>
      bindO (fieldA 4 x6) fun x7 =>
      bindO (fieldA 1 x7) fun x8 =>
      M.bind (rdM (ld1 x8)) fun x9 =>
      bindO (binV BinOp.eql x9 (Value.int IntKind.i64 3)) fun x10 =>
      condM x10 (
        drewM <|
        getM fun W11 =>
        bindO (nilChk a0) fun x12 =>
        bindO (fieldA 7 x12) fun x13 =>
        M.bind (rdM (ld1 x13)) fun x14 =>
        M.bind (invV Try.prog F.control_Control_Revive.inv "granary/control.book" x14 []) fun x15 =>
        getM fun _ =>
        bindO (nilChk a0) fun x17 =>
        bindO (fieldA 0 x17) fun x18 =>
        M.bind (rdM (ld1 x18)) fun x19 =>
        M.bind (F.control_newLedger x19) fun x20 =>
        getM fun _ =>
        bindO (nilChk x15) fun x22 =>
        M.bind (stM 4 x22 x20) fun _ =>
        getM fun _ =>
        reqM (ld1 x18 W11 = some x19) <|
        M.bind (F.control_Control_end a0 (Value.int IntKind.i64 3)) fun x25 =>
        M.ret (Value.tuple #[x25, (Value.int IntKind.i64 0)])) (
        M.bind (F.control_Control_back a0) fun x26 =>
        M.ret (Value.tuple #[x26, (Value.int IntKind.i64 0)]))))
def F.control_Control_Revive.plan : Plan := (seq leaf (seq (seq leaf (cond (seq leaf leaf) leaf)) (seq (seq leaf (cond (seq leaf leaf) leaf)) (seq (seq leaf (cond (seq leaf (seq leaf leaf)) leaf)) (seq leaf leaf)))))
theorem F.control_Control_Revive.lift : LiftOk Try.prog 26 (ap1 F.control_Control_Revive) :=
  lift1 (g := evFn Try.prog (tcons 30 (ap1 F.control_Control_back) (tcons 33 (ap1 F.control_newLedger) (tcons 44 (ap2 F.control_Control_end) tnil))) F.control_Control_Revive.inv 26 Try.f26 F.control_Control_Revive.plan) (evFn_sound (tcons_ok F.control_Control_back.lift (tcons_ok F.control_newLedger.lift (tcons_ok F.control_Control_end.lift tnil_ok))) F.control_Control_Revive.inv_ok Try.func26 (by kernel_rfl)) (fun x0 => by kernel_rfl)

/-- (*granary/control.fetching).stopped -/
noncomputable def F.control_fetching_stopped (_a0 a1 : Value) : M Value :=
  M.bind (F.control_Control_back a1) fun x1 =>
  M.ret x1
def F.control_fetching_stopped.plan : Plan := (seq leaf (seq leaf leaf))
theorem F.control_fetching_stopped.lift : LiftOk Try.prog 106 (ap2 F.control_fetching_stopped) :=
  lift2 (g := evFn Try.prog (tcons 30 (ap1 F.control_Control_back) tnil) tnil 106 Try.f106 F.control_fetching_stopped.plan) (evFn_sound (tcons_ok F.control_Control_back.lift tnil_ok) tnil_ok Try.func106 (by kernel_rfl)) (fun x0 x1 => by kernel_rfl)

/-- (*granary/control.swapping).stopped -/
noncomputable def F.control_swapping_stopped (_a0 a1 : Value) : M Value :=
  M.bind (F.control_Control_back a1) fun x1 =>
  M.ret x1
def F.control_swapping_stopped.plan : Plan := (seq leaf (seq leaf leaf))
theorem F.control_swapping_stopped.lift : LiftOk Try.prog 112 (ap2 F.control_swapping_stopped) :=
  lift2 (g := evFn Try.prog (tcons 30 (ap1 F.control_Control_back) tnil) tnil 112 Try.f112 F.control_swapping_stopped.plan) (evFn_sound (tcons_ok F.control_Control_back.lift tnil_ok) tnil_ok Try.func112 (by kernel_rfl)) (fun x0 x1 => by kernel_rfl)

/-- (*granary/control.looking).stopped -/
noncomputable def F.control_looking_stopped (_a0 a1 : Value) : M Value :=
  M.bind (F.control_Control_end a1 (Value.int IntKind.i64 3)) fun x1 =>
  M.ret x1
def F.control_looking_stopped.plan : Plan := (seq leaf (seq leaf leaf))
theorem F.control_looking_stopped.lift : LiftOk Try.prog 118 (ap2 F.control_looking_stopped) :=
  lift2 (g := evFn Try.prog (tcons 44 (ap2 F.control_Control_end) tnil) tnil 118 Try.f118 F.control_looking_stopped.plan) (evFn_sound (tcons_ok F.control_Control_end.lift tnil_ok) tnil_ok Try.func118 (by kernel_rfl)) (fun x0 x1 => by kernel_rfl)

/-- (*granary/control.backing).stopped -/
noncomputable def F.control_backing_stopped (_a0 _a1 : Value) : M Value :=
  M.ret (Value.slice none 0 0)
def F.control_backing_stopped.plan : Plan := (seq leaf (seq leaf leaf))
theorem F.control_backing_stopped.lift : LiftOk Try.prog 124 (ap2 F.control_backing_stopped) :=
  lift2 (g := evFn Try.prog tnil tnil 124 Try.f124 F.control_backing_stopped.plan) (evFn_sound tnil_ok tnil_ok Try.func124 (by kernel_rfl)) (fun x0 x1 => by kernel_rfl)

/-- What this function's calls through interface values come to. -/
noncomputable def F.control_Control_Stop.inv : Tab := (tcons 106 (ap2 F.control_fetching_stopped) (tcons 112 (ap2 F.control_swapping_stopped) (tcons 118 (ap2 F.control_looking_stopped) (tcons 124 (ap2 F.control_backing_stopped) tnil))))
theorem F.control_Control_Stop.inv_ok : TabOk Try.prog F.control_Control_Stop.inv := (tcons_ok F.control_fetching_stopped.lift (tcons_ok F.control_swapping_stopped.lift (tcons_ok F.control_looking_stopped.lift (tcons_ok F.control_backing_stopped.lift tnil_ok))))
theorem F.control_Control_Stop.inv_88_stopped (v x0 : Value) : invV Try.prog F.control_Control_Stop.inv "granary/control.stopped" (.iface 88 v) [x0] = F.control_fetching_stopped v x0 := by kernel_rfl
theorem F.control_Control_Stop.inv_91_stopped (v x0 : Value) : invV Try.prog F.control_Control_Stop.inv "granary/control.stopped" (.iface 91 v) [x0] = F.control_swapping_stopped v x0 := by kernel_rfl
theorem F.control_Control_Stop.inv_93_stopped (v x0 : Value) : invV Try.prog F.control_Control_Stop.inv "granary/control.stopped" (.iface 93 v) [x0] = F.control_looking_stopped v x0 := by kernel_rfl
theorem F.control_Control_Stop.inv_115_stopped (v x0 : Value) : invV Try.prog F.control_Control_Stop.inv "granary/control.stopped" (.iface 115 v) [x0] = F.control_backing_stopped v x0 := by kernel_rfl
/-- (*granary/control.Control).Stop -/
noncomputable def F.control_Control_Stop (a0 : Value) : M Value :=
  bindO (eqV (EqSh.one EqK.ptr) a0 (Value.pointer none)) fun x1 =>
  condM x1 (
    M.ret (Value.tuple #[(Value.slice none 0 0), (Value.int IntKind.i64 2)])) (
    bindO (nilChk a0) fun x2 =>
    bindO (fieldA 7 x2) fun x3 =>
    M.bind (rdM (ld1 x3)) fun x4 =>
    bindO (eqV (EqSh.one EqK.ifn) x4 Value.nilIface) fun x5 =>
    condM x5 (
      M.ret (Value.tuple #[(Value.slice none 0 0), (Value.int IntKind.i64 151)])) (
      bindO (nilChk a0) fun x6 =>
      bindO (fieldA 7 x6) fun x7 =>
      M.bind (rdM (ld1 x7)) fun x8 =>
      M.bind (invV Try.prog F.control_Control_Stop.inv "granary/control.stopped" x8 [a0]) fun x9 =>
      M.ret (Value.tuple #[x9, (Value.int IntKind.i64 0)])))
def F.control_Control_Stop.plan : Plan := (seq leaf (seq (seq leaf (cond (seq leaf leaf) leaf)) (seq (seq leaf (cond (seq leaf leaf) leaf)) (seq leaf leaf))))
theorem F.control_Control_Stop.lift : LiftOk Try.prog 25 (ap1 F.control_Control_Stop) :=
  lift1 (g := evFn Try.prog tnil F.control_Control_Stop.inv 25 Try.f25 F.control_Control_Stop.plan) (evFn_sound tnil_ok F.control_Control_Stop.inv_ok Try.func25 (by kernel_rfl)) (fun x0 => by kernel_rfl)

/-- (*granary/granarylaw15.Play).taken -/
noncomputable def F.granarylaw15_Play_taken (a0 a1 : Value) : M Value :=
  M.bind (newM 44 #[(Value.int IntKind.i64 0), (Value.int IntKind.i64 0), (Value.int IntKind.i64 0), (Value.int IntKind.i64 0), (Value.int IntKind.i64 0), (Value.int IntKind.i64 0), (Value.int IntKind.i64 0), (Value.int IntKind.i64 0), (Value.int IntKind.i64 0), (Value.string ByteArray.empty), (Value.string ByteArray.empty)]) fun x1 =>
  bindO (nilChk a0) fun x2 =>
  bindO (fieldA 2 x2) fun x3 =>
  M.bind (rdM (ld1 x3)) fun x4 =>
  bindO (idxA 11 x4 a1) fun x5 =>
  M.bind (rdM (ldA 11 x5)) fun x6 =>
  M.bind (newM 44 #[(Value.int IntKind.i64 0), (Value.int IntKind.i64 0), (Value.int IntKind.i64 0), (Value.int IntKind.i64 0), (Value.int IntKind.i64 0), (Value.int IntKind.i64 0), (Value.int IntKind.i64 0), (Value.int IntKind.i64 0), (Value.int IntKind.i64 0), (Value.string ByteArray.empty), (Value.string ByteArray.empty)]) fun x7 =>
  M.bind (stM 11 x7 x6) fun _ =>
  M.bind (loopM (fun l9 =>
    bindO (nilChk a0) fun x10 =>
    bindO (fieldA 2 x10) fun x11 =>
    M.bind (rdM (ld1 x11)) fun x12 =>
    bindO (lenL x12) fun x13 =>
    bindO (binV BinOp.lss (getL l9 1) x13) fun x14 =>
    condM x14 (
      M.bind (
        bindO (binV BinOp.neq (getL l9 1) a1) fun x15 =>
        condM x15 (
          bindO (nilChk a0) fun x16 =>
          bindO (fieldA 2 x16) fun x17 =>
          M.bind (rdM (ld1 x17)) fun x18 =>
          bindO (idxA 11 x18 (getL l9 1)) fun x19 =>
          M.bind (rdM (ldA 11 x19)) fun x20 =>
          M.bind (bslM 44 1 (Builtin.zeroCells #[(Value.int IntKind.i64 0), (Value.int IntKind.i64 0), (Value.int IntKind.i64 0), (Value.int IntKind.i64 0), (Value.int IntKind.i64 0), (Value.int IntKind.i64 0), (Value.int IntKind.i64 0), (Value.int IntKind.i64 0), (Value.int IntKind.i64 0), (Value.string ByteArray.empty), (Value.string ByteArray.empty)] 1) [(0, 11, x20)]) fun x21 =>
          M.bind (appM 44 11 104 #[(Value.int IntKind.i64 0), (Value.int IntKind.i64 0), (Value.int IntKind.i64 0), (Value.int IntKind.i64 0), (Value.int IntKind.i64 0), (Value.int IntKind.i64 0), (Value.int IntKind.i64 0), (Value.int IntKind.i64 0), (Value.int IntKind.i64 0), (Value.string ByteArray.empty), (Value.string ByteArray.empty)] (getL l9 0) x21) fun x22 =>
          M.ret (Out.norm [x22])) (
          M.ret (Out.norm [(getL l9 0)]))) fun o24 =>
      outK o24 (fun l23 =>
        bindO (binV BinOp.add (getL l9 1) (Value.int IntKind.i64 1)) fun x27 =>
        M.ret (Out.norm [(getL l23 0), x27])) (fun _ _ =>
        M.fail) (fun r26 => M.ret (Out.ret r26))) (
      M.ret (Out.exit 0 [(getL l9 0), (getL l9 1)]))) [(Value.slice none 0 0), (Value.int IntKind.i64 0)]) fun o30 =>
  outK o30 (fun _ => M.fail) (fun i31 l29 =>
    bif Nat.beq i31 0 then (
      bindO (nilChk a0) fun x33 =>
      bindO (fieldA 2 x33) fun x34 =>
      M.bind (stM 1 x34 (getL l29 0)) fun _ =>
      M.bind (rdM (ldA 11 x7)) fun x36 =>
      M.bind (stM 11 x1 x36) fun _ =>
      M.bind (rdM (ldA 11 x1)) fun x38 =>
      M.ret x38) else
    M.fail) (fun r32 => M.ret r32)
def F.granarylaw15_Play_taken.plan : Plan := (seq leaf (seq leaf (seq leaf (seq (seq leaf (body (loop [6, 7] [6, 7, 15, 16, 17, 18, 19, 20, 21, 22, 23, 24, 25, 26, 27, 28, 29, 30, 31, 32, 33, 34, 35, 36] [0] (seq (seq leaf (cond leaf leaf)) (fork [6] [6, 24, 25, 26, 27, 28, 29, 30, 31, 32, 33, 34, 35, 36] [] (body (seq leaf (cond leaf leaf))) leaf))))) (seq leaf (seq leaf leaf))))))
theorem F.granarylaw15_Play_taken.lift : LiftOk Try.prog 43 (ap2 F.granarylaw15_Play_taken) :=
  lift2 (g := evFn Try.prog tnil tnil 43 Try.f43 F.granarylaw15_Play_taken.plan) (evFn_sound tnil_ok tnil_ok Try.func43 (by kernel_rfl)) (fun x0 x1 => by kernel_rfl)

/-- (*granary/granarylaw15.Node).order -/
noncomputable def F.granarylaw15_Node_order (a0 a1 : Value) : M Value :=
  M.bind (newM 44 (Value.cells a1)) fun x1 =>
  drewM <|
  bindO (fieldA 4 x1) fun x2 =>
  M.bind (rdM (ld1 x2)) fun x3 =>
  bindO (nilChk a0) fun x4 =>
  bindO (fieldA 2 x4) fun x5 =>
  M.bind (rdM (ld1 x5)) fun x6 =>
  bindO (binV BinOp.lss x3 x6) fun x7 =>
  M.bind (guardM x7 false (optM (fieldA 4 x1))) fun x8 =>
  M.bind (guardM x7 false (rdM (ld1 x8))) fun x9 =>
  M.bind (guardM x7 false (M.ret a0)) fun x10 =>
  M.bind (guardM x7 false (optM (nilChk x10))) fun x11 =>
  M.bind (guardM x7 false (optM (fieldA 2 x11))) fun x12 =>
  M.bind (guardM x7 false (rdM (ld1 x12))) fun x13 =>
  M.bind (guardM x7 false (optM (binV BinOp.eql x9 x13))) fun x14 =>
  M.bind (guardM x7 false (M.ret x14)) fun x15 =>
  M.bind (guardM x15 true (optM (fieldA 5 x1))) fun x16 =>
  M.bind (guardM x15 true (rdM (ld1 x16))) fun x17 =>
  M.bind (guardM x15 true (M.ret a0)) fun x18 =>
  M.bind (guardM x15 true (optM (nilChk x18))) fun x19 =>
  M.bind (guardM x15 true (optM (fieldA 3 x19))) fun x20 =>
  M.bind (guardM x15 true (rdM (ld1 x20))) fun x21 =>
  M.bind (guardM x15 true (optM (binV BinOp.lss x17 x21))) fun x22 =>
  M.bind (guardM x7 false (optM (pickV x15 x22 (Value.bool false)))) fun x23 =>
  bindO (pickV x7 (Value.bool true) x23) fun x24 =>
  drewM <|
  bindO (fieldA 4 x1) fun x25 =>
  M.bind (rdM (ld1 x25)) fun x26 =>
  bindO (nilChk a0) fun x27 =>
  bindO (fieldA 2 x27) fun x28 =>
  M.bind (rdM (ld1 x28)) fun x29 =>
  bindO (binV BinOp.eql x26 x29) fun x30 =>
  M.bind (guardM x30 true (optM (fieldA 5 x1))) fun x31 =>
  M.bind (guardM x30 true (rdM (ld1 x31))) fun x32 =>
  M.bind (guardM x30 true (M.ret a0)) fun x33 =>
  M.bind (guardM x30 true (optM (nilChk x33))) fun x34 =>
  M.bind (guardM x30 true (optM (fieldA 3 x34))) fun x35 =>
  M.bind (guardM x30 true (rdM (ld1 x35))) fun x36 =>
  M.bind (guardM x30 true (optM (binV BinOp.eql x32 x36))) fun x37 =>
  bindO (pickV x30 x37 (Value.bool false)) fun x38 =>
  drewM <|
  M.bind (guardM x24 false (M.ret x38)) fun x39 =>
  M.bind (guardM x24 false (M.ret x39)) fun x40 =>
  M.bind (guardM x40 true (optM (fieldA 0 x1))) fun x41 =>
  M.bind (guardM x40 true (rdM (ld1 x41))) fun x42 =>
  M.bind (guardM x40 true (optM (binV BinOp.eql x42 (Value.int IntKind.i64 5)))) fun x43 =>
  M.bind (guardM x24 false (optM (pickV x40 x43 (Value.bool false)))) fun x44 =>
  M.bind (guardM x24 false (M.ret x44)) fun x45 =>
  M.bind (guardM x45 true (M.ret a0)) fun x46 =>
  M.bind (guardM x45 true (optM (nilChk x46))) fun x47 =>
  M.bind (guardM x45 true (optM (fieldA 0 x47))) fun x48 =>
  M.bind (guardM x45 true (rdM (ld1 x48))) fun x49 =>
  M.bind (guardM x45 true (optM (fieldA 6 x1))) fun x50 =>
  M.bind (guardM x45 true (rdM (ld1 x50))) fun x51 =>
  M.bind (guardM x45 true (optM (binV BinOp.neq x49 x51))) fun x52 =>
  M.bind (guardM x24 false (optM (pickV x45 x52 (Value.bool false)))) fun x53 =>
  bindO (pickV x24 (Value.bool true) x53) fun x54 =>
  condM x54 (
    M.ret (Value.int IntKind.i64 122)) (
    condM x38 (
      M.ret (Value.int IntKind.i64 0)) (
      M.bind (
        bindO (fieldA 0 x1) fun x55 =>
        M.bind (rdM (ld1 x55)) fun x56 =>
        bindO (binV BinOp.eql x56 (Value.int IntKind.i64 5)) fun x57 =>
        condM x57 (
          bindO (nilChk a0) fun x58 =>
          bindO (fieldA 0 x58) fun x59 =>
          M.bind (rdM (ld1 x59)) fun x60 =>
          bindO (nilChk a0) fun x61 =>
          bindO (fieldA 5 x61) fun x62 =>
          M.bind (stM 1 x62 x60) fun _ =>
          bindO (fieldA 4 x1) fun x64 =>
          M.bind (rdM (ld1 x64)) fun x65 =>
          bindO (nilChk a0) fun x66 =>
          bindO (fieldA 4 x66) fun x67 =>
          M.bind (stM 1 x67 x65) fun _ =>
          bindO (nilChk a0) fun x69 =>
          bindO (fieldA 0 x69) fun x70 =>
          M.bind (rdM (ld1 x70)) fun x71 =>
          bindO (nilChk a0) fun x72 =>
          bindO (fieldA 1 x72) fun x73 =>
          M.bind (stM 1 x73 x71) fun _ =>
          bindO (fieldA 6 x1) fun x75 =>
          M.bind (rdM (ld1 x75)) fun x76 =>
          bindO (nilChk a0) fun x77 =>
          bindO (fieldA 0 x77) fun x78 =>
          M.bind (stM 1 x78 x76) fun _ =>
          M.ret (Out.norm [])) (
          M.bind (
            drewM <|
            bindO (nilChk a0) fun x80 =>
            bindO (fieldA 2 x80) fun x81 =>
            M.bind (rdM (ld1 x81)) fun x82 =>
            bindO (fieldA 4 x1) fun x83 =>
            M.bind (rdM (ld1 x83)) fun x84 =>
            bindO (binV BinOp.eql x82 x84) fun x85 =>
            condM x85 (
              bindO (nilChk a0) fun x86 =>
              bindO (fieldA 1 x86) fun x87 =>
              M.bind (rdM (ld1 x87)) fun x88 =>
              bindO (nilChk a0) fun x89 =>
              bindO (fieldA 0 x89) fun x90 =>
              M.bind (stM 1 x90 x88) fun _ =>
              M.ret (Out.norm [])) (
              M.ret (Out.norm []))) fun o93 =>
          outK o93 (fun _ =>
            bindO (nilChk a0) fun x96 =>
            bindO (fieldA 0 x96) fun x97 =>
            M.bind (rdM (ld1 x97)) fun x98 =>
            bindO (nilChk a0) fun x99 =>
            bindO (fieldA 1 x99) fun x100 =>
            M.bind (stM 1 x100 x98) fun _ =>
            M.ret (Out.norm [])) (fun _ _ =>
            M.fail) (fun r95 => M.ret (Out.ret r95)))) fun o104 =>
      outK o104 (fun _ =>
        bindO (fieldA 4 x1) fun x107 =>
        M.bind (rdM (ld1 x107)) fun x108 =>
        bindO (nilChk a0) fun x109 =>
        bindO (fieldA 2 x109) fun x110 =>
        M.bind (stM 1 x110 x108) fun _ =>
        bindO (fieldA 5 x1) fun x112 =>
        M.bind (rdM (ld1 x112)) fun x113 =>
        bindO (nilChk a0) fun x114 =>
        bindO (fieldA 3 x114) fun x115 =>
        M.bind (stM 1 x115 x113) fun _ =>
        M.ret (Value.int IntKind.i64 0)) (fun _ _ =>
        M.fail) (fun r106 => M.ret r106)))
def F.granarylaw15_Node_order.plan : Plan := (seq leaf (seq leaf (seq leaf (seq (seq leaf (cond (seq leaf leaf) leaf)) (seq (seq leaf (cond (seq leaf leaf) leaf)) (fork [] [67, 68, 69, 70, 71, 72, 73, 74, 75, 76, 77, 78, 79, 80, 81, 82, 83, 84, 85, 86, 87, 88, 89, 90, 91, 92, 93, 94, 95, 96, 97, 98, 99, 100, 101, 102, 103, 104, 105, 106, 107, 108, 109, 110, 111, 112, 113, 114] [] (seq leaf (cond (seq leaf (seq leaf (seq leaf leaf))) (fork [] [94, 95, 96, 97, 98, 99, 100, 101, 102, 103, 104, 105, 106, 107] [] (seq leaf (cond leaf leaf)) leaf))) (seq leaf (seq leaf (seq leaf leaf)))))))))
theorem F.granarylaw15_Node_order.lift : LiftOk Try.prog 60 (ap2 F.granarylaw15_Node_order) :=
  lift2 (g := evFn Try.prog tnil tnil 60 Try.f60 F.granarylaw15_Node_order.plan) (evFn_sound tnil_ok tnil_ok Try.func60 (by kernel_rfl)) (fun x0 x1 => by kernel_rfl)

/-- (*granary/granarylaw15.Node).Does -/
noncomputable def F.granarylaw15_Node_Does (a0 a1 : Value) : M Value :=
  M.bind (newM 44 (Value.cells a1)) fun x1 =>
  M.bind (newM 44 #[(Value.int IntKind.i64 0), (Value.int IntKind.i64 0), (Value.int IntKind.i64 0), (Value.int IntKind.i64 0), (Value.int IntKind.i64 0), (Value.int IntKind.i64 0), (Value.int IntKind.i64 0), (Value.int IntKind.i64 0), (Value.int IntKind.i64 0), (Value.string ByteArray.empty), (Value.string ByteArray.empty)]) fun x2 =>
  bindO (fieldA 0 x1) fun x3 =>
  M.bind (rdM (ld1 x3)) fun x4 =>
  bindO (binV BinOp.add x4 (Value.int IntKind.i64 1)) fun x5 =>
  bindO (fieldA 2 x1) fun x6 =>
  M.bind (rdM (ld1 x6)) fun x7 =>
  bindO (fieldA 1 x1) fun x8 =>
  M.bind (rdM (ld1 x8)) fun x9 =>
  bindO (fieldA 3 x1) fun x10 =>
  M.bind (rdM (ld1 x10)) fun x11 =>
  bindO (fieldA 4 x1) fun x12 =>
  M.bind (rdM (ld1 x12)) fun x13 =>
  bindO (fieldA 5 x1) fun x14 =>
  M.bind (rdM (ld1 x14)) fun x15 =>
  bindO (buildV #[(Value.int IntKind.i64 0), (Value.int IntKind.i64 0), (Value.int IntKind.i64 0), (Value.int IntKind.i64 0), (Value.int IntKind.i64 0), (Value.int IntKind.i64 0), (Value.int IntKind.i64 0), (Value.int IntKind.i64 0), (Value.int IntKind.i64 0), (Value.string ByteArray.empty), (Value.string ByteArray.empty)] [(0, 1, x5), (1, 1, x7), (2, 1, x9), (3, 1, x11), (4, 1, x13), (5, 1, x15)]) fun x16 =>
  M.bind (newM 44 #[(Value.int IntKind.i64 0), (Value.int IntKind.i64 0), (Value.int IntKind.i64 0), (Value.int IntKind.i64 0), (Value.int IntKind.i64 0), (Value.int IntKind.i64 0), (Value.int IntKind.i64 0), (Value.int IntKind.i64 0), (Value.int IntKind.i64 0), (Value.string ByteArray.empty), (Value.string ByteArray.empty)]) fun x17 =>
  M.bind (stM 11 x17 x16) fun _ =>
  M.bind (
    bindO (fieldA 0 x1) fun x19 =>
    M.bind (rdM (ld1 x19)) fun x20 =>
    bindO (binV BinOp.eql x20 (Value.int IntKind.i64 3)) fun x21 =>
    condM x21 (
      bindO (fieldA 6 x1) fun x22 =>
      M.bind (rdM (ld1 x22)) fun x23 =>
      bindO (fieldA 6 x17) fun x24 =>
      M.bind (stM 1 x24 x23) fun _ =>
      M.bind (
        bindO (nilChk a0) fun x26 =>
        bindO (fieldA 6 x26) fun x27 =>
        M.bind (rdM (ld1 x27)) fun x28 =>
        condM x28 (
          bindO (fieldA 8 x17) fun x29 =>
          M.bind (stM 1 x29 (Value.int IntKind.i64 99)) fun _ =>
          M.ret (Out.norm [])) (
          M.ret (Out.norm []))) fun o32 =>
      outK o32 (fun _ =>
        M.bind (rdM (ldA 11 x17)) fun x35 =>
        M.bind (stM 11 x2 x35) fun _ =>
        M.bind (rdM (ldA 11 x2)) fun x37 =>
        M.ret (Out.ret x37)) (fun _ _ =>
        M.fail) (fun r34 => M.ret (Out.ret r34))) (
      bindO (fieldA 0 x1) fun x39 =>
      M.bind (rdM (ld1 x39)) fun x40 =>
      bindO (binV BinOp.eql x40 (Value.int IntKind.i64 9)) fun x41 =>
      condM x41 (
        bindO (nilChk a0) fun x42 =>
        bindO (fieldA 2 x42) fun x43 =>
        M.bind (rdM (ld1 x43)) fun x44 =>
        bindO (fieldA 4 x17) fun x45 =>
        M.bind (stM 1 x45 x44) fun _ =>
        bindO (nilChk a0) fun x47 =>
        bindO (fieldA 3 x47) fun x48 =>
        M.bind (rdM (ld1 x48)) fun x49 =>
        bindO (fieldA 5 x17) fun x50 =>
        M.bind (stM 1 x50 x49) fun _ =>
        M.ret (Out.norm [])) (
        bindO (nilChk a0) fun x52 =>
        bindO (fieldA 6 x52) fun x53 =>
        M.bind (rdM (ld1 x53)) fun x54 =>
        condM x54 (
          bindO (fieldA 8 x17) fun x55 =>
          M.bind (stM 1 x55 (Value.int IntKind.i64 99)) fun _ =>
          M.ret (Out.norm [])) (
          M.bind (rdM (ldA 11 x1)) fun x57 =>
          M.bind (F.granarylaw15_Node_order a0 x57) fun x58 =>
          bindO (fieldA 8 x17) fun x59 =>
          M.bind (stM 1 x59 x58) fun _ =>
          M.ret (Out.norm []))))) fun o62 =>
  outK o62 (fun _ =>
    bindO (nilChk a0) fun x65 =>
    bindO (fieldA 0 x65) fun x66 =>
    M.bind (rdM (ld1 x66)) fun x67 =>
    bindO (fieldA 6 x17) fun x68 =>
    M.bind (stM 1 x68 x67) fun _ =>
    bindO (nilChk a0) fun x70 =>
    bindO (fieldA 1 x70) fun x71 =>
    M.bind (rdM (ld1 x71)) fun x72 =>
    bindO (fieldA 7 x17) fun x73 =>
    M.bind (stM 1 x73 x72) fun _ =>
    M.bind (rdM (ldA 11 x17)) fun x75 =>
    M.bind (stM 11 x2 x75) fun _ =>
    M.bind (rdM (ldA 11 x2)) fun x77 =>
    M.ret x77) (fun _ _ =>
    M.fail) (fun r64 => M.ret r64)
def F.granarylaw15_Node_Does.plan : Plan := (seq leaf (seq leaf (fork [] [20, 21, 22, 23, 24, 25, 26, 27, 28, 29, 30, 31, 32, 33, 34, 35, 36, 37, 38, 39, 40, 41, 42, 43, 44, 45, 46, 47, 48, 49, 50, 51, 52, 53, 54, 55, 56] [] (body (seq leaf (cond (seq leaf (fork [] [31, 32, 33, 34, 35] [] (seq leaf (cond leaf leaf)) (seq leaf leaf))) (seq leaf (cond (seq leaf leaf) (seq leaf (cond leaf leaf))))))) (seq leaf (seq leaf (seq leaf leaf))))))
theorem F.granarylaw15_Node_Does.lift : LiftOk Try.prog 53 (ap2 F.granarylaw15_Node_Does) :=
  lift2 (g := evFn Try.prog (tcons 60 (ap2 F.granarylaw15_Node_order) tnil) tnil 53 Try.f53 F.granarylaw15_Node_Does.plan) (evFn_sound (tcons_ok F.granarylaw15_Node_order.lift tnil_ok) tnil_ok Try.func53 (by kernel_rfl)) (fun x0 x1 => by kernel_rfl)

/-- (*granary/granarylaw15.Play).deliver -/
noncomputable def F.granarylaw15_Play_deliver (a0 a1 : Value) : M Value :=
  M.bind (F.granarylaw15_Play_taken a0 a1) fun x1 =>
  M.bind (newM 44 #[(Value.int IntKind.i64 0), (Value.int IntKind.i64 0), (Value.int IntKind.i64 0), (Value.int IntKind.i64 0), (Value.int IntKind.i64 0), (Value.int IntKind.i64 0), (Value.int IntKind.i64 0), (Value.int IntKind.i64 0), (Value.int IntKind.i64 0), (Value.string ByteArray.empty), (Value.string ByteArray.empty)]) fun x2 =>
  M.bind (stM 11 x2 x1) fun _ =>
  bindO (fieldA 2 x2) fun x4 =>
  M.bind (rdM (ld1 x4)) fun x5 =>
  bindO (binV BinOp.neq x5 (Value.int IntKind.i64 64)) fun x6 =>
  condM x6 (
    drewM <|
    bindO (nilChk a0) fun x7 =>
    bindO (fieldA 1 x7) fun x8 =>
    M.bind (rdM (ld1 x8)) fun x9 =>
    bindO (fieldA 2 x2) fun x10 =>
    M.bind (rdM (ld1 x10)) fun x11 =>
    bindO (idxA 8 x9 x11) fun x12 =>
    M.bind (
      bindO (nilChk x12) fun x13 =>
      bindO (fieldA 7 x13) fun x14 =>
      M.bind (rdM (ld1 x14)) fun x15 =>
      bindO (notV x15) fun x16 =>
      condM x16 (
        drewM <|
        getM fun _ =>
        bindO (nilChk a0) fun x18 =>
        bindO (fieldA 2 x18) fun x19 =>
        M.bind (rdM (ld1 x19)) fun x20 =>
        M.bind (rdM (ldA 11 x2)) fun x21 =>
        M.bind (F.granarylaw15_Node_Does x12 x21) fun x22 =>
        getM fun W23 =>
        M.bind (bslM 44 1 (Builtin.zeroCells #[(Value.int IntKind.i64 0), (Value.int IntKind.i64 0), (Value.int IntKind.i64 0), (Value.int IntKind.i64 0), (Value.int IntKind.i64 0), (Value.int IntKind.i64 0), (Value.int IntKind.i64 0), (Value.int IntKind.i64 0), (Value.int IntKind.i64 0), (Value.string ByteArray.empty), (Value.string ByteArray.empty)] 1) [(0, 11, x22)]) fun x24 =>
        getM fun W25 =>
        M.bind (appM 44 11 104 #[(Value.int IntKind.i64 0), (Value.int IntKind.i64 0), (Value.int IntKind.i64 0), (Value.int IntKind.i64 0), (Value.int IntKind.i64 0), (Value.int IntKind.i64 0), (Value.int IntKind.i64 0), (Value.int IntKind.i64 0), (Value.int IntKind.i64 0), (Value.string ByteArray.empty), (Value.string ByteArray.empty)] x20 x24) fun x26 =>
        getM fun _ =>
        bindO (nilChk a0) fun x28 =>
        bindO (fieldA 2 x28) fun x29 =>
        M.bind (stM 1 x29 x26) fun _ =>
        getM fun _ =>
        reqM (ld1 x19 W23 = some x20) <|
        reqM (ld1 x19 W25 = some x20) <|
        M.ret (Out.norm [])) (
        M.ret (Out.norm []))) fun o33 =>
    outK o33 (fun _ =>
      M.ret (Value.bool true)) (fun _ _ =>
      M.fail) (fun r35 => M.ret r35)) (
    bindO (nilChk a0) fun x37 =>
    bindO (fieldA 0 x37) fun x38 =>
    M.bind (rdM (ld1 x38)) fun x39 =>
    M.bind (F.control_Control_Busy x39) fun x40 =>
    M.bind (
      drewM <|
      M.bind (guardM x40 true (optM (fieldA 8 x2))) fun x41 =>
      M.bind (guardM x40 true (rdM (ld1 x41))) fun x42 =>
      M.bind (guardM x40 true (F.granarylaw15_num x42)) fun x43 =>
      M.bind (guardM x40 true (optM (binV BinOp.eql x43 (Value.int IntKind.i64 0)))) fun x44 =>
      bindO (pickV x40 x44 (Value.bool false)) fun x45 =>
      M.bind (guardM x45 true (optM (fieldA 4 x2))) fun x46 =>
      M.bind (guardM x45 true (rdM (ld1 x46))) fun x47 =>
      M.bind (guardM x45 true (M.ret a0)) fun x48 =>
      M.bind (guardM x45 true (optM (nilChk x48))) fun x49 =>
      M.bind (guardM x45 true (optM (fieldA 3 x49))) fun x50 =>
      M.bind (guardM x45 true (rdM (ld1 x50))) fun x51 =>
      M.bind (guardM x45 true (optM (binV BinOp.eql x47 x51))) fun x52 =>
      bindO (pickV x45 x52 (Value.bool false)) fun x53 =>
      condM x53 (
        M.bind (
          bindO (fieldA 0 x2) fun x54 =>
          M.bind (rdM (ld1 x54)) fun x55 =>
          bindO (binV BinOp.eql x55 (Value.int IntKind.i64 4)) fun x56 =>
          condM x56 (
            drewM <|
            bindO (nilChk a0) fun x57 =>
            bindO (fieldA 6 x57) fun x58 =>
            M.bind (rdM (ld1 x58)) fun x59 =>
            bindO (fieldA 1 x2) fun x60 =>
            M.bind (rdM (ld1 x60)) fun x61 =>
            bindO (idxA 1 x59 x61) fun x62 =>
            M.bind (stM 1 x62 (Value.bool true)) fun _ =>
            M.ret (Out.norm [])) (
            M.ret (Out.norm []))) fun o65 =>
        outK o65 (fun _ =>
          bindO (fieldA 0 x2) fun x68 =>
          M.bind (rdM (ld1 x68)) fun x69 =>
          bindO (binV BinOp.eql x69 (Value.int IntKind.i64 8)) fun x70 =>
          M.bind (guardM x70 true (M.ret a0)) fun x71 =>
          M.bind (guardM x70 true (optM (nilChk x71))) fun x72 =>
          M.bind (guardM x70 true (optM (fieldA 8 x72))) fun x73 =>
          M.bind (guardM x70 true (rdM (ld1 x73))) fun x74 =>
          bindO (pickV x70 x74 (Value.bool false)) fun x75 =>
          condM x75 (
            drewM <|
            bindO (nilChk a0) fun x76 =>
            bindO (fieldA 7 x76) fun x77 =>
            M.bind (rdM (ld1 x77)) fun x78 =>
            bindO (fieldA 1 x2) fun x79 =>
            M.bind (rdM (ld1 x79)) fun x80 =>
            bindO (idxA 1 x78 x80) fun x81 =>
            M.bind (stM 1 x81 (Value.bool true)) fun _ =>
            M.ret (Out.norm [])) (
            M.ret (Out.norm []))) (fun _ _ =>
          M.fail) (fun r67 => M.ret (Out.ret r67))) (
        M.ret (Out.norm []))) fun o85 =>
    outK o85 (fun _ =>
      drewM <|
      bindO (nilChk a0) fun x88 =>
      bindO (fieldA 0 x88) fun x89 =>
      M.bind (rdM (ld1 x89)) fun x90 =>
      M.bind (rdM (ldA 11 x2)) fun x91 =>
      M.bind (F.control_Control_Take x90 x91) fun x92 =>
      bindO (extV 0 x92) fun x93 =>
      bindO (extV 1 x92) fun x94 =>
      M.bind (F.granarylaw15_Play_went a0 x93 x94 x40) fun x95 =>
      M.ret x95) (fun _ _ =>
      M.fail) (fun r87 => M.ret r87))
def F.granarylaw15_Play_deliver.plan : Plan := (seq leaf (seq leaf (seq (seq leaf (cond (seq leaf (fork [] [23, 24, 25, 26, 27, 28, 29, 30, 31, 32, 33, 34, 35, 36, 37, 38, 39] [] (seq leaf (cond leaf leaf)) (seq leaf leaf))) leaf)) (seq leaf (fork [] [45, 46, 47, 48, 49, 50, 51, 52, 53, 54, 55, 56, 57, 58, 59, 60, 61, 62, 63, 64, 65, 66, 67, 68, 69, 70, 71, 72, 73, 74, 75, 76, 77, 78, 79, 80, 81, 82, 83, 84, 85, 86] [] (seq leaf (cond (fork [] [61, 62, 63, 64, 65, 66, 67, 68, 69, 70] [] (seq leaf (cond leaf leaf)) (seq leaf (cond leaf leaf))) leaf)) (seq leaf (seq leaf leaf)))))))
theorem F.granarylaw15_Play_deliver.lift : LiftOk Try.prog 42 (ap2 F.granarylaw15_Play_deliver) :=
  lift2 (g := evFn Try.prog (tcons 11 (ap1 F.granarylaw15_num) (tcons 12 (ap1 F.control_Control_Busy) (tcons 20 (ap2 F.control_Control_Take) (tcons 40 (ap4 F.granarylaw15_Play_went) (tcons 43 (ap2 F.granarylaw15_Play_taken) (tcons 53 (ap2 F.granarylaw15_Node_Does) tnil)))))) tnil 42 Try.f42 F.granarylaw15_Play_deliver.plan) (evFn_sound (tcons_ok F.granarylaw15_num.lift (tcons_ok F.control_Control_Busy.lift (tcons_ok F.control_Control_Take.lift (tcons_ok F.granarylaw15_Play_went.lift (tcons_ok F.granarylaw15_Play_taken.lift (tcons_ok F.granarylaw15_Node_Does.lift tnil_ok)))))) tnil_ok Try.func42 (by kernel_rfl)) (fun x0 x1 => by kernel_rfl)

/-- (*granary/granarylaw15.Play).step -/
noncomputable def F.granarylaw15_Play_step (a0 a1 : Value) : M Value :=
  M.bind (newM 63 (Value.cells a1)) fun x1 =>
  bindO (nilChk a0) fun x2 =>
  bindO (fieldA 0 x2) fun x3 =>
  M.bind (rdM (ld1 x3)) fun x4 =>
  M.bind (F.control_Control_Busy x4) fun x5 =>
  bindO (fieldA 0 x1) fun x6 =>
  M.bind (rdM (ld1 x6)) fun x7 =>
  bindO (binV BinOp.eql x7 (Value.int IntKind.i64 1)) fun x8 =>
  condM x8 (
    M.bind (rdM (ldA 3 x1)) fun x9 =>
    M.bind (F.granarylaw15_Play_begin a0 x9) fun x10 =>
    M.ret x10) (
    bindO (binV BinOp.eql x7 (Value.int IntKind.i64 2)) fun x11 =>
    condM x11 (
      bindO (nilChk a0) fun x12 =>
      bindO (fieldA 0 x12) fun x13 =>
      M.bind (rdM (ld1 x13)) fun x14 =>
      M.bind (F.control_Control_Tick x14) fun x15 =>
      bindO (extV 0 x15) fun x16 =>
      bindO (extV 1 x15) fun x17 =>
      M.bind (F.granarylaw15_Play_went a0 x16 x17 x5) fun x18 =>
      M.ret x18) (
      M.bind (
        bindO (binV BinOp.eql x7 (Value.int IntKind.i64 6)) fun x19 =>
        condM x19 (
          M.ret (Out.norm [x19])) (
          bindO (binV BinOp.eql x7 (Value.int IntKind.i64 7)) fun x20 =>
          M.ret (Out.norm [x20]))) fun o22 =>
      outK o22 (fun l21 =>
        condM (getL l21 0) (
          bindO (notV x5) fun x25 =>
          condM x25 (
            M.ret (Value.bool true)) (
            bindO (fieldA 0 x1) fun x26 =>
            M.bind (rdM (ld1 x26)) fun x27 =>
            bindO (binV BinOp.eql x27 (Value.int IntKind.i64 7)) fun x28 =>
            condM x28 (
              bindO (nilChk a0) fun x29 =>
              bindO (fieldA 1 x29) fun x30 =>
              M.bind (rdM (ld1 x30)) fun x31 =>
              bindO (lenL x31) fun x32 =>
              M.bind (F.granarylaw15_none x32) fun x33 =>
              bindO (nilChk a0) fun x34 =>
              bindO (fieldA 7 x34) fun x35 =>
              M.bind (stM 1 x35 x33) fun _ =>
              bindO (nilChk a0) fun x37 =>
              bindO (fieldA 0 x37) fun x38 =>
              M.bind (rdM (ld1 x38)) fun x39 =>
              M.bind (F.control_Control_Revive x39) fun x40 =>
              bindO (extV 0 x40) fun x41 =>
              bindO (extV 1 x40) fun x42 =>
              M.bind (F.granarylaw15_Play_went a0 x41 x42 x5) fun x43 =>
              M.ret x43) (
              bindO (nilChk a0) fun x44 =>
              bindO (fieldA 0 x44) fun x45 =>
              M.bind (rdM (ld1 x45)) fun x46 =>
              M.bind (F.control_Control_Stop x46) fun x47 =>
              bindO (extV 0 x47) fun x48 =>
              bindO (extV 1 x47) fun x49 =>
              M.bind (F.granarylaw15_Play_went a0 x48 x49 x5) fun x50 =>
              M.ret x50))) (
          bindO (binV BinOp.eql x7 (Value.int IntKind.i64 8)) fun x51 =>
          condM x51 (
            drewM <|
            getM fun W52 =>
            bindO (nilChk a0) fun x53 =>
            bindO (fieldA 1 x53) fun x54 =>
            M.bind (rdM (ld1 x54)) fun x55 =>
            bindO (fieldA 1 x1) fun x56 =>
            M.bind (rdM (ld1 x56)) fun x57 =>
            bindO (nilChk a0) fun x58 =>
            bindO (fieldA 1 x58) fun x59 =>
            M.bind (rdM (ld1 x59)) fun x60 =>
            bindO (lenL x60) fun x61 =>
            M.bind (F.granarylaw15_mod x57 x61) fun x62 =>
            getM fun W63 =>
            bindO (fieldA 2 x1) fun x64 =>
            M.bind (rdM (ld1 x64)) fun x65 =>
            M.bind (F.granarylaw15_mod x65 (Value.int IntKind.i64 2)) fun x66 =>
            getM fun W67 =>
            bindO (binV BinOp.eql x66 (Value.int IntKind.i64 1)) fun x68 =>
            bindO (idxA 8 x55 x62) fun x69 =>
            bindO (fieldA 6 x69) fun x70 =>
            M.bind (stM 1 x70 x68) fun _ =>
            getM fun _ =>
            reqM (ld1 x54 W63 = some x55) <|
            reqM (ld1 x54 W67 = some x55) <|
            reqM (ld1 x64 W52 = some x65) <|
            M.ret (Value.bool true)) (
            bindO (binV BinOp.eql x7 (Value.int IntKind.i64 9)) fun x73 =>
            condM x73 (
              drewM <|
              getM fun W74 =>
              bindO (nilChk a0) fun x75 =>
              bindO (fieldA 1 x75) fun x76 =>
              M.bind (rdM (ld1 x76)) fun x77 =>
              bindO (fieldA 1 x1) fun x78 =>
              M.bind (rdM (ld1 x78)) fun x79 =>
              bindO (nilChk a0) fun x80 =>
              bindO (fieldA 1 x80) fun x81 =>
              M.bind (rdM (ld1 x81)) fun x82 =>
              bindO (lenL x82) fun x83 =>
              M.bind (F.granarylaw15_mod x79 x83) fun x84 =>
              getM fun W85 =>
              bindO (fieldA 2 x1) fun x86 =>
              M.bind (rdM (ld1 x86)) fun x87 =>
              M.bind (F.granarylaw15_mod x87 (Value.int IntKind.i64 2)) fun x88 =>
              getM fun W89 =>
              bindO (binV BinOp.eql x88 (Value.int IntKind.i64 1)) fun x90 =>
              bindO (idxA 8 x77 x84) fun x91 =>
              bindO (fieldA 7 x91) fun x92 =>
              M.bind (stM 1 x92 x90) fun _ =>
              getM fun _ =>
              reqM (ld1 x76 W85 = some x77) <|
              reqM (ld1 x76 W89 = some x77) <|
              reqM (ld1 x86 W74 = some x87) <|
              M.ret (Value.bool true)) (
              bindO (nilChk a0) fun x95 =>
              bindO (fieldA 2 x95) fun x96 =>
              M.bind (rdM (ld1 x96)) fun x97 =>
              bindO (lenL x97) fun x98 =>
              bindO (binV BinOp.eql x98 (Value.int IntKind.i64 0)) fun x99 =>
              condM x99 (
                M.ret (Value.bool true)) (
                drewM <|
                bindO (fieldA 1 x1) fun x100 =>
                M.bind (rdM (ld1 x100)) fun x101 =>
                bindO (nilChk a0) fun x102 =>
                bindO (fieldA 2 x102) fun x103 =>
                M.bind (rdM (ld1 x103)) fun x104 =>
                bindO (lenL x104) fun x105 =>
                M.bind (F.granarylaw15_mod x101 x105) fun x106 =>
                M.bind (
                  bindO (fieldA 0 x1) fun x107 =>
                  M.bind (rdM (ld1 x107)) fun x108 =>
                  bindO (binV BinOp.eql x108 (Value.int IntKind.i64 3)) fun x109 =>
                  condM x109 (
                    M.bind (F.granarylaw15_Play_deliver a0 x106) fun x110 =>
                    M.ret (Out.ret x110)) (
                    bindO (binV BinOp.eql x108 (Value.int IntKind.i64 4)) fun x111 =>
                    condM x111 (
                      M.bind (F.granarylaw15_Play_taken a0 x106) fun _ =>
                      M.ret (Out.norm [])) (
                      bindO (binV BinOp.eql x108 (Value.int IntKind.i64 5)) fun x113 =>
                      condM x113 (
                        drewM <|
                        getM fun _ =>
                        bindO (nilChk a0) fun x115 =>
                        bindO (fieldA 2 x115) fun x116 =>
                        M.bind (rdM (ld1 x116)) fun x117 =>
                        bindO (nilChk a0) fun x118 =>
                        bindO (fieldA 2 x118) fun x119 =>
                        M.bind (rdM (ld1 x119)) fun x120 =>
                        bindO (idxA 11 x120 x106) fun x121 =>
                        M.bind (rdM (ldA 11 x121)) fun x122 =>
                        M.bind (bslM 44 1 (Builtin.zeroCells #[(Value.int IntKind.i64 0), (Value.int IntKind.i64 0), (Value.int IntKind.i64 0), (Value.int IntKind.i64 0), (Value.int IntKind.i64 0), (Value.int IntKind.i64 0), (Value.int IntKind.i64 0), (Value.int IntKind.i64 0), (Value.int IntKind.i64 0), (Value.string ByteArray.empty), (Value.string ByteArray.empty)] 1) [(0, 11, x122)]) fun x123 =>
                        getM fun W124 =>
                        M.bind (appM 44 11 104 #[(Value.int IntKind.i64 0), (Value.int IntKind.i64 0), (Value.int IntKind.i64 0), (Value.int IntKind.i64 0), (Value.int IntKind.i64 0), (Value.int IntKind.i64 0), (Value.int IntKind.i64 0), (Value.int IntKind.i64 0), (Value.int IntKind.i64 0), (Value.string ByteArray.empty), (Value.string ByteArray.empty)] x117 x123) fun x125 =>
                        getM fun _ =>
                        bindO (nilChk a0) fun x127 =>
                        bindO (fieldA 2 x127) fun x128 =>
                        M.bind (stM 1 x128 x125) fun _ =>
                        getM fun _ =>
                        reqM (ld1 x116 W124 = some x117) <|
                        M.ret (Out.norm [])) (
                        M.ret (Out.norm []))))) fun o132 =>
                outK o132 (fun _ =>
                  M.ret (Value.bool true)) (fun _ _ =>
                  M.fail) (fun r134 => M.ret r134)))))) (fun _ _ =>
        M.fail) (fun r24 => M.ret r24)))
def F.granarylaw15_Play_step.plan : Plan := (seq leaf (seq leaf (seq (seq leaf (body (seq leaf (cond (seq leaf leaf) (seq leaf (cond (seq leaf (seq leaf leaf)) (fork [40] [40, 41, 42] [] (seq leaf (cond leaf leaf)) (cond (seq (seq leaf (cond (seq leaf leaf) leaf)) (seq (seq leaf (cond (seq leaf (seq leaf (seq leaf leaf))) leaf)) (seq leaf (seq leaf leaf)))) (seq leaf (cond (seq leaf (seq leaf leaf)) (seq leaf (cond (seq leaf (seq leaf leaf)) leaf)))))))))))) (seq (seq leaf (cond (seq leaf leaf) leaf)) (seq leaf (fork [] [4, 137, 138, 139, 140, 141, 142, 143, 144, 145, 146, 147, 148, 149, 150, 151, 152, 153, 154, 155, 156, 157, 158, 159, 160, 161, 162, 163, 164, 165, 166] [] (seq leaf (body (seq leaf (cond (seq leaf leaf) (seq leaf (cond leaf (seq leaf (cond leaf leaf)))))))) (seq leaf leaf)))))))
theorem F.granarylaw15_Play_step.lift : LiftOk Try.prog 22 (ap2 F.granarylaw15_Play_step) :=
  lift2 (g := evFn Try.prog (tcons 8 (ap2 F.granarylaw15_mod) (tcons 12 (ap1 F.control_Control_Busy) (tcons 19 (ap1 F.control_Control_Tick) (tcons 25 (ap1 F.control_Control_Stop) (tcons 26 (ap1 F.control_Control_Revive) (tcons 39 (ap2 F.granarylaw15_Play_begin) (tcons 40 (ap4 F.granarylaw15_Play_went) (tcons 41 (ap1 F.granarylaw15_none) (tcons 42 (ap2 F.granarylaw15_Play_deliver) (tcons 43 (ap2 F.granarylaw15_Play_taken) tnil)))))))))) tnil 22 Try.f22 F.granarylaw15_Play_step.plan) (evFn_sound (tcons_ok F.granarylaw15_mod.lift (tcons_ok F.control_Control_Busy.lift (tcons_ok F.control_Control_Tick.lift (tcons_ok F.control_Control_Stop.lift (tcons_ok F.control_Control_Revive.lift (tcons_ok F.granarylaw15_Play_begin.lift (tcons_ok F.granarylaw15_Play_went.lift (tcons_ok F.granarylaw15_none.lift (tcons_ok F.granarylaw15_Play_deliver.lift (tcons_ok F.granarylaw15_Play_taken.lift tnil_ok)))))))))) tnil_ok Try.func22 (by kernel_rfl)) (fun x0 x1 => by kernel_rfl)

end Go.Proofs.Ytpiceodfdjihhaa
