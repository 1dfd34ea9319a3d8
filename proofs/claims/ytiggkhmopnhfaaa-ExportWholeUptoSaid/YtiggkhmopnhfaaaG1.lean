/-
  THE FUNCTIONAL FORMS of the functions of this seat's translation, and that each function comes to its form: printed by a program of the prover's own (lift.py).
-/
import Derived.Test.YtiggkhmopnhfaaaG0
namespace Go.Proofs.Ytiggkhmopnhfaaa
open Go.Lift Go.Lift.Plan
/-- granary/granarylaw21.sameInts -/
noncomputable def F.granarylaw21_sameInts (a0 a1 : Value) : M Value :=
  bindO (lenL a0) fun x1 =>
  bindO (lenL a1) fun x2 =>
  bindO (binV BinOp.neq x1 x2) fun x3 =>
  condM x3 (
    M.ret (Value.bool false)) (
    M.bind (loopM (fun l4 =>
      bindO (lenL a0) fun x5 =>
      bindO (binV BinOp.lss (getL l4 0) x5) fun x6 =>
      condM x6 (
        drewM <|
        bindO (idxA 1 a0 (getL l4 0)) fun x7 =>
        M.bind (rdM (ld1 x7)) fun x8 =>
        bindO (idxA 1 a1 (getL l4 0)) fun x9 =>
        M.bind (rdM (ld1 x9)) fun x10 =>
        bindO (binV BinOp.neq x8 x10) fun x11 =>
        condM x11 (
          M.ret (Out.ret (Value.bool false))) (
          bindO (binV BinOp.add (getL l4 0) (Value.int IntKind.i64 1)) fun x12 =>
          M.ret (Out.norm [x12]))) (
        M.ret (Out.exit 0 [(getL l4 0)]))) [(Value.int IntKind.i64 0)]) fun o14 =>
    outK o14 (fun _ => M.fail) (fun i15 _ =>
      bif Nat.beq i15 0 then (
        M.ret (Value.bool true)) else
      M.fail) (fun r16 => M.ret r16))
def F.granarylaw21_sameInts.plan : Plan := (seq leaf (seq (seq leaf (cond (seq leaf leaf) leaf)) (seq (seq leaf (body (loop [5] [4, 5, 11, 12, 13, 14, 15, 16, 17, 18, 19, 20, 21, 22, 23, 24, 25] [0] (seq (seq leaf (cond leaf leaf)) (seq (body (seq leaf (cond (seq leaf leaf) leaf))) leaf))))) (seq leaf leaf))))
theorem F.granarylaw21_sameInts.lift : LiftOk Try.prog 20 (ap2 F.granarylaw21_sameInts) :=
  lift2 (g := evFn Try.prog tnil tnil 20 Try.f20 F.granarylaw21_sameInts.plan) (evFn_sound tnil_ok tnil_ok Try.func20 (by kernel_rfl)) (fun x0 x1 => by kernel_rfl)

/-- granary/granarylaw21.whole -/
noncomputable def F.granarylaw21_whole (a0 a1 a2 : Value) : M Value :=
  M.bind (loopM (fun l1 =>
    bindO (binV BinOp.lss (getL l1 2) a1) fun x2 =>
    condM x2 (
      M.bind (
        bindO (lenL a2) fun x3 =>
        bindO (binV BinOp.lss (getL l1 1) x3) fun x4 =>
        M.bind (guardM x4 true (M.ret a2)) fun x5 =>
        M.bind (guardM x4 true (M.ret (getL l1 1))) fun x6 =>
        M.bind (guardM x4 true (optM (idxA 1 x5 x6))) fun x7 =>
        M.bind (guardM x4 true (rdM (ld1 x7))) fun x8 =>
        M.bind (guardM x4 true (M.ret (getL l1 2))) fun x9 =>
        M.bind (guardM x4 true (optM (binV BinOp.eql x8 x9))) fun x10 =>
        bindO (pickV x4 x10 (Value.bool false)) fun x11 =>
        condM x11 (
          bindO (binV BinOp.add (getL l1 1) (Value.int IntKind.i64 1)) fun x12 =>
          M.ret (Out.norm [(getL l1 0), x12])) (
          M.bind (F.granarylaw21_of a0 (getL l1 2)) fun x13 =>
          M.bind (loopM (fun l14 =>
            bindO (lenL x13) fun x15 =>
            bindO (binV BinOp.lss (getL l14 1) x15) fun x16 =>
            condM x16 (
              bindO (idxA 2 x13 (getL l14 1)) fun x17 =>
              M.bind (rdM (ldA 2 x17)) fun x18 =>
              M.bind (bslM 81 1 (Builtin.zeroCells #[(Value.string ByteArray.empty), (Value.string ByteArray.empty)] 1) [(0, 2, x18)]) fun x19 =>
              M.bind (appM 81 2 32 #[(Value.string ByteArray.empty), (Value.string ByteArray.empty)] (getL l14 0) x19) fun x20 =>
              bindO (binV BinOp.add (getL l14 1) (Value.int IntKind.i64 1)) fun x21 =>
              M.ret (Out.norm [x20, x21])) (
              M.ret (Out.exit 2 [(getL l14 0), (getL l14 1)]))) [(getL l1 0), (Value.int IntKind.i64 0)]) fun o23 =>
          outK o23 (fun _ => M.fail) (fun i24 l22 =>
            bif Nat.beq i24 2 then (
              M.ret (Out.norm [(getL l22 0), (getL l1 1)])) else
            M.fail) (fun r25 => M.ret (Out.ret r25)))) fun o27 =>
      outK o27 (fun l26 =>
        bindO (binV BinOp.add (getL l1 2) (Value.int IntKind.i64 1)) fun x30 =>
        M.ret (Out.norm [(getL l26 0), (getL l26 1), x30])) (fun _ _ =>
        M.fail) (fun r29 => M.ret (Out.ret r29))) (
      M.ret (Out.exit 0 [(getL l1 0), (getL l1 1), (getL l1 2)]))) [(Value.slice none 0 0), (Value.int IntKind.i64 0), (Value.int IntKind.i64 0)]) fun o33 =>
  outK o33 (fun _ => M.fail) (fun i34 l32 =>
    bif Nat.beq i34 0 then (
      M.ret (getL l32 0)) else
    M.fail) (fun r35 => M.ret r35)
def F.granarylaw21_whole.plan : Plan := (seq leaf (seq leaf (seq leaf (seq (seq leaf (body (loop [7, 8, 9] [7, 8, 9, 10, 11, 12, 13, 14, 15, 16, 17, 18, 19, 20, 21, 22, 23, 24, 25, 26, 27, 28, 29, 30, 31, 32, 33, 34, 35, 36, 37, 38, 39, 40, 41, 42, 43, 44, 45, 46] [0] (seq (seq leaf (cond leaf leaf)) (fork [7, 8] [7, 8, 10, 11, 17, 18, 19, 20, 21, 22, 23, 24, 25, 26, 27, 28, 29, 30, 31, 32, 33, 34, 35, 36, 37, 38, 39, 40, 41, 42, 43, 44, 45, 46] [] (body (seq (seq leaf (cond (seq leaf leaf) leaf)) (seq leaf (seq leaf (body (loop [7, 11] [7, 11, 34, 35, 36, 37, 38, 39, 40, 41, 42, 43, 44, 45, 46] [2] (seq (seq leaf (cond leaf leaf)) (seq (body leaf) leaf)))))))) leaf))))) (seq leaf leaf)))))
theorem F.granarylaw21_whole.lift : LiftOk Try.prog 22 (ap3 F.granarylaw21_whole) :=
  lift3 (g := evFn Try.prog (tcons 32 (ap2 F.granarylaw21_of) tnil) tnil 22 Try.f22 F.granarylaw21_whole.plan) (evFn_sound (tcons_ok F.granarylaw21_of.lift tnil_ok) tnil_ok Try.func22 (by kernel_rfl)) (fun x0 x1 x2 => by kernel_rfl)

/-- granary/granarylaw21.samePairs -/
noncomputable def F.granarylaw21_samePairs (a0 a1 : Value) : M Value :=
  bindO (lenL a0) fun x1 =>
  bindO (lenL a1) fun x2 =>
  bindO (binV BinOp.neq x1 x2) fun x3 =>
  condM x3 (
    M.ret (Value.bool false)) (
    M.bind (loopM (fun l4 =>
      bindO (lenL a0) fun x5 =>
      bindO (binV BinOp.lss (getL l4 0) x5) fun x6 =>
      condM x6 (
        drewM <|
        bindO (idxA 2 a0 (getL l4 0)) fun x7 =>
        M.bind (rdM (ldA 2 x7)) fun x8 =>
        bindO (idxA 2 a1 (getL l4 0)) fun x9 =>
        M.bind (rdM (ldA 2 x9)) fun x10 =>
        bindO (neV (EqSh.offs [(EqK.str, 0), (EqK.str, 1)]) x8 x10) fun x11 =>
        condM x11 (
          M.ret (Out.ret (Value.bool false))) (
          bindO (binV BinOp.add (getL l4 0) (Value.int IntKind.i64 1)) fun x12 =>
          M.ret (Out.norm [x12]))) (
        M.ret (Out.exit 0 [(getL l4 0)]))) [(Value.int IntKind.i64 0)]) fun o14 =>
    outK o14 (fun _ => M.fail) (fun i15 _ =>
      bif Nat.beq i15 0 then (
        M.ret (Value.bool true)) else
      M.fail) (fun r16 => M.ret r16))
def F.granarylaw21_samePairs.plan : Plan := (seq leaf (seq (seq leaf (cond (seq leaf leaf) leaf)) (seq (seq leaf (body (loop [5] [4, 5, 11, 12, 13, 14, 15, 16, 17, 18, 19, 20, 21, 22, 23, 24, 25] [0] (seq (seq leaf (cond leaf leaf)) (seq (body (seq leaf (cond (seq leaf leaf) leaf))) leaf))))) (seq leaf leaf))))
theorem F.granarylaw21_samePairs.lift : LiftOk Try.prog 21 (ap2 F.granarylaw21_samePairs) :=
  lift2 (g := evFn Try.prog tnil tnil 21 Try.f21 F.granarylaw21_samePairs.plan) (evFn_sound tnil_ok tnil_ok Try.func21 (by kernel_rfl)) (fun x0 x1 => by kernel_rfl)

/-- granary/granarylaw21.ExportWhole -/
noncomputable def F.granarylaw21_ExportWhole (a0 a1 a2 a3 : Value) : M Value :=
  M.bind (newM 24 (Value.cells a0)) fun x1 =>
  M.bind (rdM (ldA 23 x1)) fun x2 =>
  M.bind (F.ring_Check x2) fun x3 =>
  M.bind (F.granarylaw21_num x3) fun x4 =>
  bindO (binV BinOp.neq x4 (Value.int IntKind.i64 0)) fun x5 =>
  condM x5 (
    M.bind (rdM (ldA 23 x1)) fun x6 =>
    M.bind (F.granarylaw21_refused x6) fun x7 =>
    M.ret x7) (
    M.bind (rdM (ldA 23 x1)) fun x8 =>
    M.bind (F.granarylaw21_cluster x8) fun x9 =>
    M.bind (F.export_New x9) fun x10 =>
    bindO (extV 0 x10) fun x11 =>
    bindO (extV 1 x10) fun x12 =>
    bindO (eqV (EqSh.one EqK.ptr) x11 (Value.pointer none)) fun x13 =>
    M.bind (guardM x13 false (M.ret x12)) fun x14 =>
    M.bind (guardM x13 false (F.granarylaw21_num x14)) fun x15 =>
    M.bind (guardM x13 false (optM (binV BinOp.neq x15 (Value.int IntKind.i64 0)))) fun x16 =>
    bindO (pickV x13 (Value.bool true) x16) fun x17 =>
    condM x17 (
      M.ret (Value.bool false)) (
      bindO (buildV #[(Value.pointer none), (Value.int IntKind.i64 0), (Value.int IntKind.i64 0), (Value.int IntKind.i64 0), (Value.int IntKind.i64 0), (Value.int IntKind.i64 0), (Value.int IntKind.i64 0), (Value.int IntKind.i64 0), (Value.int IntKind.i64 0), (Value.int IntKind.i64 0), (Value.string ByteArray.empty), (Value.string ByteArray.empty), (Value.bool false), (Value.slice none 0 0), (Value.int IntKind.i64 0), (Value.int IntKind.i64 0), (Value.slice none 0 0), (Value.int IntKind.i64 0)] [(0, 1, x11)]) fun x18 =>
      M.bind (newM 57 (Value.cells x18)) fun x19 =>
      M.bind (F.export_Export_Begin x11 a2) fun x20 =>
      bindO (extV 0 x20) fun x21 =>
      bindO (extV 1 x20) fun x22 =>
      bindO (binV BinOp.lss a2 (Value.int IntKind.i64 1)) fun x23 =>
      M.bind (guardM x23 false (M.ret a2)) fun x24 =>
      M.bind (guardM x23 false (optM (binV BinOp.gtr x24 (Value.int IntKind.i64 999999)))) fun x25 =>
      bindO (pickV x23 (Value.bool true) x25) fun x26 =>
      condM x26 (
        M.bind (F.granarylaw21_num x22) fun x27 =>
        bindO (binV BinOp.eql x27 (Value.int IntKind.i64 80)) fun x28 =>
        M.bind (guardM x28 true (M.ret x21)) fun x29 =>
        M.bind (guardM x28 true (optM (lenL x29))) fun x30 =>
        M.bind (guardM x28 true (optM (binV BinOp.eql x30 (Value.int IntKind.i64 0)))) fun x31 =>
        bindO (pickV x28 x31 (Value.bool false)) fun x32 =>
        M.bind (guardM x32 true (M.ret x11)) fun x33 =>
        M.bind (guardM x32 true (F.export_Export_Busy x33)) fun x34 =>
        M.bind (guardM x32 true (optM (notV x34))) fun x35 =>
        bindO (pickV x32 x35 (Value.bool false)) fun x36 =>
        M.ret x36) (
        M.bind (F.granarylaw21_talk_hear x19 x21 x22) fun x37 =>
        bindO (notV x37) fun x38 =>
        M.bind (guardM x38 false (M.ret x19)) fun x39 =>
        M.bind (guardM x38 false (optM (nilChk x39))) fun x40 =>
        M.bind (guardM x38 false (optM (fieldA 12 x40))) fun x41 =>
        M.bind (guardM x38 false (rdM (ld1 x41))) fun x42 =>
        M.bind (guardM x38 false (optM (notV x42))) fun x43 =>
        bindO (pickV x38 (Value.bool true) x43) fun x44 =>
        condM x44 (
          M.ret (Value.bool false)) (
          M.bind (rdM (ldA 23 x1)) fun x45 =>
          M.bind (F.granarylaw21_parts x45) fun x46 =>
          bindO (fieldA 1 x1) fun x47 =>
          M.bind (rdM (ld1 x47)) fun x48 =>
          bindO (binV BinOp.add (Value.int IntKind.i64 512) x48) fun x49 =>
          bindO (binV BinOp.mul x46 x49) fun x50 =>
          M.bind (loopM (fun _ =>
            bindO (nilChk x19) fun x52 =>
            bindO (fieldA 12 x52) fun x53 =>
            M.bind (rdM (ld1 x53)) fun x54 =>
            condM x54 (
              M.bind (
                drewM <|
                bindO (nilChk x19) fun x55 =>
                bindO (fieldA 1 x55) fun x56 =>
                bindO (fieldA 5 x56) fun x57 =>
                M.bind (rdM (ld1 x57)) fun x58 =>
                bindO (nilChk x19) fun x59 =>
                bindO (fieldA 14 x59) fun x60 =>
                M.bind (rdM (ld1 x60)) fun x61 =>
                bindO (binV BinOp.neq x58 x61) fun x62 =>
                condM x62 (
                  bindO (nilChk x19) fun x63 =>
                  bindO (fieldA 15 x63) fun x64 =>
                  M.bind (stM 1 x64 (Value.int IntKind.i64 0)) fun _ =>
                  bindO (nilChk x19) fun x66 =>
                  bindO (fieldA 1 x66) fun x67 =>
                  bindO (fieldA 5 x67) fun x68 =>
                  M.bind (rdM (ld1 x68)) fun x69 =>
                  bindO (nilChk x19) fun x70 =>
                  bindO (fieldA 14 x70) fun x71 =>
                  M.bind (stM 1 x71 x69) fun _ =>
                  M.ret (Out.norm [])) (
                  M.ret (Out.norm []))) fun o74 =>
              outK o74 (fun _ =>
                drewM <|
                bindO (nilChk x19) fun x77 =>
                bindO (fieldA 17 x77) fun x78 =>
                M.bind (rdM (ld1 x78)) fun x79 =>
                bindO (binV BinOp.gtr x79 x50) fun x80 =>
                M.bind (guardM x80 false (M.ret x11)) fun x81 =>
                M.bind (guardM x80 false (F.export_Export_Busy x81)) fun x82 =>
                M.bind (guardM x80 false (optM (notV x82))) fun x83 =>
                bindO (pickV x80 (Value.bool true) x83) fun x84 =>
                M.bind (guardM x84 false (rdM (ldA 23 x1))) fun x85 =>
                M.bind (guardM x84 false (M.ret x19)) fun x86 =>
                M.bind (guardM x84 false (optM (nilChk x86))) fun x87 =>
                M.bind (guardM x84 false (optM (fieldA 1 x87))) fun x88 =>
                M.bind (guardM x84 false (rdM (ldA 11 x88))) fun x89 =>
                M.bind (guardM x84 false (M.ret a2)) fun x90 =>
                M.bind (guardM x84 false (M.ret x19)) fun x91 =>
                M.bind (guardM x84 false (optM (nilChk x91))) fun x92 =>
                M.bind (guardM x84 false (optM (fieldA 15 x92))) fun x93 =>
                M.bind (guardM x84 false (rdM (ld1 x93))) fun x94 =>
                M.bind (guardM x84 false (F.granarylaw21_asksOwner x85 x89 x90 x94)) fun x95 =>
                M.bind (guardM x84 false (optM (notV x95))) fun x96 =>
                bindO (pickV x84 (Value.bool true) x96) fun x97 =>
                M.bind (guardM x97 false (M.ret x19)) fun x98 =>
                M.bind (guardM x97 false (optM (nilChk x98))) fun x99 =>
                M.bind (guardM x97 false (optM (fieldA 1 x99))) fun x100 =>
                M.bind (guardM x97 false (optM (fieldA 3 x100))) fun x101 =>
                M.bind (guardM x97 false (rdM (ld1 x101))) fun x102 =>
                M.bind (guardM x97 false (optM (binV BinOp.neq x102 (Value.int IntKind.i64 1)))) fun x103 =>
                bindO (pickV x97 (Value.bool true) x103) fun x104 =>
                condM x104 (
                  M.ret (Out.ret (Value.bool false))) (
                  bindO (buildV #[(Value.int IntKind.i64 0), (Value.int IntKind.i64 0), (Value.int IntKind.i64 0), (Value.int IntKind.i64 0)] []) fun x105 =>
                  M.bind (newM 61 #[(Value.int IntKind.i64 0), (Value.int IntKind.i64 0), (Value.int IntKind.i64 0), (Value.int IntKind.i64 0)]) fun x106 =>
                  M.bind (stM 4 x106 x105) fun _ =>
                  M.bind (
                    bindO (nilChk x19) fun x108 =>
                    bindO (fieldA 17 x108) fun x109 =>
                    M.bind (rdM (ld1 x109)) fun x110 =>
                    bindO (lenL a3) fun x111 =>
                    bindO (binV BinOp.lss x110 x111) fun x112 =>
                    condM x112 (
                      bindO (nilChk x19) fun x113 =>
                      bindO (fieldA 17 x113) fun x114 =>
                      M.bind (rdM (ld1 x114)) fun x115 =>
                      bindO (idxA 4 a3 x115) fun x116 =>
                      M.bind (rdM (ldA 4 x116)) fun x117 =>
                      M.bind (stM 4 x106 x117) fun _ =>
                      M.ret (Out.norm [])) (
                      M.ret (Out.norm []))) fun o120 =>
                  outK o120 (fun _ =>
                    bindO (nilChk x19) fun x123 =>
                    bindO (fieldA 17 x123) fun x124 =>
                    M.bind (rdM (ld1 x124)) fun x125 =>
                    bindO (binV BinOp.add x125 (Value.int IntKind.i64 1)) fun x126 =>
                    bindO (nilChk x19) fun x127 =>
                    bindO (fieldA 17 x127) fun x128 =>
                    M.bind (stM 1 x128 x126) fun _ =>
                    M.bind (rdM (ldA 23 x1)) fun x130 =>
                    M.bind (rdM (ldA 4 x106)) fun x131 =>
                    M.bind (F.granarylaw21_talk_act x19 x130 a1 x131) fun x132 =>
                    bindO (notV x132) fun x133 =>
                    condM x133 (
                      M.ret (Out.ret (Value.bool false))) (
                      M.ret (Out.norm []))) (fun _ _ =>
                    M.fail) (fun r122 => M.ret (Out.ret r122)))) (fun _ _ =>
                M.fail) (fun r76 => M.ret (Out.ret r76))) (
              M.ret (Out.exit 0 []))) []) fun o137 =>
          outK o137 (fun _ => M.fail) (fun i138 _ =>
            bif Nat.beq i138 0 then (
              M.bind (F.export_Export_Report x11) fun x140 =>
              bindO (extV 0 x140) fun x141 =>
              bindO (extV 1 x140) fun x142 =>
              M.bind (newM 49 #[(Value.int IntKind.i64 0), (Value.int IntKind.i64 0), (Value.slice none 0 0), (Value.slice none 0 0)]) fun x143 =>
              M.bind (stM 4 x143 x141) fun _ =>
              drewM <|
              getM fun _ =>
              M.bind (F.export_Export_Busy x11) fun x146 =>
              getM fun _ =>
              bindO (notV x146) fun x148 =>
              M.bind (guardM x148 true (M.ret x142)) fun x149 =>
              M.bind (guardM x148 true (F.granarylaw21_num x149)) fun x150 =>
              getM fun _ =>
              M.bind (guardM x148 true (optM (binV BinOp.eql x150 (Value.int IntKind.i64 0)))) fun x152 =>
              bindO (pickV x148 x152 (Value.bool false)) fun x153 =>
              M.bind (guardM x153 true (optM (fieldA 0 x143))) fun x154 =>
              M.bind (guardM x153 true (rdM (ld1 x154))) fun x155 =>
              M.bind (guardM x153 true (optM (binV BinOp.eql x155 (Value.int IntKind.i64 1)))) fun x156 =>
              bindO (pickV x153 x156 (Value.bool false)) fun x157 =>
              M.bind (guardM x157 true (optM (fieldA 1 x143))) fun x158 =>
              M.bind (guardM x157 true (rdM (ld1 x158))) fun x159 =>
              M.bind (guardM x157 true (M.ret a2)) fun x160 =>
              M.bind (guardM x157 true (optM (binV BinOp.eql x159 x160))) fun x161 =>
              bindO (pickV x157 x161 (Value.bool false)) fun x162 =>
              M.bind (guardM x162 true (optM (fieldA 3 x143))) fun x163 =>
              M.bind (guardM x162 true (rdM (ld1 x163))) fun x164 =>
              M.bind (guardM x162 true (M.ret x19)) fun x165 =>
              M.bind (guardM x162 true (optM (nilChk x165))) fun x166 =>
              M.bind (guardM x162 true (optM (fieldA 16 x166))) fun x167 =>
              M.bind (guardM x162 true (rdM (ld1 x167))) fun x168 =>
              M.bind (guardM x162 true (F.granarylaw21_sameInts x164 x168)) fun x169 =>
              getM fun _ =>
              bindO (pickV x162 x169 (Value.bool false)) fun x171 =>
              M.bind (guardM x171 true (optM (fieldA 2 x143))) fun x172 =>
              M.bind (guardM x171 true (rdM (ld1 x172))) fun x173 =>
              M.bind (guardM x171 true (M.ret a1)) fun x174 =>
              M.bind (guardM x171 true (M.ret x46)) fun x175 =>
              M.bind (guardM x171 true (M.ret x19)) fun x176 =>
              M.bind (guardM x171 true (optM (nilChk x176))) fun x177 =>
              M.bind (guardM x171 true (optM (fieldA 16 x177))) fun x178 =>
              M.bind (guardM x171 true (rdM (ld1 x178))) fun x179 =>
              M.bind (guardM x171 true (F.granarylaw21_whole x174 x175 x179)) fun x180 =>
              getM fun W181 =>
              M.bind (guardM x171 true (F.granarylaw21_samePairs x173 x180)) fun x182 =>
              getM fun _ =>
              bindO (pickV x171 x182 (Value.bool false)) fun x184 =>
              reqM (x171 = Value.bool true → ld1 x172 W181 = some x173) <|
              M.ret x184) else
            M.fail) (fun r139 => M.ret r139)))))
def F.granarylaw21_ExportWhole.plan : Plan := (seq leaf (seq (seq leaf (cond (seq leaf leaf) leaf)) (seq leaf (seq (seq leaf (cond (seq leaf leaf) leaf)) (seq leaf (seq leaf (seq (seq leaf (cond (seq leaf leaf) leaf)) (seq (seq leaf (cond (seq leaf leaf) leaf)) (seq leaf (seq leaf (seq (body (loop [] [8, 16, 85, 86, 87, 88, 89, 90, 91, 92, 93, 94, 95, 96, 97, 98, 99, 100, 101, 102, 103, 104, 105, 106, 107, 108, 109, 110, 111, 112, 113, 114, 115, 116, 117, 118, 119, 120, 121, 122, 123, 124, 125, 126, 127, 128, 129, 130, 131, 132, 133, 134, 135, 136, 137, 138, 139, 140, 141, 142, 143, 144, 145, 146, 147, 148, 149, 150, 151, 152, 153, 154, 155, 156, 157, 158, 159, 160, 161, 162, 163, 164, 165, 166, 167, 168, 169, 170] [0] (seq (seq leaf (cond leaf leaf)) (body (fork [] [89, 90, 91, 92, 93, 94, 95, 96, 97, 98, 99, 100, 101, 102, 103, 104, 105, 106, 107, 108, 109] [] (seq leaf (cond (seq leaf leaf) leaf)) (seq (seq leaf (cond (seq leaf leaf) leaf)) (seq leaf (fork [] [144, 145, 146, 147, 148, 149, 150, 151, 152, 153, 154, 155, 156, 157] [] (seq leaf (cond leaf leaf)) (seq leaf (seq leaf (cond (seq leaf leaf) leaf))))))))))) (seq leaf (seq leaf leaf)))))))))))))
theorem F.granarylaw21_ExportWhole.lift : LiftOk Try.prog 4 (ap4 F.granarylaw21_ExportWhole) :=
  lift4 (g := evFn Try.prog (tcons 6 (ap1 F.granarylaw21_num) (tcons 7 (ap1 F.ring_Check) (tcons 8 (ap1 F.granarylaw21_refused) (tcons 9 (ap1 F.export_New) (tcons 10 (ap1 F.granarylaw21_cluster) (tcons 11 (ap2 F.export_Export_Begin) (tcons 14 (ap1 F.granarylaw21_parts) (tcons 15 (ap1 F.export_Export_Busy) (tcons 16 (ap1 F.export_Export_Report) (tcons 17 (ap3 F.granarylaw21_talk_hear) (tcons 18 (ap4 F.granarylaw21_asksOwner) (tcons 19 (ap4 F.granarylaw21_talk_act) (tcons 20 (ap2 F.granarylaw21_sameInts) (tcons 21 (ap2 F.granarylaw21_samePairs) (tcons 22 (ap3 F.granarylaw21_whole) tnil))))))))))))))) tnil 4 Try.f4 F.granarylaw21_ExportWhole.plan) (evFn_sound (tcons_ok F.granarylaw21_num.lift (tcons_ok F.ring_Check.lift (tcons_ok F.granarylaw21_refused.lift (tcons_ok F.export_New.lift (tcons_ok F.granarylaw21_cluster.lift (tcons_ok F.export_Export_Begin.lift (tcons_ok F.granarylaw21_parts.lift (tcons_ok F.export_Export_Busy.lift (tcons_ok F.export_Export_Report.lift (tcons_ok F.granarylaw21_talk_hear.lift (tcons_ok F.granarylaw21_asksOwner.lift (tcons_ok F.granarylaw21_talk_act.lift (tcons_ok F.granarylaw21_sameInts.lift (tcons_ok F.granarylaw21_samePairs.lift (tcons_ok F.granarylaw21_whole.lift tnil_ok))))))))))))))) tnil_ok Try.func4 (by kernel_rfl)) (fun x0 x1 x2 x3 => by kernel_rfl)

end Go.Proofs.Ytiggkhmopnhfaaa
