/-
  THE FUNCTIONAL FORMS of the functions of this seat's translation, and that each function comes to its form: printed by a program of the prover's own (lift.py).
-/
import Derived.Test.YthlpfhjcdedhgaaDoorG0
namespace Go.Proofs.YthlpfhjcdedhgaaDoor
open Go.Lift Go.Lift.Plan
/-- granary/paper.unhex -/
noncomputable def F.paper_unhex (a0 a1 : Value) : M Value :=
  bindO (lenS a0) fun x1 =>
  bindO (binV BinOp.mul (Value.int IntKind.i64 2) a1) fun x2 =>
  bindO (binV BinOp.neq x1 x2) fun x3 =>
  condM x3 (
    M.ret (Value.tuple #[(Value.string (ByteArray.mk #[])), (Value.bool false)])) (
    M.bind (F.digest_Unhex a0) fun x4 =>
    bindO (extV 0 x4) fun x5 =>
    bindO (extV 1 x4) fun x6 =>
    bindO (binV BinOp.eql x6 (Value.int IntKind.i64 0)) fun x7 =>
    M.ret (Value.tuple #[x5, x7]))
def F.paper_unhex.plan : Plan := (seq leaf (seq (seq leaf (cond (seq leaf leaf) leaf)) (seq leaf (seq leaf leaf))))
theorem F.paper_unhex.lift : LiftOk Tryd.prog 74 (ap2 F.paper_unhex) :=
  lift2 (g := evFn Tryd.prog (tcons 94 (ap1 F.digest_Unhex) tnil) tnil 74 Tryd.f74 F.paper_unhex.plan) (evFn_sound (tcons_ok F.digest_Unhex.lift tnil_ok) tnil_ok Tryd.func74 (by kernel_rfl)) (fun x0 x1 => by kernel_rfl)

/-- granary/paper.sumOf -/
noncomputable def F.paper_sumOf (a0 : Value) : M Value :=
  M.bind (F.paper_unhex a0 (Value.int IntKind.i64 4)) fun x1 =>
  bindO (extV 0 x1) fun x2 =>
  bindO (extV 1 x1) fun x3 =>
  M.bind (sbM 5 x2) fun x4 =>
  bindO (lenL x4) fun x5 =>
  M.bind (loopM (fun l6 =>
    bindO (binV BinOp.lss (getL l6 1) x5) fun x7 =>
    condM x7 (
      bindO (idxA 1 x4 (getL l6 1)) fun x8 =>
      M.bind (rdM (ld1 x8)) fun x9 =>
      bindO (shV BinOp.shl (getL l6 0) (Value.int IntKind.u64 8)) fun x10 =>
      bindO (cvtI IntKind.i64 x9) fun x11 =>
      bindO (binV BinOp.or x10 x11) fun x12 =>
      bindO (binV BinOp.add (getL l6 1) (Value.int IntKind.i64 1)) fun x13 =>
      M.ret (Out.norm [x12, x13])) (
      M.ret (Out.exit 0 [(getL l6 0), (getL l6 1)]))) [(Value.int IntKind.i64 0), (Value.int IntKind.i64 0)]) fun o15 =>
  outK o15 (fun _ => M.fail) (fun k16 l14 =>
    bif Nat.beq k16 0 then (
      M.ret (Value.tuple #[(getL l14 0), x3])) else
    M.fail) (fun r17 => M.ret r17)
def F.paper_sumOf.plan : Plan := (seq leaf (seq leaf (seq leaf (seq (seq leaf (body (loop [6, 17] [6, 8, 17, 18, 19, 20, 21, 22, 23, 24, 25, 26] [0] (seq leaf (seq (cond leaf leaf) (seq (body (seq leaf leaf)) leaf)))))) (seq leaf leaf)))))
theorem F.paper_sumOf.lift : LiftOk Tryd.prog 61 (ap1 F.paper_sumOf) :=
  lift1 (g := evFn Tryd.prog (tcons 74 (ap2 F.paper_unhex) tnil) tnil 61 Tryd.f61 F.paper_sumOf.plan) (evFn_sound (tcons_ok F.paper_unhex.lift tnil_ok) tnil_ok Tryd.func61 (by kernel_rfl)) (fun x0 => by kernel_rfl)

/-- granary/paper.note -/
noncomputable def F.paper_note (a0 : Value) : M Value :=
  M.bind (newM 23 #[(Value.int IntKind.i64 0), (Value.int IntKind.i64 0), (Value.int IntKind.i64 0), (Value.int IntKind.i64 0)]) fun x1 =>
  M.bind (F.strings_Split a0 (Value.string (ByteArray.mk #[32]))) fun x2 =>
  bindO (lenL x2) fun x3 =>
  bindO (binV BinOp.neq x3 (Value.int IntKind.i64 5)) fun x4 =>
  condM x4 (
    bindO (buildV #[(Value.int IntKind.i64 0), (Value.int IntKind.i64 0), (Value.int IntKind.i64 0), (Value.int IntKind.i64 0)] []) fun x5 =>
    M.bind (stM 4 x1 x5) fun _ =>
    M.bind (rdM (ldA 4 x1)) fun x7 =>
    M.ret (Value.tuple #[x7, (Value.bool false)])) (
    M.bind (newM 23 #[(Value.int IntKind.i64 0), (Value.int IntKind.i64 0), (Value.int IntKind.i64 0), (Value.int IntKind.i64 0)]) fun x8 =>
    M.bind (newM 101 #[(Value.bool false), (Value.bool false), (Value.bool false), (Value.bool false), (Value.bool false)]) fun x9 =>
    bindO (idxA 1 x2 (Value.int IntKind.i64 0)) fun x10 =>
    M.bind (rdM (ld1 x10)) fun x11 =>
    M.bind (F.paper_number x11) fun x12 =>
    bindO (extV 0 x12) fun x13 =>
    bindO (extV 1 x12) fun x14 =>
    bindO (fieldA 0 x8) fun x15 =>
    M.bind (stM 1 x15 x13) fun _ =>
    bindO (idxR 5 1 x9 (Value.int IntKind.i64 0)) fun x17 =>
    M.bind (stM 1 x17 x14) fun _ =>
    bindO (idxA 1 x2 (Value.int IntKind.i64 1)) fun x19 =>
    M.bind (rdM (ld1 x19)) fun x20 =>
    M.bind (F.paper_number x20) fun x21 =>
    bindO (extV 0 x21) fun x22 =>
    bindO (extV 1 x21) fun x23 =>
    bindO (fieldA 1 x8) fun x24 =>
    M.bind (stM 1 x24 x22) fun _ =>
    bindO (idxR 5 1 x9 (Value.int IntKind.i64 1)) fun x26 =>
    M.bind (stM 1 x26 x23) fun _ =>
    bindO (idxA 1 x2 (Value.int IntKind.i64 2)) fun x28 =>
    M.bind (rdM (ld1 x28)) fun x29 =>
    M.bind (F.paper_number x29) fun x30 =>
    bindO (extV 0 x30) fun x31 =>
    bindO (extV 1 x30) fun x32 =>
    bindO (fieldA 2 x8) fun x33 =>
    M.bind (stM 1 x33 x31) fun _ =>
    bindO (idxR 5 1 x9 (Value.int IntKind.i64 2)) fun x35 =>
    M.bind (stM 1 x35 x32) fun _ =>
    bindO (idxA 1 x2 (Value.int IntKind.i64 3)) fun x37 =>
    M.bind (rdM (ld1 x37)) fun x38 =>
    M.bind (F.paper_sumOf x38) fun x39 =>
    bindO (extV 0 x39) fun x40 =>
    bindO (extV 1 x39) fun x41 =>
    bindO (fieldA 3 x8) fun x42 =>
    M.bind (stM 1 x42 x40) fun _ =>
    bindO (idxR 5 1 x9 (Value.int IntKind.i64 3)) fun x44 =>
    M.bind (stM 1 x44 x41) fun _ =>
    bindO (idxA 1 x2 (Value.int IntKind.i64 4)) fun x46 =>
    M.bind (rdM (ld1 x46)) fun x47 =>
    M.bind (F.paper_sumOf x47) fun x48 =>
    bindO (extV 0 x48) fun _ =>
    bindO (extV 1 x48) fun x50 =>
    bindO (idxR 5 1 x9 (Value.int IntKind.i64 4)) fun x51 =>
    M.bind (stM 1 x51 x50) fun _ =>
    M.bind (rdM (ldA 5 x9)) fun x53 =>
    bindO (buildV #[(Value.bool false), (Value.bool false), (Value.bool false), (Value.bool false), (Value.bool false)] [(0, 1, (Value.bool true)), (1, 1, (Value.bool true)), (2, 1, (Value.bool true)), (3, 1, (Value.bool true)), (4, 1, (Value.bool true))]) fun x54 =>
    bindO (neV (EqSh.offs [(EqK.bool, 0), (EqK.bool, 1), (EqK.bool, 2), (EqK.bool, 3), (EqK.bool, 4)]) x53 x54) fun x55 =>
    condM x55 (
      bindO (buildV #[(Value.int IntKind.i64 0), (Value.int IntKind.i64 0), (Value.int IntKind.i64 0), (Value.int IntKind.i64 0)] []) fun x56 =>
      M.bind (stM 4 x1 x56) fun _ =>
      M.bind (rdM (ldA 4 x1)) fun x58 =>
      M.ret (Value.tuple #[x58, (Value.bool false)])) (
      M.bind (rdM (ldA 4 x8)) fun x59 =>
      M.bind (F.paper_PrintNote x59) fun x60 =>
      bindO (extV 0 x60) fun x61 =>
      bindO (extV 1 x60) fun x62 =>
      M.bind (rdM (ldA 4 x8)) fun x63 =>
      bindO (binV BinOp.eql x62 (Value.int IntKind.i64 0)) fun x64 =>
      M.bind (guardM x64 true (M.ret x61)) fun x65 =>
      M.bind (guardM x64 true (M.ret a0)) fun x66 =>
      M.bind (guardM x64 true (optM (binV BinOp.add x66 (Value.string (ByteArray.mk #[10]))))) fun x67 =>
      M.bind (guardM x64 true (optM (binV BinOp.eql x65 x67))) fun x68 =>
      bindO (pickV x64 x68 (Value.bool false)) fun x69 =>
      M.bind (stM 4 x1 x63) fun _ =>
      M.bind (rdM (ldA 4 x1)) fun x71 =>
      M.ret (Value.tuple #[x71, x69])))
def F.paper_note.plan : Plan := (seq leaf (seq leaf (seq (seq leaf (cond (seq leaf leaf) leaf)) (seq leaf (seq leaf (seq leaf (seq leaf (seq leaf (seq leaf (seq leaf (seq (seq leaf (cond (seq leaf leaf) leaf)) (seq leaf (seq leaf leaf)))))))))))))
theorem F.paper_note.lift : LiftOk Tryd.prog 38 (ap1 F.paper_note) :=
  lift1 (g := evFn Tryd.prog (tcons 6 (ap1 F.paper_PrintNote) (tcons 59 (ap2 F.strings_Split) (tcons 60 (ap1 F.paper_number) (tcons 61 (ap1 F.paper_sumOf) tnil)))) tnil 38 Tryd.f38 F.paper_note.plan) (evFn_sound (tcons_ok F.paper_PrintNote.lift (tcons_ok F.strings_Split.lift (tcons_ok F.paper_number.lift (tcons_ok F.paper_sumOf.lift tnil_ok)))) tnil_ok Tryd.func38 (by kernel_rfl)) (fun x0 => by kernel_rfl)

/-- granary/paper.ParseNotes -/
noncomputable def F.paper_ParseNotes (a0 : Value) : M Value :=
  M.bind (loopM (fun l1 =>
    bindO (sliceS a0 (some (getL l1 1)) none) fun x2 =>
    M.bind (F.strings_Cut x2 (Value.string (ByteArray.mk #[10]))) fun x3 =>
    bindO (extV 0 x3) fun x4 =>
    bindO (extV 1 x3) fun _ =>
    bindO (extV 2 x3) fun x6 =>
    M.bind (F.paper_note x4) fun x7 =>
    bindO (extV 0 x7) fun x8 =>
    bindO (extV 1 x7) fun x9 =>
    M.bind (newM 23 #[(Value.int IntKind.i64 0), (Value.int IntKind.i64 0), (Value.int IntKind.i64 0), (Value.int IntKind.i64 0)]) fun x10 =>
    M.bind (stM 4 x10 x8) fun _ =>
    bindO (notV x6) fun x12 =>
    M.bind (guardM x12 false (M.ret x9)) fun x13 =>
    M.bind (guardM x12 false (optM (notV x13))) fun x14 =>
    bindO (pickV x12 (Value.bool true) x14) fun x15 =>
    condM x15 (
      M.ret (Out.ret (Value.tuple #[(getL l1 0), (getL l1 1)]))) (
      M.bind (rdM (ldA 4 x10)) fun x16 =>
      M.bind (bslM 23 1 (Builtin.zeroCells #[(Value.int IntKind.i64 0), (Value.int IntKind.i64 0), (Value.int IntKind.i64 0), (Value.int IntKind.i64 0)] 1) [(0, 4, x16)]) fun x17 =>
      M.bind (appM 23 4 32 #[(Value.int IntKind.i64 0), (Value.int IntKind.i64 0), (Value.int IntKind.i64 0), (Value.int IntKind.i64 0)] (getL l1 0) x17) fun x18 =>
      bindO (lenS x4) fun x19 =>
      bindO (binV BinOp.add x19 (Value.int IntKind.i64 1)) fun x20 =>
      bindO (binV BinOp.add (getL l1 1) x20) fun x21 =>
      M.ret (Out.norm [x18, x21]))) [(Value.slice none 0 0), (Value.int IntKind.i64 0)]) fun o23 =>
  outK o23 (fun _ => M.fail) (fun _ _ =>
    M.fail) (fun r25 => M.ret r25)
def F.paper_ParseNotes.plan : Plan := (seq leaf (seq leaf (seq leaf (body (loop [4, 5] [2, 3, 4, 5, 6, 7, 8, 9, 10, 11, 12, 13, 14, 15, 16, 17, 18, 19, 20, 21, 22, 23, 24, 25, 26, 27, 28, 29, 30, 31, 32, 33, 34, 35, 36, 37, 38, 39, 40] [] (body (seq leaf (seq leaf (seq (seq leaf (cond (seq leaf leaf) leaf)) (seq leaf leaf))))))))))
theorem F.paper_ParseNotes.lift : LiftOk Tryd.prog 15 (ap1 F.paper_ParseNotes) :=
  lift1 (g := evFn Tryd.prog (tcons 37 (ap2 F.strings_Cut) (tcons 38 (ap1 F.paper_note) tnil)) tnil 15 Tryd.f15 F.paper_ParseNotes.plan) (evFn_sound (tcons_ok F.strings_Cut.lift (tcons_ok F.paper_note.lift tnil_ok)) tnil_ok Tryd.func15 (by kernel_rfl)) (fun x0 => by kernel_rfl)

/-- (*granary/granaryref4.Reader).number -/
noncomputable def F.granaryref4_Reader_number (a0 : Value) : M Value :=
  bindO (nilChk a0) fun x1 =>
  bindO (fieldA 1 x1) fun x2 =>
  M.bind (rdM (ld1 x2)) fun x3 =>
  M.bind (loopM (fun l4 =>
    drewM <|
    bindO (nilChk a0) fun x5 =>
    bindO (fieldA 1 x5) fun x6 =>
    M.bind (rdM (ld1 x6)) fun x7 =>
    bindO (nilChk a0) fun x8 =>
    bindO (fieldA 0 x8) fun x9 =>
    M.bind (rdM (ld1 x9)) fun x10 =>
    bindO (lenS x10) fun x11 =>
    bindO (binV BinOp.lss x7 x11) fun x12 =>
    M.bind (guardM x12 true (M.ret a0)) fun x13 =>
    M.bind (guardM x12 true (optM (nilChk x13))) fun x14 =>
    M.bind (guardM x12 true (optM (fieldA 1 x14))) fun x15 =>
    M.bind (guardM x12 true (rdM (ld1 x15))) fun x16 =>
    M.bind (guardM x12 true (M.ret x3)) fun x17 =>
    M.bind (guardM x12 true (optM (binV BinOp.sub x16 x17))) fun x18 =>
    M.bind (guardM x12 true (optM (binV BinOp.lss x18 (Value.int IntKind.i64 17)))) fun x19 =>
    bindO (pickV x12 x19 (Value.bool false)) fun x20 =>
    M.bind (guardM x20 true (M.ret a0)) fun x21 =>
    M.bind (guardM x20 true (optM (nilChk x21))) fun x22 =>
    M.bind (guardM x20 true (optM (fieldA 0 x22))) fun x23 =>
    M.bind (guardM x20 true (rdM (ld1 x23))) fun x24 =>
    M.bind (guardM x20 true (M.ret a0)) fun x25 =>
    M.bind (guardM x20 true (optM (nilChk x25))) fun x26 =>
    M.bind (guardM x20 true (optM (fieldA 1 x26))) fun x27 =>
    M.bind (guardM x20 true (rdM (ld1 x27))) fun x28 =>
    M.bind (guardM x20 true (optM (idxS x24 x28))) fun x29 =>
    M.bind (guardM x20 true (optM (binV BinOp.geq x29 (Value.int IntKind.u8 48)))) fun x30 =>
    bindO (pickV x20 x30 (Value.bool false)) fun x31 =>
    M.bind (guardM x31 true (M.ret a0)) fun x32 =>
    M.bind (guardM x31 true (optM (nilChk x32))) fun x33 =>
    M.bind (guardM x31 true (optM (fieldA 0 x33))) fun x34 =>
    M.bind (guardM x31 true (rdM (ld1 x34))) fun x35 =>
    M.bind (guardM x31 true (M.ret a0)) fun x36 =>
    M.bind (guardM x31 true (optM (nilChk x36))) fun x37 =>
    M.bind (guardM x31 true (optM (fieldA 1 x37))) fun x38 =>
    M.bind (guardM x31 true (rdM (ld1 x38))) fun x39 =>
    M.bind (guardM x31 true (optM (idxS x35 x39))) fun x40 =>
    M.bind (guardM x31 true (optM (binV BinOp.leq x40 (Value.int IntKind.u8 57)))) fun x41 =>
    bindO (pickV x31 x41 (Value.bool false)) fun x42 =>
    condM x42 (
      drewM <|
      bindO (binV BinOp.mul (Value.int IntKind.i64 10) (getL l4 0)) fun x43 =>
      bindO (nilChk a0) fun x44 =>
      bindO (fieldA 0 x44) fun x45 =>
      M.bind (rdM (ld1 x45)) fun x46 =>
      bindO (nilChk a0) fun x47 =>
      bindO (fieldA 1 x47) fun x48 =>
      M.bind (rdM (ld1 x48)) fun x49 =>
      bindO (idxS x46 x49) fun x50 =>
      bindO (binV BinOp.sub x50 (Value.int IntKind.u8 48)) fun x51 =>
      bindO (cvtI IntKind.i64 x51) fun x52 =>
      bindO (binV BinOp.add x43 x52) fun x53 =>
      bindO (nilChk a0) fun x54 =>
      bindO (fieldA 1 x54) fun x55 =>
      M.bind (rdM (ld1 x55)) fun x56 =>
      bindO (binV BinOp.add x56 (Value.int IntKind.i64 1)) fun x57 =>
      bindO (nilChk a0) fun x58 =>
      bindO (fieldA 1 x58) fun x59 =>
      M.bind (stM 1 x59 x57) fun _ =>
      M.ret (Out.norm [x53])) (
      M.ret (Out.exit 0 [(getL l4 0)]))) [(Value.int IntKind.i64 0)]) fun o62 =>
  outK o62 (fun _ => M.fail) (fun k63 l61 =>
    bif Nat.beq k63 0 then (
      bindO (nilChk a0) fun x65 =>
      bindO (fieldA 1 x65) fun x66 =>
      M.bind (rdM (ld1 x66)) fun x67 =>
      bindO (binV BinOp.sub x67 x3) fun x68 =>
      bindO (binV BinOp.lss x68 (Value.int IntKind.i64 1)) fun x69 =>
      M.bind (guardM x69 false (M.ret x68)) fun x70 =>
      M.bind (guardM x69 false (optM (binV BinOp.gtr x70 (Value.int IntKind.i64 16)))) fun x71 =>
      bindO (pickV x69 (Value.bool true) x71) fun x72 =>
      M.bind (guardM x72 false (M.ret x68)) fun x73 =>
      M.bind (guardM x72 false (optM (binV BinOp.gtr x73 (Value.int IntKind.i64 1)))) fun x74 =>
      M.bind (guardM x72 false (M.ret x74)) fun x75 =>
      M.bind (guardM x75 true (M.ret a0)) fun x76 =>
      M.bind (guardM x75 true (optM (nilChk x76))) fun x77 =>
      M.bind (guardM x75 true (optM (fieldA 0 x77))) fun x78 =>
      M.bind (guardM x75 true (rdM (ld1 x78))) fun x79 =>
      M.bind (guardM x75 true (M.ret x3)) fun x80 =>
      M.bind (guardM x75 true (optM (idxS x79 x80))) fun x81 =>
      M.bind (guardM x75 true (optM (binV BinOp.eql x81 (Value.int IntKind.u8 48)))) fun x82 =>
      M.bind (guardM x72 false (optM (pickV x75 x82 (Value.bool false)))) fun x83 =>
      bindO (pickV x72 (Value.bool true) x83) fun x84 =>
      condM x84 (
        bindO (nilChk a0) fun x85 =>
        bindO (fieldA 2 x85) fun x86 =>
        M.bind (stM 1 x86 (Value.bool true)) fun _ =>
        M.ret (Value.int IntKind.i64 0)) (
        M.ret (getL l61 0))) else
    M.fail) (fun r64 => M.ret r64)
def F.granaryref4_Reader_number.plan : Plan := (seq leaf (seq leaf (seq leaf (seq (body (loop [4] [4, 10, 11, 12, 13, 14, 15, 16, 17, 18, 19, 20, 21, 22, 23, 24, 25, 26, 27, 28, 29, 30, 31, 32, 33, 34, 35, 36, 37, 38, 39, 40, 41, 42, 43, 44, 45, 46, 47, 48, 49, 50, 51, 52, 53, 54, 55, 56, 57, 58, 59, 60, 61, 62, 63, 64, 65, 66, 67, 68, 69, 70, 71, 72, 73] [0] (seq (seq leaf (cond leaf leaf)) (body (seq leaf leaf))))) (seq leaf (seq (seq leaf (cond (seq leaf (seq leaf leaf)) leaf)) (seq leaf leaf)))))))
theorem F.granaryref4_Reader_number.lift : LiftOk Tryd.prog 56 (ap1 F.granaryref4_Reader_number) :=
  lift1 (g := evFn Tryd.prog tnil tnil 56 Tryd.f56 F.granaryref4_Reader_number.plan) (evFn_sound tnil_ok tnil_ok Tryd.func56 (by kernel_rfl)) (fun x0 => by kernel_rfl)

/-- (*granary/granaryref4.Reader).lit -/
noncomputable def F.granaryref4_Reader_lit (a0 a1 : Value) : M Value :=
  drewM <|
  bindO (nilChk a0) fun x1 =>
  bindO (fieldA 2 x1) fun x2 =>
  M.bind (rdM (ld1 x2)) fun x3 =>
  M.bind (guardM x3 false (M.ret a0)) fun x4 =>
  M.bind (guardM x3 false (optM (nilChk x4))) fun x5 =>
  M.bind (guardM x3 false (optM (fieldA 0 x5))) fun x6 =>
  M.bind (guardM x3 false (rdM (ld1 x6))) fun x7 =>
  M.bind (guardM x3 false (optM (lenS x7))) fun x8 =>
  M.bind (guardM x3 false (M.ret a0)) fun x9 =>
  M.bind (guardM x3 false (optM (nilChk x9))) fun x10 =>
  M.bind (guardM x3 false (optM (fieldA 1 x10))) fun x11 =>
  M.bind (guardM x3 false (rdM (ld1 x11))) fun x12 =>
  M.bind (guardM x3 false (optM (binV BinOp.sub x8 x12))) fun x13 =>
  M.bind (guardM x3 false (M.ret a1)) fun x14 =>
  M.bind (guardM x3 false (optM (lenS x14))) fun x15 =>
  M.bind (guardM x3 false (optM (binV BinOp.lss x13 x15))) fun x16 =>
  bindO (pickV x3 (Value.bool true) x16) fun x17 =>
  M.bind (guardM x17 false (M.ret a0)) fun x18 =>
  M.bind (guardM x17 false (optM (nilChk x18))) fun x19 =>
  M.bind (guardM x17 false (optM (fieldA 0 x19))) fun x20 =>
  M.bind (guardM x17 false (rdM (ld1 x20))) fun x21 =>
  M.bind (guardM x17 false (M.ret a0)) fun x22 =>
  M.bind (guardM x17 false (optM (nilChk x22))) fun x23 =>
  M.bind (guardM x17 false (optM (fieldA 1 x23))) fun x24 =>
  M.bind (guardM x17 false (rdM (ld1 x24))) fun x25 =>
  M.bind (guardM x17 false (M.ret a0)) fun x26 =>
  M.bind (guardM x17 false (optM (nilChk x26))) fun x27 =>
  M.bind (guardM x17 false (optM (fieldA 1 x27))) fun x28 =>
  M.bind (guardM x17 false (rdM (ld1 x28))) fun x29 =>
  M.bind (guardM x17 false (M.ret a1)) fun x30 =>
  M.bind (guardM x17 false (optM (lenS x30))) fun x31 =>
  M.bind (guardM x17 false (optM (binV BinOp.add x29 x31))) fun x32 =>
  M.bind (guardM x17 false (optM (sliceS x21 (some x25) (some x32)))) fun x33 =>
  M.bind (guardM x17 false (M.ret a1)) fun x34 =>
  M.bind (guardM x17 false (optM (binV BinOp.neq x33 x34))) fun x35 =>
  bindO (pickV x17 (Value.bool true) x35) fun x36 =>
  condM x36 (
    bindO (nilChk a0) fun x37 =>
    bindO (fieldA 2 x37) fun x38 =>
    M.bind (stM 1 x38 (Value.bool true)) fun _ =>
    M.ret (Value.tuple #[])) (
    bindO (nilChk a0) fun x40 =>
    bindO (fieldA 1 x40) fun x41 =>
    M.bind (rdM (ld1 x41)) fun x42 =>
    bindO (lenS a1) fun x43 =>
    bindO (binV BinOp.add x42 x43) fun x44 =>
    bindO (nilChk a0) fun x45 =>
    bindO (fieldA 1 x45) fun x46 =>
    M.bind (stM 1 x46 x44) fun _ =>
    M.ret (Value.tuple #[]))
def F.granaryref4_Reader_lit.plan : Plan := (seq (seq leaf (cond (seq leaf leaf) leaf)) leaf)
theorem F.granaryref4_Reader_lit.lift : LiftOk Tryd.prog 55 (ap2 F.granaryref4_Reader_lit) :=
  lift2 (g := evFn Tryd.prog tnil tnil 55 Tryd.f55 F.granaryref4_Reader_lit.plan) (evFn_sound tnil_ok tnil_ok Tryd.func55 (by kernel_rfl)) (fun x0 x1 => by kernel_rfl)

/-- granary/granaryref4.half -/
noncomputable def F.granaryref4_half (a0 : Value) : M Value :=
  M.bind (loopM (fun l1 =>
    bindO (binV BinOp.lss (getL l1 0) (Value.int IntKind.i64 16)) fun x2 =>
    condM x2 (
      bindO (idxS (Value.string (ByteArray.mk #[48, 49, 50, 51, 52, 53, 54, 55, 56, 57, 97, 98, 99, 100, 101, 102])) (getL l1 0)) fun x3 =>
      bindO (binV BinOp.eql x3 a0) fun x4 =>
      condM x4 (
        M.ret (Out.ret (getL l1 0))) (
        bindO (binV BinOp.add (getL l1 0) (Value.int IntKind.i64 1)) fun x5 =>
        M.ret (Out.norm [x5]))) (
      M.ret (Out.exit 0 [(getL l1 0)]))) [(Value.int IntKind.i64 0)]) fun o7 =>
  outK o7 (fun _ => M.fail) (fun k8 _ =>
    bif Nat.beq k8 0 then (
      M.ret (Value.int IntKind.i64 (-1))) else
    M.fail) (fun r9 => M.ret r9)
def F.granaryref4_half.plan : Plan := (seq leaf (seq (seq leaf (body (loop [3] [2, 3, 4, 5, 6, 7, 8, 9, 10, 11, 12] [0] (seq (seq leaf (cond leaf leaf)) (seq (body (seq leaf (cond (seq leaf leaf) leaf))) leaf))))) (seq leaf leaf)))
theorem F.granaryref4_half.lift : LiftOk Tryd.prog 100 (ap1 F.granaryref4_half) :=
  lift1 (g := evFn Tryd.prog tnil tnil 100 Tryd.f100 F.granaryref4_half.plan) (evFn_sound tnil_ok tnil_ok Tryd.func100 (by kernel_rfl)) (fun x0 => by kernel_rfl)

/-- (*granary/granaryref4.Reader).bytes -/
noncomputable def F.granaryref4_Reader_bytes (a0 a1 : Value) : M Value :=
  M.bind (loopM (fun l1 =>
    bindO (binV BinOp.lss (getL l1 1) a1) fun x2 =>
    condM x2 (
      drewM <|
      bindO (nilChk a0) fun x3 =>
      bindO (fieldA 2 x3) fun x4 =>
      M.bind (rdM (ld1 x4)) fun x5 =>
      M.bind (guardM x5 false (M.ret a0)) fun x6 =>
      M.bind (guardM x5 false (optM (nilChk x6))) fun x7 =>
      M.bind (guardM x5 false (optM (fieldA 0 x7))) fun x8 =>
      M.bind (guardM x5 false (rdM (ld1 x8))) fun x9 =>
      M.bind (guardM x5 false (optM (lenS x9))) fun x10 =>
      M.bind (guardM x5 false (M.ret a0)) fun x11 =>
      M.bind (guardM x5 false (optM (nilChk x11))) fun x12 =>
      M.bind (guardM x5 false (optM (fieldA 1 x12))) fun x13 =>
      M.bind (guardM x5 false (rdM (ld1 x13))) fun x14 =>
      M.bind (guardM x5 false (optM (binV BinOp.sub x10 x14))) fun x15 =>
      M.bind (guardM x5 false (optM (binV BinOp.lss x15 (Value.int IntKind.i64 2)))) fun x16 =>
      bindO (pickV x5 (Value.bool true) x16) fun x17 =>
      condM x17 (
        bindO (nilChk a0) fun x18 =>
        bindO (fieldA 2 x18) fun x19 =>
        M.bind (stM 1 x19 (Value.bool true)) fun _ =>
        M.ret (Out.ret (Value.string (ByteArray.mk #[])))) (
        drewM <|
        bindO (nilChk a0) fun x21 =>
        bindO (fieldA 0 x21) fun x22 =>
        M.bind (rdM (ld1 x22)) fun x23 =>
        bindO (nilChk a0) fun x24 =>
        bindO (fieldA 1 x24) fun x25 =>
        M.bind (rdM (ld1 x25)) fun x26 =>
        bindO (idxS x23 x26) fun x27 =>
        M.bind (F.granaryref4_half x27) fun x28 =>
        drewM <|
        bindO (nilChk a0) fun x29 =>
        bindO (fieldA 0 x29) fun x30 =>
        M.bind (rdM (ld1 x30)) fun x31 =>
        bindO (nilChk a0) fun x32 =>
        bindO (fieldA 1 x32) fun x33 =>
        M.bind (rdM (ld1 x33)) fun x34 =>
        bindO (binV BinOp.add x34 (Value.int IntKind.i64 1)) fun x35 =>
        bindO (idxS x31 x35) fun x36 =>
        M.bind (F.granaryref4_half x36) fun x37 =>
        bindO (binV BinOp.lss x28 (Value.int IntKind.i64 0)) fun x38 =>
        M.bind (guardM x38 false (M.ret x37)) fun x39 =>
        M.bind (guardM x38 false (optM (binV BinOp.lss x39 (Value.int IntKind.i64 0)))) fun x40 =>
        bindO (pickV x38 (Value.bool true) x40) fun x41 =>
        condM x41 (
          bindO (nilChk a0) fun x42 =>
          bindO (fieldA 2 x42) fun x43 =>
          M.bind (stM 1 x43 (Value.bool true)) fun _ =>
          M.ret (Out.ret (Value.string (ByteArray.mk #[])))) (
          bindO (binV BinOp.mul (Value.int IntKind.i64 16) x28) fun x45 =>
          bindO (binV BinOp.add x45 x37) fun x46 =>
          bindO (cvtI IntKind.u8 x46) fun x47 =>
          M.bind (bslM 5 1 (Builtin.zeroCells #[(Value.int IntKind.u8 0)] 1) [(0, 1, x47)]) fun x48 =>
          M.bind (appM 5 1 1 #[(Value.int IntKind.u8 0)] (getL l1 0) x48) fun x49 =>
          bindO (nilChk a0) fun x50 =>
          bindO (fieldA 1 x50) fun x51 =>
          M.bind (rdM (ld1 x51)) fun x52 =>
          bindO (binV BinOp.add x52 (Value.int IntKind.i64 2)) fun x53 =>
          bindO (nilChk a0) fun x54 =>
          bindO (fieldA 1 x54) fun x55 =>
          M.bind (stM 1 x55 x53) fun _ =>
          bindO (binV BinOp.add (getL l1 1) (Value.int IntKind.i64 1)) fun x57 =>
          M.ret (Out.norm [x49, x57])))) (
      M.ret (Out.exit 0 [(getL l1 0), (getL l1 1)]))) [(Value.slice none 0 0), (Value.int IntKind.i64 0)]) fun o59 =>
  outK o59 (fun _ => M.fail) (fun k60 l58 =>
    bif Nat.beq k60 0 then (
      M.bind (rdM (bsR (getL l58 0))) fun x62 =>
      M.ret x62) else
    M.fail) (fun r61 => M.ret r61)
def F.granaryref4_Reader_bytes.plan : Plan := (seq leaf (seq leaf (seq (seq leaf (body (loop [5, 6] [4, 5, 6, 7, 8, 9, 10, 11, 12, 13, 14, 15, 16, 17, 18, 19, 20, 21, 22, 23, 24, 25, 26, 27, 28, 29, 30, 31, 32, 33, 34, 35, 36, 37, 38, 39, 40, 41, 42, 43, 44, 45, 46, 47, 48, 49, 50, 51, 52, 53, 54, 55, 56, 57, 58, 59, 60, 61, 62, 63, 64, 65, 66, 67, 68, 69, 70, 71, 72, 73, 74, 75, 76, 77, 78, 79] [0] (seq (seq leaf (cond leaf leaf)) (seq (body (seq (seq leaf (cond (seq leaf (seq leaf leaf)) leaf)) (seq leaf (seq leaf (seq (seq leaf (cond (seq leaf (seq leaf leaf)) leaf)) (seq leaf leaf)))))) leaf))))) (seq leaf leaf))))
theorem F.granaryref4_Reader_bytes.lift : LiftOk Tryd.prog 84 (ap2 F.granaryref4_Reader_bytes) :=
  lift2 (g := evFn Tryd.prog (tcons 100 (ap1 F.granaryref4_half) tnil) tnil 84 Tryd.f84 F.granaryref4_Reader_bytes.plan) (evFn_sound (tcons_ok F.granaryref4_half.lift tnil_ok) tnil_ok Tryd.func84 (by kernel_rfl)) (fun x0 x1 => by kernel_rfl)

/-- (*granary/granaryref4.Reader).sum -/
noncomputable def F.granaryref4_Reader_sum (a0 : Value) : M Value :=
  M.bind (F.granaryref4_Reader_bytes a0 (Value.int IntKind.i64 4)) fun x1 =>
  M.bind (loopM (fun l2 =>
    bindO (lenS x1) fun x3 =>
    bindO (binV BinOp.lss (getL l2 1) x3) fun x4 =>
    condM x4 (
      bindO (binV BinOp.mul (Value.int IntKind.i64 256) (getL l2 0)) fun x5 =>
      bindO (idxS x1 (getL l2 1)) fun x6 =>
      bindO (cvtI IntKind.i64 x6) fun x7 =>
      bindO (binV BinOp.add x5 x7) fun x8 =>
      bindO (binV BinOp.add (getL l2 1) (Value.int IntKind.i64 1)) fun x9 =>
      M.ret (Out.norm [x8, x9])) (
      M.ret (Out.exit 0 [(getL l2 0), (getL l2 1)]))) [(Value.int IntKind.i64 0), (Value.int IntKind.i64 0)]) fun o11 =>
  outK o11 (fun _ => M.fail) (fun k12 l10 =>
    bif Nat.beq k12 0 then (
      M.ret (getL l10 0)) else
    M.fail) (fun r13 => M.ret r13)
def F.granaryref4_Reader_sum.plan : Plan := (seq leaf (seq leaf (seq leaf (seq (seq leaf (body (loop [4, 5] [4, 5, 8, 9, 10, 11, 12, 13, 14, 15, 16, 17, 18, 19, 20] [0] (seq (seq leaf (cond leaf leaf)) (seq (body leaf) leaf))))) (seq leaf leaf)))))
theorem F.granaryref4_Reader_sum.lift : LiftOk Tryd.prog 68 (ap1 F.granaryref4_Reader_sum) :=
  lift1 (g := evFn Tryd.prog (tcons 84 (ap2 F.granaryref4_Reader_bytes) tnil) tnil 68 Tryd.f68 F.granaryref4_Reader_sum.plan) (evFn_sound (tcons_ok F.granaryref4_Reader_bytes.lift tnil_ok) tnil_ok Tryd.func68 (by kernel_rfl)) (fun x0 => by kernel_rfl)

/-- (*granary/granaryref4.Reader).note -/
noncomputable def F.granaryref4_Reader_note (a0 : Value) : M Value :=
  M.bind (newM 23 #[(Value.int IntKind.i64 0), (Value.int IntKind.i64 0), (Value.int IntKind.i64 0), (Value.int IntKind.i64 0)]) fun x1 =>
  bindO (nilChk a0) fun x2 =>
  bindO (fieldA 1 x2) fun x3 =>
  M.bind (rdM (ld1 x3)) fun x4 =>
  bindO (buildV #[(Value.int IntKind.i64 0), (Value.int IntKind.i64 0), (Value.int IntKind.i64 0), (Value.int IntKind.i64 0)] []) fun x5 =>
  M.bind (newM 23 #[(Value.int IntKind.i64 0), (Value.int IntKind.i64 0), (Value.int IntKind.i64 0), (Value.int IntKind.i64 0)]) fun x6 =>
  M.bind (stM 4 x6 x5) fun _ =>
  M.bind (F.granaryref4_Reader_number a0) fun x8 =>
  bindO (fieldA 0 x6) fun x9 =>
  M.bind (stM 1 x9 x8) fun _ =>
  M.bind (F.granaryref4_Reader_lit a0 (Value.string (ByteArray.mk #[32]))) fun _ =>
  M.bind (F.granaryref4_Reader_number a0) fun x12 =>
  bindO (fieldA 1 x6) fun x13 =>
  M.bind (stM 1 x13 x12) fun _ =>
  M.bind (F.granaryref4_Reader_lit a0 (Value.string (ByteArray.mk #[32]))) fun _ =>
  M.bind (F.granaryref4_Reader_number a0) fun x16 =>
  bindO (fieldA 2 x6) fun x17 =>
  M.bind (stM 1 x17 x16) fun _ =>
  M.bind (F.granaryref4_Reader_lit a0 (Value.string (ByteArray.mk #[32]))) fun _ =>
  M.bind (F.granaryref4_Reader_sum a0) fun x20 =>
  bindO (fieldA 3 x6) fun x21 =>
  M.bind (stM 1 x21 x20) fun _ =>
  bindO (nilChk a0) fun x23 =>
  bindO (fieldA 2 x23) fun x24 =>
  M.bind (rdM (ld1 x24)) fun x25 =>
  condM x25 (
    bindO (buildV #[(Value.int IntKind.i64 0), (Value.int IntKind.i64 0), (Value.int IntKind.i64 0), (Value.int IntKind.i64 0)] []) fun x26 =>
    M.bind (stM 4 x1 x26) fun _ =>
    M.bind (rdM (ldA 4 x1)) fun x28 =>
    M.ret (Value.tuple #[x28, (Value.int IntKind.i64 0)])) (
    M.bind (rdM (ldA 4 x6)) fun x29 =>
    M.bind (F.granaryref4_PrintNote x29) fun x30 =>
    bindO (extV 0 x30) fun x31 =>
    bindO (extV 1 x30) fun x32 =>
    bindO (binV BinOp.neq x32 (Value.int IntKind.i64 0)) fun x33 =>
    M.bind (guardM x33 false (M.ret a0)) fun x34 =>
    M.bind (guardM x33 false (optM (nilChk x34))) fun x35 =>
    M.bind (guardM x33 false (optM (fieldA 0 x35))) fun x36 =>
    M.bind (guardM x33 false (rdM (ld1 x36))) fun x37 =>
    M.bind (guardM x33 false (optM (lenS x37))) fun x38 =>
    M.bind (guardM x33 false (M.ret x4)) fun x39 =>
    M.bind (guardM x33 false (optM (binV BinOp.sub x38 x39))) fun x40 =>
    M.bind (guardM x33 false (M.ret x31)) fun x41 =>
    M.bind (guardM x33 false (optM (lenS x41))) fun x42 =>
    M.bind (guardM x33 false (optM (binV BinOp.lss x40 x42))) fun x43 =>
    bindO (pickV x33 (Value.bool true) x43) fun x44 =>
    M.bind (guardM x44 false (M.ret a0)) fun x45 =>
    M.bind (guardM x44 false (optM (nilChk x45))) fun x46 =>
    M.bind (guardM x44 false (optM (fieldA 0 x46))) fun x47 =>
    M.bind (guardM x44 false (rdM (ld1 x47))) fun x48 =>
    M.bind (guardM x44 false (M.ret x4)) fun x49 =>
    M.bind (guardM x44 false (M.ret x4)) fun x50 =>
    M.bind (guardM x44 false (M.ret x31)) fun x51 =>
    M.bind (guardM x44 false (optM (lenS x51))) fun x52 =>
    M.bind (guardM x44 false (optM (binV BinOp.add x50 x52))) fun x53 =>
    M.bind (guardM x44 false (optM (sliceS x48 (some x49) (some x53)))) fun x54 =>
    M.bind (guardM x44 false (M.ret x31)) fun x55 =>
    M.bind (guardM x44 false (optM (binV BinOp.neq x54 x55))) fun x56 =>
    bindO (pickV x44 (Value.bool true) x56) fun x57 =>
    condM x57 (
      bindO (buildV #[(Value.int IntKind.i64 0), (Value.int IntKind.i64 0), (Value.int IntKind.i64 0), (Value.int IntKind.i64 0)] []) fun x58 =>
      M.bind (stM 4 x1 x58) fun _ =>
      M.bind (rdM (ldA 4 x1)) fun x60 =>
      M.ret (Value.tuple #[x60, (Value.int IntKind.i64 0)])) (
      M.bind (rdM (ldA 4 x6)) fun x61 =>
      bindO (lenS x31) fun x62 =>
      M.bind (stM 4 x1 x61) fun _ =>
      M.bind (rdM (ldA 4 x1)) fun x64 =>
      M.ret (Value.tuple #[x64, x62])))
def F.granaryref4_Reader_note.plan : Plan := (seq leaf (seq leaf (seq leaf (seq leaf (seq leaf (seq leaf (seq leaf (seq leaf (seq leaf (seq leaf (seq (seq leaf (cond (seq leaf leaf) leaf)) (seq leaf (seq (seq leaf (cond (seq leaf leaf) leaf)) (seq leaf leaf))))))))))))))
theorem F.granaryref4_Reader_note.lift : LiftOk Tryd.prog 47 (ap1 F.granaryref4_Reader_note) :=
  lift1 (g := evFn Tryd.prog (tcons 7 (ap1 F.granaryref4_PrintNote) (tcons 55 (ap2 F.granaryref4_Reader_lit) (tcons 56 (ap1 F.granaryref4_Reader_number) (tcons 68 (ap1 F.granaryref4_Reader_sum) tnil)))) tnil 47 Tryd.f47 F.granaryref4_Reader_note.plan) (evFn_sound (tcons_ok F.granaryref4_PrintNote.lift (tcons_ok F.granaryref4_Reader_lit.lift (tcons_ok F.granaryref4_Reader_number.lift (tcons_ok F.granaryref4_Reader_sum.lift tnil_ok)))) tnil_ok Tryd.func47 (by kernel_rfl)) (fun x0 => by kernel_rfl)

/-- granary/granaryref4.ParseNotes -/
noncomputable def F.granaryref4_ParseNotes (a0 : Value) : M Value :=
  M.bind (loopM (fun l1 =>
    bindO (lenS a0) fun x2 =>
    bindO (binV BinOp.lss (getL l1 1) x2) fun x3 =>
    condM x3 (
      bindO (buildV #[(Value.string ByteArray.empty), (Value.int IntKind.i64 0), (Value.bool false)] [(0, 1, a0), (1, 1, (getL l1 1))]) fun x4 =>
      M.bind (newM 87 (Value.cells x4)) fun x5 =>
      M.bind (F.granaryref4_Reader_note x5) fun x6 =>
      bindO (extV 0 x6) fun x7 =>
      bindO (extV 1 x6) fun x8 =>
      M.bind (newM 23 #[(Value.int IntKind.i64 0), (Value.int IntKind.i64 0), (Value.int IntKind.i64 0), (Value.int IntKind.i64 0)]) fun x9 =>
      M.bind (stM 4 x9 x7) fun _ =>
      bindO (binV BinOp.eql x8 (Value.int IntKind.i64 0)) fun x11 =>
      condM x11 (
        M.ret (Out.ret (Value.tuple #[(getL l1 0), (getL l1 1)]))) (
        M.bind (rdM (ldA 4 x9)) fun x12 =>
        M.bind (bslM 23 1 (Builtin.zeroCells #[(Value.int IntKind.i64 0), (Value.int IntKind.i64 0), (Value.int IntKind.i64 0), (Value.int IntKind.i64 0)] 1) [(0, 4, x12)]) fun x13 =>
        M.bind (appM 23 4 32 #[(Value.int IntKind.i64 0), (Value.int IntKind.i64 0), (Value.int IntKind.i64 0), (Value.int IntKind.i64 0)] (getL l1 0) x13) fun x14 =>
        bindO (binV BinOp.add (getL l1 1) x8) fun x15 =>
        M.ret (Out.norm [x14, x15]))) (
      M.ret (Out.exit 0 [(getL l1 0), (getL l1 1)]))) [(Value.slice none 0 0), (Value.int IntKind.i64 0)]) fun o17 =>
  outK o17 (fun _ => M.fail) (fun k18 l16 =>
    bif Nat.beq k18 0 then (
      M.ret (Value.tuple #[(getL l16 0), (getL l16 1)])) else
    M.fail) (fun r19 => M.ret r19)
def F.granaryref4_ParseNotes.plan : Plan := (seq leaf (seq leaf (seq leaf (seq (body (loop [4, 5] [2, 3, 4, 5, 6, 7, 8, 9, 10, 11, 12, 13, 14, 15, 16, 17, 18, 19, 20, 21, 22, 23, 24, 25, 26, 27, 28, 29, 30, 31, 32] [0] (seq (seq leaf (cond leaf leaf)) (body (seq leaf (seq leaf (seq (seq leaf (cond (seq leaf leaf) leaf)) (seq leaf leaf)))))))) (seq leaf leaf)))))
theorem F.granaryref4_ParseNotes.lift : LiftOk Tryd.prog 26 (ap1 F.granaryref4_ParseNotes) :=
  lift1 (g := evFn Tryd.prog (tcons 47 (ap1 F.granaryref4_Reader_note) tnil) tnil 26 Tryd.f26 F.granaryref4_ParseNotes.plan) (evFn_sound (tcons_ok F.granaryref4_Reader_note.lift tnil_ok) tnil_ok Tryd.func26 (by kernel_rfl)) (fun x0 => by kernel_rfl)

/-- granary/granarylaw4.sameNotes -/
noncomputable def F.granarylaw4_sameNotes (a0 a1 : Value) : M Value :=
  bindO (lenL a0) fun x1 =>
  bindO (lenL a1) fun x2 =>
  bindO (binV BinOp.neq x1 x2) fun x3 =>
  condM x3 (
    M.ret (Value.bool false)) (
    M.bind (loopM (fun l4 =>
      bindO (lenL a0) fun x5 =>
      bindO (binV BinOp.lss (getL l4 0) x5) fun x6 =>
      condM x6 (
        drewM <|
        bindO (idxA 4 a0 (getL l4 0)) fun x7 =>
        M.bind (rdM (ldA 4 x7)) fun x8 =>
        bindO (idxA 4 a1 (getL l4 0)) fun x9 =>
        M.bind (rdM (ldA 4 x9)) fun x10 =>
        bindO (neV (EqSh.offs [(EqK.int, 0), (EqK.int, 1), (EqK.int, 2), (EqK.int, 3)]) x8 x10) fun x11 =>
        condM x11 (
          M.ret (Out.ret (Value.bool false))) (
          bindO (binV BinOp.add (getL l4 0) (Value.int IntKind.i64 1)) fun x12 =>
          M.ret (Out.norm [x12]))) (
        M.ret (Out.exit 0 [(getL l4 0)]))) [(Value.int IntKind.i64 0)]) fun o14 =>
    outK o14 (fun _ => M.fail) (fun k15 _ =>
      bif Nat.beq k15 0 then (
        M.ret (Value.bool true)) else
      M.fail) (fun r16 => M.ret r16))
def F.granarylaw4_sameNotes.plan : Plan := (seq leaf (seq (seq leaf (cond (seq leaf leaf) leaf)) (seq (seq leaf (body (loop [5] [4, 5, 11, 12, 13, 14, 15, 16, 17, 18, 19, 20, 21, 22, 23, 24, 25] [0] (seq (seq leaf (cond leaf leaf)) (seq (body (seq leaf (cond (seq leaf leaf) leaf))) leaf))))) (seq leaf leaf))))
theorem F.granarylaw4_sameNotes.lift : LiftOk Tryd.prog 16 (ap2 F.granarylaw4_sameNotes) :=
  lift2 (g := evFn Tryd.prog tnil tnil 16 Tryd.f16 F.granarylaw4_sameNotes.plan) (evFn_sound tnil_ok tnil_ok Tryd.func16 (by kernel_rfl)) (fun x0 x1 => by kernel_rfl)

/-- granary/granarylaw4.notesAnswer -/
noncomputable def F.granarylaw4_notesAnswer (a0 : Value) : M Value :=
  M.bind (F.paper_ParseNotes a0) fun x1 =>
  bindO (extV 0 x1) fun x2 =>
  bindO (extV 1 x1) fun x3 =>
  M.bind (F.granaryref4_ParseNotes a0) fun x4 =>
  bindO (extV 0 x4) fun x5 =>
  bindO (extV 1 x4) fun x6 =>
  M.bind (F.granarylaw4_sameNotes x2 x5) fun x7 =>
  M.bind (guardM x7 true (M.ret x3)) fun x8 =>
  M.bind (guardM x7 true (M.ret x6)) fun x9 =>
  M.bind (guardM x7 true (optM (binV BinOp.eql x8 x9))) fun x10 =>
  bindO (pickV x7 x10 (Value.bool false)) fun x11 =>
  M.ret x11
def F.granarylaw4_notesAnswer.plan : Plan := (seq leaf (seq leaf (seq leaf (seq leaf leaf))))
theorem F.granarylaw4_notesAnswer.lift : LiftOk Tryd.prog 9 (ap1 F.granarylaw4_notesAnswer) :=
  lift1 (g := evFn Tryd.prog (tcons 15 (ap1 F.paper_ParseNotes) (tcons 16 (ap2 F.granarylaw4_sameNotes) (tcons 26 (ap1 F.granaryref4_ParseNotes) tnil))) tnil 9 Tryd.f9 F.granarylaw4_notesAnswer.plan) (evFn_sound (tcons_ok F.paper_ParseNotes.lift (tcons_ok F.granarylaw4_sameNotes.lift (tcons_ok F.granaryref4_ParseNotes.lift tnil_ok))) tnil_ok Tryd.func9 (by kernel_rfl)) (fun x0 => by kernel_rfl)

/-- granary/granarylaw4.PaperNotes -/
noncomputable def F.granarylaw4_PaperNotes (a0 a1 : Value) : M Value :=
  M.bind (newM 23 (Value.cells a0)) fun x1 =>
  M.bind (rdM (ldA 4 x1)) fun x2 =>
  M.bind (F.paper_PrintNote x2) fun x3 =>
  bindO (extV 0 x3) fun x4 =>
  bindO (extV 1 x3) fun x5 =>
  M.bind (rdM (ldA 4 x1)) fun x6 =>
  M.bind (F.granaryref4_PrintNote x6) fun x7 =>
  bindO (extV 0 x7) fun x8 =>
  bindO (extV 1 x7) fun x9 =>
  bindO (binV BinOp.eql x4 x8) fun x10 =>
  M.bind (guardM x10 true (M.ret x5)) fun x11 =>
  M.bind (guardM x10 true (F.granarylaw4_num x11)) fun x12 =>
  M.bind (guardM x10 true (M.ret x9)) fun x13 =>
  M.bind (guardM x10 true (optM (binV BinOp.eql x12 x13))) fun x14 =>
  bindO (pickV x10 x14 (Value.bool false)) fun x15 =>
  M.bind (guardM x15 true (M.ret a1)) fun x16 =>
  M.bind (guardM x15 true (F.granarylaw4_notesAnswer x16)) fun x17 =>
  bindO (pickV x15 x17 (Value.bool false)) fun x18 =>
  M.bind (guardM x18 true (M.ret x8)) fun x19 =>
  M.bind (guardM x18 true (F.granarylaw4_notesAnswer x19)) fun x20 =>
  bindO (pickV x18 x20 (Value.bool false)) fun x21 =>
  M.bind (guardM x21 true (M.ret x8)) fun x22 =>
  M.bind (guardM x21 true (M.ret a1)) fun x23 =>
  M.bind (guardM x21 true (optM (binV BinOp.add x22 x23))) fun x24 =>
  M.bind (guardM x21 true (F.granarylaw4_notesAnswer x24)) fun x25 =>
  bindO (pickV x21 x25 (Value.bool false)) fun x26 =>
  M.ret x26
def F.granarylaw4_PaperNotes.plan : Plan := (seq leaf (seq leaf (seq leaf (seq leaf leaf))))
theorem F.granarylaw4_PaperNotes.lift : LiftOk Tryd.prog 3 (ap2 F.granarylaw4_PaperNotes) :=
  lift2 (g := evFn Tryd.prog (tcons 6 (ap1 F.paper_PrintNote) (tcons 7 (ap1 F.granaryref4_PrintNote) (tcons 8 (ap1 F.granarylaw4_num) (tcons 9 (ap1 F.granarylaw4_notesAnswer) tnil)))) tnil 3 Tryd.f3 F.granarylaw4_PaperNotes.plan) (evFn_sound (tcons_ok F.paper_PrintNote.lift (tcons_ok F.granaryref4_PrintNote.lift (tcons_ok F.granarylaw4_num.lift (tcons_ok F.granarylaw4_notesAnswer.lift tnil_ok)))) tnil_ok Tryd.func3 (by kernel_rfl)) (fun x0 x1 => by kernel_rfl)

/-- granary/paper.pointerFields -/
noncomputable def F.paper_pointerFields : M Value :=
  bindO (buildV #[(Value.string ByteArray.empty), (Value.int IntKind.i64 0), (Value.int IntKind.i64 0), Value.nilFunc] [(0, 1, (Value.string (ByteArray.mk #[99, 117, 114]))), (1, 1, (Value.int IntKind.i64 0)), (2, 1, (Value.int IntKind.i64 999999)), (3, 1, (Value.func (Fn.func 48) #[] #[]))]) fun x1 =>
  bindO (buildV #[(Value.string ByteArray.empty), (Value.int IntKind.i64 0), (Value.int IntKind.i64 0), Value.nilFunc] [(0, 1, (Value.string (ByteArray.mk #[112, 114, 101, 118]))), (1, 1, (Value.int IntKind.i64 0)), (2, 1, (Value.int IntKind.i64 999999)), (3, 1, (Value.func (Fn.func 49) #[] #[]))]) fun x2 =>
  bindO (buildV #[(Value.string ByteArray.empty), (Value.int IntKind.i64 0), (Value.int IntKind.i64 0), Value.nilFunc] [(0, 1, (Value.string (ByteArray.mk #[101, 112, 111, 99, 104]))), (1, 1, (Value.int IntKind.i64 0)), (2, 1, (Value.int IntKind.i64 9007199254740992)), (3, 1, (Value.func (Fn.func 50) #[] #[]))]) fun x3 =>
  bindO (buildV #[(Value.string ByteArray.empty), (Value.int IntKind.i64 0), (Value.int IntKind.i64 0), Value.nilFunc] [(0, 1, (Value.string (ByteArray.mk #[115, 101, 113]))), (1, 1, (Value.int IntKind.i64 0)), (2, 1, (Value.int IntKind.i64 9007199254740992)), (3, 1, (Value.func (Fn.func 51) #[] #[]))]) fun x4 =>
  M.bind (bslM 92 4 (Builtin.zeroCells #[(Value.string ByteArray.empty), (Value.int IntKind.i64 0), (Value.int IntKind.i64 0), Value.nilFunc] 4) [(0, 4, x1), (4, 4, x2), (8, 4, x3), (12, 4, x4)]) fun x5 =>
  M.ret x5
def F.paper_pointerFields.plan : Plan := (seq leaf (seq leaf leaf))
theorem F.paper_pointerFields.lift : LiftOk Tryd.prog 28 (ap0 F.paper_pointerFields) :=
  lift0 (g := evFn Tryd.prog tnil tnil 28 Tryd.f28 F.paper_pointerFields.plan) (evFn_sound tnil_ok tnil_ok Tryd.func28 (by kernel_rfl)) (by kernel_rfl)

/-- granary/paper.pointerFields$1 -/
noncomputable def F.paper_pointerFields_1 (a0 : Value) : M Value :=
  bindO (nilChk a0) fun x1 =>
  bindO (fieldA 0 x1) fun x2 =>
  M.ret x2
def F.paper_pointerFields_1.plan : Plan := (seq leaf (seq leaf leaf))
theorem F.paper_pointerFields_1.lift : LiftOk Tryd.prog 48 (ap1 F.paper_pointerFields_1) :=
  lift1 (g := evFn Tryd.prog tnil tnil 48 Tryd.f48 F.paper_pointerFields_1.plan) (evFn_sound tnil_ok tnil_ok Tryd.func48 (by kernel_rfl)) (fun x0 => by kernel_rfl)

/-- granary/paper.pointerFields$2 -/
noncomputable def F.paper_pointerFields_2 (a0 : Value) : M Value :=
  bindO (nilChk a0) fun x1 =>
  bindO (fieldA 1 x1) fun x2 =>
  M.ret x2
def F.paper_pointerFields_2.plan : Plan := (seq leaf (seq leaf leaf))
theorem F.paper_pointerFields_2.lift : LiftOk Tryd.prog 49 (ap1 F.paper_pointerFields_2) :=
  lift1 (g := evFn Tryd.prog tnil tnil 49 Tryd.f49 F.paper_pointerFields_2.plan) (evFn_sound tnil_ok tnil_ok Tryd.func49 (by kernel_rfl)) (fun x0 => by kernel_rfl)

/-- granary/paper.pointerFields$3 -/
noncomputable def F.paper_pointerFields_3 (a0 : Value) : M Value :=
  bindO (nilChk a0) fun x1 =>
  bindO (fieldA 2 x1) fun x2 =>
  M.ret x2
def F.paper_pointerFields_3.plan : Plan := (seq leaf (seq leaf leaf))
theorem F.paper_pointerFields_3.lift : LiftOk Tryd.prog 50 (ap1 F.paper_pointerFields_3) :=
  lift1 (g := evFn Tryd.prog tnil tnil 50 Tryd.f50 F.paper_pointerFields_3.plan) (evFn_sound tnil_ok tnil_ok Tryd.func50 (by kernel_rfl)) (fun x0 => by kernel_rfl)

/-- granary/paper.pointerFields$4 -/
noncomputable def F.paper_pointerFields_4 (a0 : Value) : M Value :=
  bindO (nilChk a0) fun x1 =>
  bindO (fieldA 3 x1) fun x2 =>
  M.ret x2
def F.paper_pointerFields_4.plan : Plan := (seq leaf (seq leaf leaf))
theorem F.paper_pointerFields_4.lift : LiftOk Tryd.prog 51 (ap1 F.paper_pointerFields_4) :=
  lift1 (g := evFn Tryd.prog tnil tnil 51 Tryd.f51 F.paper_pointerFields_4.plan) (evFn_sound tnil_ok tnil_ok Tryd.func51 (by kernel_rfl)) (fun x0 => by kernel_rfl)

/-- What function values come to. -/
noncomputable def F.clos : Tab := (tcons 48 (ap1 F.paper_pointerFields_1) (tcons 49 (ap1 F.paper_pointerFields_2) (tcons 50 (ap1 F.paper_pointerFields_3) (tcons 51 (ap1 F.paper_pointerFields_4) tnil))))
theorem F.clos_ok : TabOk Tryd.prog F.clos := (tcons_ok F.paper_pointerFields_1.lift (tcons_ok F.paper_pointerFields_2.lift (tcons_ok F.paper_pointerFields_3.lift (tcons_ok F.paper_pointerFields_4.lift tnil_ok))))

/-- granary/paper.ranges[granary/api.Pointer] -/
noncomputable def F.api_Pointer (a0 a1 : Value) : M Value :=
  bindO (lenL a0) fun x1 =>
  M.bind (loopM (fun l2 =>
    bindO (binV BinOp.lss (getL l2 0) x1) fun x3 =>
    condM x3 (
      bindO (idxA 4 a0 (getL l2 0)) fun x4 =>
      M.bind (rdM (ldA 4 x4)) fun x5 =>
      M.bind (newM 92 #[(Value.string ByteArray.empty), (Value.int IntKind.i64 0), (Value.int IntKind.i64 0), Value.nilFunc]) fun x6 =>
      M.bind (stM 4 x6 x5) fun _ =>
      bindO (fieldA 3 x6) fun x8 =>
      M.bind (rdM (ld1 x8)) fun x9 =>
      M.bind (callV F.clos x9 [a1]) fun x10 =>
      bindO (nilChk x10) fun x11 =>
      M.bind (rdM (ld1 x11)) fun x12 =>
      bindO (fieldA 1 x6) fun x13 =>
      M.bind (rdM (ld1 x13)) fun x14 =>
      bindO (binV BinOp.lss x12 x14) fun x15 =>
      M.bind (guardM x15 false (M.ret x12)) fun x16 =>
      M.bind (guardM x15 false (optM (fieldA 2 x6))) fun x17 =>
      M.bind (guardM x15 false (rdM (ld1 x17))) fun x18 =>
      M.bind (guardM x15 false (optM (binV BinOp.gtr x16 x18))) fun x19 =>
      bindO (pickV x15 (Value.bool true) x19) fun x20 =>
      condM x20 (
        M.ret (Out.ret (Value.bool false))) (
        bindO (binV BinOp.add (getL l2 0) (Value.int IntKind.i64 1)) fun x21 =>
        M.ret (Out.norm [x21]))) (
      M.ret (Out.exit 0 [(getL l2 0)]))) [(Value.int IntKind.i64 0)]) fun o23 =>
  outK o23 (fun _ => M.fail) (fun k24 _ =>
    bif Nat.beq k24 0 then (
      M.ret (Value.bool true)) else
    M.fail) (fun r25 => M.ret r25)
def F.api_Pointer.plan : Plan := (seq leaf (seq (seq leaf (body (loop [10] [4, 6, 7, 10, 11, 12, 13, 14, 15, 16, 17, 18, 19, 20, 21, 22, 23, 24, 25, 26, 27, 28, 29, 30] [0] (seq leaf (seq (cond leaf leaf) (seq (body (seq leaf (seq leaf (seq leaf (cond (seq leaf leaf) leaf))))) leaf)))))) (seq leaf leaf)))
theorem F.api_Pointer.lift : LiftOk Tryd.prog 27 (ap2 F.api_Pointer) :=
  lift2 (g := evFn Tryd.prog tnil F.clos 27 Tryd.f27 F.api_Pointer.plan) (evFn_sound tnil_ok F.clos_ok Tryd.func27 (by kernel_rfl)) (fun x0 x1 => by kernel_rfl)

/-- (*strings.Builder).WriteByte -/
noncomputable def F.strings_Builder_WriteByte (a0 a1 : Value) : M Value :=
  M.bind (F.strings_Builder_copyCheck a0) fun _ =>
  bindO (nilChk a0) fun x2 =>
  bindO (fieldA 1 x2) fun x3 =>
  M.bind (rdM (ld1 x3)) fun x4 =>
  M.bind (bslM 5 1 (Builtin.zeroCells #[(Value.int IntKind.u8 0)] 1) [(0, 1, a1)]) fun x5 =>
  M.bind (appM 5 1 1 #[(Value.int IntKind.u8 0)] x4 x5) fun x6 =>
  bindO (nilChk a0) fun x7 =>
  bindO (fieldA 1 x7) fun x8 =>
  M.bind (stM 1 x8 x6) fun _ =>
  M.ret Value.nilIface
def F.strings_Builder_WriteByte.plan : Plan := (seq leaf (seq leaf (seq leaf (seq leaf leaf))))
theorem F.strings_Builder_WriteByte.lift : LiftOk Tryd.prog 52 (ap2 F.strings_Builder_WriteByte) :=
  lift2 (g := evFn Tryd.prog (tcons 62 (ap1 F.strings_Builder_copyCheck) tnil) tnil 52 Tryd.f52 F.strings_Builder_WriteByte.plan) (evFn_sound (tcons_ok F.strings_Builder_copyCheck.lift tnil_ok) tnil_ok Tryd.func52 (by kernel_rfl)) (fun x0 x1 => by kernel_rfl)

/-- granary/paper.line -/
noncomputable def F.paper_line (a0 a1 : Value) : M Value :=
  M.bind (F.strings_Join a1 (Value.string (ByteArray.mk #[32]))) fun x1 =>
  M.bind (F.strings_Builder_WriteString a0 x1) fun _ =>
  M.bind (F.strings_Builder_WriteByte a0 (Value.int IntKind.u8 10)) fun _ =>
  M.ret (Value.tuple #[])
def F.paper_line.plan : Plan := (seq leaf leaf)
theorem F.paper_line.lift : LiftOk Tryd.prog 29 (ap2 F.paper_line) :=
  lift2 (g := evFn Tryd.prog (tcons 19 (ap2 F.strings_Join) (tcons 40 (ap2 F.strings_Builder_WriteString) (tcons 52 (ap2 F.strings_Builder_WriteByte) tnil))) tnil 29 Tryd.f29 F.paper_line.plan) (evFn_sound (tcons_ok F.strings_Join.lift (tcons_ok F.strings_Builder_WriteString.lift (tcons_ok F.strings_Builder_WriteByte.lift tnil_ok))) tnil_ok Tryd.func29 (by kernel_rfl)) (fun x0 x1 => by kernel_rfl)

/-- granary/paper.write[granary/api.Pointer] -/
noncomputable def F.api_Pointer_30 (a0 a1 a2 : Value) : M Value :=
  bindO (lenL a1) fun x1 =>
  M.bind (loopM (fun l2 =>
    bindO (binV BinOp.lss (getL l2 0) x1) fun x3 =>
    condM x3 (
      bindO (idxA 4 a1 (getL l2 0)) fun x4 =>
      M.bind (rdM (ldA 4 x4)) fun x5 =>
      M.bind (newM 92 #[(Value.string ByteArray.empty), (Value.int IntKind.i64 0), (Value.int IntKind.i64 0), Value.nilFunc]) fun x6 =>
      M.bind (stM 4 x6 x5) fun _ =>
      drewM <|
      getM fun _ =>
      bindO (fieldA 0 x6) fun x9 =>
      M.bind (rdM (ld1 x9)) fun x10 =>
      bindO (fieldA 3 x6) fun x11 =>
      M.bind (rdM (ld1 x11)) fun x12 =>
      M.bind (callV F.clos x12 [a2]) fun x13 =>
      getM fun W14 =>
      bindO (nilChk x13) fun x15 =>
      M.bind (rdM (ld1 x15)) fun x16 =>
      M.bind (F.strconv_Itoa x16) fun x17 =>
      getM fun W18 =>
      M.bind (bslM 9 2 (Builtin.zeroCells #[(Value.string ByteArray.empty)] 2) [(0, 1, x10), (1, 1, x17)]) fun x19 =>
      getM fun _ =>
      M.bind (F.paper_line a0 x19) fun _ =>
      getM fun _ =>
      reqM (ld1 x9 W14 = some x10) <|
      reqM (ld1 x9 W18 = some x10) <|
      bindO (binV BinOp.add (getL l2 0) (Value.int IntKind.i64 1)) fun x23 =>
      M.ret (Out.norm [x23])) (
      M.ret (Out.exit 0 [(getL l2 0)]))) [(Value.int IntKind.i64 0)]) fun o25 =>
  outK o25 (fun _ => M.fail) (fun k26 _ =>
    bif Nat.beq k26 0 then (
      M.ret (Value.tuple #[])) else
    M.fail) (fun r27 => M.ret r27)
def F.api_Pointer_30.plan : Plan := (seq leaf (body (loop [10] [7, 10, 11, 12, 13, 14, 15, 16, 17, 18, 19, 20, 21, 22, 23, 24, 25, 26] [0] (seq leaf (seq (cond leaf leaf) (seq (body (seq leaf leaf)) leaf))))))
theorem F.api_Pointer_30.lift : LiftOk Tryd.prog 30 (ap3 F.api_Pointer_30) :=
  lift3 (g := evFn Tryd.prog (tcons 20 (ap1 F.strconv_Itoa) (tcons 29 (ap2 F.paper_line) tnil)) F.clos 30 Tryd.f30 F.api_Pointer_30.plan) (evFn_sound (tcons_ok F.strconv_Itoa.lift (tcons_ok F.paper_line.lift tnil_ok)) F.clos_ok Tryd.func30 (by kernel_rfl)) (fun x0 x1 x2 => by kernel_rfl)

/-- granary/paper.closed -/
noncomputable def F.paper_closed (a0 : Value) : M Value :=
  M.bind (F.strings_Builder_String a0) fun x1 =>
  bindO (binV BinOp.add x1 (Value.string (ByteArray.mk #[115, 117, 109, 32]))) fun x2 =>
  M.bind (bslM 9 1 (Builtin.zeroCells #[(Value.string ByteArray.empty)] 1) [(0, 1, x1)]) fun x3 =>
  M.bind (F.digest_CRC x3) fun x4 =>
  M.bind (F.paper_hex8 x4) fun x5 =>
  bindO (binV BinOp.add x2 x5) fun x6 =>
  bindO (binV BinOp.add x6 (Value.string (ByteArray.mk #[10]))) fun x7 =>
  M.ret x7
def F.paper_closed.plan : Plan := (seq leaf (seq leaf (seq leaf leaf)))
theorem F.paper_closed.lift : LiftOk Tryd.prog 31 (ap1 F.paper_closed) :=
  lift1 (g := evFn Tryd.prog (tcons 21 (ap1 F.paper_hex8) (tcons 22 (ap1 F.digest_CRC) (tcons 41 (ap1 F.strings_Builder_String) tnil))) tnil 31 Tryd.f31 F.paper_closed.plan) (evFn_sound (tcons_ok F.paper_hex8.lift (tcons_ok F.digest_CRC.lift (tcons_ok F.strings_Builder_String.lift tnil_ok))) tnil_ok Tryd.func31 (by kernel_rfl)) (fun x0 => by kernel_rfl)

/-- granary/paper.PrintPointer -/
noncomputable def F.paper_PrintPointer (a0 : Value) : M Value :=
  M.bind (newM 33 (Value.cells a0)) fun x1 =>
  M.bind (F.paper_pointerFields) fun x2 =>
  M.bind (F.api_Pointer x2 x1) fun x3 =>
  bindO (notV x3) fun x4 =>
  condM x4 (
    M.ret (Value.tuple #[(Value.string (ByteArray.mk #[])), (Value.int IntKind.i64 42)])) (
    bindO (buildV #[(Value.pointer none), (Value.slice none 0 0)] []) fun x5 =>
    M.bind (newM 60 (Value.cells x5)) fun x6 =>
    M.bind (bslM 9 1 (Builtin.zeroCells #[(Value.string ByteArray.empty)] 1) [(0, 1, (Value.string (ByteArray.mk #[103, 114, 97, 110, 97, 114, 121, 32, 108, 97, 116, 101, 115, 116, 32, 49])))]) fun x7 =>
    M.bind (F.paper_line x6 x7) fun _ =>
    M.bind (F.paper_pointerFields) fun x9 =>
    M.bind (F.api_Pointer_30 x6 x9 x1) fun _ =>
    M.bind (F.paper_closed x6) fun x11 =>
    M.ret (Value.tuple #[x11, (Value.int IntKind.i64 0)]))
def F.paper_PrintPointer.plan : Plan := (seq leaf (seq (seq leaf (cond (seq leaf leaf) leaf)) (seq leaf (seq leaf (seq leaf (seq leaf leaf))))))
theorem F.paper_PrintPointer.lift : LiftOk Tryd.prog 10 (ap1 F.paper_PrintPointer) :=
  lift1 (g := evFn Tryd.prog (tcons 27 (ap2 F.api_Pointer) (tcons 28 (ap0 F.paper_pointerFields) (tcons 29 (ap2 F.paper_line) (tcons 30 (ap3 F.api_Pointer_30) (tcons 31 (ap1 F.paper_closed) tnil))))) tnil 10 Tryd.f10 F.paper_PrintPointer.plan) (evFn_sound (tcons_ok F.api_Pointer.lift (tcons_ok F.paper_pointerFields.lift (tcons_ok F.paper_line.lift (tcons_ok F.api_Pointer_30.lift (tcons_ok F.paper_closed.lift tnil_ok))))) tnil_ok Tryd.func10 (by kernel_rfl)) (fun x0 => by kernel_rfl)

/-- granary/granaryref4.pointerFields -/
noncomputable def F.granaryref4_pointerFields (a0 : Value) : M Value :=
  M.bind (newM 33 (Value.cells a0)) fun x1 =>
  bindO (fieldA 0 x1) fun x2 =>
  M.bind (rdM (ld1 x2)) fun x3 =>
  M.bind (F.granaryref4_in x3 (Value.int IntKind.i64 0) (Value.int IntKind.i64 999999)) fun x4 =>
  M.bind (guardM x4 true (optM (fieldA 1 x1))) fun x5 =>
  M.bind (guardM x4 true (rdM (ld1 x5))) fun x6 =>
  M.bind (guardM x4 true (F.granaryref4_in x6 (Value.int IntKind.i64 0) (Value.int IntKind.i64 999999))) fun x7 =>
  bindO (pickV x4 x7 (Value.bool false)) fun x8 =>
  M.bind (guardM x8 true (optM (fieldA 2 x1))) fun x9 =>
  M.bind (guardM x8 true (rdM (ld1 x9))) fun x10 =>
  M.bind (guardM x8 true (F.granaryref4_in x10 (Value.int IntKind.i64 0) (Value.int IntKind.i64 9007199254740992))) fun x11 =>
  bindO (pickV x8 x11 (Value.bool false)) fun x12 =>
  M.bind (guardM x12 true (optM (fieldA 3 x1))) fun x13 =>
  M.bind (guardM x12 true (rdM (ld1 x13))) fun x14 =>
  M.bind (guardM x12 true (F.granaryref4_in x14 (Value.int IntKind.i64 0) (Value.int IntKind.i64 9007199254740992))) fun x15 =>
  bindO (pickV x12 x15 (Value.bool false)) fun x16 =>
  condM x16 (
    M.ret (Value.int IntKind.i64 0)) (
    M.ret (Value.int IntKind.i64 42))
def F.granaryref4_pointerFields.plan : Plan := (seq leaf (seq (seq leaf (cond (seq leaf leaf) leaf)) (seq leaf leaf)))
theorem F.granaryref4_pointerFields.lift : LiftOk Tryd.prog 32 (ap1 F.granaryref4_pointerFields) :=
  lift1 (g := evFn Tryd.prog (tcons 23 (ap3 F.granaryref4_in) tnil) tnil 32 Tryd.f32 F.granaryref4_pointerFields.plan) (evFn_sound (tcons_ok F.granaryref4_in.lift tnil_ok) tnil_ok Tryd.func32 (by kernel_rfl)) (fun x0 => by kernel_rfl)

/-- granary/granaryref4.closed -/
noncomputable def F.granaryref4_closed (a0 : Value) : M Value :=
  bindO (binV BinOp.add a0 (Value.string (ByteArray.mk #[115, 117, 109, 32]))) fun x1 =>
  M.bind (F.granaryref2_CRC a0) fun x2 =>
  M.bind (F.granaryref4_eight x2) fun x3 =>
  bindO (binV BinOp.add x1 x3) fun x4 =>
  bindO (binV BinOp.add x4 (Value.string (ByteArray.mk #[10]))) fun x5 =>
  M.ret x5
def F.granaryref4_closed.plan : Plan := (seq leaf (seq leaf leaf))
theorem F.granaryref4_closed.lift : LiftOk Tryd.prog 33 (ap1 F.granaryref4_closed) :=
  lift1 (g := evFn Tryd.prog (tcons 24 (ap1 F.granaryref4_eight) (tcons 25 (ap1 F.granaryref2_CRC) tnil)) tnil 33 Tryd.f33 F.granaryref4_closed.plan) (evFn_sound (tcons_ok F.granaryref4_eight.lift (tcons_ok F.granaryref2_CRC.lift tnil_ok)) tnil_ok Tryd.func33 (by kernel_rfl)) (fun x0 => by kernel_rfl)

/-- granary/granaryref4.PrintPointer -/
noncomputable def F.granaryref4_PrintPointer (a0 : Value) : M Value :=
  M.bind (newM 33 (Value.cells a0)) fun x1 =>
  M.bind (rdM (ldA 4 x1)) fun x2 =>
  M.bind (F.granaryref4_pointerFields x2) fun x3 =>
  bindO (binV BinOp.neq x3 (Value.int IntKind.i64 0)) fun x4 =>
  condM x4 (
    M.ret (Value.tuple #[(Value.string (ByteArray.mk #[])), x3])) (
    drewM <|
    getM fun W5 =>
    bindO (fieldA 0 x1) fun x6 =>
    M.bind (rdM (ld1 x6)) fun x7 =>
    M.bind (F.strconv_Itoa x7) fun x8 =>
    getM fun _ =>
    bindO (binV BinOp.add (Value.string (ByteArray.mk #[103, 114, 97, 110, 97, 114, 121, 32, 108, 97, 116, 101, 115, 116, 32, 49, 10, 99, 117, 114, 32])) x8) fun x10 =>
    bindO (binV BinOp.add x10 (Value.string (ByteArray.mk #[10, 112, 114, 101, 118, 32]))) fun x11 =>
    bindO (fieldA 1 x1) fun x12 =>
    M.bind (rdM (ld1 x12)) fun x13 =>
    M.bind (F.strconv_Itoa x13) fun x14 =>
    getM fun _ =>
    bindO (binV BinOp.add x11 x14) fun x16 =>
    reqM (ld1 x12 W5 = some x13) <|
    drewM <|
    getM fun W17 =>
    bindO (binV BinOp.add x16 (Value.string (ByteArray.mk #[10, 101, 112, 111, 99, 104, 32]))) fun x18 =>
    bindO (fieldA 2 x1) fun x19 =>
    M.bind (rdM (ld1 x19)) fun x20 =>
    M.bind (F.strconv_Itoa x20) fun x21 =>
    getM fun _ =>
    bindO (binV BinOp.add x18 x21) fun x23 =>
    bindO (binV BinOp.add x23 (Value.string (ByteArray.mk #[10, 115, 101, 113, 32]))) fun x24 =>
    bindO (fieldA 3 x1) fun x25 =>
    M.bind (rdM (ld1 x25)) fun x26 =>
    M.bind (F.strconv_Itoa x26) fun x27 =>
    getM fun _ =>
    bindO (binV BinOp.add x24 x27) fun x29 =>
    bindO (binV BinOp.add x29 (Value.string (ByteArray.mk #[10]))) fun x30 =>
    reqM (ld1 x25 W17 = some x26) <|
    M.bind (F.granaryref4_closed x30) fun x31 =>
    M.ret (Value.tuple #[x31, (Value.int IntKind.i64 0)]))
def F.granaryref4_PrintPointer.plan : Plan := (seq leaf (seq leaf (seq (seq leaf (cond (seq leaf leaf) leaf)) (seq leaf (seq leaf (seq leaf leaf))))))
theorem F.granaryref4_PrintPointer.lift : LiftOk Tryd.prog 11 (ap1 F.granaryref4_PrintPointer) :=
  lift1 (g := evFn Tryd.prog (tcons 20 (ap1 F.strconv_Itoa) (tcons 32 (ap1 F.granaryref4_pointerFields) (tcons 33 (ap1 F.granaryref4_closed) tnil))) tnil 11 Tryd.f11 F.granaryref4_PrintPointer.plan) (evFn_sound (tcons_ok F.strconv_Itoa.lift (tcons_ok F.granaryref4_pointerFields.lift (tcons_ok F.granaryref4_closed.lift tnil_ok))) tnil_ok Tryd.func11 (by kernel_rfl)) (fun x0 => by kernel_rfl)

/-- internal/stringslite.HasSuffix -/
noncomputable def F.stringslite_HasSuffix (a0 a1 : Value) : M Value :=
  bindO (lenS a0) fun x1 =>
  bindO (lenS a1) fun x2 =>
  bindO (binV BinOp.geq x1 x2) fun x3 =>
  M.bind (guardM x3 true (M.ret a0)) fun x4 =>
  M.bind (guardM x3 true (M.ret a0)) fun x5 =>
  M.bind (guardM x3 true (optM (lenS x5))) fun x6 =>
  M.bind (guardM x3 true (M.ret a1)) fun x7 =>
  M.bind (guardM x3 true (optM (lenS x7))) fun x8 =>
  M.bind (guardM x3 true (optM (binV BinOp.sub x6 x8))) fun x9 =>
  M.bind (guardM x3 true (optM (sliceS x4 (some x9) none))) fun x10 =>
  M.bind (guardM x3 true (M.ret a1)) fun x11 =>
  M.bind (guardM x3 true (optM (binV BinOp.eql x10 x11))) fun x12 =>
  bindO (pickV x3 x12 (Value.bool false)) fun x13 =>
  M.ret x13
def F.stringslite_HasSuffix.plan : Plan := (seq leaf (seq leaf leaf))
theorem F.stringslite_HasSuffix.lift : LiftOk Tryd.prog 85 (ap2 F.stringslite_HasSuffix) :=
  lift2 (g := evFn Tryd.prog tnil tnil 85 Tryd.f85 F.stringslite_HasSuffix.plan) (evFn_sound tnil_ok tnil_ok Tryd.func85 (by kernel_rfl)) (fun x0 x1 => by kernel_rfl)

/-- internal/stringslite.CutPrefix -/
noncomputable def F.stringslite_CutPrefix (a0 a1 : Value) : M Value :=
  M.bind (F.stringslite_HasPrefix a0 a1) fun x1 =>
  bindO (notV x1) fun x2 =>
  condM x2 (
    M.ret (Value.tuple #[a0, (Value.bool false)])) (
    bindO (lenS a1) fun x3 =>
    bindO (sliceS a0 (some x3) none) fun x4 =>
    M.ret (Value.tuple #[x4, (Value.bool true)]))
def F.stringslite_CutPrefix.plan : Plan := (seq leaf (seq (seq leaf (cond (seq leaf leaf) leaf)) (seq leaf leaf)))
theorem F.stringslite_CutPrefix.lift : LiftOk Tryd.prog 86 (ap2 F.stringslite_CutPrefix) :=
  lift2 (g := evFn Tryd.prog (tcons 83 (ap2 F.stringslite_HasPrefix) tnil) tnil 86 Tryd.f86 F.stringslite_CutPrefix.plan) (evFn_sound (tcons_ok F.stringslite_HasPrefix.lift tnil_ok) tnil_ok Tryd.func86 (by kernel_rfl)) (fun x0 x1 => by kernel_rfl)

/-- granary/paper.open -/
noncomputable def F.paper_open (a0 a1 : Value) : M Value :=
  M.bind (F.strings_HasSuffix a0 (Value.string (ByteArray.mk #[10]))) fun x1 =>
  bindO (notV x1) fun x2 =>
  condM x2 (
    M.ret (Value.tuple #[(Value.slice none 0 0), (Value.bool false), (Value.bool false)])) (
    bindO (lenS a0) fun x3 =>
    bindO (binV BinOp.sub x3 (Value.int IntKind.i64 1)) fun x4 =>
    bindO (sliceS a0 none (some x4)) fun x5 =>
    M.bind (F.strings_Split x5 (Value.string (ByteArray.mk #[10]))) fun x6 =>
    bindO (lenL x6) fun x7 =>
    bindO (binV BinOp.sub x7 (Value.int IntKind.i64 1)) fun x8 =>
    bindO (idxA 1 x6 x8) fun x9 =>
    M.bind (rdM (ld1 x9)) fun x10 =>
    M.bind (F.strings_CutPrefix x10 (Value.string (ByteArray.mk #[115, 117, 109, 32]))) fun x11 =>
    bindO (extV 0 x11) fun x12 =>
    bindO (extV 1 x11) fun x13 =>
    M.bind (F.paper_sumOf x12) fun x14 =>
    bindO (extV 0 x14) fun x15 =>
    bindO (extV 1 x14) fun x16 =>
    bindO (notV x13) fun x17 =>
    M.bind (guardM x17 false (M.ret x16)) fun x18 =>
    M.bind (guardM x17 false (optM (notV x18))) fun x19 =>
    bindO (pickV x17 (Value.bool true) x19) fun x20 =>
    M.bind (guardM x20 false (M.ret x6)) fun x21 =>
    M.bind (guardM x20 false (optM (idxA 1 x21 (Value.int IntKind.i64 0)))) fun x22 =>
    M.bind (guardM x20 false (rdM (ld1 x22))) fun x23 =>
    M.bind (guardM x20 false (M.ret a1)) fun x24 =>
    M.bind (guardM x20 false (optM (binV BinOp.neq x23 x24))) fun x25 =>
    bindO (pickV x20 (Value.bool true) x25) fun x26 =>
    condM x26 (
      M.ret (Value.tuple #[(Value.slice none 0 0), (Value.bool false), (Value.bool false)])) (
      drewM <|
      bindO (sliceV 1 x6 (some (Value.int IntKind.i64 1)) (some x8)) fun x27 =>
      bindO (lenS a0) fun x28 =>
      bindO (binV BinOp.sub x28 (Value.int IntKind.i64 13)) fun x29 =>
      bindO (sliceS a0 none (some x29)) fun x30 =>
      M.bind (bslM 9 1 (Builtin.zeroCells #[(Value.string ByteArray.empty)] 1) [(0, 1, x30)]) fun x31 =>
      M.bind (F.digest_CRC x31) fun x32 =>
      bindO (binV BinOp.eql x15 x32) fun x33 =>
      M.ret (Value.tuple #[x27, x33, (Value.bool true)])))
def F.paper_open.plan : Plan := (seq leaf (seq (seq leaf (cond (seq leaf leaf) leaf)) (seq leaf (seq leaf (seq leaf (seq leaf (seq (seq leaf (cond (seq leaf leaf) leaf)) (seq leaf leaf))))))))
theorem F.paper_open.lift : LiftOk Tryd.prog 53 (ap2 F.paper_open) :=
  lift2 (g := evFn Tryd.prog (tcons 22 (ap1 F.digest_CRC) (tcons 59 (ap2 F.strings_Split) (tcons 61 (ap1 F.paper_sumOf) (tcons 69 (ap2 F.strings_HasSuffix) (tcons 70 (ap2 F.strings_CutPrefix) tnil))))) tnil 53 Tryd.f53 F.paper_open.plan) (evFn_sound (tcons_ok F.digest_CRC.lift (tcons_ok F.strings_Split.lift (tcons_ok F.paper_sumOf.lift (tcons_ok F.strings_HasSuffix.lift (tcons_ok F.strings_CutPrefix.lift tnil_ok))))) tnil_ok Tryd.func53 (by kernel_rfl)) (fun x0 x1 => by kernel_rfl)

/-- granary/paper.numberOf -/
noncomputable def F.paper_numberOf (a0 a1 : Value) : M Value :=
  bindO (binV BinOp.add a1 (Value.string (ByteArray.mk #[32]))) fun x1 =>
  M.bind (F.strings_CutPrefix a0 x1) fun x2 =>
  bindO (extV 0 x2) fun x3 =>
  bindO (extV 1 x2) fun x4 =>
  bindO (notV x4) fun x5 =>
  condM x5 (
    M.ret (Value.tuple #[(Value.int IntKind.i64 0), (Value.bool false)])) (
    M.bind (F.paper_number x3) fun x6 =>
    bindO (extV 0 x6) fun x7 =>
    bindO (extV 1 x6) fun x8 =>
    M.ret (Value.tuple #[x7, x8]))
def F.paper_numberOf.plan : Plan := (seq leaf (seq leaf (seq (seq leaf (cond (seq leaf leaf) leaf)) (seq leaf leaf))))
theorem F.paper_numberOf.lift : LiftOk Tryd.prog 71 (ap2 F.paper_numberOf) :=
  lift2 (g := evFn Tryd.prog (tcons 60 (ap1 F.paper_number) (tcons 70 (ap2 F.strings_CutPrefix) tnil)) tnil 71 Tryd.f71 F.paper_numberOf.plan) (evFn_sound (tcons_ok F.paper_number.lift (tcons_ok F.strings_CutPrefix.lift tnil_ok)) tnil_ok Tryd.func71 (by kernel_rfl)) (fun x0 x1 => by kernel_rfl)

/-- granary/paper.parse[granary/api.Pointer] -/
noncomputable def F.api_Pointer_54 (a0 a1 a2 : Value) : M Value :=
  bindO (lenL a0) fun x1 =>
  bindO (lenL a1) fun x2 =>
  bindO (binV BinOp.neq x1 x2) fun x3 =>
  condM x3 (
    M.ret (Value.bool false)) (
    bindO (lenL a1) fun x4 =>
    M.bind (loopM (fun l5 =>
      bindO (binV BinOp.lss (getL l5 0) x4) fun x6 =>
      condM x6 (
        bindO (idxA 4 a1 (getL l5 0)) fun x7 =>
        M.bind (rdM (ldA 4 x7)) fun x8 =>
        M.bind (newM 92 #[(Value.string ByteArray.empty), (Value.int IntKind.i64 0), (Value.int IntKind.i64 0), Value.nilFunc]) fun x9 =>
        M.bind (stM 4 x9 x8) fun _ =>
        drewM <|
        bindO (idxA 1 a0 (getL l5 0)) fun x11 =>
        M.bind (rdM (ld1 x11)) fun x12 =>
        bindO (fieldA 0 x9) fun x13 =>
        M.bind (rdM (ld1 x13)) fun x14 =>
        M.bind (F.paper_numberOf x12 x14) fun x15 =>
        bindO (extV 0 x15) fun x16 =>
        bindO (extV 1 x15) fun x17 =>
        bindO (notV x17) fun x18 =>
        condM x18 (
          M.ret (Out.ret (Value.bool false))) (
          bindO (fieldA 3 x9) fun x19 =>
          M.bind (rdM (ld1 x19)) fun x20 =>
          M.bind (callV F.clos x20 [a2]) fun x21 =>
          bindO (nilChk x21) fun x22 =>
          M.bind (stM 1 x22 x16) fun _ =>
          bindO (binV BinOp.add (getL l5 0) (Value.int IntKind.i64 1)) fun x24 =>
          M.ret (Out.norm [x24]))) (
        M.ret (Out.exit 0 [(getL l5 0)]))) [(Value.int IntKind.i64 0)]) fun o26 =>
    outK o26 (fun _ => M.fail) (fun k27 _ =>
      bif Nat.beq k27 0 then (
        M.ret (Value.bool true)) else
      M.fail) (fun r28 => M.ret r28))
def F.api_Pointer_54.plan : Plan := (seq leaf (seq (seq leaf (cond (seq leaf leaf) leaf)) (seq (seq leaf (body (loop [18] [6, 7, 8, 9, 10, 18, 19, 20, 21, 22, 23, 24, 25, 26, 27, 28, 29, 30, 31, 32, 33, 34, 35, 36, 37, 38, 39, 40, 41] [0] (seq leaf (seq (cond leaf leaf) (seq (body (seq leaf (seq leaf (seq (seq leaf (cond (seq leaf leaf) leaf)) leaf)))) leaf)))))) (seq leaf leaf))))
theorem F.api_Pointer_54.lift : LiftOk Tryd.prog 54 (ap3 F.api_Pointer_54) :=
  lift3 (g := evFn Tryd.prog (tcons 71 (ap2 F.paper_numberOf) tnil) F.clos 54 Tryd.f54 F.api_Pointer_54.plan) (evFn_sound (tcons_ok F.paper_numberOf.lift tnil_ok) F.clos_ok Tryd.func54 (by kernel_rfl)) (fun x0 x1 x2 => by kernel_rfl)

/-- granary/paper.ParsePointer -/
noncomputable def F.paper_ParsePointer (a0 : Value) : M Value :=
  M.bind (newM 33 #[(Value.int IntKind.i64 0), (Value.int IntKind.i64 0), (Value.int IntKind.i64 0), (Value.int IntKind.i64 0)]) fun x1 =>
  M.bind (F.paper_open a0 (Value.string (ByteArray.mk #[103, 114, 97, 110, 97, 114, 121, 32, 108, 97, 116, 101, 115, 116, 32, 49]))) fun x2 =>
  bindO (extV 0 x2) fun x3 =>
  bindO (extV 1 x2) fun x4 =>
  bindO (extV 2 x2) fun x5 =>
  M.bind (newM 33 #[(Value.int IntKind.i64 0), (Value.int IntKind.i64 0), (Value.int IntKind.i64 0), (Value.int IntKind.i64 0)]) fun x6 =>
  bindO (notV x5) fun x7 =>
  M.bind (guardM x7 false (M.ret x3)) fun x8 =>
  M.bind (guardM x7 false (F.paper_pointerFields)) fun x9 =>
  M.bind (guardM x7 false (F.api_Pointer_54 x8 x9 x6)) fun x10 =>
  M.bind (guardM x7 false (optM (notV x10))) fun x11 =>
  bindO (pickV x7 (Value.bool true) x11) fun x12 =>
  condM x12 (
    bindO (buildV #[(Value.int IntKind.i64 0), (Value.int IntKind.i64 0), (Value.int IntKind.i64 0), (Value.int IntKind.i64 0)] []) fun x13 =>
    M.bind (stM 4 x1 x13) fun _ =>
    M.bind (rdM (ldA 4 x1)) fun x15 =>
    M.ret (Value.tuple #[x15, (Value.int IntKind.i64 40)])) (
    bindO (notV x4) fun x16 =>
    condM x16 (
      bindO (buildV #[(Value.int IntKind.i64 0), (Value.int IntKind.i64 0), (Value.int IntKind.i64 0), (Value.int IntKind.i64 0)] []) fun x17 =>
      M.bind (stM 4 x1 x17) fun _ =>
      M.bind (rdM (ldA 4 x1)) fun x19 =>
      M.ret (Value.tuple #[x19, (Value.int IntKind.i64 41)])) (
      M.bind (F.paper_pointerFields) fun x20 =>
      M.bind (F.api_Pointer x20 x6) fun x21 =>
      bindO (notV x21) fun x22 =>
      condM x22 (
        bindO (buildV #[(Value.int IntKind.i64 0), (Value.int IntKind.i64 0), (Value.int IntKind.i64 0), (Value.int IntKind.i64 0)] []) fun x23 =>
        M.bind (stM 4 x1 x23) fun _ =>
        M.bind (rdM (ldA 4 x1)) fun x25 =>
        M.ret (Value.tuple #[x25, (Value.int IntKind.i64 42)])) (
        M.bind (rdM (ldA 4 x6)) fun x26 =>
        M.bind (stM 4 x1 x26) fun _ =>
        M.bind (rdM (ldA 4 x1)) fun x28 =>
        M.ret (Value.tuple #[x28, (Value.int IntKind.i64 0)]))))
def F.paper_ParsePointer.plan : Plan := (seq leaf (seq leaf (seq leaf (seq (body (seq leaf (cond (seq leaf leaf) (seq leaf (cond (seq leaf leaf) (seq leaf (cond (seq leaf leaf) leaf))))))) (seq leaf leaf)))))
theorem F.paper_ParsePointer.lift : LiftOk Tryd.prog 34 (ap1 F.paper_ParsePointer) :=
  lift1 (g := evFn Tryd.prog (tcons 27 (ap2 F.api_Pointer) (tcons 28 (ap0 F.paper_pointerFields) (tcons 53 (ap2 F.paper_open) (tcons 54 (ap3 F.api_Pointer_54) tnil)))) tnil 34 Tryd.f34 F.paper_ParsePointer.plan) (evFn_sound (tcons_ok F.api_Pointer.lift (tcons_ok F.paper_pointerFields.lift (tcons_ok F.paper_open.lift (tcons_ok F.api_Pointer_54.lift tnil_ok)))) tnil_ok Tryd.func34 (by kernel_rfl)) (fun x0 => by kernel_rfl)

/-- (*granary/granaryref4.Reader).last -/
noncomputable def F.granaryref4_Reader_last (a0 : Value) : M Value :=
  bindO (nilChk a0) fun x1 =>
  bindO (fieldA 1 x1) fun x2 =>
  M.bind (rdM (ld1 x2)) fun x3 =>
  M.bind (F.granaryref4_Reader_lit a0 (Value.string (ByteArray.mk #[115, 117, 109, 32]))) fun _ =>
  M.bind (F.granaryref4_Reader_sum a0) fun x5 =>
  M.bind (F.granaryref4_Reader_lit a0 (Value.string (ByteArray.mk #[10]))) fun _ =>
  drewM <|
  bindO (nilChk a0) fun x7 =>
  bindO (fieldA 2 x7) fun x8 =>
  M.bind (rdM (ld1 x8)) fun x9 =>
  M.bind (guardM x9 false (M.ret a0)) fun x10 =>
  M.bind (guardM x9 false (optM (nilChk x10))) fun x11 =>
  M.bind (guardM x9 false (optM (fieldA 1 x11))) fun x12 =>
  M.bind (guardM x9 false (rdM (ld1 x12))) fun x13 =>
  M.bind (guardM x9 false (M.ret a0)) fun x14 =>
  M.bind (guardM x9 false (optM (nilChk x14))) fun x15 =>
  M.bind (guardM x9 false (optM (fieldA 0 x15))) fun x16 =>
  M.bind (guardM x9 false (rdM (ld1 x16))) fun x17 =>
  M.bind (guardM x9 false (optM (lenS x17))) fun x18 =>
  M.bind (guardM x9 false (optM (binV BinOp.neq x13 x18))) fun x19 =>
  bindO (pickV x9 (Value.bool true) x19) fun x20 =>
  condM x20 (
    M.ret (Value.int IntKind.i64 40)) (
    bindO (nilChk a0) fun x21 =>
    bindO (fieldA 0 x21) fun x22 =>
    M.bind (rdM (ld1 x22)) fun x23 =>
    bindO (sliceS x23 none (some x3)) fun x24 =>
    M.bind (F.granaryref2_CRC x24) fun x25 =>
    bindO (binV BinOp.neq x5 x25) fun x26 =>
    condM x26 (
      M.ret (Value.int IntKind.i64 41)) (
      M.ret (Value.int IntKind.i64 0)))
def F.granaryref4_Reader_last.plan : Plan := (seq leaf (seq leaf (seq leaf (seq leaf (seq leaf (seq (seq leaf (cond (seq leaf leaf) leaf)) (seq (seq leaf (cond (seq leaf leaf) leaf)) (seq leaf leaf))))))))
theorem F.granaryref4_Reader_last.lift : LiftOk Tryd.prog 57 (ap1 F.granaryref4_Reader_last) :=
  lift1 (g := evFn Tryd.prog (tcons 25 (ap1 F.granaryref2_CRC) (tcons 55 (ap2 F.granaryref4_Reader_lit) (tcons 68 (ap1 F.granaryref4_Reader_sum) tnil))) tnil 57 Tryd.f57 F.granaryref4_Reader_last.plan) (evFn_sound (tcons_ok F.granaryref2_CRC.lift (tcons_ok F.granaryref4_Reader_lit.lift (tcons_ok F.granaryref4_Reader_sum.lift tnil_ok))) tnil_ok Tryd.func57 (by kernel_rfl)) (fun x0 => by kernel_rfl)

/-- granary/granaryref4.ParsePointer -/
noncomputable def F.granaryref4_ParsePointer (a0 : Value) : M Value :=
  M.bind (newM 33 #[(Value.int IntKind.i64 0), (Value.int IntKind.i64 0), (Value.int IntKind.i64 0), (Value.int IntKind.i64 0)]) fun x1 =>
  bindO (buildV #[(Value.string ByteArray.empty), (Value.int IntKind.i64 0), (Value.bool false)] [(0, 1, a0)]) fun x2 =>
  M.bind (newM 87 (Value.cells x2)) fun x3 =>
  bindO (buildV #[(Value.int IntKind.i64 0), (Value.int IntKind.i64 0), (Value.int IntKind.i64 0), (Value.int IntKind.i64 0)] []) fun x4 =>
  M.bind (newM 33 #[(Value.int IntKind.i64 0), (Value.int IntKind.i64 0), (Value.int IntKind.i64 0), (Value.int IntKind.i64 0)]) fun x5 =>
  M.bind (stM 4 x5 x4) fun _ =>
  M.bind (F.granaryref4_Reader_lit x3 (Value.string (ByteArray.mk #[103, 114, 97, 110, 97, 114, 121, 32, 108, 97, 116, 101, 115, 116, 32, 49, 10, 99, 117, 114, 32]))) fun _ =>
  M.bind (F.granaryref4_Reader_number x3) fun x8 =>
  bindO (fieldA 0 x5) fun x9 =>
  M.bind (stM 1 x9 x8) fun _ =>
  M.bind (F.granaryref4_Reader_lit x3 (Value.string (ByteArray.mk #[10, 112, 114, 101, 118, 32]))) fun _ =>
  M.bind (F.granaryref4_Reader_number x3) fun x12 =>
  bindO (fieldA 1 x5) fun x13 =>
  M.bind (stM 1 x13 x12) fun _ =>
  M.bind (F.granaryref4_Reader_lit x3 (Value.string (ByteArray.mk #[10, 101, 112, 111, 99, 104, 32]))) fun _ =>
  M.bind (F.granaryref4_Reader_number x3) fun x16 =>
  bindO (fieldA 2 x5) fun x17 =>
  M.bind (stM 1 x17 x16) fun _ =>
  M.bind (F.granaryref4_Reader_lit x3 (Value.string (ByteArray.mk #[10, 115, 101, 113, 32]))) fun _ =>
  M.bind (F.granaryref4_Reader_number x3) fun x20 =>
  bindO (fieldA 3 x5) fun x21 =>
  M.bind (stM 1 x21 x20) fun _ =>
  M.bind (F.granaryref4_Reader_lit x3 (Value.string (ByteArray.mk #[10]))) fun _ =>
  M.bind (F.granaryref4_Reader_last x3) fun x24 =>
  M.bind (
    bindO (binV BinOp.eql x24 (Value.int IntKind.i64 0)) fun x25 =>
    condM x25 (
      M.bind (rdM (ldA 4 x5)) fun x26 =>
      M.bind (F.granaryref4_pointerFields x26) fun x27 =>
      M.ret (Out.norm [x27])) (
      M.ret (Out.norm [x24]))) fun o29 =>
  outK o29 (fun l28 =>
    bindO (binV BinOp.neq (getL l28 0) (Value.int IntKind.i64 0)) fun x32 =>
    condM x32 (
      bindO (buildV #[(Value.int IntKind.i64 0), (Value.int IntKind.i64 0), (Value.int IntKind.i64 0), (Value.int IntKind.i64 0)] []) fun x33 =>
      M.bind (stM 4 x1 x33) fun _ =>
      M.bind (rdM (ldA 4 x1)) fun x35 =>
      M.ret (Value.tuple #[x35, (getL l28 0)])) (
      M.bind (rdM (ldA 4 x5)) fun x36 =>
      M.bind (stM 4 x1 x36) fun _ =>
      M.bind (rdM (ldA 4 x1)) fun x38 =>
      M.ret (Value.tuple #[x38, (Value.int IntKind.i64 0)]))) (fun _ _ =>
    M.fail) (fun r31 => M.ret r31)
def F.granaryref4_ParsePointer.plan : Plan := (seq leaf (seq leaf (seq leaf (seq leaf (seq leaf (seq leaf (seq leaf (seq leaf (seq leaf (seq leaf (seq leaf (seq leaf (seq leaf (fork [6] [6, 35, 36, 37, 38] [] (seq leaf (cond leaf leaf)) (seq (seq leaf (cond (seq leaf leaf) leaf)) (seq leaf leaf))))))))))))))))
theorem F.granaryref4_ParsePointer.lift : LiftOk Tryd.prog 35 (ap1 F.granaryref4_ParsePointer) :=
  lift1 (g := evFn Tryd.prog (tcons 32 (ap1 F.granaryref4_pointerFields) (tcons 55 (ap2 F.granaryref4_Reader_lit) (tcons 56 (ap1 F.granaryref4_Reader_number) (tcons 57 (ap1 F.granaryref4_Reader_last) tnil)))) tnil 35 Tryd.f35 F.granaryref4_ParsePointer.plan) (evFn_sound (tcons_ok F.granaryref4_pointerFields.lift (tcons_ok F.granaryref4_Reader_lit.lift (tcons_ok F.granaryref4_Reader_number.lift (tcons_ok F.granaryref4_Reader_last.lift tnil_ok)))) tnil_ok Tryd.func35 (by kernel_rfl)) (fun x0 => by kernel_rfl)

/-- granary/granarylaw4.pointerAnswers -/
noncomputable def F.granarylaw4_pointerAnswers (a0 : Value) : M Value :=
  M.bind (F.paper_ParsePointer a0) fun x1 =>
  bindO (extV 0 x1) fun x2 =>
  bindO (extV 1 x1) fun x3 =>
  M.bind (newM 33 #[(Value.int IntKind.i64 0), (Value.int IntKind.i64 0), (Value.int IntKind.i64 0), (Value.int IntKind.i64 0)]) fun x4 =>
  M.bind (stM 4 x4 x2) fun _ =>
  M.bind (F.granaryref4_ParsePointer a0) fun x6 =>
  bindO (extV 0 x6) fun x7 =>
  bindO (extV 1 x6) fun x8 =>
  M.bind (newM 33 #[(Value.int IntKind.i64 0), (Value.int IntKind.i64 0), (Value.int IntKind.i64 0), (Value.int IntKind.i64 0)]) fun x9 =>
  M.bind (stM 4 x9 x7) fun _ =>
  M.bind (rdM (ldA 4 x4)) fun x11 =>
  M.bind (rdM (ldA 4 x9)) fun x12 =>
  bindO (eqV (EqSh.offs [(EqK.int, 0), (EqK.int, 1), (EqK.int, 2), (EqK.int, 3)]) x11 x12) fun x13 =>
  M.bind (guardM x13 true (M.ret x3)) fun x14 =>
  M.bind (guardM x13 true (F.granarylaw4_num x14)) fun x15 =>
  M.bind (guardM x13 true (M.ret x8)) fun x16 =>
  M.bind (guardM x13 true (optM (binV BinOp.eql x15 x16))) fun x17 =>
  bindO (pickV x13 x17 (Value.bool false)) fun x18 =>
  M.ret x18
def F.granarylaw4_pointerAnswers.plan : Plan := (seq leaf (seq leaf (seq leaf (seq leaf leaf))))
theorem F.granarylaw4_pointerAnswers.lift : LiftOk Tryd.prog 12 (ap1 F.granarylaw4_pointerAnswers) :=
  lift1 (g := evFn Tryd.prog (tcons 8 (ap1 F.granarylaw4_num) (tcons 34 (ap1 F.paper_ParsePointer) (tcons 35 (ap1 F.granaryref4_ParsePointer) tnil))) tnil 12 Tryd.f12 F.granarylaw4_pointerAnswers.plan) (evFn_sound (tcons_ok F.granarylaw4_num.lift (tcons_ok F.paper_ParsePointer.lift (tcons_ok F.granaryref4_ParsePointer.lift tnil_ok))) tnil_ok Tryd.func12 (by kernel_rfl)) (fun x0 => by kernel_rfl)

/-- granary/granarylaw4.PaperPointers -/
noncomputable def F.granarylaw4_PaperPointers (a0 a1 : Value) : M Value :=
  M.bind (newM 33 (Value.cells a0)) fun x1 =>
  M.bind (rdM (ldA 4 x1)) fun x2 =>
  M.bind (F.paper_PrintPointer x2) fun x3 =>
  bindO (extV 0 x3) fun x4 =>
  bindO (extV 1 x3) fun x5 =>
  M.bind (rdM (ldA 4 x1)) fun x6 =>
  M.bind (F.granaryref4_PrintPointer x6) fun x7 =>
  bindO (extV 0 x7) fun x8 =>
  bindO (extV 1 x7) fun x9 =>
  bindO (binV BinOp.eql x4 x8) fun x10 =>
  M.bind (guardM x10 true (M.ret x5)) fun x11 =>
  M.bind (guardM x10 true (F.granarylaw4_num x11)) fun x12 =>
  M.bind (guardM x10 true (M.ret x9)) fun x13 =>
  M.bind (guardM x10 true (optM (binV BinOp.eql x12 x13))) fun x14 =>
  bindO (pickV x10 x14 (Value.bool false)) fun x15 =>
  M.bind (guardM x15 true (M.ret a1)) fun x16 =>
  M.bind (guardM x15 true (F.granarylaw4_pointerAnswers x16)) fun x17 =>
  bindO (pickV x15 x17 (Value.bool false)) fun x18 =>
  M.bind (guardM x18 true (M.ret x8)) fun x19 =>
  M.bind (guardM x18 true (F.granarylaw4_pointerAnswers x19)) fun x20 =>
  bindO (pickV x18 x20 (Value.bool false)) fun x21 =>
  M.ret x21
def F.granarylaw4_PaperPointers.plan : Plan := (seq leaf (seq leaf (seq leaf (seq leaf leaf))))
theorem F.granarylaw4_PaperPointers.lift : LiftOk Tryd.prog 4 (ap2 F.granarylaw4_PaperPointers) :=
  lift2 (g := evFn Tryd.prog (tcons 8 (ap1 F.granarylaw4_num) (tcons 10 (ap1 F.paper_PrintPointer) (tcons 11 (ap1 F.granaryref4_PrintPointer) (tcons 12 (ap1 F.granarylaw4_pointerAnswers) tnil)))) tnil 4 Tryd.f4 F.granarylaw4_PaperPointers.plan) (evFn_sound (tcons_ok F.granarylaw4_num.lift (tcons_ok F.paper_PrintPointer.lift (tcons_ok F.granaryref4_PrintPointer.lift (tcons_ok F.granarylaw4_pointerAnswers.lift tnil_ok)))) tnil_ok Tryd.func4 (by kernel_rfl)) (fun x0 x1 => by kernel_rfl)

/-- granary/granarylaw4.in -/
noncomputable def F.granarylaw4_in (a0 a1 a2 : Value) : M Value :=
  bindO (binV BinOp.geq a0 a1) fun x1 =>
  M.bind (guardM x1 true (M.ret a0)) fun x2 =>
  M.bind (guardM x1 true (M.ret a2)) fun x3 =>
  M.bind (guardM x1 true (optM (binV BinOp.leq x2 x3))) fun x4 =>
  bindO (pickV x1 x4 (Value.bool false)) fun x5 =>
  M.ret x5
def F.granarylaw4_in.plan : Plan := (seq leaf (seq leaf leaf))
theorem F.granarylaw4_in.lift : LiftOk Tryd.prog 36 (ap3 F.granarylaw4_in) :=
  lift3 (g := evFn Tryd.prog tnil tnil 36 Tryd.f36 F.granarylaw4_in.plan) (evFn_sound tnil_ok tnil_ok Tryd.func36 (by kernel_rfl)) (fun x0 x1 x2 => by kernel_rfl)

/-- granary/granarylaw4.goodNote -/
noncomputable def F.granarylaw4_goodNote (a0 : Value) : M Value :=
  M.bind (newM 23 (Value.cells a0)) fun x1 =>
  bindO (fieldA 0 x1) fun x2 =>
  M.bind (rdM (ld1 x2)) fun x3 =>
  M.bind (F.granarylaw4_in x3 (Value.int IntKind.i64 1) (Value.int IntKind.i64 4)) fun x4 =>
  M.bind (guardM x4 true (optM (fieldA 1 x1))) fun x5 =>
  M.bind (guardM x4 true (rdM (ld1 x5))) fun x6 =>
  M.bind (guardM x4 true (F.granarylaw4_in x6 (Value.int IntKind.i64 0) (Value.int IntKind.i64 9007199254740992))) fun x7 =>
  bindO (pickV x4 x7 (Value.bool false)) fun x8 =>
  M.bind (guardM x8 true (optM (fieldA 2 x1))) fun x9 =>
  M.bind (guardM x8 true (rdM (ld1 x9))) fun x10 =>
  M.bind (guardM x8 true (F.granarylaw4_in x10 (Value.int IntKind.i64 0) (Value.int IntKind.i64 9007199254740992))) fun x11 =>
  bindO (pickV x8 x11 (Value.bool false)) fun x12 =>
  M.bind (guardM x12 true (optM (fieldA 3 x1))) fun x13 =>
  M.bind (guardM x12 true (rdM (ld1 x13))) fun x14 =>
  M.bind (guardM x12 true (F.granarylaw4_in x14 (Value.int IntKind.i64 0) (Value.int IntKind.i64 4294967295))) fun x15 =>
  bindO (pickV x12 x15 (Value.bool false)) fun x16 =>
  M.ret x16
def F.granarylaw4_goodNote.plan : Plan := (seq leaf (seq leaf leaf))
theorem F.granarylaw4_goodNote.lift : LiftOk Tryd.prog 13 (ap1 F.granarylaw4_goodNote) :=
  lift1 (g := evFn Tryd.prog (tcons 36 (ap3 F.granarylaw4_in) tnil) tnil 13 Tryd.f13 F.granarylaw4_goodNote.plan) (evFn_sound (tcons_ok F.granarylaw4_in.lift tnil_ok) tnil_ok Tryd.func13 (by kernel_rfl)) (fun x0 => by kernel_rfl)

/-- granary/granarylaw4.first -/
noncomputable def F.granarylaw4_first : M Value :=
  bindO (buildV #[(Value.int IntKind.i64 0), (Value.int IntKind.i64 0), (Value.int IntKind.i64 0), (Value.int IntKind.i64 0)] [(0, 1, (Value.int IntKind.i64 1)), (2, 1, (Value.int IntKind.i64 1)), (3, 1, (Value.int IntKind.i64 1))]) fun x1 =>
  M.bind (F.paper_PrintPointer x1) fun x2 =>
  bindO (extV 0 x2) fun x3 =>
  bindO (extV 1 x2) fun x4 =>
  M.bind (F.paper_ParsePointer x3) fun x5 =>
  bindO (extV 0 x5) fun x6 =>
  bindO (extV 1 x5) fun x7 =>
  M.bind (newM 33 #[(Value.int IntKind.i64 0), (Value.int IntKind.i64 0), (Value.int IntKind.i64 0), (Value.int IntKind.i64 0)]) fun x8 =>
  M.bind (stM 4 x8 x6) fun _ =>
  M.bind (F.granarylaw4_num x4) fun x10 =>
  bindO (binV BinOp.eql x10 (Value.int IntKind.i64 0)) fun x11 =>
  M.bind (guardM x11 true (M.ret x7)) fun x12 =>
  M.bind (guardM x11 true (F.granarylaw4_num x12)) fun x13 =>
  M.bind (guardM x11 true (optM (binV BinOp.eql x13 (Value.int IntKind.i64 0)))) fun x14 =>
  bindO (pickV x11 x14 (Value.bool false)) fun x15 =>
  M.bind (guardM x15 true (rdM (ldA 4 x8))) fun x16 =>
  M.bind (guardM x15 true (optM (buildV #[(Value.int IntKind.i64 0), (Value.int IntKind.i64 0), (Value.int IntKind.i64 0), (Value.int IntKind.i64 0)] [(0, 1, (Value.int IntKind.i64 1)), (2, 1, (Value.int IntKind.i64 1)), (3, 1, (Value.int IntKind.i64 1))]))) fun x17 =>
  M.bind (guardM x15 true (optM (eqV (EqSh.offs [(EqK.int, 0), (EqK.int, 1), (EqK.int, 2), (EqK.int, 3)]) x16 x17))) fun x18 =>
  bindO (pickV x15 x18 (Value.bool false)) fun x19 =>
  M.ret x19
def F.granarylaw4_first.plan : Plan := (seq leaf (seq leaf (seq leaf (seq leaf leaf))))
theorem F.granarylaw4_first.lift : LiftOk Tryd.prog 14 (ap0 F.granarylaw4_first) :=
  lift0 (g := evFn Tryd.prog (tcons 8 (ap1 F.granarylaw4_num) (tcons 10 (ap1 F.paper_PrintPointer) (tcons 34 (ap1 F.paper_ParsePointer) tnil))) tnil 14 Tryd.f14 F.granarylaw4_first.plan) (evFn_sound (tcons_ok F.granarylaw4_num.lift (tcons_ok F.paper_PrintPointer.lift (tcons_ok F.paper_ParsePointer.lift tnil_ok))) tnil_ok Tryd.func14 (by kernel_rfl)) (by kernel_rfl)

/-- granary/granarylaw4.spoilt -/
noncomputable def F.granarylaw4_spoilt (a0 a1 a2 : Value) : M Value :=
  bindO (lenS a0) fun x1 =>
  bindO (binV BinOp.eql x1 (Value.int IntKind.i64 0)) fun x2 =>
  condM x2 (
    M.ret (Value.string (ByteArray.mk #[120]))) (
    bindO (lenS a0) fun x3 =>
    bindO (binV BinOp.rem a1 x3) fun x4 =>
    bindO (lenS a0) fun x5 =>
    bindO (binV BinOp.add x4 x5) fun x6 =>
    bindO (lenS a0) fun x7 =>
    bindO (binV BinOp.rem x6 x7) fun x8 =>
    bindO (idxS a0 x8) fun x9 =>
    bindO (cvtI IntKind.i64 x9) fun x10 =>
    bindO (binV BinOp.add x10 (Value.int IntKind.i64 1)) fun x11 =>
    bindO (binV BinOp.rem a2 (Value.int IntKind.i64 255)) fun x12 =>
    bindO (binV BinOp.add x12 (Value.int IntKind.i64 255)) fun x13 =>
    bindO (binV BinOp.rem x13 (Value.int IntKind.i64 255)) fun x14 =>
    bindO (binV BinOp.add x11 x14) fun x15 =>
    bindO (cvtI IntKind.u8 x15) fun x16 =>
    drewM <|
    bindO (sliceS a0 none (some x8)) fun x17 =>
    M.bind (bslM 5 1 (Builtin.zeroCells #[(Value.int IntKind.u8 0)] 1) [(0, 1, x16)]) fun x18 =>
    M.bind (rdM (bsR x18)) fun x19 =>
    bindO (binV BinOp.add x17 x19) fun x20 =>
    bindO (binV BinOp.add x8 (Value.int IntKind.i64 1)) fun x21 =>
    bindO (sliceS a0 (some x21) none) fun x22 =>
    bindO (binV BinOp.add x20 x22) fun x23 =>
    M.ret x23)
def F.granarylaw4_spoilt.plan : Plan := (seq leaf (seq (seq leaf (cond (seq leaf leaf) leaf)) (seq leaf (seq leaf (seq leaf leaf)))))
theorem F.granarylaw4_spoilt.lift : LiftOk Tryd.prog 17 (ap3 F.granarylaw4_spoilt) :=
  lift3 (g := evFn Tryd.prog tnil tnil 17 Tryd.f17 F.granarylaw4_spoilt.plan) (evFn_sound tnil_ok tnil_ok Tryd.func17 (by kernel_rfl)) (fun x0 x1 x2 => by kernel_rfl)

/-- granary/granarylaw4.PaperJournal -/
noncomputable def F.granarylaw4_PaperJournal (a0 a1 a2 a3 a4 a5 : Value) : M Value :=
  M.bind (newM 23 (Value.cells a1)) fun x1 =>
  M.bind (loopM (fun l2 =>
    bindO (lenL a0) fun x3 =>
    bindO (binV BinOp.lss (getL l2 2) x3) fun x4 =>
    condM x4 (
      bindO (idxA 4 a0 (getL l2 2)) fun x5 =>
      M.bind (rdM (ldA 4 x5)) fun x6 =>
      M.bind (F.granarylaw4_goodNote x6) fun x7 =>
      bindO (notV x7) fun x8 =>
      condM x8 (
        M.bind (F.granarylaw4_first) fun x9 =>
        M.ret (Out.ret x9)) (
        bindO (idxA 4 a0 (getL l2 2)) fun x10 =>
        M.bind (rdM (ldA 4 x10)) fun x11 =>
        M.bind (F.paper_PrintNote x11) fun x12 =>
        bindO (extV 0 x12) fun x13 =>
        bindO (extV 1 x12) fun x14 =>
        M.bind (F.granarylaw4_num x14) fun x15 =>
        bindO (binV BinOp.neq x15 (Value.int IntKind.i64 0)) fun x16 =>
        condM x16 (
          M.ret (Out.ret (Value.bool false))) (
          bindO (binV BinOp.add (getL l2 0) x13) fun x17 =>
          bindO (lenS x17) fun x18 =>
          M.bind (bslM 3 1 (Builtin.zeroCells #[(Value.int IntKind.i64 0)] 1) [(0, 1, x18)]) fun x19 =>
          M.bind (appM 3 1 8 #[(Value.int IntKind.i64 0)] (getL l2 1) x19) fun x20 =>
          bindO (binV BinOp.add (getL l2 2) (Value.int IntKind.i64 1)) fun x21 =>
          M.ret (Out.norm [x17, x20, x21])))) (
      M.ret (Out.exit 0 [(getL l2 0), (getL l2 1), (getL l2 2)]))) [(Value.string (ByteArray.mk #[])), (Value.slice none 0 0), (Value.int IntKind.i64 0)]) fun o23 =>
  outK o23 (fun _ => M.fail) (fun k24 l22 =>
    bif Nat.beq k24 0 then (
      M.bind (rdM (ldA 4 x1)) fun x26 =>
      M.bind (F.granarylaw4_goodNote x26) fun x27 =>
      bindO (notV x27) fun x28 =>
      condM x28 (
        M.bind (F.granarylaw4_first) fun x29 =>
        M.ret x29) (
        M.bind (rdM (ldA 4 x1)) fun x30 =>
        M.bind (F.paper_PrintNote x30) fun x31 =>
        bindO (extV 0 x31) fun x32 =>
        bindO (extV 1 x31) fun x33 =>
        M.bind (F.granarylaw4_num x33) fun x34 =>
        bindO (binV BinOp.neq x34 (Value.int IntKind.i64 0)) fun x35 =>
        M.bind (guardM x35 false (M.ret x32)) fun x36 =>
        M.bind (guardM x35 false (optM (lenS x36))) fun x37 =>
        M.bind (guardM x35 false (optM (binV BinOp.eql x37 (Value.int IntKind.i64 0)))) fun x38 =>
        bindO (pickV x35 (Value.bool true) x38) fun x39 =>
        condM x39 (
          M.ret (Value.bool false)) (
          bindO (lenS x32) fun x40 =>
          bindO (binV BinOp.rem a2 x40) fun x41 =>
          bindO (lenS x32) fun x42 =>
          bindO (binV BinOp.add x41 x42) fun x43 =>
          bindO (lenS x32) fun x44 =>
          bindO (binV BinOp.rem x43 x44) fun x45 =>
          bindO (sliceS x32 none (some x45)) fun x46 =>
          bindO (binV BinOp.add (getL l22 0) x46) fun x47 =>
          M.bind (F.paper_ParseNotes x47) fun x48 =>
          bindO (extV 0 x48) fun x49 =>
          bindO (extV 1 x48) fun x50 =>
          M.bind (F.granarylaw4_sameNotes x49 a0) fun x51 =>
          bindO (notV x51) fun x52 =>
          M.bind (guardM x52 false (M.ret x50)) fun x53 =>
          M.bind (guardM x52 false (M.ret (getL l22 0))) fun x54 =>
          M.bind (guardM x52 false (optM (lenS x54))) fun x55 =>
          M.bind (guardM x52 false (optM (binV BinOp.neq x53 x55))) fun x56 =>
          bindO (pickV x52 (Value.bool true) x56) fun x57 =>
          condM x57 (
            M.ret (Value.bool false)) (
            bindO (binV BinOp.add (getL l22 0) a5) fun x58 =>
            M.bind (F.paper_ParseNotes x58) fun x59 =>
            bindO (extV 0 x59) fun x60 =>
            bindO (extV 1 x59) fun x61 =>
            bindO (lenL x60) fun x62 =>
            bindO (lenL a0) fun x63 =>
            bindO (binV BinOp.lss x62 x63) fun x64 =>
            M.bind (guardM x64 false (M.ret x60)) fun x65 =>
            M.bind (guardM x64 false (M.ret a0)) fun x66 =>
            M.bind (guardM x64 false (optM (lenL x66))) fun x67 =>
            M.bind (guardM x64 false (optM (sliceV 4 x65 none (some x67)))) fun x68 =>
            M.bind (guardM x64 false (M.ret a0)) fun x69 =>
            M.bind (guardM x64 false (F.granarylaw4_sameNotes x68 x69)) fun x70 =>
            M.bind (guardM x64 false (optM (notV x70))) fun x71 =>
            bindO (pickV x64 (Value.bool true) x71) fun x72 =>
            M.bind (guardM x72 false (M.ret x61)) fun x73 =>
            M.bind (guardM x72 false (M.ret (getL l22 0))) fun x74 =>
            M.bind (guardM x72 false (optM (lenS x74))) fun x75 =>
            M.bind (guardM x72 false (optM (binV BinOp.lss x73 x75))) fun x76 =>
            bindO (pickV x72 (Value.bool true) x76) fun x77 =>
            condM x77 (
              M.ret (Value.bool false)) (
              bindO (lenL a0) fun x78 =>
              bindO (binV BinOp.eql x78 (Value.int IntKind.i64 0)) fun x79 =>
              condM x79 (
                M.ret (Value.bool true)) (
                bindO (lenS (getL l22 0)) fun x80 =>
                bindO (binV BinOp.rem a3 x80) fun x81 =>
                bindO (lenS (getL l22 0)) fun x82 =>
                bindO (binV BinOp.add x81 x82) fun x83 =>
                bindO (lenS (getL l22 0)) fun x84 =>
                bindO (binV BinOp.rem x83 x84) fun x85 =>
                M.bind (loopM (fun l86 =>
                  bindO (idxA 1 (getL l22 1) (getL l86 0)) fun x87 =>
                  M.bind (rdM (ld1 x87)) fun x88 =>
                  bindO (binV BinOp.leq x88 x85) fun x89 =>
                  condM x89 (
                    bindO (binV BinOp.add (getL l86 0) (Value.int IntKind.i64 1)) fun x90 =>
                    M.ret (Out.norm [x90])) (
                    M.ret (Out.exit 2 [(getL l86 0)]))) [(Value.int IntKind.i64 0)]) fun o92 =>
                outK o92 (fun _ => M.fail) (fun k93 l91 =>
                  bif Nat.beq k93 2 then (
                    M.bind (
                      bindO (binV BinOp.gtr (getL l91 0) (Value.int IntKind.i64 0)) fun x95 =>
                      condM x95 (
                        bindO (binV BinOp.sub (getL l91 0) (Value.int IntKind.i64 1)) fun x96 =>
                        bindO (idxA 1 (getL l22 1) x96) fun x97 =>
                        M.bind (rdM (ld1 x97)) fun x98 =>
                        M.ret (Out.norm [x98])) (
                        M.ret (Out.norm [(Value.int IntKind.i64 0)]))) fun o100 =>
                    outK o100 (fun l99 =>
                      M.bind (F.granarylaw4_spoilt (getL l22 0) a3 a4) fun x103 =>
                      bindO (binV BinOp.add x103 a5) fun x104 =>
                      M.bind (F.paper_ParseNotes x104) fun x105 =>
                      bindO (extV 0 x105) fun x106 =>
                      bindO (extV 1 x105) fun x107 =>
                      bindO (sliceV 4 a0 none (some (getL l91 0))) fun x108 =>
                      M.bind (F.granarylaw4_sameNotes x106 x108) fun x109 =>
                      M.bind (guardM x109 true (M.ret x107)) fun x110 =>
                      M.bind (guardM x109 true (M.ret (getL l99 0))) fun x111 =>
                      M.bind (guardM x109 true (optM (binV BinOp.eql x110 x111))) fun x112 =>
                      bindO (pickV x109 x112 (Value.bool false)) fun x113 =>
                      M.ret x113) (fun _ _ =>
                      M.fail) (fun r102 => M.ret r102)) else
                  M.fail) (fun r94 => M.ret r94))))))) else
    M.fail) (fun r25 => M.ret r25)
def F.granarylaw4_PaperJournal.plan : Plan := (seq leaf (seq leaf (seq leaf (seq (seq leaf (body (loop [13, 14, 15] [12, 13, 14, 15, 16, 17, 26, 27, 28, 29, 30, 31, 32, 33, 34, 35, 36, 37, 38, 39, 40, 41, 42, 43, 44, 45, 46, 47, 48, 49, 50, 51, 52, 53, 54, 55, 56, 57] [0] (seq (seq leaf (cond leaf leaf)) (seq (body (seq (seq leaf (cond (seq leaf leaf) leaf)) (seq leaf (seq (seq leaf (cond (seq leaf leaf) leaf)) (seq leaf leaf))))) leaf))))) (seq (seq leaf (cond (seq leaf leaf) leaf)) (seq leaf (seq (seq leaf (cond (seq leaf leaf) leaf)) (seq leaf (seq leaf (seq (seq leaf (cond (seq leaf leaf) leaf)) (seq leaf (seq (seq leaf (cond (seq leaf leaf) leaf)) (seq (seq leaf (cond (seq leaf leaf) leaf)) (seq leaf (seq leaf (seq (body (loop [24] [24, 144, 145, 146, 147, 148, 149, 150, 151] [2] (seq (seq leaf (cond leaf leaf)) (body leaf)))) (seq leaf (fork [25] [25, 152, 153, 154, 155, 156, 157, 158] [] (seq leaf (cond leaf leaf)) (seq leaf (seq leaf leaf))))))))))))))))))))
theorem F.granarylaw4_PaperJournal.lift : LiftOk Tryd.prog 5 (ap6 F.granarylaw4_PaperJournal) :=
  lift6 (g := evFn Tryd.prog (tcons 6 (ap1 F.paper_PrintNote) (tcons 8 (ap1 F.granarylaw4_num) (tcons 13 (ap1 F.granarylaw4_goodNote) (tcons 14 (ap0 F.granarylaw4_first) (tcons 15 (ap1 F.paper_ParseNotes) (tcons 16 (ap2 F.granarylaw4_sameNotes) (tcons 17 (ap3 F.granarylaw4_spoilt) tnil))))))) tnil 5 Tryd.f5 F.granarylaw4_PaperJournal.plan) (evFn_sound (tcons_ok F.paper_PrintNote.lift (tcons_ok F.granarylaw4_num.lift (tcons_ok F.granarylaw4_goodNote.lift (tcons_ok F.granarylaw4_first.lift (tcons_ok F.paper_ParseNotes.lift (tcons_ok F.granarylaw4_sameNotes.lift (tcons_ok F.granarylaw4_spoilt.lift tnil_ok))))))) tnil_ok Tryd.func5 (by kernel_rfl)) (fun x0 x1 x2 x3 x4 x5 => by kernel_rfl)

end Go.Proofs.YthlpfhjcdedhgaaDoor
