/-
  THE FUNCTIONAL FORMS of the functions of this seat's translation, and that each function comes to its form: printed by a program of the prover's own (lift.py).
-/
import Derived.Test.YtojnickeblbgoaaGreatDoorG0
namespace Go.Proofs.YtojnickeblbgoaaGreatDoor
open Go.Lift Go.Lift.Plan
/-- slices.partitionEqualCmpFunc[granary/api.Entry] -/
noncomputable def F.slices_partitionEqualCmpFunc_Entry (a0 a1 a2 a3 a4 : Value) : M Value :=
  drewM <|
  bindO (idxA 3 a0 a3) fun x1 =>
  M.bind (rdM (ldA 3 x1)) fun x2 =>
  bindO (idxA 3 a0 a1) fun x3 =>
  M.bind (rdM (ldA 3 x3)) fun x4 =>
  bindO (idxA 3 a0 a1) fun x5 =>
  M.bind (stM 3 x5 x2) fun _ =>
  bindO (idxA 3 a0 a3) fun x7 =>
  M.bind (stM 3 x7 x4) fun _ =>
  bindO (binV BinOp.add a1 (Value.int IntKind.i64 1)) fun x9 =>
  bindO (binV BinOp.sub a2 (Value.int IntKind.i64 1)) fun x10 =>
  M.bind (loopM (fun l11 =>
    M.bind (loopM (fun l12 =>
      drewM <|
      bindO (binV BinOp.leq (getL l12 0) (getL l11 1)) fun x13 =>
      M.bind (guardM x13 true (M.ret a4)) fun x14 =>
      M.bind (guardM x13 true (M.ret a0)) fun x15 =>
      M.bind (guardM x13 true (M.ret a1)) fun x16 =>
      M.bind (guardM x13 true (optM (idxA 3 x15 x16))) fun x17 =>
      M.bind (guardM x13 true (rdM (ldA 3 x17))) fun x18 =>
      M.bind (guardM x13 true (M.ret a0)) fun x19 =>
      M.bind (guardM x13 true (M.ret (getL l12 0))) fun x20 =>
      M.bind (guardM x13 true (optM (idxA 3 x19 x20))) fun x21 =>
      M.bind (guardM x13 true (rdM (ldA 3 x21))) fun x22 =>
      M.bind (guardM x13 true (callV F.clos x14 [x18, x22])) fun x23 =>
      M.bind (guardM x13 true (optM (binV BinOp.lss x23 (Value.int IntKind.i64 0)))) fun x24 =>
      M.bind (guardM x13 true (optM (notV x24))) fun x25 =>
      bindO (pickV x13 x25 (Value.bool false)) fun x26 =>
      condM x26 (
        bindO (binV BinOp.add (getL l12 0) (Value.int IntKind.i64 1)) fun x27 =>
        M.ret (Out.norm [x27])) (
        M.ret (Out.exit 2 [(getL l12 0)]))) [(getL l11 0)]) fun o29 =>
    outK o29 (fun _ => M.fail) (fun k30 l28 =>
      bif Nat.beq k30 2 then (
        M.bind (loopM (fun l32 =>
          drewM <|
          bindO (binV BinOp.leq (getL l28 0) (getL l32 0)) fun x33 =>
          M.bind (guardM x33 true (M.ret a4)) fun x34 =>
          M.bind (guardM x33 true (M.ret a0)) fun x35 =>
          M.bind (guardM x33 true (M.ret a1)) fun x36 =>
          M.bind (guardM x33 true (optM (idxA 3 x35 x36))) fun x37 =>
          M.bind (guardM x33 true (rdM (ldA 3 x37))) fun x38 =>
          M.bind (guardM x33 true (M.ret a0)) fun x39 =>
          M.bind (guardM x33 true (M.ret (getL l32 0))) fun x40 =>
          M.bind (guardM x33 true (optM (idxA 3 x39 x40))) fun x41 =>
          M.bind (guardM x33 true (rdM (ldA 3 x41))) fun x42 =>
          M.bind (guardM x33 true (callV F.clos x34 [x38, x42])) fun x43 =>
          M.bind (guardM x33 true (optM (binV BinOp.lss x43 (Value.int IntKind.i64 0)))) fun x44 =>
          bindO (pickV x33 x44 (Value.bool false)) fun x45 =>
          condM x45 (
            bindO (binV BinOp.sub (getL l32 0) (Value.int IntKind.i64 1)) fun x46 =>
            M.ret (Out.norm [x46])) (
            M.ret (Out.exit 4 [(getL l32 0)]))) [(getL l11 1)]) fun o48 =>
        outK o48 (fun _ => M.fail) (fun k49 l47 =>
          bif Nat.beq k49 4 then (
            bindO (binV BinOp.gtr (getL l28 0) (getL l47 0)) fun x51 =>
            condM x51 (
              M.ret (Out.exit 0 [(getL l28 0), (getL l47 0)])) (
              drewM <|
              bindO (idxA 3 a0 (getL l47 0)) fun x52 =>
              M.bind (rdM (ldA 3 x52)) fun x53 =>
              bindO (idxA 3 a0 (getL l28 0)) fun x54 =>
              M.bind (rdM (ldA 3 x54)) fun x55 =>
              bindO (idxA 3 a0 (getL l28 0)) fun x56 =>
              M.bind (stM 3 x56 x53) fun _ =>
              bindO (idxA 3 a0 (getL l47 0)) fun x58 =>
              M.bind (stM 3 x58 x55) fun _ =>
              bindO (binV BinOp.add (getL l28 0) (Value.int IntKind.i64 1)) fun x60 =>
              bindO (binV BinOp.sub (getL l47 0) (Value.int IntKind.i64 1)) fun x61 =>
              M.ret (Out.norm [x60, x61]))) else
          M.fail) (fun r50 => M.ret (Out.ret r50))) else
      M.fail) (fun r31 => M.ret (Out.ret r31))) [x9, x10]) fun o63 =>
  outK o63 (fun _ => M.fail) (fun k64 l62 =>
    bif Nat.beq k64 0 then (
      M.ret (getL l62 0)) else
    M.fail) (fun r65 => M.ret r65)
def F.slices_partitionEqualCmpFunc_Entry.plan : Plan := (seq leaf (seq leaf (seq leaf (seq (body (loop [11, 12] [11, 12, 31, 32, 33, 34, 35, 36, 37, 38, 39, 40, 41, 42, 43, 44, 45, 46, 47, 48, 49, 50, 51, 52, 53, 54, 55, 56, 57, 58, 59, 60, 61, 62, 63, 64, 65, 66, 67, 68, 69, 70, 71, 72, 73, 74, 75, 76, 77, 78, 79, 80, 81, 82, 83, 84, 85, 86, 87, 88] [0] (body (seq (body (loop [11] [11, 31, 32, 33, 34, 35, 36, 37, 38, 39, 40, 41, 42, 43, 44, 45, 46, 47, 48, 49] [2] (seq (seq leaf (cond leaf leaf)) (body leaf)))) (seq (body (loop [12] [12, 50, 51, 52, 53, 54, 55, 56, 57, 58, 59, 60, 61, 62, 63, 64, 65, 66, 67] [4] (seq (seq leaf (cond leaf leaf)) (body leaf)))) (seq (seq leaf (cond leaf leaf)) (seq leaf (seq leaf leaf)))))))) (seq leaf leaf)))))
theorem F.slices_partitionEqualCmpFunc_Entry.lift : LiftOk Tryz.prog 125 (ap5 F.slices_partitionEqualCmpFunc_Entry) :=
  lift5 (g := evFn Tryz.prog tnil F.clos 125 Tryz.f125 F.slices_partitionEqualCmpFunc_Entry.plan) (evFn_sound tnil_ok F.clos_ok Tryz.func125 (by kernel_rfl)) (fun x0 x1 x2 x3 x4 => by kernel_rfl)

/-- slices.partitionCmpFunc[granary/api.Entry] -/
noncomputable def F.slices_partitionCmpFunc_Entry (a0 a1 a2 a3 a4 : Value) : M Value :=
  drewM <|
  bindO (idxA 3 a0 a3) fun x1 =>
  M.bind (rdM (ldA 3 x1)) fun x2 =>
  bindO (idxA 3 a0 a1) fun x3 =>
  M.bind (rdM (ldA 3 x3)) fun x4 =>
  bindO (idxA 3 a0 a1) fun x5 =>
  M.bind (stM 3 x5 x2) fun _ =>
  bindO (idxA 3 a0 a3) fun x7 =>
  M.bind (stM 3 x7 x4) fun _ =>
  bindO (binV BinOp.add a1 (Value.int IntKind.i64 1)) fun x9 =>
  bindO (binV BinOp.sub a2 (Value.int IntKind.i64 1)) fun x10 =>
  M.bind (loopM (fun l11 =>
    drewM <|
    bindO (binV BinOp.leq (getL l11 0) x10) fun x12 =>
    M.bind (guardM x12 true (M.ret a4)) fun x13 =>
    M.bind (guardM x12 true (M.ret a0)) fun x14 =>
    M.bind (guardM x12 true (M.ret (getL l11 0))) fun x15 =>
    M.bind (guardM x12 true (optM (idxA 3 x14 x15))) fun x16 =>
    M.bind (guardM x12 true (rdM (ldA 3 x16))) fun x17 =>
    M.bind (guardM x12 true (M.ret a0)) fun x18 =>
    M.bind (guardM x12 true (M.ret a1)) fun x19 =>
    M.bind (guardM x12 true (optM (idxA 3 x18 x19))) fun x20 =>
    M.bind (guardM x12 true (rdM (ldA 3 x20))) fun x21 =>
    M.bind (guardM x12 true (callV F.clos x13 [x17, x21])) fun x22 =>
    M.bind (guardM x12 true (optM (binV BinOp.lss x22 (Value.int IntKind.i64 0)))) fun x23 =>
    bindO (pickV x12 x23 (Value.bool false)) fun x24 =>
    condM x24 (
      bindO (binV BinOp.add (getL l11 0) (Value.int IntKind.i64 1)) fun x25 =>
      M.ret (Out.norm [x25])) (
      M.ret (Out.exit 0 [(getL l11 0)]))) [x9]) fun o27 =>
  outK o27 (fun _ => M.fail) (fun k28 l26 =>
    bif Nat.beq k28 0 then (
      M.bind (loopM (fun l30 =>
        drewM <|
        bindO (binV BinOp.leq (getL l26 0) (getL l30 0)) fun x31 =>
        M.bind (guardM x31 true (M.ret a4)) fun x32 =>
        M.bind (guardM x31 true (M.ret a0)) fun x33 =>
        M.bind (guardM x31 true (M.ret (getL l30 0))) fun x34 =>
        M.bind (guardM x31 true (optM (idxA 3 x33 x34))) fun x35 =>
        M.bind (guardM x31 true (rdM (ldA 3 x35))) fun x36 =>
        M.bind (guardM x31 true (M.ret a0)) fun x37 =>
        M.bind (guardM x31 true (M.ret a1)) fun x38 =>
        M.bind (guardM x31 true (optM (idxA 3 x37 x38))) fun x39 =>
        M.bind (guardM x31 true (rdM (ldA 3 x39))) fun x40 =>
        M.bind (guardM x31 true (callV F.clos x32 [x36, x40])) fun x41 =>
        M.bind (guardM x31 true (optM (binV BinOp.lss x41 (Value.int IntKind.i64 0)))) fun x42 =>
        M.bind (guardM x31 true (optM (notV x42))) fun x43 =>
        bindO (pickV x31 x43 (Value.bool false)) fun x44 =>
        condM x44 (
          bindO (binV BinOp.sub (getL l30 0) (Value.int IntKind.i64 1)) fun x45 =>
          M.ret (Out.norm [x45])) (
          M.ret (Out.exit 2 [(getL l30 0)]))) [x10]) fun o47 =>
      outK o47 (fun _ => M.fail) (fun k48 l46 =>
        bif Nat.beq k48 2 then (
          bindO (binV BinOp.gtr (getL l26 0) (getL l46 0)) fun x50 =>
          condM x50 (
            drewM <|
            bindO (idxA 3 a0 a1) fun x51 =>
            M.bind (rdM (ldA 3 x51)) fun x52 =>
            bindO (idxA 3 a0 (getL l46 0)) fun x53 =>
            M.bind (rdM (ldA 3 x53)) fun x54 =>
            bindO (idxA 3 a0 (getL l46 0)) fun x55 =>
            M.bind (stM 3 x55 x52) fun _ =>
            bindO (idxA 3 a0 a1) fun x57 =>
            M.bind (stM 3 x57 x54) fun _ =>
            M.ret (Value.tuple #[(getL l46 0), (Value.bool true)])) (
            drewM <|
            bindO (idxA 3 a0 (getL l46 0)) fun x59 =>
            M.bind (rdM (ldA 3 x59)) fun x60 =>
            bindO (idxA 3 a0 (getL l26 0)) fun x61 =>
            M.bind (rdM (ldA 3 x61)) fun x62 =>
            bindO (idxA 3 a0 (getL l26 0)) fun x63 =>
            M.bind (stM 3 x63 x60) fun _ =>
            bindO (idxA 3 a0 (getL l46 0)) fun x65 =>
            M.bind (stM 3 x65 x62) fun _ =>
            bindO (binV BinOp.add (getL l26 0) (Value.int IntKind.i64 1)) fun x67 =>
            bindO (binV BinOp.sub (getL l46 0) (Value.int IntKind.i64 1)) fun x68 =>
            M.bind (loopM (fun l69 =>
              M.bind (loopM (fun l70 =>
                drewM <|
                bindO (binV BinOp.leq (getL l70 0) (getL l69 1)) fun x71 =>
                M.bind (guardM x71 true (M.ret a4)) fun x72 =>
                M.bind (guardM x71 true (M.ret a0)) fun x73 =>
                M.bind (guardM x71 true (M.ret (getL l70 0))) fun x74 =>
                M.bind (guardM x71 true (optM (idxA 3 x73 x74))) fun x75 =>
                M.bind (guardM x71 true (rdM (ldA 3 x75))) fun x76 =>
                M.bind (guardM x71 true (M.ret a0)) fun x77 =>
                M.bind (guardM x71 true (M.ret a1)) fun x78 =>
                M.bind (guardM x71 true (optM (idxA 3 x77 x78))) fun x79 =>
                M.bind (guardM x71 true (rdM (ldA 3 x79))) fun x80 =>
                M.bind (guardM x71 true (callV F.clos x72 [x76, x80])) fun x81 =>
                M.bind (guardM x71 true (optM (binV BinOp.lss x81 (Value.int IntKind.i64 0)))) fun x82 =>
                bindO (pickV x71 x82 (Value.bool false)) fun x83 =>
                condM x83 (
                  bindO (binV BinOp.add (getL l70 0) (Value.int IntKind.i64 1)) fun x84 =>
                  M.ret (Out.norm [x84])) (
                  M.ret (Out.exit 6 [(getL l70 0)]))) [(getL l69 0)]) fun o86 =>
              outK o86 (fun _ => M.fail) (fun k87 l85 =>
                bif Nat.beq k87 6 then (
                  M.bind (loopM (fun l89 =>
                    drewM <|
                    bindO (binV BinOp.leq (getL l85 0) (getL l89 0)) fun x90 =>
                    M.bind (guardM x90 true (M.ret a4)) fun x91 =>
                    M.bind (guardM x90 true (M.ret a0)) fun x92 =>
                    M.bind (guardM x90 true (M.ret (getL l89 0))) fun x93 =>
                    M.bind (guardM x90 true (optM (idxA 3 x92 x93))) fun x94 =>
                    M.bind (guardM x90 true (rdM (ldA 3 x94))) fun x95 =>
                    M.bind (guardM x90 true (M.ret a0)) fun x96 =>
                    M.bind (guardM x90 true (M.ret a1)) fun x97 =>
                    M.bind (guardM x90 true (optM (idxA 3 x96 x97))) fun x98 =>
                    M.bind (guardM x90 true (rdM (ldA 3 x98))) fun x99 =>
                    M.bind (guardM x90 true (callV F.clos x91 [x95, x99])) fun x100 =>
                    M.bind (guardM x90 true (optM (binV BinOp.lss x100 (Value.int IntKind.i64 0)))) fun x101 =>
                    M.bind (guardM x90 true (optM (notV x101))) fun x102 =>
                    bindO (pickV x90 x102 (Value.bool false)) fun x103 =>
                    condM x103 (
                      bindO (binV BinOp.sub (getL l89 0) (Value.int IntKind.i64 1)) fun x104 =>
                      M.ret (Out.norm [x104])) (
                      M.ret (Out.exit 8 [(getL l89 0)]))) [(getL l69 1)]) fun o106 =>
                  outK o106 (fun _ => M.fail) (fun k107 l105 =>
                    bif Nat.beq k107 8 then (
                      bindO (binV BinOp.gtr (getL l85 0) (getL l105 0)) fun x109 =>
                      condM x109 (
                        M.ret (Out.exit 4 [(getL l85 0), (getL l105 0)])) (
                        drewM <|
                        bindO (idxA 3 a0 (getL l105 0)) fun x110 =>
                        M.bind (rdM (ldA 3 x110)) fun x111 =>
                        bindO (idxA 3 a0 (getL l85 0)) fun x112 =>
                        M.bind (rdM (ldA 3 x112)) fun x113 =>
                        bindO (idxA 3 a0 (getL l85 0)) fun x114 =>
                        M.bind (stM 3 x114 x111) fun _ =>
                        bindO (idxA 3 a0 (getL l105 0)) fun x116 =>
                        M.bind (stM 3 x116 x113) fun _ =>
                        bindO (binV BinOp.add (getL l85 0) (Value.int IntKind.i64 1)) fun x118 =>
                        bindO (binV BinOp.sub (getL l105 0) (Value.int IntKind.i64 1)) fun x119 =>
                        M.ret (Out.norm [x118, x119]))) else
                    M.fail) (fun r108 => M.ret (Out.ret r108))) else
                M.fail) (fun r88 => M.ret (Out.ret r88))) [x67, x68]) fun o121 =>
            outK o121 (fun _ => M.fail) (fun k122 l120 =>
              bif Nat.beq k122 4 then (
                drewM <|
                bindO (idxA 3 a0 a1) fun x124 =>
                M.bind (rdM (ldA 3 x124)) fun x125 =>
                bindO (idxA 3 a0 (getL l120 1)) fun x126 =>
                M.bind (rdM (ldA 3 x126)) fun x127 =>
                bindO (idxA 3 a0 (getL l120 1)) fun x128 =>
                M.bind (stM 3 x128 x125) fun _ =>
                bindO (idxA 3 a0 a1) fun x130 =>
                M.bind (stM 3 x130 x127) fun _ =>
                M.ret (Value.tuple #[(getL l120 1), (Value.bool false)])) else
              M.fail) (fun r123 => M.ret r123))) else
        M.fail) (fun r49 => M.ret r49)) else
    M.fail) (fun r29 => M.ret r29)
def F.slices_partitionCmpFunc_Entry.plan : Plan := (seq leaf (seq leaf (seq leaf (seq (body (loop [12] [12, 32, 33, 34, 35, 36, 37, 38, 39, 40, 41, 42, 43, 44, 45, 46, 47, 48, 49] [0] (seq (seq leaf (cond leaf leaf)) (body leaf)))) (seq (body (loop [13] [13, 50, 51, 52, 53, 54, 55, 56, 57, 58, 59, 60, 61, 62, 63, 64, 65, 66, 67, 68] [2] (seq (seq leaf (cond leaf leaf)) (body leaf)))) (seq (seq leaf (cond (seq leaf (seq leaf leaf)) leaf)) (seq leaf (seq leaf (seq leaf (seq (body (loop [12, 13] [12, 13, 105, 106, 107, 108, 109, 110, 111, 112, 113, 114, 115, 116, 117, 118, 119, 120, 121, 122, 123, 124, 125, 126, 127, 128, 129, 130, 131, 132, 133, 134, 135, 136, 137, 138, 139, 140, 141, 142, 143, 144, 145, 146, 147, 148, 149, 150, 151, 152, 153, 154, 155, 156, 157, 158, 159, 160, 161, 162] [4] (body (seq (body (loop [12] [12, 105, 106, 107, 108, 109, 110, 111, 112, 113, 114, 115, 116, 117, 118, 119, 120, 121, 122] [6] (seq (seq leaf (cond leaf leaf)) (body leaf)))) (seq (body (loop [13] [13, 123, 124, 125, 126, 127, 128, 129, 130, 131, 132, 133, 134, 135, 136, 137, 138, 139, 140, 141] [8] (seq (seq leaf (cond leaf leaf)) (body leaf)))) (seq (seq leaf (cond leaf leaf)) (seq leaf (seq leaf leaf)))))))) (seq leaf (seq leaf leaf))))))))))))
theorem F.slices_partitionCmpFunc_Entry.lift : LiftOk Tryz.prog 126 (ap5 F.slices_partitionCmpFunc_Entry) :=
  lift5 (g := evFn Tryz.prog tnil F.clos 126 Tryz.f126 F.slices_partitionCmpFunc_Entry.plan) (evFn_sound tnil_ok F.clos_ok Tryz.func126 (by kernel_rfl)) (fun x0 x1 x2 x3 x4 => by kernel_rfl)

/-- slices.pdqsortCmpFunc[granary/api.Entry], the calls of itself left open -/
noncomputable def F.slices_pdqsortCmpFunc_Entry.step (rec : Value → Value → Value → Value → Value → M Value) (a0 a1 a2 a3 a4 : Value) : M Value :=
  M.bind (loopM (fun l1 =>
    bindO (binV BinOp.sub (getL l1 1) (getL l1 0)) fun x2 =>
    bindO (binV BinOp.leq x2 (Value.int IntKind.i64 12)) fun x3 =>
    condM x3 (
      M.bind (F.slices_insertionSortCmpFunc_Entry a0 (getL l1 0) (getL l1 1) a4) fun _ =>
      M.ret (Out.ret (Value.tuple #[]))) (
      bindO (binV BinOp.eql (getL l1 2) (Value.int IntKind.i64 0)) fun x5 =>
      condM x5 (
        M.bind (F.slices_heapSortCmpFunc_Entry a0 (getL l1 0) (getL l1 1) a4) fun _ =>
        M.ret (Out.ret (Value.tuple #[]))) (
        M.bind (
          bindO (notV (getL l1 3)) fun x7 =>
          condM x7 (
            M.bind (F.slices_breakPatternsCmpFunc_Entry a0 (getL l1 0) (getL l1 1) a4) fun _ =>
            bindO (binV BinOp.sub (getL l1 2) (Value.int IntKind.i64 1)) fun x9 =>
            M.ret (Out.norm [x9])) (
            M.ret (Out.norm [(getL l1 2)]))) fun o11 =>
        outK o11 (fun l10 =>
          M.bind (F.slices_choosePivotCmpFunc_Entry a0 (getL l1 0) (getL l1 1) a4) fun x14 =>
          bindO (extV 0 x14) fun x15 =>
          bindO (extV 1 x14) fun x16 =>
          M.bind (
            bindO (binV BinOp.eql x16 (Value.int IntKind.i64 2)) fun x17 =>
            condM x17 (
              M.bind (F.slices_reverseRangeCmpFunc_Entry a0 (getL l1 0) (getL l1 1) a4) fun _ =>
              bindO (binV BinOp.sub (getL l1 1) (Value.int IntKind.i64 1)) fun x19 =>
              bindO (binV BinOp.sub x15 (getL l1 0)) fun x20 =>
              bindO (binV BinOp.sub x19 x20) fun x21 =>
              M.ret (Out.norm [x21, (Value.int IntKind.i64 1)])) (
              M.ret (Out.norm [x15, x16]))) fun o23 =>
          outK o23 (fun l22 =>
            M.bind (
              M.bind (guardM (getL l1 3) true (M.ret (getL l1 4))) fun x26 =>
              bindO (pickV (getL l1 3) x26 (Value.bool false)) fun x27 =>
              M.bind (guardM x27 true (M.ret (getL l22 1))) fun x28 =>
              M.bind (guardM x27 true (optM (binV BinOp.eql x28 (Value.int IntKind.i64 1)))) fun x29 =>
              bindO (pickV x27 x29 (Value.bool false)) fun x30 =>
              condM x30 (
                M.bind (F.slices_partialInsertionSortCmpFunc_Entry a0 (getL l1 0) (getL l1 1) a4) fun x31 =>
                condM x31 (
                  M.ret (Out.ret (Value.tuple #[]))) (
                  M.ret (Out.norm []))) (
                M.ret (Out.norm []))) fun o33 =>
            outK o33 (fun _ =>
              drewM <|
              bindO (binV BinOp.gtr (getL l1 0) (Value.int IntKind.i64 0)) fun x36 =>
              M.bind (guardM x36 true (M.ret a4)) fun x37 =>
              M.bind (guardM x36 true (M.ret a0)) fun x38 =>
              M.bind (guardM x36 true (M.ret (getL l1 0))) fun x39 =>
              M.bind (guardM x36 true (optM (binV BinOp.sub x39 (Value.int IntKind.i64 1)))) fun x40 =>
              M.bind (guardM x36 true (optM (idxA 3 x38 x40))) fun x41 =>
              M.bind (guardM x36 true (rdM (ldA 3 x41))) fun x42 =>
              M.bind (guardM x36 true (M.ret a0)) fun x43 =>
              M.bind (guardM x36 true (M.ret (getL l22 0))) fun x44 =>
              M.bind (guardM x36 true (optM (idxA 3 x43 x44))) fun x45 =>
              M.bind (guardM x36 true (rdM (ldA 3 x45))) fun x46 =>
              M.bind (guardM x36 true (callV F.clos x37 [x42, x46])) fun x47 =>
              M.bind (guardM x36 true (optM (binV BinOp.lss x47 (Value.int IntKind.i64 0)))) fun x48 =>
              M.bind (guardM x36 true (optM (notV x48))) fun x49 =>
              bindO (pickV x36 x49 (Value.bool false)) fun x50 =>
              condM x50 (
                M.bind (F.slices_partitionEqualCmpFunc_Entry a0 (getL l1 0) (getL l1 1) (getL l22 0) a4) fun x51 =>
                M.ret (Out.norm [x51, (getL l1 1), (getL l10 0), (getL l1 3), (getL l1 4)])) (
                M.bind (F.slices_partitionCmpFunc_Entry a0 (getL l1 0) (getL l1 1) (getL l22 0) a4) fun x52 =>
                bindO (extV 0 x52) fun x53 =>
                bindO (extV 1 x52) fun x54 =>
                bindO (binV BinOp.sub x53 (getL l1 0)) fun x55 =>
                bindO (binV BinOp.sub (getL l1 1) x53) fun x56 =>
                bindO (binV BinOp.quo x2 (Value.int IntKind.i64 8)) fun x57 =>
                bindO (binV BinOp.lss x55 x56) fun x58 =>
                condM x58 (
                  bindO (binV BinOp.geq x55 x57) fun x59 =>
                  M.bind (rec a0 (getL l1 0) x53 (getL l10 0) a4) fun _ =>
                  bindO (binV BinOp.add x53 (Value.int IntKind.i64 1)) fun x61 =>
                  M.ret (Out.norm [x61, (getL l1 1), (getL l10 0), x59, x54])) (
                  bindO (binV BinOp.geq x56 x57) fun x62 =>
                  bindO (binV BinOp.add x53 (Value.int IntKind.i64 1)) fun x63 =>
                  M.bind (rec a0 x63 (getL l1 1) (getL l10 0) a4) fun _ =>
                  M.ret (Out.norm [(getL l1 0), x53, (getL l10 0), x62, x54])))) (fun _ _ =>
              M.fail) (fun r35 => M.ret (Out.ret r35))) (fun _ _ =>
            M.fail) (fun r25 => M.ret (Out.ret r25))) (fun _ _ =>
          M.fail) (fun r13 => M.ret (Out.ret r13))))) [a1, a2, a3, (Value.bool true), (Value.bool true)]) fun o69 =>
  outK o69 (fun _ => M.fail) (fun _ _ =>
    M.fail) (fun r71 => M.ret r71)
def F.slices_pdqsortCmpFunc_Entry.plan : Plan := (seq leaf (seq leaf (body (loop [1, 2, 3, 10, 11] [1, 2, 3, 10, 11, 12, 13, 14, 15, 16, 17, 18, 19, 20, 21, 22, 23, 24, 25, 26, 27, 28, 29, 30, 31, 32, 33, 34, 35, 36, 37, 38, 39, 40, 41, 42, 43, 44, 45, 46, 47, 48, 49, 50, 51, 52, 53, 54, 55, 56, 57, 58, 59, 60, 61, 62, 63, 64, 65, 66, 67, 68, 69, 70, 71, 72, 73, 74, 75, 76, 77, 78, 79, 80, 81, 82, 83, 84, 85, 86, 87, 88, 89, 90, 91, 92, 93, 94, 95, 96, 97, 98, 99, 100, 101, 102, 103, 104, 105, 106, 107, 108, 109, 110, 111, 112, 113, 114, 115, 116, 117, 118, 119, 120, 121, 122, 123, 124, 125, 126, 127, 128, 129, 130, 131, 132, 133, 134, 135, 136, 137, 138, 139, 140, 141, 142, 143, 144, 145, 146, 147] [] (body (seq leaf (seq (seq leaf (cond (seq leaf leaf) leaf)) (seq (seq leaf (cond (seq leaf leaf) leaf)) (fork [3] [3, 38, 39, 40, 41, 42, 43, 44, 45, 46] [] (seq leaf (cond (seq leaf leaf) leaf)) (seq leaf (fork [13, 14] [13, 14, 55, 56, 57, 58, 59, 60, 61, 62, 63, 64, 65, 66, 67] [] (seq leaf (cond (seq leaf (seq leaf leaf)) leaf)) (fork [] [68, 69, 70, 71, 72, 73, 74, 75, 76, 77, 78, 79, 80] [] (seq leaf (cond (seq leaf (cond leaf leaf)) leaf)) (seq (seq leaf (cond (seq leaf (seq leaf leaf)) leaf)) (seq leaf (seq leaf (seq leaf (seq leaf (seq leaf (cond (seq leaf (seq leaf leaf)) (seq leaf (seq leaf leaf)))))))))))))))))))))
theorem F.slices_pdqsortCmpFunc_Entry.step_lift {rec : Value → Value → Value → Value → Value → M Value} (hrec : LiftOk Tryz.prog 104 (ap5 rec)) : LiftOk Tryz.prog 104 (ap5 (F.slices_pdqsortCmpFunc_Entry.step rec)) :=
  lift5 (g := evFn Tryz.prog (tcons 104 (ap5 rec) (tcons 119 (ap4 F.slices_insertionSortCmpFunc_Entry) (tcons 120 (ap4 F.slices_heapSortCmpFunc_Entry) (tcons 121 (ap4 F.slices_breakPatternsCmpFunc_Entry) (tcons 122 (ap4 F.slices_choosePivotCmpFunc_Entry) (tcons 123 (ap4 F.slices_reverseRangeCmpFunc_Entry) (tcons 124 (ap4 F.slices_partialInsertionSortCmpFunc_Entry) (tcons 125 (ap5 F.slices_partitionEqualCmpFunc_Entry) (tcons 126 (ap5 F.slices_partitionCmpFunc_Entry) tnil))))))))) F.clos 104 Tryz.f104 F.slices_pdqsortCmpFunc_Entry.plan) (evFn_sound (tcons_ok hrec (tcons_ok F.slices_insertionSortCmpFunc_Entry.lift (tcons_ok F.slices_heapSortCmpFunc_Entry.lift (tcons_ok F.slices_breakPatternsCmpFunc_Entry.lift (tcons_ok F.slices_choosePivotCmpFunc_Entry.lift (tcons_ok F.slices_reverseRangeCmpFunc_Entry.lift (tcons_ok F.slices_partialInsertionSortCmpFunc_Entry.lift (tcons_ok F.slices_partitionEqualCmpFunc_Entry.lift (tcons_ok F.slices_partitionCmpFunc_Entry.lift tnil_ok))))))))) F.clos_ok Tryz.func104 (by kernel_rfl)) (fun x0 x1 x2 x3 x4 => by kernel_rfl)
noncomputable def F.slices_pdqsortCmpFunc_Entry.it : Nat → Value → Value → Value → Value → Value → M Value
  | 0 => fun _ _ _ _ _ => M.fail
  | n + 1 => F.slices_pdqsortCmpFunc_Entry.step (F.slices_pdqsortCmpFunc_Entry.it n)
theorem F.slices_pdqsortCmpFunc_Entry.it_lift : ∀ n, LiftOk Tryz.prog 104 (ap5 (F.slices_pdqsortCmpFunc_Entry.it n))
  | 0 => lift_fail fun args => by unfold ap5; split <;> rfl
  | n + 1 => F.slices_pdqsortCmpFunc_Entry.step_lift (F.slices_pdqsortCmpFunc_Entry.it_lift n)
/-- slices.pdqsortCmpFunc[granary/api.Entry] -/
noncomputable def F.slices_pdqsortCmpFunc_Entry (x0 x1 x2 x3 x4 : Value) : M Value := recL (fun n => ap5 (F.slices_pdqsortCmpFunc_Entry.it n)) [x0, x1, x2, x3, x4]
theorem F.slices_pdqsortCmpFunc_Entry.lift : LiftOk Tryz.prog 104 (ap5 F.slices_pdqsortCmpFunc_Entry) := lift5 (recL_lift F.slices_pdqsortCmpFunc_Entry.it_lift) fun _ _ _ _ _ => rfl
theorem F.slices_pdqsortCmpFunc_Entry.own : Own Tryz.prog 104 := ⟨⟨Tryz.f104, Tryz.func104, by kernel_rfl, by kernel_rfl⟩, by kernel_rfl⟩
theorem F.slices_pdqsortCmpFunc_Entry.run {n : Nat} {x0 x1 x2 x3 x4 : Value} {w : World} {Q : Value → World → Prop} (h : Run (F.slices_pdqsortCmpFunc_Entry.it n x0 x1 x2 x3 x4) w Q) : Run (F.slices_pdqsortCmpFunc_Entry x0 x1 x2 x3 x4) w Q := recL_run F.slices_pdqsortCmpFunc_Entry.it_lift F.slices_pdqsortCmpFunc_Entry.own (n := n) h

/-- slices.SortFunc[[]granary/api.Entry,granary/api.Entry] -/
noncomputable def F.slices_SortFunc_Entry (a0 a1 : Value) : M Value :=
  bindO (lenL a0) fun x1 =>
  bindO (cvtI IntKind.u64 x1) fun x2 =>
  M.bind (F.bits_Len x2) fun x3 =>
  M.bind (F.slices_pdqsortCmpFunc_Entry a0 (Value.int IntKind.i64 0) x1 x3 a1) fun _ =>
  M.ret (Value.tuple #[])
def F.slices_SortFunc_Entry.plan : Plan := (seq leaf leaf)
theorem F.slices_SortFunc_Entry.lift : LiftOk Tryz.prog 73 (ap2 F.slices_SortFunc_Entry) :=
  lift2 (g := evFn Tryz.prog (tcons 104 (ap5 F.slices_pdqsortCmpFunc_Entry) (tcons 105 (ap1 F.bits_Len) tnil)) tnil 73 Tryz.f73 F.slices_SortFunc_Entry.plan) (evFn_sound (tcons_ok F.slices_pdqsortCmpFunc_Entry.lift (tcons_ok F.bits_Len.lift tnil_ok)) tnil_ok Tryz.func73 (by kernel_rfl)) (fun x0 x1 => by kernel_rfl)

/-- (*granary/disk.Disk).List -/
noncomputable def F.disk_Disk_List (a0 a1 : Value) : M Value :=
  M.bind (F.disk_Disk_find a0 a1 (Value.int IntKind.i64 1)) fun x1 =>
  bindO (extV 0 x1) fun x2 =>
  bindO (extV 1 x1) fun x3 =>
  M.bind (newM 85 #[(Value.int IntKind.i64 0), (Value.string ByteArray.empty), (Value.int IntKind.i64 0)]) fun x4 =>
  M.bind (stM 3 x4 x2) fun _ =>
  bindO (binV BinOp.neq x3 (Value.int IntKind.i64 0)) fun x6 =>
  condM x6 (
    M.ret (Value.tuple #[(Value.slice none 0 0), x3])) (
    bindO (nilChk a0) fun x7 =>
    bindO (fieldA 7 x7) fun x8 =>
    M.bind (rdM (ld1 x8)) fun x9 =>
    M.bind (rngM x9) fun x10 =>
    M.bind (loopM (fun l11 =>
      M.bind (nxtM x10) fun x12 =>
      bindO (extV 0 x12) fun x13 =>
      condM x13 (
        M.bind (rdM (entV x10)) fun x14 =>
        bindO (extV 0 x14) fun x15 =>
        bindO (extV 1 x14) fun x16 =>
        M.bind (newM 83 #[(Value.int IntKind.i64 0), (Value.string ByteArray.empty)]) fun x17 =>
        M.bind (stM 2 x17 x15) fun _ =>
        bindO (fieldA 0 x17) fun x19 =>
        M.bind (rdM (ld1 x19)) fun x20 =>
        bindO (fieldA 2 x4) fun x21 =>
        M.bind (rdM (ld1 x21)) fun x22 =>
        bindO (binV BinOp.eql x20 x22) fun x23 =>
        condM x23 (
          drewM <|
          bindO (fieldA 1 x17) fun x24 =>
          M.bind (rdM (ld1 x24)) fun x25 =>
          bindO (nilChk a0) fun x26 =>
          bindO (fieldA 6 x26) fun x27 =>
          M.bind (rdM (ld1 x27)) fun x28 =>
          bindO (idxA 3 x28 x16) fun x29 =>
          bindO (fieldA 0 x29) fun x30 =>
          M.bind (rdM (ld1 x30)) fun x31 =>
          bindO (nilChk a0) fun x32 =>
          bindO (fieldA 6 x32) fun x33 =>
          M.bind (rdM (ld1 x33)) fun x34 =>
          bindO (idxA 3 x34 x16) fun x35 =>
          bindO (fieldA 1 x35) fun x36 =>
          M.bind (rdM (ld1 x36)) fun x37 =>
          bindO (lenS x37) fun x38 =>
          bindO (buildV #[(Value.string ByteArray.empty), (Value.int IntKind.i64 0), (Value.int IntKind.i64 0)] [(0, 1, x25), (1, 1, x31), (2, 1, x38)]) fun x39 =>
          M.bind (bslM 96 1 (Builtin.zeroCells #[(Value.string ByteArray.empty), (Value.int IntKind.i64 0), (Value.int IntKind.i64 0)] 1) [(0, 3, x39)]) fun x40 =>
          M.bind (appM 96 3 32 #[(Value.string ByteArray.empty), (Value.int IntKind.i64 0), (Value.int IntKind.i64 0)] (getL l11 0) x40) fun x41 =>
          M.ret (Out.norm [x41])) (
          M.ret (Out.norm [(getL l11 0)]))) (
        M.ret (Out.exit 0 [(getL l11 0)]))) [(Value.slice none 0 0)]) fun o43 =>
    outK o43 (fun _ => M.fail) (fun k44 l42 =>
      bif Nat.beq k44 0 then (
        M.bind (F.slices_SortFunc_Entry (getL l42 0) (Value.func (Fn.func 74) #[] #[])) fun _ =>
        M.ret (Value.tuple #[(getL l42 0), (Value.int IntKind.i64 0)])) else
      M.fail) (fun r45 => M.ret r45))
def F.disk_Disk_List.plan : Plan := (seq leaf (seq leaf (seq (seq leaf (cond (seq leaf leaf) leaf)) (seq leaf (seq (seq leaf (body (loop [8] [8, 9, 10, 25, 26, 27, 28, 29, 30, 31, 32, 33, 34, 35, 36, 37, 38, 39, 40, 41, 42, 43, 44, 45, 46, 47, 48, 49, 50, 51, 52, 53, 54, 55, 56, 57] [0] (seq leaf (seq (cond leaf leaf) (body (seq leaf (seq leaf (cond leaf leaf))))))))) (seq leaf (seq leaf leaf)))))))
theorem F.disk_Disk_List.lift : LiftOk Tryz.prog 21 (ap2 F.disk_Disk_List) :=
  lift2 (g := evFn Tryz.prog (tcons 72 (ap3 F.disk_Disk_find) (tcons 73 (ap2 F.slices_SortFunc_Entry) tnil)) tnil 21 Tryz.f21 F.disk_Disk_List.plan) (evFn_sound (tcons_ok F.disk_Disk_find.lift (tcons_ok F.slices_SortFunc_Entry.lift tnil_ok)) tnil_ok Tryz.func21 (by kernel_rfl)) (fun x0 x1 => by kernel_rfl)

/-- (*granary/granaryref1.Disk).List -/
noncomputable def F.granaryref1_Disk_List (a0 a1 : Value) : M Value :=
  M.bind (F.granaryref1_Disk_at a0 a1 (Value.int IntKind.i64 1)) fun x1 =>
  bindO (extV 0 x1) fun x2 =>
  bindO (extV 1 x1) fun x3 =>
  M.bind (newM 100 #[(Value.int IntKind.i64 0), (Value.string ByteArray.empty), (Value.int IntKind.i64 0)]) fun x4 =>
  M.bind (stM 3 x4 x2) fun _ =>
  bindO (binV BinOp.neq x3 (Value.int IntKind.i64 0)) fun x6 =>
  condM x6 (
    M.ret (Value.tuple #[(Value.slice none 0 0), x3])) (
    drewM <|
    bindO (nilChk a0) fun x7 =>
    bindO (fieldA 5 x7) fun x8 =>
    M.bind (rdM (ld1 x8)) fun x9 =>
    bindO (fieldA 2 x4) fun x10 =>
    M.bind (rdM (ld1 x10)) fun x11 =>
    bindO (idxA 5 x9 x11) fun x12 =>
    bindO (fieldA 1 x12) fun x13 =>
    bindO (fieldA 1 x13) fun x14 =>
    M.bind (rdM (ld1 x14)) fun x15 =>
    M.bind (loopM (fun l16 =>
      bindO (lenL x15) fun x17 =>
      bindO (binV BinOp.lss (getL l16 1) x17) fun x18 =>
      condM x18 (
        drewM <|
        getM fun _ =>
        bindO (nilChk a0) fun x20 =>
        bindO (fieldA 5 x20) fun x21 =>
        M.bind (rdM (ld1 x21)) fun x22 =>
        bindO (idxA 2 x15 (getL l16 1)) fun x23 =>
        bindO (fieldA 1 x23) fun x24 =>
        M.bind (rdM (ld1 x24)) fun x25 =>
        bindO (idxA 5 x22 x25) fun x26 =>
        M.bind (rdM (ldA 5 x26)) fun x27 =>
        M.bind (newM 107 #[(Value.int IntKind.i64 0), (Value.string ByteArray.empty), (Value.slice none 0 0), (Value.string ByteArray.empty), (Value.slice none 0 0)]) fun x28 =>
        getM fun W29 =>
        M.bind (stM 5 x28 x27) fun _ =>
        getM fun _ =>
        reqM (ld1 x21 W29 = some x22) <|
        reqM (ld1 x24 W29 = some x25) <|
        reqM (ldA 5 x26 W29 = some x27) <|
        drewM <|
        bindO (idxA 2 x15 (getL l16 1)) fun x32 =>
        bindO (fieldA 0 x32) fun x33 =>
        M.bind (rdM (ld1 x33)) fun x34 =>
        bindO (fieldA 0 x28) fun x35 =>
        M.bind (rdM (ld1 x35)) fun x36 =>
        bindO (fieldA 1 x28) fun x37 =>
        bindO (fieldA 0 x37) fun x38 =>
        M.bind (rdM (ld1 x38)) fun x39 =>
        bindO (lenS x39) fun x40 =>
        bindO (buildV #[(Value.string ByteArray.empty), (Value.int IntKind.i64 0), (Value.int IntKind.i64 0)] [(0, 1, x34), (1, 1, x36), (2, 1, x40)]) fun x41 =>
        M.bind (bslM 96 1 (Builtin.zeroCells #[(Value.string ByteArray.empty), (Value.int IntKind.i64 0), (Value.int IntKind.i64 0)] 1) [(0, 3, x41)]) fun x42 =>
        M.bind (appM 96 3 32 #[(Value.string ByteArray.empty), (Value.int IntKind.i64 0), (Value.int IntKind.i64 0)] (getL l16 0) x42) fun x43 =>
        bindO (binV BinOp.add (getL l16 1) (Value.int IntKind.i64 1)) fun x44 =>
        M.ret (Out.norm [x43, x44])) (
        M.ret (Out.exit 0 [(getL l16 0), (getL l16 1)]))) [(Value.slice none 0 0), (Value.int IntKind.i64 0)]) fun o46 =>
    outK o46 (fun _ => M.fail) (fun k47 l45 =>
      bif Nat.beq k47 0 then (
        M.ret (Value.tuple #[(getL l45 0), (Value.int IntKind.i64 0)])) else
      M.fail) (fun r48 => M.ret r48))
def F.granaryref1_Disk_List.plan : Plan := (seq leaf (seq leaf (seq (seq leaf (cond (seq leaf leaf) leaf)) (seq leaf (seq leaf (seq (seq leaf (body (loop [8, 10] [8, 10, 11, 31, 32, 33, 34, 35, 36, 37, 38, 39, 40, 41, 42, 43, 44, 45, 46, 47, 48, 49, 50, 51, 52, 53, 54, 55, 56, 57, 58, 59, 60, 61, 62] [0] (seq (seq leaf (cond leaf leaf)) (seq (body (seq leaf leaf)) leaf))))) (seq leaf leaf)))))))
theorem F.granaryref1_Disk_List.lift : LiftOk Tryz.prog 22 (ap2 F.granaryref1_Disk_List) :=
  lift2 (g := evFn Tryz.prog (tcons 76 (ap3 F.granaryref1_Disk_at) tnil) tnil 22 Tryz.f22 F.granaryref1_Disk_List.plan) (evFn_sound (tcons_ok F.granaryref1_Disk_at.lift tnil_ok) tnil_ok Tryz.func22 (by kernel_rfl)) (fun x0 x1 => by kernel_rfl)

/-- granary/granarylaw1.sameEntries -/
noncomputable def F.granarylaw1_sameEntries (a0 a1 : Value) : M Value :=
  bindO (lenL a0) fun x1 =>
  bindO (lenL a1) fun x2 =>
  bindO (binV BinOp.neq x1 x2) fun x3 =>
  condM x3 (
    M.ret (Value.bool false)) (
    M.bind (loopM (fun l4 =>
      bindO (lenL a0) fun x5 =>
      bindO (binV BinOp.lss (getL l4 0) x5) fun x6 =>
      condM x6 (
        drewM <|
        bindO (idxA 3 a0 (getL l4 0)) fun x7 =>
        M.bind (rdM (ldA 3 x7)) fun x8 =>
        bindO (idxA 3 a1 (getL l4 0)) fun x9 =>
        M.bind (rdM (ldA 3 x9)) fun x10 =>
        bindO (neV (EqSh.offs [(EqK.str, 0), (EqK.int, 1), (EqK.int, 2)]) x8 x10) fun x11 =>
        condM x11 (
          M.ret (Out.ret (Value.bool false))) (
          bindO (binV BinOp.add (getL l4 0) (Value.int IntKind.i64 1)) fun x12 =>
          M.ret (Out.norm [x12]))) (
        M.ret (Out.exit 0 [(getL l4 0)]))) [(Value.int IntKind.i64 0)]) fun o14 =>
    outK o14 (fun _ => M.fail) (fun k15 _ =>
      bif Nat.beq k15 0 then (
        M.ret (Value.bool true)) else
      M.fail) (fun r16 => M.ret r16))
def F.granarylaw1_sameEntries.plan : Plan := (seq leaf (seq (seq leaf (cond (seq leaf leaf) leaf)) (seq (seq leaf (body (loop [5] [4, 5, 11, 12, 13, 14, 15, 16, 17, 18, 19, 20, 21, 22, 23, 24, 25] [0] (seq (seq leaf (cond leaf leaf)) (seq (body (seq leaf (cond (seq leaf leaf) leaf))) leaf))))) (seq leaf leaf))))
theorem F.granarylaw1_sameEntries.lift : LiftOk Tryz.prog 24 (ap2 F.granarylaw1_sameEntries) :=
  lift2 (g := evFn Tryz.prog tnil tnil 24 Tryz.f24 F.granarylaw1_sameEntries.plan) (evFn_sound tnil_ok tnil_ok Tryz.func24 (by kernel_rfl)) (fun x0 x1 => by kernel_rfl)

/-- slices.insertionSortCmpFunc[granary/api.Stored] -/
noncomputable def F.slices_insertionSortCmpFunc_Stored (a0 a1 a2 a3 : Value) : M Value :=
  bindO (binV BinOp.add a1 (Value.int IntKind.i64 1)) fun x1 =>
  M.bind (loopM (fun l2 =>
    bindO (binV BinOp.lss (getL l2 0) a2) fun x3 =>
    condM x3 (
      M.bind (loopM (fun l4 =>
        drewM <|
        bindO (binV BinOp.gtr (getL l4 0) a1) fun x5 =>
        M.bind (guardM x5 true (M.ret a3)) fun x6 =>
        M.bind (guardM x5 true (M.ret a0)) fun x7 =>
        M.bind (guardM x5 true (M.ret (getL l4 0))) fun x8 =>
        M.bind (guardM x5 true (optM (idxA 3 x7 x8))) fun x9 =>
        M.bind (guardM x5 true (rdM (ldA 3 x9))) fun x10 =>
        M.bind (guardM x5 true (M.ret a0)) fun x11 =>
        M.bind (guardM x5 true (M.ret (getL l4 0))) fun x12 =>
        M.bind (guardM x5 true (optM (binV BinOp.sub x12 (Value.int IntKind.i64 1)))) fun x13 =>
        M.bind (guardM x5 true (optM (idxA 3 x11 x13))) fun x14 =>
        M.bind (guardM x5 true (rdM (ldA 3 x14))) fun x15 =>
        M.bind (guardM x5 true (callV F.clos x6 [x10, x15])) fun x16 =>
        M.bind (guardM x5 true (optM (binV BinOp.lss x16 (Value.int IntKind.i64 0)))) fun x17 =>
        bindO (pickV x5 x17 (Value.bool false)) fun x18 =>
        condM x18 (
          drewM <|
          bindO (binV BinOp.sub (getL l4 0) (Value.int IntKind.i64 1)) fun x19 =>
          bindO (binV BinOp.sub (getL l4 0) (Value.int IntKind.i64 1)) fun x20 =>
          bindO (idxA 3 a0 x20) fun x21 =>
          M.bind (rdM (ldA 3 x21)) fun x22 =>
          bindO (idxA 3 a0 (getL l4 0)) fun x23 =>
          M.bind (rdM (ldA 3 x23)) fun x24 =>
          bindO (idxA 3 a0 (getL l4 0)) fun x25 =>
          M.bind (stM 3 x25 x22) fun _ =>
          bindO (idxA 3 a0 x19) fun x27 =>
          M.bind (stM 3 x27 x24) fun _ =>
          bindO (binV BinOp.sub (getL l4 0) (Value.int IntKind.i64 1)) fun x29 =>
          M.ret (Out.norm [x29])) (
          M.ret (Out.exit 2 [(getL l4 0)]))) [(getL l2 0)]) fun o31 =>
      outK o31 (fun _ => M.fail) (fun k32 _ =>
        bif Nat.beq k32 2 then (
          bindO (binV BinOp.add (getL l2 0) (Value.int IntKind.i64 1)) fun x34 =>
          M.ret (Out.norm [x34])) else
        M.fail) (fun r33 => M.ret (Out.ret r33))) (
      M.ret (Out.exit 0 [(getL l2 0)]))) [x1]) fun o36 =>
  outK o36 (fun _ => M.fail) (fun k37 _ =>
    bif Nat.beq k37 0 then (
      M.ret (Value.tuple #[])) else
    M.fail) (fun r38 => M.ret r38)
def F.slices_insertionSortCmpFunc_Stored.plan : Plan := (seq leaf (body (loop [8] [8, 9, 12, 13, 14, 15, 16, 17, 18, 19, 20, 21, 22, 23, 24, 25, 26, 27, 28, 29, 30, 31, 32, 33, 34, 35, 36, 37, 38, 39, 40, 41, 42, 43, 44, 45, 46, 47, 48, 49, 50, 51, 52] [0] (seq (seq leaf (cond leaf leaf)) (seq (body (seq leaf (body (loop [9] [9, 18, 19, 20, 21, 22, 23, 24, 25, 26, 27, 28, 29, 30, 31, 32, 33, 34, 35, 36, 37, 38, 39, 40, 41, 42, 43, 44, 45, 46, 47, 48, 49, 50, 51, 52] [2] (seq (seq leaf (cond leaf leaf)) (seq (body leaf) leaf)))))) leaf)))))
theorem F.slices_insertionSortCmpFunc_Stored.lift : LiftOk Tryz.prog 130 (ap4 F.slices_insertionSortCmpFunc_Stored) :=
  lift4 (g := evFn Tryz.prog tnil F.clos 130 Tryz.f130 F.slices_insertionSortCmpFunc_Stored.plan) (evFn_sound tnil_ok F.clos_ok Tryz.func130 (by kernel_rfl)) (fun x0 x1 x2 x3 => by kernel_rfl)

/-- slices.siftDownCmpFunc[granary/api.Stored] -/
noncomputable def F.slices_siftDownCmpFunc_Stored (a0 a1 a2 a3 a4 : Value) : M Value :=
  M.bind (loopM (fun l1 =>
    bindO (binV BinOp.mul (Value.int IntKind.i64 2) (getL l1 0)) fun x2 =>
    bindO (binV BinOp.add x2 (Value.int IntKind.i64 1)) fun x3 =>
    bindO (binV BinOp.geq x3 a2) fun x4 =>
    condM x4 (
      M.ret (Out.exit 0 [(getL l1 0)])) (
      M.bind (
        drewM <|
        bindO (binV BinOp.add x3 (Value.int IntKind.i64 1)) fun x5 =>
        bindO (binV BinOp.lss x5 a2) fun x6 =>
        M.bind (guardM x6 true (M.ret a4)) fun x7 =>
        M.bind (guardM x6 true (M.ret a0)) fun x8 =>
        M.bind (guardM x6 true (M.ret a3)) fun x9 =>
        M.bind (guardM x6 true (M.ret x3)) fun x10 =>
        M.bind (guardM x6 true (optM (binV BinOp.add x9 x10))) fun x11 =>
        M.bind (guardM x6 true (optM (idxA 3 x8 x11))) fun x12 =>
        M.bind (guardM x6 true (rdM (ldA 3 x12))) fun x13 =>
        M.bind (guardM x6 true (M.ret a0)) fun x14 =>
        M.bind (guardM x6 true (M.ret a3)) fun x15 =>
        M.bind (guardM x6 true (M.ret x3)) fun x16 =>
        M.bind (guardM x6 true (optM (binV BinOp.add x15 x16))) fun x17 =>
        M.bind (guardM x6 true (optM (binV BinOp.add x17 (Value.int IntKind.i64 1)))) fun x18 =>
        M.bind (guardM x6 true (optM (idxA 3 x14 x18))) fun x19 =>
        M.bind (guardM x6 true (rdM (ldA 3 x19))) fun x20 =>
        M.bind (guardM x6 true (callV F.clos x7 [x13, x20])) fun x21 =>
        M.bind (guardM x6 true (optM (binV BinOp.lss x21 (Value.int IntKind.i64 0)))) fun x22 =>
        bindO (pickV x6 x22 (Value.bool false)) fun x23 =>
        condM x23 (
          bindO (binV BinOp.add x3 (Value.int IntKind.i64 1)) fun x24 =>
          M.ret (Out.norm [x24])) (
          M.ret (Out.norm [x3]))) fun o26 =>
      outK o26 (fun l25 =>
        drewM <|
        bindO (binV BinOp.add a3 (getL l1 0)) fun x29 =>
        bindO (idxA 3 a0 x29) fun x30 =>
        M.bind (rdM (ldA 3 x30)) fun x31 =>
        bindO (binV BinOp.add a3 (getL l25 0)) fun x32 =>
        bindO (idxA 3 a0 x32) fun x33 =>
        M.bind (rdM (ldA 3 x33)) fun x34 =>
        M.bind (callV F.clos a4 [x31, x34]) fun x35 =>
        bindO (binV BinOp.lss x35 (Value.int IntKind.i64 0)) fun x36 =>
        bindO (notV x36) fun x37 =>
        condM x37 (
          M.ret (Out.ret (Value.tuple #[]))) (
          drewM <|
          bindO (binV BinOp.add a3 (getL l1 0)) fun x38 =>
          bindO (binV BinOp.add a3 (getL l25 0)) fun x39 =>
          bindO (binV BinOp.add a3 (getL l25 0)) fun x40 =>
          bindO (idxA 3 a0 x40) fun x41 =>
          M.bind (rdM (ldA 3 x41)) fun x42 =>
          bindO (binV BinOp.add a3 (getL l1 0)) fun x43 =>
          bindO (idxA 3 a0 x43) fun x44 =>
          M.bind (rdM (ldA 3 x44)) fun x45 =>
          bindO (idxA 3 a0 x38) fun x46 =>
          M.bind (stM 3 x46 x42) fun _ =>
          bindO (idxA 3 a0 x39) fun x48 =>
          M.bind (stM 3 x48 x45) fun _ =>
          M.ret (Out.norm [(getL l25 0)]))) (fun _ _ =>
        M.fail) (fun r28 => M.ret (Out.ret r28)))) [a1]) fun o52 =>
  outK o52 (fun _ => M.fail) (fun k53 _ =>
    bif Nat.beq k53 0 then (
      M.ret (Value.tuple #[])) else
    M.fail) (fun r54 => M.ret r54)
def F.slices_siftDownCmpFunc_Stored.plan : Plan := (seq leaf (body (loop [10] [10, 11, 13, 14, 15, 16, 17, 18, 19, 20, 21, 22, 23, 24, 25, 26, 27, 28, 29, 30, 31, 32, 33, 34, 35, 36, 37, 38, 39, 40, 41, 42, 43, 44, 45, 46, 47, 48, 49, 50, 51, 52, 53, 54, 55, 56, 57, 58, 59, 60, 61, 62, 63, 64, 65, 66, 67, 68, 69, 70, 71, 72, 73, 74, 75, 76, 77, 78, 79, 80, 81] [0] (body (seq leaf (seq (seq leaf (cond leaf leaf)) (fork [11] [11, 19, 20, 21, 22, 23, 24, 25, 26, 27, 28, 29, 30, 31, 32, 33, 34, 35, 36, 37, 38, 39, 40, 41, 42] [] (seq leaf (cond leaf leaf)) (seq (seq leaf (cond leaf leaf)) (seq leaf leaf)))))))))
theorem F.slices_siftDownCmpFunc_Stored.lift : LiftOk Tryz.prog 150 (ap5 F.slices_siftDownCmpFunc_Stored) :=
  lift5 (g := evFn Tryz.prog tnil F.clos 150 Tryz.f150 F.slices_siftDownCmpFunc_Stored.plan) (evFn_sound tnil_ok F.clos_ok Tryz.func150 (by kernel_rfl)) (fun x0 x1 x2 x3 x4 => by kernel_rfl)

/-- slices.heapSortCmpFunc[granary/api.Stored] -/
noncomputable def F.slices_heapSortCmpFunc_Stored (a0 a1 a2 a3 : Value) : M Value :=
  bindO (binV BinOp.sub a2 a1) fun x1 =>
  bindO (binV BinOp.sub x1 (Value.int IntKind.i64 1)) fun x2 =>
  bindO (binV BinOp.quo x2 (Value.int IntKind.i64 2)) fun x3 =>
  M.bind (loopM (fun l4 =>
    bindO (binV BinOp.geq (getL l4 0) (Value.int IntKind.i64 0)) fun x5 =>
    condM x5 (
      M.bind (F.slices_siftDownCmpFunc_Stored a0 (getL l4 0) x1 a1 a3) fun _ =>
      bindO (binV BinOp.sub (getL l4 0) (Value.int IntKind.i64 1)) fun x7 =>
      M.ret (Out.norm [x7])) (
      M.ret (Out.exit 0 [(getL l4 0)]))) [x3]) fun o9 =>
  outK o9 (fun _ => M.fail) (fun k10 _ =>
    bif Nat.beq k10 0 then (
      bindO (binV BinOp.sub x1 (Value.int IntKind.i64 1)) fun x12 =>
      M.bind (loopM (fun l13 =>
        bindO (binV BinOp.geq (getL l13 0) (Value.int IntKind.i64 0)) fun x14 =>
        condM x14 (
          drewM <|
          bindO (binV BinOp.add a1 (getL l13 0)) fun x15 =>
          bindO (binV BinOp.add a1 (getL l13 0)) fun x16 =>
          bindO (idxA 3 a0 x16) fun x17 =>
          M.bind (rdM (ldA 3 x17)) fun x18 =>
          bindO (idxA 3 a0 a1) fun x19 =>
          M.bind (rdM (ldA 3 x19)) fun x20 =>
          bindO (idxA 3 a0 a1) fun x21 =>
          M.bind (stM 3 x21 x18) fun _ =>
          bindO (idxA 3 a0 x15) fun x23 =>
          M.bind (stM 3 x23 x20) fun _ =>
          M.bind (F.slices_siftDownCmpFunc_Stored a0 (Value.int IntKind.i64 0) (getL l13 0) a1 a3) fun _ =>
          bindO (binV BinOp.sub (getL l13 0) (Value.int IntKind.i64 1)) fun x26 =>
          M.ret (Out.norm [x26])) (
          M.ret (Out.exit 2 [(getL l13 0)]))) [x12]) fun o28 =>
      outK o28 (fun _ => M.fail) (fun k29 _ =>
        bif Nat.beq k29 2 then (
          M.ret (Value.tuple #[])) else
        M.fail) (fun r30 => M.ret r30)) else
    M.fail) (fun r11 => M.ret r11)
def F.slices_heapSortCmpFunc_Stored.plan : Plan := (seq leaf (seq leaf (seq leaf (seq (seq leaf (body (loop [11] [11, 20, 21, 22, 23, 24, 25, 26, 27, 28, 29] [0] (seq (seq leaf (cond leaf leaf)) (seq (body leaf) leaf))))) (seq leaf (body (loop [12] [12, 32, 33, 34, 35, 36, 37, 38, 39, 40, 41, 42, 43, 44, 45, 46, 47, 48, 49, 50, 51, 52, 53, 54, 55, 56, 57, 58, 59] [2] (seq (seq leaf (cond leaf leaf)) (seq (body (seq leaf leaf)) leaf)))))))))
theorem F.slices_heapSortCmpFunc_Stored.lift : LiftOk Tryz.prog 131 (ap4 F.slices_heapSortCmpFunc_Stored) :=
  lift4 (g := evFn Tryz.prog (tcons 150 (ap5 F.slices_siftDownCmpFunc_Stored) tnil) tnil 131 Tryz.f131 F.slices_heapSortCmpFunc_Stored.plan) (evFn_sound (tcons_ok F.slices_siftDownCmpFunc_Stored.lift tnil_ok) tnil_ok Tryz.func131 (by kernel_rfl)) (fun x0 x1 x2 x3 => by kernel_rfl)

/-- slices.breakPatternsCmpFunc[granary/api.Stored] -/
noncomputable def F.slices_breakPatternsCmpFunc_Stored (a0 a1 a2 _a3 : Value) : M Value :=
  bindO (binV BinOp.sub a2 a1) fun x1 =>
  bindO (binV BinOp.geq x1 (Value.int IntKind.i64 8)) fun x2 =>
  condM x2 (
    bindO (cvtI IntKind.u64 x1) fun x3 =>
    M.bind (newM 186 #[(Value.int IntKind.u64 0)]) fun x4 =>
    M.bind (stM 1 x4 x3) fun _ =>
    M.bind (F.slices_nextPowerOfTwo x1) fun x6 =>
    bindO (binV BinOp.quo x1 (Value.int IntKind.i64 4)) fun x7 =>
    bindO (binV BinOp.mul x7 (Value.int IntKind.i64 2)) fun x8 =>
    bindO (binV BinOp.add a1 x8) fun x9 =>
    bindO (binV BinOp.sub x9 (Value.int IntKind.i64 1)) fun x10 =>
    M.bind (loopM (fun l11 =>
      bindO (binV BinOp.quo x1 (Value.int IntKind.i64 4)) fun x12 =>
      bindO (binV BinOp.mul x12 (Value.int IntKind.i64 2)) fun x13 =>
      bindO (binV BinOp.add a1 x13) fun x14 =>
      bindO (binV BinOp.add x14 (Value.int IntKind.i64 1)) fun x15 =>
      bindO (binV BinOp.leq (getL l11 0) x15) fun x16 =>
      condM x16 (
        M.bind (F.slices_xorshift_Next x4) fun x17 =>
        bindO (binV BinOp.sub x6 (Value.int IntKind.u64 1)) fun x18 =>
        bindO (binV BinOp.and x17 x18) fun x19 =>
        bindO (cvtI IntKind.i64 x19) fun x20 =>
        M.bind (
          bindO (binV BinOp.geq x20 x1) fun x21 =>
          condM x21 (
            bindO (binV BinOp.sub x20 x1) fun x22 =>
            M.ret (Out.norm [x22])) (
            M.ret (Out.norm [x20]))) fun o24 =>
        outK o24 (fun l23 =>
          drewM <|
          bindO (binV BinOp.add a1 (getL l23 0)) fun x27 =>
          bindO (binV BinOp.add a1 (getL l23 0)) fun x28 =>
          bindO (idxA 3 a0 x28) fun x29 =>
          M.bind (rdM (ldA 3 x29)) fun x30 =>
          bindO (idxA 3 a0 (getL l11 0)) fun x31 =>
          M.bind (rdM (ldA 3 x31)) fun x32 =>
          bindO (idxA 3 a0 (getL l11 0)) fun x33 =>
          M.bind (stM 3 x33 x30) fun _ =>
          bindO (idxA 3 a0 x27) fun x35 =>
          M.bind (stM 3 x35 x32) fun _ =>
          bindO (binV BinOp.add (getL l11 0) (Value.int IntKind.i64 1)) fun x37 =>
          M.ret (Out.norm [x37])) (fun _ _ =>
          M.fail) (fun r26 => M.ret (Out.ret r26))) (
        M.ret (Out.exit 0 [(getL l11 0)]))) [x10]) fun o40 =>
    outK o40 (fun _ => M.fail) (fun k41 _ =>
      bif Nat.beq k41 0 then (
        M.ret (Value.tuple #[])) else
      M.fail) (fun r42 => M.ret r42)) (
    M.ret (Value.tuple #[]))
def F.slices_breakPatternsCmpFunc_Stored.plan : Plan := (seq leaf (seq leaf (cond (seq leaf (seq leaf (seq leaf (body (loop [11] [11, 12, 28, 29, 30, 31, 32, 33, 34, 35, 36, 37, 38, 39, 40, 41, 42, 43, 44, 45, 46, 47, 48, 49, 50, 51, 52, 53, 54, 55, 56, 57, 58, 59, 60, 61, 62, 63, 64, 65, 66] [0] (seq (seq leaf (cond leaf leaf)) (seq (body (seq leaf (fork [12] [12, 43, 44, 45, 46, 47, 48] [] (seq leaf (cond leaf leaf)) leaf))) leaf))))))) leaf)))
theorem F.slices_breakPatternsCmpFunc_Stored.lift : LiftOk Tryz.prog 132 (ap4 F.slices_breakPatternsCmpFunc_Stored) :=
  lift4 (g := evFn Tryz.prog (tcons 146 (ap1 F.slices_nextPowerOfTwo) (tcons 147 (ap1 F.slices_xorshift_Next) tnil)) tnil 132 Tryz.f132 F.slices_breakPatternsCmpFunc_Stored.plan) (evFn_sound (tcons_ok F.slices_nextPowerOfTwo.lift (tcons_ok F.slices_xorshift_Next.lift tnil_ok)) tnil_ok Tryz.func132 (by kernel_rfl)) (fun x0 x1 x2 x3 => by kernel_rfl)

/-- slices.order2CmpFunc[granary/api.Stored] -/
noncomputable def F.slices_order2CmpFunc_Stored (a0 a1 a2 a3 a4 : Value) : M Value :=
  drewM <|
  bindO (idxA 3 a0 a2) fun x1 =>
  M.bind (rdM (ldA 3 x1)) fun x2 =>
  bindO (idxA 3 a0 a1) fun x3 =>
  M.bind (rdM (ldA 3 x3)) fun x4 =>
  M.bind (callV F.clos a4 [x2, x4]) fun x5 =>
  bindO (binV BinOp.lss x5 (Value.int IntKind.i64 0)) fun x6 =>
  condM x6 (
    bindO (nilChk a3) fun x7 =>
    M.bind (rdM (ld1 x7)) fun x8 =>
    bindO (binV BinOp.add x8 (Value.int IntKind.i64 1)) fun x9 =>
    bindO (nilChk a3) fun x10 =>
    M.bind (stM 1 x10 x9) fun _ =>
    M.ret (Value.tuple #[a2, a1])) (
    M.ret (Value.tuple #[a1, a2]))
def F.slices_order2CmpFunc_Stored.plan : Plan := (seq leaf (seq (seq leaf (cond (seq leaf (seq leaf leaf)) leaf)) (seq leaf leaf)))
theorem F.slices_order2CmpFunc_Stored.lift : LiftOk Tryz.prog 156 (ap5 F.slices_order2CmpFunc_Stored) :=
  lift5 (g := evFn Tryz.prog tnil F.clos 156 Tryz.f156 F.slices_order2CmpFunc_Stored.plan) (evFn_sound tnil_ok F.clos_ok Tryz.func156 (by kernel_rfl)) (fun x0 x1 x2 x3 x4 => by kernel_rfl)

/-- slices.medianCmpFunc[granary/api.Stored] -/
noncomputable def F.slices_medianCmpFunc_Stored (a0 a1 a2 a3 a4 a5 : Value) : M Value :=
  M.bind (F.slices_order2CmpFunc_Stored a0 a1 a2 a4 a5) fun x1 =>
  bindO (extV 0 x1) fun x2 =>
  bindO (extV 1 x1) fun x3 =>
  M.bind (F.slices_order2CmpFunc_Stored a0 x3 a3 a4 a5) fun x4 =>
  bindO (extV 0 x4) fun x5 =>
  bindO (extV 1 x4) fun _ =>
  M.bind (F.slices_order2CmpFunc_Stored a0 x2 x5 a4 a5) fun x7 =>
  bindO (extV 0 x7) fun _ =>
  bindO (extV 1 x7) fun x9 =>
  M.ret x9
def F.slices_medianCmpFunc_Stored.plan : Plan := (seq leaf (seq leaf (seq leaf (seq leaf (seq leaf leaf)))))
theorem F.slices_medianCmpFunc_Stored.lift : LiftOk Tryz.prog 152 (ap6 F.slices_medianCmpFunc_Stored) :=
  lift6 (g := evFn Tryz.prog (tcons 156 (ap5 F.slices_order2CmpFunc_Stored) tnil) tnil 152 Tryz.f152 F.slices_medianCmpFunc_Stored.plan) (evFn_sound (tcons_ok F.slices_order2CmpFunc_Stored.lift tnil_ok) tnil_ok Tryz.func152 (by kernel_rfl)) (fun x0 x1 x2 x3 x4 x5 => by kernel_rfl)

/-- slices.medianAdjacentCmpFunc[granary/api.Stored] -/
noncomputable def F.slices_medianAdjacentCmpFunc_Stored (a0 a1 a2 a3 : Value) : M Value :=
  bindO (binV BinOp.sub a1 (Value.int IntKind.i64 1)) fun x1 =>
  bindO (binV BinOp.add a1 (Value.int IntKind.i64 1)) fun x2 =>
  M.bind (F.slices_medianCmpFunc_Stored a0 x1 a1 x2 a2 a3) fun x3 =>
  M.ret x3
def F.slices_medianAdjacentCmpFunc_Stored.plan : Plan := (seq leaf (seq leaf leaf))
theorem F.slices_medianAdjacentCmpFunc_Stored.lift : LiftOk Tryz.prog 151 (ap4 F.slices_medianAdjacentCmpFunc_Stored) :=
  lift4 (g := evFn Tryz.prog (tcons 152 (ap6 F.slices_medianCmpFunc_Stored) tnil) tnil 151 Tryz.f151 F.slices_medianAdjacentCmpFunc_Stored.plan) (evFn_sound (tcons_ok F.slices_medianCmpFunc_Stored.lift tnil_ok) tnil_ok Tryz.func151 (by kernel_rfl)) (fun x0 x1 x2 x3 => by kernel_rfl)

/-- slices.choosePivotCmpFunc[granary/api.Stored] -/
noncomputable def F.slices_choosePivotCmpFunc_Stored (a0 a1 a2 a3 : Value) : M Value :=
  bindO (binV BinOp.sub a2 a1) fun x1 =>
  M.bind (newM 3 #[(Value.int IntKind.i64 0)]) fun x2 =>
  bindO (binV BinOp.quo x1 (Value.int IntKind.i64 4)) fun x3 =>
  bindO (binV BinOp.mul x3 (Value.int IntKind.i64 1)) fun x4 =>
  bindO (binV BinOp.add a1 x4) fun x5 =>
  bindO (binV BinOp.quo x1 (Value.int IntKind.i64 4)) fun x6 =>
  bindO (binV BinOp.mul x6 (Value.int IntKind.i64 2)) fun x7 =>
  bindO (binV BinOp.add a1 x7) fun x8 =>
  bindO (binV BinOp.quo x1 (Value.int IntKind.i64 4)) fun x9 =>
  bindO (binV BinOp.mul x9 (Value.int IntKind.i64 3)) fun x10 =>
  bindO (binV BinOp.add a1 x10) fun x11 =>
  M.bind (
    bindO (binV BinOp.geq x1 (Value.int IntKind.i64 8)) fun x12 =>
    condM x12 (
      M.bind (
        bindO (binV BinOp.geq x1 (Value.int IntKind.i64 50)) fun x13 =>
        condM x13 (
          M.bind (F.slices_medianAdjacentCmpFunc_Stored a0 x5 x2 a3) fun x14 =>
          M.bind (F.slices_medianAdjacentCmpFunc_Stored a0 x8 x2 a3) fun x15 =>
          M.bind (F.slices_medianAdjacentCmpFunc_Stored a0 x11 x2 a3) fun x16 =>
          M.ret (Out.norm [x14, x15, x16])) (
          M.ret (Out.norm [x5, x8, x11]))) fun o18 =>
      outK o18 (fun l17 =>
        M.bind (F.slices_medianCmpFunc_Stored a0 (getL l17 0) (getL l17 1) (getL l17 2) x2 a3) fun x21 =>
        M.ret (Out.norm [x21])) (fun _ _ =>
        M.fail) (fun r20 => M.ret (Out.ret r20))) (
      M.ret (Out.norm [x8]))) fun o24 =>
  outK o24 (fun l23 =>
    M.bind (rdM (ld1 x2)) fun x27 =>
    bindO (binV BinOp.eql x27 (Value.int IntKind.i64 0)) fun x28 =>
    condM x28 (
      M.ret (Value.tuple #[(getL l23 0), (Value.int IntKind.i64 1)])) (
      bindO (binV BinOp.eql x27 (Value.int IntKind.i64 12)) fun x29 =>
      condM x29 (
        M.ret (Value.tuple #[(getL l23 0), (Value.int IntKind.i64 2)])) (
        M.ret (Value.tuple #[(getL l23 0), (Value.int IntKind.i64 0)])))) (fun _ _ =>
    M.fail) (fun r26 => M.ret r26)
def F.slices_choosePivotCmpFunc_Stored.plan : Plan := (seq leaf (seq leaf (seq leaf (seq leaf (seq leaf (seq leaf (fork [13] [12, 13, 14, 33, 34, 35, 36, 37, 38, 39, 40, 41, 42, 43, 44, 45, 46, 47, 48, 49, 50, 51, 52, 53, 54] [] (seq leaf (cond (fork [12, 13, 14] [12, 13, 14, 35, 36, 37, 38, 39, 40, 41, 42, 43, 44, 45, 46, 47, 48] [] (seq leaf (cond (seq leaf (seq leaf leaf)) leaf)) leaf) leaf)) (seq leaf (body (seq leaf (cond (seq leaf leaf) (seq leaf (cond (seq leaf leaf) (seq leaf leaf))))))))))))))
theorem F.slices_choosePivotCmpFunc_Stored.lift : LiftOk Tryz.prog 133 (ap4 F.slices_choosePivotCmpFunc_Stored) :=
  lift4 (g := evFn Tryz.prog (tcons 151 (ap4 F.slices_medianAdjacentCmpFunc_Stored) (tcons 152 (ap6 F.slices_medianCmpFunc_Stored) tnil)) tnil 133 Tryz.f133 F.slices_choosePivotCmpFunc_Stored.plan) (evFn_sound (tcons_ok F.slices_medianAdjacentCmpFunc_Stored.lift (tcons_ok F.slices_medianCmpFunc_Stored.lift tnil_ok)) tnil_ok Tryz.func133 (by kernel_rfl)) (fun x0 x1 x2 x3 => by kernel_rfl)

/-- slices.reverseRangeCmpFunc[granary/api.Stored] -/
noncomputable def F.slices_reverseRangeCmpFunc_Stored (a0 a1 a2 _a3 : Value) : M Value :=
  bindO (binV BinOp.sub a2 (Value.int IntKind.i64 1)) fun x1 =>
  M.bind (loopM (fun l2 =>
    bindO (binV BinOp.lss (getL l2 0) (getL l2 1)) fun x3 =>
    condM x3 (
      drewM <|
      bindO (idxA 3 a0 (getL l2 1)) fun x4 =>
      M.bind (rdM (ldA 3 x4)) fun x5 =>
      bindO (idxA 3 a0 (getL l2 0)) fun x6 =>
      M.bind (rdM (ldA 3 x6)) fun x7 =>
      bindO (idxA 3 a0 (getL l2 0)) fun x8 =>
      M.bind (stM 3 x8 x5) fun _ =>
      bindO (idxA 3 a0 (getL l2 1)) fun x10 =>
      M.bind (stM 3 x10 x7) fun _ =>
      bindO (binV BinOp.add (getL l2 0) (Value.int IntKind.i64 1)) fun x12 =>
      bindO (binV BinOp.sub (getL l2 1) (Value.int IntKind.i64 1)) fun x13 =>
      M.ret (Out.norm [x12, x13])) (
      M.ret (Out.exit 0 [(getL l2 0), (getL l2 1)]))) [a1, x1]) fun o15 =>
  outK o15 (fun _ => M.fail) (fun k16 _ =>
    bif Nat.beq k16 0 then (
      M.ret (Value.tuple #[])) else
    M.fail) (fun r17 => M.ret r17)
def F.slices_reverseRangeCmpFunc_Stored.plan : Plan := (seq leaf (seq leaf (body (loop [8, 9] [8, 9, 13, 14, 15, 16, 17, 18, 19, 20, 21, 22, 23, 24, 25, 26, 27, 28, 29, 30, 31, 32, 33] [0] (seq (seq leaf (cond leaf leaf)) (body (seq leaf (seq leaf leaf))))))))
theorem F.slices_reverseRangeCmpFunc_Stored.lift : LiftOk Tryz.prog 134 (ap4 F.slices_reverseRangeCmpFunc_Stored) :=
  lift4 (g := evFn Tryz.prog tnil tnil 134 Tryz.f134 F.slices_reverseRangeCmpFunc_Stored.plan) (evFn_sound tnil_ok tnil_ok Tryz.func134 (by kernel_rfl)) (fun x0 x1 x2 x3 => by kernel_rfl)

/-- slices.partialInsertionSortCmpFunc[granary/api.Stored] -/
noncomputable def F.slices_partialInsertionSortCmpFunc_Stored (a0 a1 a2 a3 : Value) : M Value :=
  bindO (binV BinOp.add a1 (Value.int IntKind.i64 1)) fun x1 =>
  M.bind (loopM (fun l2 =>
    bindO (binV BinOp.lss (getL l2 1) (Value.int IntKind.i64 5)) fun x3 =>
    condM x3 (
      M.bind (
        M.bind (loopM (fun l4 =>
          drewM <|
          bindO (binV BinOp.lss (getL l4 0) a2) fun x5 =>
          M.bind (guardM x5 true (M.ret a3)) fun x6 =>
          M.bind (guardM x5 true (M.ret a0)) fun x7 =>
          M.bind (guardM x5 true (M.ret (getL l4 0))) fun x8 =>
          M.bind (guardM x5 true (optM (idxA 3 x7 x8))) fun x9 =>
          M.bind (guardM x5 true (rdM (ldA 3 x9))) fun x10 =>
          M.bind (guardM x5 true (M.ret a0)) fun x11 =>
          M.bind (guardM x5 true (M.ret (getL l4 0))) fun x12 =>
          M.bind (guardM x5 true (optM (binV BinOp.sub x12 (Value.int IntKind.i64 1)))) fun x13 =>
          M.bind (guardM x5 true (optM (idxA 3 x11 x13))) fun x14 =>
          M.bind (guardM x5 true (rdM (ldA 3 x14))) fun x15 =>
          M.bind (guardM x5 true (callV F.clos x6 [x10, x15])) fun x16 =>
          M.bind (guardM x5 true (optM (binV BinOp.lss x16 (Value.int IntKind.i64 0)))) fun x17 =>
          M.bind (guardM x5 true (optM (notV x17))) fun x18 =>
          bindO (pickV x5 x18 (Value.bool false)) fun x19 =>
          condM x19 (
            bindO (binV BinOp.add (getL l4 0) (Value.int IntKind.i64 1)) fun x20 =>
            M.ret (Out.norm [x20])) (
            M.ret (Out.exit 2 [(getL l4 0)]))) [(getL l2 0)]) fun o22 =>
        outK o22 (fun _ => M.fail) (fun k23 l21 =>
          bif Nat.beq k23 2 then (
            bindO (binV BinOp.eql (getL l21 0) a2) fun x25 =>
            condM x25 (
              M.ret (Out.ret (Value.bool true))) (
              bindO (binV BinOp.sub a2 a1) fun x26 =>
              bindO (binV BinOp.lss x26 (Value.int IntKind.i64 50)) fun x27 =>
              condM x27 (
                M.ret (Out.ret (Value.bool false))) (
                drewM <|
                bindO (binV BinOp.sub (getL l21 0) (Value.int IntKind.i64 1)) fun x28 =>
                bindO (binV BinOp.sub (getL l21 0) (Value.int IntKind.i64 1)) fun x29 =>
                bindO (idxA 3 a0 x29) fun x30 =>
                M.bind (rdM (ldA 3 x30)) fun x31 =>
                bindO (idxA 3 a0 (getL l21 0)) fun x32 =>
                M.bind (rdM (ldA 3 x32)) fun x33 =>
                bindO (idxA 3 a0 (getL l21 0)) fun x34 =>
                M.bind (stM 3 x34 x31) fun _ =>
                bindO (idxA 3 a0 x28) fun x36 =>
                M.bind (stM 3 x36 x33) fun _ =>
                M.bind (
                  bindO (binV BinOp.sub (getL l21 0) a1) fun x38 =>
                  bindO (binV BinOp.geq x38 (Value.int IntKind.i64 2)) fun x39 =>
                  condM x39 (
                    bindO (binV BinOp.sub (getL l21 0) (Value.int IntKind.i64 1)) fun x40 =>
                    M.bind (loopM (fun l41 =>
                      bindO (binV BinOp.geq (getL l41 0) (Value.int IntKind.i64 1)) fun x42 =>
                      condM x42 (
                        drewM <|
                        bindO (idxA 3 a0 (getL l41 0)) fun x43 =>
                        M.bind (rdM (ldA 3 x43)) fun x44 =>
                        bindO (binV BinOp.sub (getL l41 0) (Value.int IntKind.i64 1)) fun x45 =>
                        bindO (idxA 3 a0 x45) fun x46 =>
                        M.bind (rdM (ldA 3 x46)) fun x47 =>
                        M.bind (callV F.clos a3 [x44, x47]) fun x48 =>
                        bindO (binV BinOp.lss x48 (Value.int IntKind.i64 0)) fun x49 =>
                        bindO (notV x49) fun x50 =>
                        condM x50 (
                          M.ret (Out.exit 4 [(getL l41 0)])) (
                          drewM <|
                          bindO (binV BinOp.sub (getL l41 0) (Value.int IntKind.i64 1)) fun x51 =>
                          bindO (binV BinOp.sub (getL l41 0) (Value.int IntKind.i64 1)) fun x52 =>
                          bindO (idxA 3 a0 x52) fun x53 =>
                          M.bind (rdM (ldA 3 x53)) fun x54 =>
                          bindO (idxA 3 a0 (getL l41 0)) fun x55 =>
                          M.bind (rdM (ldA 3 x55)) fun x56 =>
                          bindO (idxA 3 a0 (getL l41 0)) fun x57 =>
                          M.bind (stM 3 x57 x54) fun _ =>
                          bindO (idxA 3 a0 x51) fun x59 =>
                          M.bind (stM 3 x59 x56) fun _ =>
                          bindO (binV BinOp.sub (getL l41 0) (Value.int IntKind.i64 1)) fun x61 =>
                          M.ret (Out.norm [x61]))) (
                        M.ret (Out.exit 4 [(getL l41 0)]))) [x40]) fun o63 =>
                    outK o63 (fun _ => M.fail) (fun k64 _ =>
                      bif Nat.beq k64 4 then (
                        M.ret (Out.norm [])) else
                      M.fail) (fun r65 => M.ret (Out.ret r65))) (
                    M.ret (Out.norm []))) fun o67 =>
                outK o67 (fun _ =>
                  bindO (binV BinOp.sub a2 (getL l21 0)) fun x70 =>
                  bindO (binV BinOp.geq x70 (Value.int IntKind.i64 2)) fun x71 =>
                  condM x71 (
                    bindO (binV BinOp.add (getL l21 0) (Value.int IntKind.i64 1)) fun x72 =>
                    M.bind (loopM (fun l73 =>
                      bindO (binV BinOp.lss (getL l73 0) a2) fun x74 =>
                      condM x74 (
                        drewM <|
                        bindO (idxA 3 a0 (getL l73 0)) fun x75 =>
                        M.bind (rdM (ldA 3 x75)) fun x76 =>
                        bindO (binV BinOp.sub (getL l73 0) (Value.int IntKind.i64 1)) fun x77 =>
                        bindO (idxA 3 a0 x77) fun x78 =>
                        M.bind (rdM (ldA 3 x78)) fun x79 =>
                        M.bind (callV F.clos a3 [x76, x79]) fun x80 =>
                        bindO (binV BinOp.lss x80 (Value.int IntKind.i64 0)) fun x81 =>
                        bindO (notV x81) fun x82 =>
                        condM x82 (
                          M.ret (Out.exit 6 [(getL l73 0)])) (
                          drewM <|
                          bindO (binV BinOp.sub (getL l73 0) (Value.int IntKind.i64 1)) fun x83 =>
                          bindO (binV BinOp.sub (getL l73 0) (Value.int IntKind.i64 1)) fun x84 =>
                          bindO (idxA 3 a0 x84) fun x85 =>
                          M.bind (rdM (ldA 3 x85)) fun x86 =>
                          bindO (idxA 3 a0 (getL l73 0)) fun x87 =>
                          M.bind (rdM (ldA 3 x87)) fun x88 =>
                          bindO (idxA 3 a0 (getL l73 0)) fun x89 =>
                          M.bind (stM 3 x89 x86) fun _ =>
                          bindO (idxA 3 a0 x83) fun x91 =>
                          M.bind (stM 3 x91 x88) fun _ =>
                          bindO (binV BinOp.add (getL l73 0) (Value.int IntKind.i64 1)) fun x93 =>
                          M.ret (Out.norm [x93]))) (
                        M.ret (Out.exit 6 [(getL l73 0)]))) [x72]) fun o95 =>
                    outK o95 (fun _ => M.fail) (fun k96 _ =>
                      bif Nat.beq k96 6 then (
                        M.ret (Out.norm [(getL l21 0)])) else
                      M.fail) (fun r97 => M.ret (Out.ret r97))) (
                    M.ret (Out.norm [(getL l21 0)]))) (fun _ _ =>
                  M.fail) (fun r69 => M.ret (Out.ret r69))))) else
          M.fail) (fun r24 => M.ret (Out.ret r24))) fun o100 =>
      outK o100 (fun l99 =>
        bindO (binV BinOp.add (getL l2 1) (Value.int IntKind.i64 1)) fun x103 =>
        M.ret (Out.norm [(getL l99 0), x103])) (fun _ _ =>
        M.fail) (fun r102 => M.ret (Out.ret r102))) (
      M.ret (Out.exit 0 [(getL l2 0), (getL l2 1)]))) [x1, (Value.int IntKind.i64 0)]) fun o106 =>
  outK o106 (fun _ => M.fail) (fun k107 _ =>
    bif Nat.beq k107 0 then (
      M.ret (Value.bool false)) else
    M.fail) (fun r108 => M.ret r108)
def F.slices_partialInsertionSortCmpFunc_Stored.plan : Plan := (seq leaf (seq leaf (seq (seq leaf (body (loop [9, 10] [8, 9, 10, 11, 12, 15, 16, 17, 18, 19, 20, 21, 22, 23, 24, 25, 26, 27, 28, 29, 30, 31, 32, 33, 34, 35, 36, 37, 38, 39, 40, 41, 42, 43, 44, 45, 46, 47, 48, 49, 50, 51, 52, 53, 54, 55, 56, 57, 58, 59, 60, 61, 62, 63, 64, 65, 66, 67, 68, 69, 70, 71, 72, 73, 74, 75, 76, 77, 78, 79, 80, 81, 82, 83, 84, 85, 86, 87, 88, 89, 90, 91, 92, 93, 94, 95, 96, 97, 98, 99, 100, 101, 102, 103, 104, 105, 106, 107, 108, 109, 110, 111, 112, 113, 114, 115, 116, 117, 118, 119, 120, 121, 122, 123, 124, 125, 126, 127, 128, 129, 130, 131, 132, 133, 134, 135, 136, 137, 138, 139, 140] [0] (seq (seq leaf (cond leaf leaf)) (fork [9] [8, 9, 11, 12, 19, 20, 21, 22, 23, 24, 25, 26, 27, 28, 29, 30, 31, 32, 33, 34, 35, 36, 37, 38, 39, 40, 41, 42, 43, 44, 45, 46, 47, 48, 49, 50, 51, 52, 53, 54, 55, 56, 57, 58, 59, 60, 61, 62, 63, 64, 65, 66, 67, 68, 69, 70, 71, 72, 73, 74, 75, 76, 77, 78, 79, 80, 81, 82, 83, 84, 85, 86, 87, 88, 89, 90, 91, 92, 93, 94, 95, 96, 97, 98, 99, 100, 101, 102, 103, 104, 105, 106, 107, 108, 109, 110, 111, 112, 113, 114, 115, 116, 117, 118, 119, 120, 121, 122, 123, 124, 125, 126, 127, 128, 129, 130, 131, 132, 133, 134, 135, 136, 137, 138, 139, 140] [] (body (seq (body (loop [9] [9, 19, 20, 21, 22, 23, 24, 25, 26, 27, 28, 29, 30, 31, 32, 33, 34, 35, 36, 37, 38] [2] (seq (seq leaf (cond leaf leaf)) (body leaf)))) (seq (seq leaf (cond (seq leaf leaf) leaf)) (seq (seq leaf (cond (seq leaf leaf) leaf)) (seq leaf (fork [] [11, 62, 63, 64, 65, 66, 67, 68, 69, 70, 71, 72, 73, 74, 75, 76, 77, 78, 79, 80, 81, 82, 83, 84, 85, 86, 87, 88, 89, 90, 91, 92, 93, 94, 95, 96, 97, 98, 99, 100] [] (seq leaf (cond (seq leaf (body (loop [11] [11, 68, 69, 70, 71, 72, 73, 74, 75, 76, 77, 78, 79, 80, 81, 82, 83, 84, 85, 86, 87, 88, 89, 90, 91, 92, 93, 94, 95, 96, 97, 98, 99, 100] [4] (seq (seq leaf (cond leaf leaf)) (seq (body (seq (seq leaf (cond leaf leaf)) leaf)) leaf))))) leaf)) (seq leaf (cond (seq leaf (body (loop [12] [12, 107, 108, 109, 110, 111, 112, 113, 114, 115, 116, 117, 118, 119, 120, 121, 122, 123, 124, 125, 126, 127, 128, 129, 130, 131, 132, 133, 134, 135, 136, 137, 138, 139, 140] [6] (seq (seq leaf (cond leaf leaf)) (seq (body (seq (seq leaf (cond leaf leaf)) leaf)) leaf))))) leaf)))))))) leaf))))) (seq leaf leaf))))
theorem F.slices_partialInsertionSortCmpFunc_Stored.lift : LiftOk Tryz.prog 135 (ap4 F.slices_partialInsertionSortCmpFunc_Stored) :=
  lift4 (g := evFn Tryz.prog tnil F.clos 135 Tryz.f135 F.slices_partialInsertionSortCmpFunc_Stored.plan) (evFn_sound tnil_ok F.clos_ok Tryz.func135 (by kernel_rfl)) (fun x0 x1 x2 x3 => by kernel_rfl)

/-- slices.partitionEqualCmpFunc[granary/api.Stored] -/
noncomputable def F.slices_partitionEqualCmpFunc_Stored (a0 a1 a2 a3 a4 : Value) : M Value :=
  drewM <|
  bindO (idxA 3 a0 a3) fun x1 =>
  M.bind (rdM (ldA 3 x1)) fun x2 =>
  bindO (idxA 3 a0 a1) fun x3 =>
  M.bind (rdM (ldA 3 x3)) fun x4 =>
  bindO (idxA 3 a0 a1) fun x5 =>
  M.bind (stM 3 x5 x2) fun _ =>
  bindO (idxA 3 a0 a3) fun x7 =>
  M.bind (stM 3 x7 x4) fun _ =>
  bindO (binV BinOp.add a1 (Value.int IntKind.i64 1)) fun x9 =>
  bindO (binV BinOp.sub a2 (Value.int IntKind.i64 1)) fun x10 =>
  M.bind (loopM (fun l11 =>
    M.bind (loopM (fun l12 =>
      drewM <|
      bindO (binV BinOp.leq (getL l12 0) (getL l11 1)) fun x13 =>
      M.bind (guardM x13 true (M.ret a4)) fun x14 =>
      M.bind (guardM x13 true (M.ret a0)) fun x15 =>
      M.bind (guardM x13 true (M.ret a1)) fun x16 =>
      M.bind (guardM x13 true (optM (idxA 3 x15 x16))) fun x17 =>
      M.bind (guardM x13 true (rdM (ldA 3 x17))) fun x18 =>
      M.bind (guardM x13 true (M.ret a0)) fun x19 =>
      M.bind (guardM x13 true (M.ret (getL l12 0))) fun x20 =>
      M.bind (guardM x13 true (optM (idxA 3 x19 x20))) fun x21 =>
      M.bind (guardM x13 true (rdM (ldA 3 x21))) fun x22 =>
      M.bind (guardM x13 true (callV F.clos x14 [x18, x22])) fun x23 =>
      M.bind (guardM x13 true (optM (binV BinOp.lss x23 (Value.int IntKind.i64 0)))) fun x24 =>
      M.bind (guardM x13 true (optM (notV x24))) fun x25 =>
      bindO (pickV x13 x25 (Value.bool false)) fun x26 =>
      condM x26 (
        bindO (binV BinOp.add (getL l12 0) (Value.int IntKind.i64 1)) fun x27 =>
        M.ret (Out.norm [x27])) (
        M.ret (Out.exit 2 [(getL l12 0)]))) [(getL l11 0)]) fun o29 =>
    outK o29 (fun _ => M.fail) (fun k30 l28 =>
      bif Nat.beq k30 2 then (
        M.bind (loopM (fun l32 =>
          drewM <|
          bindO (binV BinOp.leq (getL l28 0) (getL l32 0)) fun x33 =>
          M.bind (guardM x33 true (M.ret a4)) fun x34 =>
          M.bind (guardM x33 true (M.ret a0)) fun x35 =>
          M.bind (guardM x33 true (M.ret a1)) fun x36 =>
          M.bind (guardM x33 true (optM (idxA 3 x35 x36))) fun x37 =>
          M.bind (guardM x33 true (rdM (ldA 3 x37))) fun x38 =>
          M.bind (guardM x33 true (M.ret a0)) fun x39 =>
          M.bind (guardM x33 true (M.ret (getL l32 0))) fun x40 =>
          M.bind (guardM x33 true (optM (idxA 3 x39 x40))) fun x41 =>
          M.bind (guardM x33 true (rdM (ldA 3 x41))) fun x42 =>
          M.bind (guardM x33 true (callV F.clos x34 [x38, x42])) fun x43 =>
          M.bind (guardM x33 true (optM (binV BinOp.lss x43 (Value.int IntKind.i64 0)))) fun x44 =>
          bindO (pickV x33 x44 (Value.bool false)) fun x45 =>
          condM x45 (
            bindO (binV BinOp.sub (getL l32 0) (Value.int IntKind.i64 1)) fun x46 =>
            M.ret (Out.norm [x46])) (
            M.ret (Out.exit 4 [(getL l32 0)]))) [(getL l11 1)]) fun o48 =>
        outK o48 (fun _ => M.fail) (fun k49 l47 =>
          bif Nat.beq k49 4 then (
            bindO (binV BinOp.gtr (getL l28 0) (getL l47 0)) fun x51 =>
            condM x51 (
              M.ret (Out.exit 0 [(getL l28 0), (getL l47 0)])) (
              drewM <|
              bindO (idxA 3 a0 (getL l47 0)) fun x52 =>
              M.bind (rdM (ldA 3 x52)) fun x53 =>
              bindO (idxA 3 a0 (getL l28 0)) fun x54 =>
              M.bind (rdM (ldA 3 x54)) fun x55 =>
              bindO (idxA 3 a0 (getL l28 0)) fun x56 =>
              M.bind (stM 3 x56 x53) fun _ =>
              bindO (idxA 3 a0 (getL l47 0)) fun x58 =>
              M.bind (stM 3 x58 x55) fun _ =>
              bindO (binV BinOp.add (getL l28 0) (Value.int IntKind.i64 1)) fun x60 =>
              bindO (binV BinOp.sub (getL l47 0) (Value.int IntKind.i64 1)) fun x61 =>
              M.ret (Out.norm [x60, x61]))) else
          M.fail) (fun r50 => M.ret (Out.ret r50))) else
      M.fail) (fun r31 => M.ret (Out.ret r31))) [x9, x10]) fun o63 =>
  outK o63 (fun _ => M.fail) (fun k64 l62 =>
    bif Nat.beq k64 0 then (
      M.ret (getL l62 0)) else
    M.fail) (fun r65 => M.ret r65)
def F.slices_partitionEqualCmpFunc_Stored.plan : Plan := (seq leaf (seq leaf (seq leaf (seq (body (loop [11, 12] [11, 12, 31, 32, 33, 34, 35, 36, 37, 38, 39, 40, 41, 42, 43, 44, 45, 46, 47, 48, 49, 50, 51, 52, 53, 54, 55, 56, 57, 58, 59, 60, 61, 62, 63, 64, 65, 66, 67, 68, 69, 70, 71, 72, 73, 74, 75, 76, 77, 78, 79, 80, 81, 82, 83, 84, 85, 86, 87, 88] [0] (body (seq (body (loop [11] [11, 31, 32, 33, 34, 35, 36, 37, 38, 39, 40, 41, 42, 43, 44, 45, 46, 47, 48, 49] [2] (seq (seq leaf (cond leaf leaf)) (body leaf)))) (seq (body (loop [12] [12, 50, 51, 52, 53, 54, 55, 56, 57, 58, 59, 60, 61, 62, 63, 64, 65, 66, 67] [4] (seq (seq leaf (cond leaf leaf)) (body leaf)))) (seq (seq leaf (cond leaf leaf)) (seq leaf (seq leaf leaf)))))))) (seq leaf leaf)))))
theorem F.slices_partitionEqualCmpFunc_Stored.lift : LiftOk Tryz.prog 136 (ap5 F.slices_partitionEqualCmpFunc_Stored) :=
  lift5 (g := evFn Tryz.prog tnil F.clos 136 Tryz.f136 F.slices_partitionEqualCmpFunc_Stored.plan) (evFn_sound tnil_ok F.clos_ok Tryz.func136 (by kernel_rfl)) (fun x0 x1 x2 x3 x4 => by kernel_rfl)

/-- slices.partitionCmpFunc[granary/api.Stored] -/
noncomputable def F.slices_partitionCmpFunc_Stored (a0 a1 a2 a3 a4 : Value) : M Value :=
  drewM <|
  bindO (idxA 3 a0 a3) fun x1 =>
  M.bind (rdM (ldA 3 x1)) fun x2 =>
  bindO (idxA 3 a0 a1) fun x3 =>
  M.bind (rdM (ldA 3 x3)) fun x4 =>
  bindO (idxA 3 a0 a1) fun x5 =>
  M.bind (stM 3 x5 x2) fun _ =>
  bindO (idxA 3 a0 a3) fun x7 =>
  M.bind (stM 3 x7 x4) fun _ =>
  bindO (binV BinOp.add a1 (Value.int IntKind.i64 1)) fun x9 =>
  bindO (binV BinOp.sub a2 (Value.int IntKind.i64 1)) fun x10 =>
  M.bind (loopM (fun l11 =>
    drewM <|
    bindO (binV BinOp.leq (getL l11 0) x10) fun x12 =>
    M.bind (guardM x12 true (M.ret a4)) fun x13 =>
    M.bind (guardM x12 true (M.ret a0)) fun x14 =>
    M.bind (guardM x12 true (M.ret (getL l11 0))) fun x15 =>
    M.bind (guardM x12 true (optM (idxA 3 x14 x15))) fun x16 =>
    M.bind (guardM x12 true (rdM (ldA 3 x16))) fun x17 =>
    M.bind (guardM x12 true (M.ret a0)) fun x18 =>
    M.bind (guardM x12 true (M.ret a1)) fun x19 =>
    M.bind (guardM x12 true (optM (idxA 3 x18 x19))) fun x20 =>
    M.bind (guardM x12 true (rdM (ldA 3 x20))) fun x21 =>
    M.bind (guardM x12 true (callV F.clos x13 [x17, x21])) fun x22 =>
    M.bind (guardM x12 true (optM (binV BinOp.lss x22 (Value.int IntKind.i64 0)))) fun x23 =>
    bindO (pickV x12 x23 (Value.bool false)) fun x24 =>
    condM x24 (
      bindO (binV BinOp.add (getL l11 0) (Value.int IntKind.i64 1)) fun x25 =>
      M.ret (Out.norm [x25])) (
      M.ret (Out.exit 0 [(getL l11 0)]))) [x9]) fun o27 =>
  outK o27 (fun _ => M.fail) (fun k28 l26 =>
    bif Nat.beq k28 0 then (
      M.bind (loopM (fun l30 =>
        drewM <|
        bindO (binV BinOp.leq (getL l26 0) (getL l30 0)) fun x31 =>
        M.bind (guardM x31 true (M.ret a4)) fun x32 =>
        M.bind (guardM x31 true (M.ret a0)) fun x33 =>
        M.bind (guardM x31 true (M.ret (getL l30 0))) fun x34 =>
        M.bind (guardM x31 true (optM (idxA 3 x33 x34))) fun x35 =>
        M.bind (guardM x31 true (rdM (ldA 3 x35))) fun x36 =>
        M.bind (guardM x31 true (M.ret a0)) fun x37 =>
        M.bind (guardM x31 true (M.ret a1)) fun x38 =>
        M.bind (guardM x31 true (optM (idxA 3 x37 x38))) fun x39 =>
        M.bind (guardM x31 true (rdM (ldA 3 x39))) fun x40 =>
        M.bind (guardM x31 true (callV F.clos x32 [x36, x40])) fun x41 =>
        M.bind (guardM x31 true (optM (binV BinOp.lss x41 (Value.int IntKind.i64 0)))) fun x42 =>
        M.bind (guardM x31 true (optM (notV x42))) fun x43 =>
        bindO (pickV x31 x43 (Value.bool false)) fun x44 =>
        condM x44 (
          bindO (binV BinOp.sub (getL l30 0) (Value.int IntKind.i64 1)) fun x45 =>
          M.ret (Out.norm [x45])) (
          M.ret (Out.exit 2 [(getL l30 0)]))) [x10]) fun o47 =>
      outK o47 (fun _ => M.fail) (fun k48 l46 =>
        bif Nat.beq k48 2 then (
          bindO (binV BinOp.gtr (getL l26 0) (getL l46 0)) fun x50 =>
          condM x50 (
            drewM <|
            bindO (idxA 3 a0 a1) fun x51 =>
            M.bind (rdM (ldA 3 x51)) fun x52 =>
            bindO (idxA 3 a0 (getL l46 0)) fun x53 =>
            M.bind (rdM (ldA 3 x53)) fun x54 =>
            bindO (idxA 3 a0 (getL l46 0)) fun x55 =>
            M.bind (stM 3 x55 x52) fun _ =>
            bindO (idxA 3 a0 a1) fun x57 =>
            M.bind (stM 3 x57 x54) fun _ =>
            M.ret (Value.tuple #[(getL l46 0), (Value.bool true)])) (
            drewM <|
            bindO (idxA 3 a0 (getL l46 0)) fun x59 =>
            M.bind (rdM (ldA 3 x59)) fun x60 =>
            bindO (idxA 3 a0 (getL l26 0)) fun x61 =>
            M.bind (rdM (ldA 3 x61)) fun x62 =>
            bindO (idxA 3 a0 (getL l26 0)) fun x63 =>
            M.bind (stM 3 x63 x60) fun _ =>
            bindO (idxA 3 a0 (getL l46 0)) fun x65 =>
            M.bind (stM 3 x65 x62) fun _ =>
            bindO (binV BinOp.add (getL l26 0) (Value.int IntKind.i64 1)) fun x67 =>
            bindO (binV BinOp.sub (getL l46 0) (Value.int IntKind.i64 1)) fun x68 =>
            M.bind (loopM (fun l69 =>
              M.bind (loopM (fun l70 =>
                drewM <|
                bindO (binV BinOp.leq (getL l70 0) (getL l69 1)) fun x71 =>
                M.bind (guardM x71 true (M.ret a4)) fun x72 =>
                M.bind (guardM x71 true (M.ret a0)) fun x73 =>
                M.bind (guardM x71 true (M.ret (getL l70 0))) fun x74 =>
                M.bind (guardM x71 true (optM (idxA 3 x73 x74))) fun x75 =>
                M.bind (guardM x71 true (rdM (ldA 3 x75))) fun x76 =>
                M.bind (guardM x71 true (M.ret a0)) fun x77 =>
                M.bind (guardM x71 true (M.ret a1)) fun x78 =>
                M.bind (guardM x71 true (optM (idxA 3 x77 x78))) fun x79 =>
                M.bind (guardM x71 true (rdM (ldA 3 x79))) fun x80 =>
                M.bind (guardM x71 true (callV F.clos x72 [x76, x80])) fun x81 =>
                M.bind (guardM x71 true (optM (binV BinOp.lss x81 (Value.int IntKind.i64 0)))) fun x82 =>
                bindO (pickV x71 x82 (Value.bool false)) fun x83 =>
                condM x83 (
                  bindO (binV BinOp.add (getL l70 0) (Value.int IntKind.i64 1)) fun x84 =>
                  M.ret (Out.norm [x84])) (
                  M.ret (Out.exit 6 [(getL l70 0)]))) [(getL l69 0)]) fun o86 =>
              outK o86 (fun _ => M.fail) (fun k87 l85 =>
                bif Nat.beq k87 6 then (
                  M.bind (loopM (fun l89 =>
                    drewM <|
                    bindO (binV BinOp.leq (getL l85 0) (getL l89 0)) fun x90 =>
                    M.bind (guardM x90 true (M.ret a4)) fun x91 =>
                    M.bind (guardM x90 true (M.ret a0)) fun x92 =>
                    M.bind (guardM x90 true (M.ret (getL l89 0))) fun x93 =>
                    M.bind (guardM x90 true (optM (idxA 3 x92 x93))) fun x94 =>
                    M.bind (guardM x90 true (rdM (ldA 3 x94))) fun x95 =>
                    M.bind (guardM x90 true (M.ret a0)) fun x96 =>
                    M.bind (guardM x90 true (M.ret a1)) fun x97 =>
                    M.bind (guardM x90 true (optM (idxA 3 x96 x97))) fun x98 =>
                    M.bind (guardM x90 true (rdM (ldA 3 x98))) fun x99 =>
                    M.bind (guardM x90 true (callV F.clos x91 [x95, x99])) fun x100 =>
                    M.bind (guardM x90 true (optM (binV BinOp.lss x100 (Value.int IntKind.i64 0)))) fun x101 =>
                    M.bind (guardM x90 true (optM (notV x101))) fun x102 =>
                    bindO (pickV x90 x102 (Value.bool false)) fun x103 =>
                    condM x103 (
                      bindO (binV BinOp.sub (getL l89 0) (Value.int IntKind.i64 1)) fun x104 =>
                      M.ret (Out.norm [x104])) (
                      M.ret (Out.exit 8 [(getL l89 0)]))) [(getL l69 1)]) fun o106 =>
                  outK o106 (fun _ => M.fail) (fun k107 l105 =>
                    bif Nat.beq k107 8 then (
                      bindO (binV BinOp.gtr (getL l85 0) (getL l105 0)) fun x109 =>
                      condM x109 (
                        M.ret (Out.exit 4 [(getL l85 0), (getL l105 0)])) (
                        drewM <|
                        bindO (idxA 3 a0 (getL l105 0)) fun x110 =>
                        M.bind (rdM (ldA 3 x110)) fun x111 =>
                        bindO (idxA 3 a0 (getL l85 0)) fun x112 =>
                        M.bind (rdM (ldA 3 x112)) fun x113 =>
                        bindO (idxA 3 a0 (getL l85 0)) fun x114 =>
                        M.bind (stM 3 x114 x111) fun _ =>
                        bindO (idxA 3 a0 (getL l105 0)) fun x116 =>
                        M.bind (stM 3 x116 x113) fun _ =>
                        bindO (binV BinOp.add (getL l85 0) (Value.int IntKind.i64 1)) fun x118 =>
                        bindO (binV BinOp.sub (getL l105 0) (Value.int IntKind.i64 1)) fun x119 =>
                        M.ret (Out.norm [x118, x119]))) else
                    M.fail) (fun r108 => M.ret (Out.ret r108))) else
                M.fail) (fun r88 => M.ret (Out.ret r88))) [x67, x68]) fun o121 =>
            outK o121 (fun _ => M.fail) (fun k122 l120 =>
              bif Nat.beq k122 4 then (
                drewM <|
                bindO (idxA 3 a0 a1) fun x124 =>
                M.bind (rdM (ldA 3 x124)) fun x125 =>
                bindO (idxA 3 a0 (getL l120 1)) fun x126 =>
                M.bind (rdM (ldA 3 x126)) fun x127 =>
                bindO (idxA 3 a0 (getL l120 1)) fun x128 =>
                M.bind (stM 3 x128 x125) fun _ =>
                bindO (idxA 3 a0 a1) fun x130 =>
                M.bind (stM 3 x130 x127) fun _ =>
                M.ret (Value.tuple #[(getL l120 1), (Value.bool false)])) else
              M.fail) (fun r123 => M.ret r123))) else
        M.fail) (fun r49 => M.ret r49)) else
    M.fail) (fun r29 => M.ret r29)
def F.slices_partitionCmpFunc_Stored.plan : Plan := (seq leaf (seq leaf (seq leaf (seq (body (loop [12] [12, 32, 33, 34, 35, 36, 37, 38, 39, 40, 41, 42, 43, 44, 45, 46, 47, 48, 49] [0] (seq (seq leaf (cond leaf leaf)) (body leaf)))) (seq (body (loop [13] [13, 50, 51, 52, 53, 54, 55, 56, 57, 58, 59, 60, 61, 62, 63, 64, 65, 66, 67, 68] [2] (seq (seq leaf (cond leaf leaf)) (body leaf)))) (seq (seq leaf (cond (seq leaf (seq leaf leaf)) leaf)) (seq leaf (seq leaf (seq leaf (seq (body (loop [12, 13] [12, 13, 105, 106, 107, 108, 109, 110, 111, 112, 113, 114, 115, 116, 117, 118, 119, 120, 121, 122, 123, 124, 125, 126, 127, 128, 129, 130, 131, 132, 133, 134, 135, 136, 137, 138, 139, 140, 141, 142, 143, 144, 145, 146, 147, 148, 149, 150, 151, 152, 153, 154, 155, 156, 157, 158, 159, 160, 161, 162] [4] (body (seq (body (loop [12] [12, 105, 106, 107, 108, 109, 110, 111, 112, 113, 114, 115, 116, 117, 118, 119, 120, 121, 122] [6] (seq (seq leaf (cond leaf leaf)) (body leaf)))) (seq (body (loop [13] [13, 123, 124, 125, 126, 127, 128, 129, 130, 131, 132, 133, 134, 135, 136, 137, 138, 139, 140, 141] [8] (seq (seq leaf (cond leaf leaf)) (body leaf)))) (seq (seq leaf (cond leaf leaf)) (seq leaf (seq leaf leaf)))))))) (seq leaf (seq leaf leaf))))))))))))
theorem F.slices_partitionCmpFunc_Stored.lift : LiftOk Tryz.prog 137 (ap5 F.slices_partitionCmpFunc_Stored) :=
  lift5 (g := evFn Tryz.prog tnil F.clos 137 Tryz.f137 F.slices_partitionCmpFunc_Stored.plan) (evFn_sound tnil_ok F.clos_ok Tryz.func137 (by kernel_rfl)) (fun x0 x1 x2 x3 x4 => by kernel_rfl)

/-- slices.pdqsortCmpFunc[granary/api.Stored], the calls of itself left open -/
noncomputable def F.slices_pdqsortCmpFunc_Stored.step (rec : Value → Value → Value → Value → Value → M Value) (a0 a1 a2 a3 a4 : Value) : M Value :=
  M.bind (loopM (fun l1 =>
    bindO (binV BinOp.sub (getL l1 1) (getL l1 0)) fun x2 =>
    bindO (binV BinOp.leq x2 (Value.int IntKind.i64 12)) fun x3 =>
    condM x3 (
      M.bind (F.slices_insertionSortCmpFunc_Stored a0 (getL l1 0) (getL l1 1) a4) fun _ =>
      M.ret (Out.ret (Value.tuple #[]))) (
      bindO (binV BinOp.eql (getL l1 2) (Value.int IntKind.i64 0)) fun x5 =>
      condM x5 (
        M.bind (F.slices_heapSortCmpFunc_Stored a0 (getL l1 0) (getL l1 1) a4) fun _ =>
        M.ret (Out.ret (Value.tuple #[]))) (
        M.bind (
          bindO (notV (getL l1 3)) fun x7 =>
          condM x7 (
            M.bind (F.slices_breakPatternsCmpFunc_Stored a0 (getL l1 0) (getL l1 1) a4) fun _ =>
            bindO (binV BinOp.sub (getL l1 2) (Value.int IntKind.i64 1)) fun x9 =>
            M.ret (Out.norm [x9])) (
            M.ret (Out.norm [(getL l1 2)]))) fun o11 =>
        outK o11 (fun l10 =>
          M.bind (F.slices_choosePivotCmpFunc_Stored a0 (getL l1 0) (getL l1 1) a4) fun x14 =>
          bindO (extV 0 x14) fun x15 =>
          bindO (extV 1 x14) fun x16 =>
          M.bind (
            bindO (binV BinOp.eql x16 (Value.int IntKind.i64 2)) fun x17 =>
            condM x17 (
              M.bind (F.slices_reverseRangeCmpFunc_Stored a0 (getL l1 0) (getL l1 1) a4) fun _ =>
              bindO (binV BinOp.sub (getL l1 1) (Value.int IntKind.i64 1)) fun x19 =>
              bindO (binV BinOp.sub x15 (getL l1 0)) fun x20 =>
              bindO (binV BinOp.sub x19 x20) fun x21 =>
              M.ret (Out.norm [x21, (Value.int IntKind.i64 1)])) (
              M.ret (Out.norm [x15, x16]))) fun o23 =>
          outK o23 (fun l22 =>
            M.bind (
              M.bind (guardM (getL l1 3) true (M.ret (getL l1 4))) fun x26 =>
              bindO (pickV (getL l1 3) x26 (Value.bool false)) fun x27 =>
              M.bind (guardM x27 true (M.ret (getL l22 1))) fun x28 =>
              M.bind (guardM x27 true (optM (binV BinOp.eql x28 (Value.int IntKind.i64 1)))) fun x29 =>
              bindO (pickV x27 x29 (Value.bool false)) fun x30 =>
              condM x30 (
                M.bind (F.slices_partialInsertionSortCmpFunc_Stored a0 (getL l1 0) (getL l1 1) a4) fun x31 =>
                condM x31 (
                  M.ret (Out.ret (Value.tuple #[]))) (
                  M.ret (Out.norm []))) (
                M.ret (Out.norm []))) fun o33 =>
            outK o33 (fun _ =>
              drewM <|
              bindO (binV BinOp.gtr (getL l1 0) (Value.int IntKind.i64 0)) fun x36 =>
              M.bind (guardM x36 true (M.ret a4)) fun x37 =>
              M.bind (guardM x36 true (M.ret a0)) fun x38 =>
              M.bind (guardM x36 true (M.ret (getL l1 0))) fun x39 =>
              M.bind (guardM x36 true (optM (binV BinOp.sub x39 (Value.int IntKind.i64 1)))) fun x40 =>
              M.bind (guardM x36 true (optM (idxA 3 x38 x40))) fun x41 =>
              M.bind (guardM x36 true (rdM (ldA 3 x41))) fun x42 =>
              M.bind (guardM x36 true (M.ret a0)) fun x43 =>
              M.bind (guardM x36 true (M.ret (getL l22 0))) fun x44 =>
              M.bind (guardM x36 true (optM (idxA 3 x43 x44))) fun x45 =>
              M.bind (guardM x36 true (rdM (ldA 3 x45))) fun x46 =>
              M.bind (guardM x36 true (callV F.clos x37 [x42, x46])) fun x47 =>
              M.bind (guardM x36 true (optM (binV BinOp.lss x47 (Value.int IntKind.i64 0)))) fun x48 =>
              M.bind (guardM x36 true (optM (notV x48))) fun x49 =>
              bindO (pickV x36 x49 (Value.bool false)) fun x50 =>
              condM x50 (
                M.bind (F.slices_partitionEqualCmpFunc_Stored a0 (getL l1 0) (getL l1 1) (getL l22 0) a4) fun x51 =>
                M.ret (Out.norm [x51, (getL l1 1), (getL l10 0), (getL l1 3), (getL l1 4)])) (
                M.bind (F.slices_partitionCmpFunc_Stored a0 (getL l1 0) (getL l1 1) (getL l22 0) a4) fun x52 =>
                bindO (extV 0 x52) fun x53 =>
                bindO (extV 1 x52) fun x54 =>
                bindO (binV BinOp.sub x53 (getL l1 0)) fun x55 =>
                bindO (binV BinOp.sub (getL l1 1) x53) fun x56 =>
                bindO (binV BinOp.quo x2 (Value.int IntKind.i64 8)) fun x57 =>
                bindO (binV BinOp.lss x55 x56) fun x58 =>
                condM x58 (
                  bindO (binV BinOp.geq x55 x57) fun x59 =>
                  M.bind (rec a0 (getL l1 0) x53 (getL l10 0) a4) fun _ =>
                  bindO (binV BinOp.add x53 (Value.int IntKind.i64 1)) fun x61 =>
                  M.ret (Out.norm [x61, (getL l1 1), (getL l10 0), x59, x54])) (
                  bindO (binV BinOp.geq x56 x57) fun x62 =>
                  bindO (binV BinOp.add x53 (Value.int IntKind.i64 1)) fun x63 =>
                  M.bind (rec a0 x63 (getL l1 1) (getL l10 0) a4) fun _ =>
                  M.ret (Out.norm [(getL l1 0), x53, (getL l10 0), x62, x54])))) (fun _ _ =>
              M.fail) (fun r35 => M.ret (Out.ret r35))) (fun _ _ =>
            M.fail) (fun r25 => M.ret (Out.ret r25))) (fun _ _ =>
          M.fail) (fun r13 => M.ret (Out.ret r13))))) [a1, a2, a3, (Value.bool true), (Value.bool true)]) fun o69 =>
  outK o69 (fun _ => M.fail) (fun _ _ =>
    M.fail) (fun r71 => M.ret r71)
def F.slices_pdqsortCmpFunc_Stored.plan : Plan := (seq leaf (seq leaf (body (loop [1, 2, 3, 10, 11] [1, 2, 3, 10, 11, 12, 13, 14, 15, 16, 17, 18, 19, 20, 21, 22, 23, 24, 25, 26, 27, 28, 29, 30, 31, 32, 33, 34, 35, 36, 37, 38, 39, 40, 41, 42, 43, 44, 45, 46, 47, 48, 49, 50, 51, 52, 53, 54, 55, 56, 57, 58, 59, 60, 61, 62, 63, 64, 65, 66, 67, 68, 69, 70, 71, 72, 73, 74, 75, 76, 77, 78, 79, 80, 81, 82, 83, 84, 85, 86, 87, 88, 89, 90, 91, 92, 93, 94, 95, 96, 97, 98, 99, 100, 101, 102, 103, 104, 105, 106, 107, 108, 109, 110, 111, 112, 113, 114, 115, 116, 117, 118, 119, 120, 121, 122, 123, 124, 125, 126, 127, 128, 129, 130, 131, 132, 133, 134, 135, 136, 137, 138, 139, 140, 141, 142, 143, 144, 145, 146, 147] [] (body (seq leaf (seq (seq leaf (cond (seq leaf leaf) leaf)) (seq (seq leaf (cond (seq leaf leaf) leaf)) (fork [3] [3, 38, 39, 40, 41, 42, 43, 44, 45, 46] [] (seq leaf (cond (seq leaf leaf) leaf)) (seq leaf (fork [13, 14] [13, 14, 55, 56, 57, 58, 59, 60, 61, 62, 63, 64, 65, 66, 67] [] (seq leaf (cond (seq leaf (seq leaf leaf)) leaf)) (fork [] [68, 69, 70, 71, 72, 73, 74, 75, 76, 77, 78, 79, 80] [] (seq leaf (cond (seq leaf (cond leaf leaf)) leaf)) (seq (seq leaf (cond (seq leaf (seq leaf leaf)) leaf)) (seq leaf (seq leaf (seq leaf (seq leaf (seq leaf (cond (seq leaf (seq leaf leaf)) (seq leaf (seq leaf leaf)))))))))))))))))))))
theorem F.slices_pdqsortCmpFunc_Stored.step_lift {rec : Value → Value → Value → Value → Value → M Value} (hrec : LiftOk Tryz.prog 107 (ap5 rec)) : LiftOk Tryz.prog 107 (ap5 (F.slices_pdqsortCmpFunc_Stored.step rec)) :=
  lift5 (g := evFn Tryz.prog (tcons 107 (ap5 rec) (tcons 130 (ap4 F.slices_insertionSortCmpFunc_Stored) (tcons 131 (ap4 F.slices_heapSortCmpFunc_Stored) (tcons 132 (ap4 F.slices_breakPatternsCmpFunc_Stored) (tcons 133 (ap4 F.slices_choosePivotCmpFunc_Stored) (tcons 134 (ap4 F.slices_reverseRangeCmpFunc_Stored) (tcons 135 (ap4 F.slices_partialInsertionSortCmpFunc_Stored) (tcons 136 (ap5 F.slices_partitionEqualCmpFunc_Stored) (tcons 137 (ap5 F.slices_partitionCmpFunc_Stored) tnil))))))))) F.clos 107 Tryz.f107 F.slices_pdqsortCmpFunc_Stored.plan) (evFn_sound (tcons_ok hrec (tcons_ok F.slices_insertionSortCmpFunc_Stored.lift (tcons_ok F.slices_heapSortCmpFunc_Stored.lift (tcons_ok F.slices_breakPatternsCmpFunc_Stored.lift (tcons_ok F.slices_choosePivotCmpFunc_Stored.lift (tcons_ok F.slices_reverseRangeCmpFunc_Stored.lift (tcons_ok F.slices_partialInsertionSortCmpFunc_Stored.lift (tcons_ok F.slices_partitionEqualCmpFunc_Stored.lift (tcons_ok F.slices_partitionCmpFunc_Stored.lift tnil_ok))))))))) F.clos_ok Tryz.func107 (by kernel_rfl)) (fun x0 x1 x2 x3 x4 => by kernel_rfl)
noncomputable def F.slices_pdqsortCmpFunc_Stored.it : Nat → Value → Value → Value → Value → Value → M Value
  | 0 => fun _ _ _ _ _ => M.fail
  | n + 1 => F.slices_pdqsortCmpFunc_Stored.step (F.slices_pdqsortCmpFunc_Stored.it n)
theorem F.slices_pdqsortCmpFunc_Stored.it_lift : ∀ n, LiftOk Tryz.prog 107 (ap5 (F.slices_pdqsortCmpFunc_Stored.it n))
  | 0 => lift_fail fun args => by unfold ap5; split <;> rfl
  | n + 1 => F.slices_pdqsortCmpFunc_Stored.step_lift (F.slices_pdqsortCmpFunc_Stored.it_lift n)
/-- slices.pdqsortCmpFunc[granary/api.Stored] -/
noncomputable def F.slices_pdqsortCmpFunc_Stored (x0 x1 x2 x3 x4 : Value) : M Value := recL (fun n => ap5 (F.slices_pdqsortCmpFunc_Stored.it n)) [x0, x1, x2, x3, x4]
theorem F.slices_pdqsortCmpFunc_Stored.lift : LiftOk Tryz.prog 107 (ap5 F.slices_pdqsortCmpFunc_Stored) := lift5 (recL_lift F.slices_pdqsortCmpFunc_Stored.it_lift) fun _ _ _ _ _ => rfl
theorem F.slices_pdqsortCmpFunc_Stored.own : Own Tryz.prog 107 := ⟨⟨Tryz.f107, Tryz.func107, by kernel_rfl, by kernel_rfl⟩, by kernel_rfl⟩
theorem F.slices_pdqsortCmpFunc_Stored.run {n : Nat} {x0 x1 x2 x3 x4 : Value} {w : World} {Q : Value → World → Prop} (h : Run (F.slices_pdqsortCmpFunc_Stored.it n x0 x1 x2 x3 x4) w Q) : Run (F.slices_pdqsortCmpFunc_Stored x0 x1 x2 x3 x4) w Q := recL_run F.slices_pdqsortCmpFunc_Stored.it_lift F.slices_pdqsortCmpFunc_Stored.own (n := n) h

/-- slices.SortFunc[[]granary/api.Stored,granary/api.Stored] -/
noncomputable def F.slices_SortFunc_Stored (a0 a1 : Value) : M Value :=
  bindO (lenL a0) fun x1 =>
  bindO (cvtI IntKind.u64 x1) fun x2 =>
  M.bind (F.bits_Len x2) fun x3 =>
  M.bind (F.slices_pdqsortCmpFunc_Stored a0 (Value.int IntKind.i64 0) x1 x3 a1) fun _ =>
  M.ret (Value.tuple #[])
def F.slices_SortFunc_Stored.plan : Plan := (seq leaf leaf)
theorem F.slices_SortFunc_Stored.lift : LiftOk Tryz.prog 79 (ap2 F.slices_SortFunc_Stored) :=
  lift2 (g := evFn Tryz.prog (tcons 105 (ap1 F.bits_Len) (tcons 107 (ap5 F.slices_pdqsortCmpFunc_Stored) tnil)) tnil 79 Tryz.f79 F.slices_SortFunc_Stored.plan) (evFn_sound (tcons_ok F.bits_Len.lift (tcons_ok F.slices_pdqsortCmpFunc_Stored.lift tnil_ok)) tnil_ok Tryz.func79 (by kernel_rfl)) (fun x0 x1 => by kernel_rfl)

/-- (*granary/disk.Disk).Dump -/
noncomputable def F.disk_Disk_Dump (a0 : Value) : M Value :=
  bindO (eqV (EqSh.one EqK.ptr) a0 (Value.pointer none)) fun x1 =>
  condM x1 (
    M.ret (Value.slice none 0 0)) (
    M.bind (mkmM) fun x2 =>
    bindO (nilChk a0) fun x3 =>
    bindO (fieldA 7 x3) fun x4 =>
    M.bind (rdM (ld1 x4)) fun x5 =>
    M.bind (rngM x5) fun x6 =>
    M.bind (loopM (fun _ =>
      M.bind (nxtM x6) fun x8 =>
      bindO (extV 0 x8) fun x9 =>
      condM x9 (
        M.bind (rdM (entV x6)) fun x10 =>
        bindO (extV 0 x10) fun x11 =>
        bindO (extV 1 x10) fun x12 =>
        M.bind (newM 83 #[(Value.int IntKind.i64 0), (Value.string ByteArray.empty)]) fun x13 =>
        M.bind (stM 2 x13 x11) fun _ =>
        M.bind (rdM (ldA 2 x13)) fun x15 =>
        M.bind (updM Tryz.prog 3 (EqSh.one EqK.int) x2 x12 x15) fun _ =>
        M.ret (Out.norm [])) (
        M.ret (Out.exit 0 []))) []) fun o18 =>
    outK o18 (fun _ => M.fail) (fun k19 _ =>
      bif Nat.beq k19 0 then (
        M.bind (rngM x2) fun x21 =>
        M.bind (loopM (fun l22 =>
          M.bind (nxtM x21) fun x23 =>
          bindO (extV 0 x23) fun x24 =>
          condM x24 (
            M.bind (rdM (entV x21)) fun x25 =>
            bindO (extV 0 x25) fun x26 =>
            bindO (extV 1 x25) fun x27 =>
            M.bind (newM 83 #[(Value.int IntKind.i64 0), (Value.string ByteArray.empty)]) fun x28 =>
            M.bind (stM 2 x28 x27) fun _ =>
            bindO (fieldA 1 x28) fun x30 =>
            M.bind (rdM (ld1 x30)) fun x31 =>
            M.bind (loopM (fun l32 =>
              bindO (fieldA 0 x28) fun x33 =>
              M.bind (rdM (ld1 x33)) fun x34 =>
              bindO (binV BinOp.neq x34 (Value.int IntKind.i64 0)) fun x35 =>
              condM x35 (
                bindO (fieldA 0 x28) fun x36 =>
                M.bind (rdM (ld1 x36)) fun x37 =>
                M.bind (rdM (lookV Tryz.prog 3 (EqSh.one EqK.int) (Value.agg #[(Value.int IntKind.i64 0), (Value.string ByteArray.empty)]) false x2 x37)) fun x38 =>
                M.bind (stM 2 x28 x38) fun _ =>
                bindO (fieldA 1 x28) fun x40 =>
                M.bind (rdM (ld1 x40)) fun x41 =>
                bindO (binV BinOp.add x41 (Value.string (ByteArray.mk #[47]))) fun x42 =>
                bindO (binV BinOp.add x42 (getL l32 0)) fun x43 =>
                M.ret (Out.norm [x43])) (
                M.ret (Out.exit 4 [(getL l32 0)]))) [x31]) fun o45 =>
            outK o45 (fun _ => M.fail) (fun k46 l44 =>
              bif Nat.beq k46 4 then (
                drewM <|
                bindO (nilChk a0) fun x48 =>
                bindO (fieldA 6 x48) fun x49 =>
                M.bind (rdM (ld1 x49)) fun x50 =>
                bindO (idxA 3 x50 x26) fun x51 =>
                bindO (fieldA 0 x51) fun x52 =>
                M.bind (rdM (ld1 x52)) fun x53 =>
                bindO (nilChk a0) fun x54 =>
                bindO (fieldA 6 x54) fun x55 =>
                M.bind (rdM (ld1 x55)) fun x56 =>
                bindO (idxA 3 x56 x26) fun x57 =>
                bindO (fieldA 1 x57) fun x58 =>
                M.bind (rdM (ld1 x58)) fun x59 =>
                bindO (buildV #[(Value.string ByteArray.empty), (Value.int IntKind.i64 0), (Value.string ByteArray.empty)] [(0, 1, (getL l44 0)), (1, 1, x53), (2, 1, x59)]) fun x60 =>
                M.bind (bslM 115 1 (Builtin.zeroCells #[(Value.string ByteArray.empty), (Value.int IntKind.i64 0), (Value.string ByteArray.empty)] 1) [(0, 3, x60)]) fun x61 =>
                M.bind (appM 115 3 40 #[(Value.string ByteArray.empty), (Value.int IntKind.i64 0), (Value.string ByteArray.empty)] (getL l22 0) x61) fun x62 =>
                M.ret (Out.norm [x62])) else
              M.fail) (fun r47 => M.ret (Out.ret r47))) (
            M.ret (Out.exit 2 [(getL l22 0)]))) [(Value.slice none 0 0)]) fun o64 =>
        outK o64 (fun _ => M.fail) (fun k65 l63 =>
          bif Nat.beq k65 2 then (
            M.bind (F.slices_SortFunc_Stored (getL l63 0) (Value.func (Fn.func 80) #[] #[])) fun _ =>
            M.ret (getL l63 0)) else
          M.fail) (fun r66 => M.ret r66)) else
      M.fail) (fun r20 => M.ret r20))
def F.disk_Disk_Dump.plan : Plan := (seq leaf (seq (seq leaf (cond (seq leaf leaf) leaf)) (seq leaf (seq (seq leaf (body (loop [] [4, 5, 18, 19, 20, 21, 22, 23, 24, 25] [0] (seq leaf (seq (cond leaf leaf) (body (seq leaf leaf))))))) (seq leaf (seq (seq leaf (body (loop [6] [6, 7, 8, 9, 28, 29, 30, 31, 32, 33, 34, 35, 36, 37, 38, 39, 40, 41, 42, 43, 44, 45, 46, 47, 48, 49, 50, 51, 52, 53, 54, 55, 56, 57, 58, 59, 60, 61, 62, 63, 64, 65, 66, 67] [2] (seq leaf (seq (cond leaf leaf) (body (seq leaf (seq leaf (seq (body (loop [9] [9, 35, 36, 37, 38, 39, 40, 41, 42, 43, 44, 45, 46] [4] (seq (seq leaf (cond leaf leaf)) (body (seq leaf leaf))))) leaf))))))))) (seq leaf (seq leaf leaf))))))))
theorem F.disk_Disk_Dump.lift : LiftOk Tryz.prog 26 (ap1 F.disk_Disk_Dump) :=
  lift1 (g := evFn Tryz.prog (tcons 79 (ap2 F.slices_SortFunc_Stored) tnil) tnil 26 Tryz.f26 F.disk_Disk_Dump.plan) (evFn_sound (tcons_ok F.slices_SortFunc_Stored.lift tnil_ok) tnil_ok Tryz.func26 (by kernel_rfl)) (fun x0 => by kernel_rfl)

/-- (*granary/granaryref1.Disk).under, the calls of itself left open -/
noncomputable def F.granaryref1_Disk_under.step (rec : Value → Value → Value → Value → M Value) (a0 a1 a2 a3 : Value) : M Value :=
  bindO (nilChk a0) fun x1 =>
  bindO (fieldA 5 x1) fun x2 =>
  M.bind (rdM (ld1 x2)) fun x3 =>
  bindO (idxA 5 x3 a2) fun x4 =>
  bindO (fieldA 1 x4) fun x5 =>
  bindO (fieldA 1 x5) fun x6 =>
  M.bind (rdM (ld1 x6)) fun x7 =>
  M.bind (loopM (fun l8 =>
    bindO (lenL x7) fun x9 =>
    bindO (binV BinOp.lss (getL l8 1) x9) fun x10 =>
    condM x10 (
      M.bind (
        drewM <|
        getM fun _ =>
        bindO (nilChk a0) fun x12 =>
        bindO (fieldA 5 x12) fun x13 =>
        M.bind (rdM (ld1 x13)) fun x14 =>
        bindO (idxA 2 x7 (getL l8 1)) fun x15 =>
        bindO (fieldA 1 x15) fun x16 =>
        M.bind (rdM (ld1 x16)) fun x17 =>
        bindO (idxA 5 x14 x17) fun x18 =>
        M.bind (rdM (ldA 5 x18)) fun x19 =>
        M.bind (newM 107 #[(Value.int IntKind.i64 0), (Value.string ByteArray.empty), (Value.slice none 0 0), (Value.string ByteArray.empty), (Value.slice none 0 0)]) fun x20 =>
        getM fun W21 =>
        M.bind (stM 5 x20 x19) fun _ =>
        getM fun _ =>
        reqM (ld1 x13 W21 = some x14) <|
        reqM (ld1 x16 W21 = some x17) <|
        reqM (ldA 5 x18 W21 = some x19) <|
        bindO (idxA 2 x7 (getL l8 1)) fun x24 =>
        bindO (fieldA 0 x24) fun x25 =>
        M.bind (rdM (ld1 x25)) fun x26 =>
        bindO (binV BinOp.add a3 x26) fun x27 =>
        bindO (fieldA 0 x20) fun x28 =>
        M.bind (rdM (ld1 x28)) fun x29 =>
        bindO (fieldA 1 x20) fun x30 =>
        bindO (fieldA 0 x30) fun x31 =>
        M.bind (rdM (ld1 x31)) fun x32 =>
        bindO (buildV #[(Value.string ByteArray.empty), (Value.int IntKind.i64 0), (Value.string ByteArray.empty)] [(0, 1, x27), (1, 1, x29), (2, 1, x32)]) fun x33 =>
        M.bind (bslM 115 1 (Builtin.zeroCells #[(Value.string ByteArray.empty), (Value.int IntKind.i64 0), (Value.string ByteArray.empty)] 1) [(0, 3, x33)]) fun x34 =>
        M.bind (appM 115 3 40 #[(Value.string ByteArray.empty), (Value.int IntKind.i64 0), (Value.string ByteArray.empty)] (getL l8 0) x34) fun x35 =>
        bindO (fieldA 0 x20) fun x36 =>
        M.bind (rdM (ld1 x36)) fun x37 =>
        bindO (binV BinOp.eql x37 (Value.int IntKind.i64 1)) fun x38 =>
        condM x38 (
          bindO (idxA 2 x7 (getL l8 1)) fun x39 =>
          bindO (fieldA 1 x39) fun x40 =>
          M.bind (rdM (ld1 x40)) fun x41 =>
          bindO (binV BinOp.add x27 (Value.string (ByteArray.mk #[47]))) fun x42 =>
          M.bind (rec a0 x35 x41 x42) fun x43 =>
          M.ret (Out.norm [x43])) (
          M.ret (Out.norm [x35]))) fun o45 =>
      outK o45 (fun l44 =>
        bindO (binV BinOp.add (getL l8 1) (Value.int IntKind.i64 1)) fun x48 =>
        M.ret (Out.norm [(getL l44 0), x48])) (fun _ _ =>
        M.fail) (fun r47 => M.ret (Out.ret r47))) (
      M.ret (Out.exit 0 [(getL l8 0), (getL l8 1)]))) [a1, (Value.int IntKind.i64 0)]) fun o51 =>
  outK o51 (fun _ => M.fail) (fun k52 l50 =>
    bif Nat.beq k52 0 then (
      M.ret (getL l50 0)) else
    M.fail) (fun r53 => M.ret r53)
def F.granaryref1_Disk_under.plan : Plan := (seq leaf (seq leaf (seq (seq leaf (body (loop [1, 10] [1, 10, 11, 12, 22, 23, 24, 25, 26, 27, 28, 29, 30, 31, 32, 33, 34, 35, 36, 37, 38, 39, 40, 41, 42, 43, 44, 45, 46, 47, 48, 49, 50, 51, 52, 53, 54, 55, 56, 57, 58, 59, 60, 61, 62, 63, 64, 65, 66, 67, 68] [0] (seq (seq leaf (cond leaf leaf)) (fork [1] [1, 11, 12, 28, 29, 30, 31, 32, 33, 34, 35, 36, 37, 38, 39, 40, 41, 42, 43, 44, 45, 46, 47, 48, 49, 50, 51, 52, 53, 54, 55, 56, 57, 58, 59, 60, 61, 62, 63, 64, 65, 66, 67, 68] [] (body (seq leaf (seq leaf (seq leaf (seq leaf (cond leaf leaf)))))) leaf))))) (seq leaf leaf))))
theorem F.granaryref1_Disk_under.step_lift {rec : Value → Value → Value → Value → M Value} (hrec : LiftOk Tryz.prog 81 (ap4 rec)) : LiftOk Tryz.prog 81 (ap4 (F.granaryref1_Disk_under.step rec)) :=
  lift4 (g := evFn Tryz.prog (tcons 81 (ap4 rec) tnil) tnil 81 Tryz.f81 F.granaryref1_Disk_under.plan) (evFn_sound (tcons_ok hrec tnil_ok) tnil_ok Tryz.func81 (by kernel_rfl)) (fun x0 x1 x2 x3 => by kernel_rfl)
noncomputable def F.granaryref1_Disk_under.it : Nat → Value → Value → Value → Value → M Value
  | 0 => fun _ _ _ _ => M.fail
  | n + 1 => F.granaryref1_Disk_under.step (F.granaryref1_Disk_under.it n)
theorem F.granaryref1_Disk_under.it_lift : ∀ n, LiftOk Tryz.prog 81 (ap4 (F.granaryref1_Disk_under.it n))
  | 0 => lift_fail fun args => by unfold ap4; split <;> rfl
  | n + 1 => F.granaryref1_Disk_under.step_lift (F.granaryref1_Disk_under.it_lift n)
/-- (*granary/granaryref1.Disk).under -/
noncomputable def F.granaryref1_Disk_under (x0 x1 x2 x3 : Value) : M Value := recL (fun n => ap4 (F.granaryref1_Disk_under.it n)) [x0, x1, x2, x3]
theorem F.granaryref1_Disk_under.lift : LiftOk Tryz.prog 81 (ap4 F.granaryref1_Disk_under) := lift4 (recL_lift F.granaryref1_Disk_under.it_lift) fun _ _ _ _ => rfl
theorem F.granaryref1_Disk_under.own : Own Tryz.prog 81 := ⟨⟨Tryz.f81, Tryz.func81, by kernel_rfl, by kernel_rfl⟩, by kernel_rfl⟩
theorem F.granaryref1_Disk_under.run {n : Nat} {x0 x1 x2 x3 : Value} {w : World} {Q : Value → World → Prop} (h : Run (F.granaryref1_Disk_under.it n x0 x1 x2 x3) w Q) : Run (F.granaryref1_Disk_under x0 x1 x2 x3) w Q := recL_run F.granaryref1_Disk_under.it_lift F.granaryref1_Disk_under.own (n := n) h

/-- (*granary/granaryref1.Disk).Dump -/
noncomputable def F.granaryref1_Disk_Dump (a0 : Value) : M Value :=
  bindO (eqV (EqSh.one EqK.ptr) a0 (Value.pointer none)) fun x1 =>
  condM x1 (
    M.ret (Value.slice none 0 0)) (
    M.bind (F.granaryref1_Disk_under a0 (Value.slice none 0 0) (Value.int IntKind.i64 0) (Value.string (ByteArray.mk #[]))) fun x2 =>
    M.bind (loopM (fun l3 =>
      bindO (lenL x2) fun x4 =>
      bindO (binV BinOp.lss (getL l3 0) x4) fun x5 =>
      condM x5 (
        bindO (idxA 3 x2 (getL l3 0)) fun x6 =>
        M.bind (rdM (ldA 3 x6)) fun x7 =>
        M.bind (newM 115 #[(Value.string ByteArray.empty), (Value.int IntKind.i64 0), (Value.string ByteArray.empty)]) fun x8 =>
        M.bind (stM 3 x8 x7) fun _ =>
        M.bind (loopM (fun l10 =>
          drewM <|
          bindO (binV BinOp.gtr (getL l10 0) (Value.int IntKind.i64 0)) fun x11 =>
          M.bind (guardM x11 true (M.ret x2)) fun x12 =>
          M.bind (guardM x11 true (M.ret (getL l10 0))) fun x13 =>
          M.bind (guardM x11 true (optM (binV BinOp.sub x13 (Value.int IntKind.i64 1)))) fun x14 =>
          M.bind (guardM x11 true (optM (idxA 3 x12 x14))) fun x15 =>
          M.bind (guardM x11 true (optM (fieldA 0 x15))) fun x16 =>
          M.bind (guardM x11 true (rdM (ld1 x16))) fun x17 =>
          M.bind (guardM x11 true (optM (fieldA 0 x8))) fun x18 =>
          M.bind (guardM x11 true (rdM (ld1 x18))) fun x19 =>
          M.bind (guardM x11 true (optM (binV BinOp.gtr x17 x19))) fun x20 =>
          bindO (pickV x11 x20 (Value.bool false)) fun x21 =>
          condM x21 (
            bindO (binV BinOp.sub (getL l10 0) (Value.int IntKind.i64 1)) fun x22 =>
            bindO (idxA 3 x2 x22) fun x23 =>
            M.bind (rdM (ldA 3 x23)) fun x24 =>
            bindO (idxA 3 x2 (getL l10 0)) fun x25 =>
            M.bind (stM 3 x25 x24) fun _ =>
            bindO (binV BinOp.sub (getL l10 0) (Value.int IntKind.i64 1)) fun x27 =>
            M.ret (Out.norm [x27])) (
            M.ret (Out.exit 2 [(getL l10 0)]))) [(getL l3 0)]) fun o29 =>
        outK o29 (fun _ => M.fail) (fun k30 l28 =>
          bif Nat.beq k30 2 then (
            M.bind (rdM (ldA 3 x8)) fun x32 =>
            bindO (idxA 3 x2 (getL l28 0)) fun x33 =>
            M.bind (stM 3 x33 x32) fun _ =>
            bindO (binV BinOp.add (getL l3 0) (Value.int IntKind.i64 1)) fun x35 =>
            M.ret (Out.norm [x35])) else
          M.fail) (fun r31 => M.ret (Out.ret r31))) (
        M.ret (Out.exit 0 [(getL l3 0)]))) [(Value.int IntKind.i64 1)]) fun o37 =>
    outK o37 (fun _ => M.fail) (fun k38 _ =>
      bif Nat.beq k38 0 then (
        M.ret x2) else
      M.fail) (fun r39 => M.ret r39))
def F.granaryref1_Disk_Dump.plan : Plan := (seq leaf (seq (seq leaf (cond (seq leaf leaf) leaf)) (seq leaf (seq (seq leaf (body (loop [4] [4, 5, 6, 11, 12, 13, 14, 15, 16, 17, 18, 19, 20, 21, 22, 23, 24, 25, 26, 27, 28, 29, 30, 31, 32, 33, 34, 35, 36, 37, 38, 39, 40, 41, 42, 43, 44, 45, 46, 47, 48] [0] (seq (seq leaf (cond leaf leaf)) (seq (body (seq leaf (seq leaf (seq (body (loop [6] [6, 22, 23, 24, 25, 26, 27, 28, 29, 30, 31, 32, 33, 34, 35, 36, 37, 38, 39, 40, 41, 42, 43, 44] [2] (seq (seq leaf (cond leaf leaf)) (body (seq leaf leaf))))) leaf)))) leaf))))) (seq leaf leaf)))))
theorem F.granaryref1_Disk_Dump.lift : LiftOk Tryz.prog 27 (ap1 F.granaryref1_Disk_Dump) :=
  lift1 (g := evFn Tryz.prog (tcons 81 (ap4 F.granaryref1_Disk_under) tnil) tnil 27 Tryz.f27 F.granaryref1_Disk_Dump.plan) (evFn_sound (tcons_ok F.granaryref1_Disk_under.lift tnil_ok) tnil_ok Tryz.func27 (by kernel_rfl)) (fun x0 => by kernel_rfl)

/-- granary/granarylaw1.sameStored -/
noncomputable def F.granarylaw1_sameStored (a0 a1 : Value) : M Value :=
  bindO (lenL a0) fun x1 =>
  bindO (lenL a1) fun x2 =>
  bindO (binV BinOp.neq x1 x2) fun x3 =>
  condM x3 (
    M.ret (Value.bool false)) (
    M.bind (loopM (fun l4 =>
      bindO (lenL a0) fun x5 =>
      bindO (binV BinOp.lss (getL l4 0) x5) fun x6 =>
      condM x6 (
        drewM <|
        bindO (idxA 3 a0 (getL l4 0)) fun x7 =>
        M.bind (rdM (ldA 3 x7)) fun x8 =>
        bindO (idxA 3 a1 (getL l4 0)) fun x9 =>
        M.bind (rdM (ldA 3 x9)) fun x10 =>
        bindO (neV (EqSh.offs [(EqK.str, 0), (EqK.int, 1), (EqK.str, 2)]) x8 x10) fun x11 =>
        condM x11 (
          M.ret (Out.ret (Value.bool false))) (
          bindO (binV BinOp.add (getL l4 0) (Value.int IntKind.i64 1)) fun x12 =>
          M.ret (Out.norm [x12]))) (
        M.ret (Out.exit 0 [(getL l4 0)]))) [(Value.int IntKind.i64 0)]) fun o14 =>
    outK o14 (fun _ => M.fail) (fun k15 _ =>
      bif Nat.beq k15 0 then (
        M.ret (Value.bool true)) else
      M.fail) (fun r16 => M.ret r16))
def F.granarylaw1_sameStored.plan : Plan := (seq leaf (seq (seq leaf (cond (seq leaf leaf) leaf)) (seq (seq leaf (body (loop [5] [4, 5, 11, 12, 13, 14, 15, 16, 17, 18, 19, 20, 21, 22, 23, 24, 25] [0] (seq (seq leaf (cond leaf leaf)) (seq (body (seq leaf (cond (seq leaf leaf) leaf))) leaf))))) (seq leaf leaf))))
theorem F.granarylaw1_sameStored.lift : LiftOk Tryz.prog 28 (ap2 F.granarylaw1_sameStored) :=
  lift2 (g := evFn Tryz.prog tnil tnil 28 Tryz.f28 F.granarylaw1_sameStored.plan) (evFn_sound tnil_ok tnil_ok Tryz.func28 (by kernel_rfl)) (fun x0 x1 => by kernel_rfl)

/-- (*granary/granarylaw1.bench).looks -/
noncomputable def F.granarylaw1_bench_looks (a0 a1 : Value) : M Value :=
  M.bind (newM 35 (Value.cells a1)) fun x1 =>
  drewM <|
  bindO (fieldA 1 x1) fun x2 =>
  M.bind (rdM (ld1 x2)) fun x3 =>
  M.bind (F.granarylaw1_place x3) fun x4 =>
  bindO (nilChk a0) fun x5 =>
  bindO (fieldA 0 x5) fun x6 =>
  bindO (idxR 2 1 x6 x4) fun x7 =>
  M.bind (rdM (ld1 x7)) fun x8 =>
  drewM <|
  bindO (fieldA 1 x1) fun x9 =>
  M.bind (rdM (ld1 x9)) fun x10 =>
  M.bind (F.granarylaw1_place x10) fun x11 =>
  bindO (nilChk a0) fun x12 =>
  bindO (fieldA 2 x12) fun x13 =>
  bindO (idxR 2 1 x13 x11) fun x14 =>
  M.bind (rdM (ld1 x14)) fun x15 =>
  bindO (fieldA 0 x1) fun x16 =>
  M.bind (rdM (ld1 x16)) fun x17 =>
  bindO (binV BinOp.eql x17 (Value.int IntKind.i64 9)) fun x18 =>
  condM x18 (
    bindO (fieldA 4 x1) fun x19 =>
    M.bind (rdM (ld1 x19)) fun x20 =>
    bindO (fieldA 2 x1) fun x21 =>
    M.bind (rdM (ld1 x21)) fun x22 =>
    bindO (fieldA 3 x1) fun x23 =>
    M.bind (rdM (ld1 x23)) fun x24 =>
    M.bind (F.disk_Disk_Read x8 x20 x22 x24) fun x25 =>
    bindO (extV 0 x25) fun x26 =>
    bindO (extV 1 x25) fun x27 =>
    bindO (fieldA 4 x1) fun x28 =>
    M.bind (rdM (ld1 x28)) fun x29 =>
    bindO (fieldA 2 x1) fun x30 =>
    M.bind (rdM (ld1 x30)) fun x31 =>
    bindO (fieldA 3 x1) fun x32 =>
    M.bind (rdM (ld1 x32)) fun x33 =>
    M.bind (F.granaryref1_Disk_Read x15 x29 x31 x33) fun x34 =>
    bindO (extV 0 x34) fun x35 =>
    bindO (extV 1 x34) fun x36 =>
    bindO (binV BinOp.eql x26 x35) fun x37 =>
    M.bind (guardM x37 true (M.ret x27)) fun x38 =>
    M.bind (guardM x37 true (F.granarylaw1_num x38)) fun x39 =>
    M.bind (guardM x37 true (M.ret x36)) fun x40 =>
    M.bind (guardM x37 true (optM (binV BinOp.eql x39 x40))) fun x41 =>
    bindO (pickV x37 x41 (Value.bool false)) fun x42 =>
    M.ret x42) (
    bindO (binV BinOp.eql x17 (Value.int IntKind.i64 10)) fun x43 =>
    condM x43 (
      bindO (fieldA 4 x1) fun x44 =>
      M.bind (rdM (ld1 x44)) fun x45 =>
      M.bind (F.disk_Disk_Size x8 x45) fun x46 =>
      bindO (extV 0 x46) fun x47 =>
      bindO (extV 1 x46) fun x48 =>
      bindO (fieldA 4 x1) fun x49 =>
      M.bind (rdM (ld1 x49)) fun x50 =>
      M.bind (F.granaryref1_Disk_Size x15 x50) fun x51 =>
      bindO (extV 0 x51) fun x52 =>
      bindO (extV 1 x51) fun x53 =>
      bindO (binV BinOp.eql x47 x52) fun x54 =>
      M.bind (guardM x54 true (M.ret x48)) fun x55 =>
      M.bind (guardM x54 true (F.granarylaw1_num x55)) fun x56 =>
      M.bind (guardM x54 true (M.ret x53)) fun x57 =>
      M.bind (guardM x54 true (optM (binV BinOp.eql x56 x57))) fun x58 =>
      bindO (pickV x54 x58 (Value.bool false)) fun x59 =>
      M.ret x59) (
      bindO (binV BinOp.eql x17 (Value.int IntKind.i64 11)) fun x60 =>
      condM x60 (
        bindO (fieldA 4 x1) fun x61 =>
        M.bind (rdM (ld1 x61)) fun x62 =>
        M.bind (F.disk_Disk_Kind x8 x62) fun x63 =>
        bindO (extV 0 x63) fun x64 =>
        bindO (extV 1 x63) fun x65 =>
        bindO (fieldA 4 x1) fun x66 =>
        M.bind (rdM (ld1 x66)) fun x67 =>
        M.bind (F.granaryref1_Disk_Kind x15 x67) fun x68 =>
        bindO (extV 0 x68) fun x69 =>
        bindO (extV 1 x68) fun x70 =>
        bindO (binV BinOp.eql x64 x69) fun x71 =>
        M.bind (guardM x71 true (M.ret x65)) fun x72 =>
        M.bind (guardM x71 true (F.granarylaw1_num x72)) fun x73 =>
        M.bind (guardM x71 true (M.ret x70)) fun x74 =>
        M.bind (guardM x71 true (optM (binV BinOp.eql x73 x74))) fun x75 =>
        bindO (pickV x71 x75 (Value.bool false)) fun x76 =>
        M.ret x76) (
        bindO (binV BinOp.eql x17 (Value.int IntKind.i64 12)) fun x77 =>
        condM x77 (
          bindO (fieldA 4 x1) fun x78 =>
          M.bind (rdM (ld1 x78)) fun x79 =>
          M.bind (F.disk_Disk_List x8 x79) fun x80 =>
          bindO (extV 0 x80) fun x81 =>
          bindO (extV 1 x80) fun x82 =>
          bindO (fieldA 4 x1) fun x83 =>
          M.bind (rdM (ld1 x83)) fun x84 =>
          M.bind (F.granaryref1_Disk_List x15 x84) fun x85 =>
          bindO (extV 0 x85) fun x86 =>
          bindO (extV 1 x85) fun x87 =>
          M.bind (F.granarylaw1_sameEntries x81 x86) fun x88 =>
          M.bind (guardM x88 true (M.ret x82)) fun x89 =>
          M.bind (guardM x88 true (F.granarylaw1_num x89)) fun x90 =>
          M.bind (guardM x88 true (M.ret x87)) fun x91 =>
          M.bind (guardM x88 true (optM (binV BinOp.eql x90 x91))) fun x92 =>
          bindO (pickV x88 x92 (Value.bool false)) fun x93 =>
          M.ret x93) (
          M.bind (F.disk_Disk_Dump x8) fun x94 =>
          M.bind (F.granaryref1_Disk_Dump x15) fun x95 =>
          M.bind (F.granarylaw1_sameStored x94 x95) fun x96 =>
          M.ret x96))))
def F.granarylaw1_bench_looks.plan : Plan := (seq leaf (seq leaf (seq leaf (seq (seq leaf (body (seq leaf (cond (seq leaf (seq leaf (seq leaf leaf))) (seq leaf (cond (seq leaf (seq leaf (seq leaf leaf))) (seq leaf (cond (seq leaf (seq leaf (seq leaf leaf))) (seq leaf (cond (seq leaf (seq leaf (seq leaf leaf))) leaf)))))))))) (seq leaf (seq leaf (seq leaf leaf)))))))
theorem F.granarylaw1_bench_looks.lift : LiftOk Tryz.prog 13 (ap2 F.granarylaw1_bench_looks) :=
  lift2 (g := evFn Tryz.prog (tcons 20 (ap1 F.granarylaw1_place) (tcons 21 (ap2 F.disk_Disk_List) (tcons 22 (ap2 F.granaryref1_Disk_List) (tcons 23 (ap1 F.granarylaw1_num) (tcons 24 (ap2 F.granarylaw1_sameEntries) (tcons 26 (ap1 F.disk_Disk_Dump) (tcons 27 (ap1 F.granaryref1_Disk_Dump) (tcons 28 (ap2 F.granarylaw1_sameStored) (tcons 33 (ap4 F.disk_Disk_Read) (tcons 34 (ap4 F.granaryref1_Disk_Read) (tcons 35 (ap2 F.disk_Disk_Size) (tcons 36 (ap2 F.granaryref1_Disk_Size) (tcons 37 (ap2 F.disk_Disk_Kind) (tcons 38 (ap2 F.granaryref1_Disk_Kind) tnil)))))))))))))) tnil 13 Tryz.f13 F.granarylaw1_bench_looks.plan) (evFn_sound (tcons_ok F.granarylaw1_place.lift (tcons_ok F.disk_Disk_List.lift (tcons_ok F.granaryref1_Disk_List.lift (tcons_ok F.granarylaw1_num.lift (tcons_ok F.granarylaw1_sameEntries.lift (tcons_ok F.disk_Disk_Dump.lift (tcons_ok F.granaryref1_Disk_Dump.lift (tcons_ok F.granarylaw1_sameStored.lift (tcons_ok F.disk_Disk_Read.lift (tcons_ok F.granaryref1_Disk_Read.lift (tcons_ok F.disk_Disk_Size.lift (tcons_ok F.granaryref1_Disk_Size.lift (tcons_ok F.disk_Disk_Kind.lift (tcons_ok F.granaryref1_Disk_Kind.lift tnil_ok)))))))))))))) tnil_ok Tryz.func13 (by kernel_rfl)) (fun x0 x1 => by kernel_rfl)

/-- (*granary/disk.Disk).act -/
noncomputable def F.disk_Disk_act (a0 : Value) : M Value :=
  M.bind (
    bindO (nilChk a0) fun x1 =>
    bindO (fieldA 3 x1) fun x2 =>
    M.bind (rdM (ld1 x2)) fun x3 =>
    condM x3 (
      bindO (nilChk a0) fun x4 =>
      bindO (fieldA 4 x4) fun x5 =>
      M.bind (rdM (ld1 x5)) fun x6 =>
      bindO (binV BinOp.eql x6 (Value.int IntKind.i64 0)) fun x7 =>
      condM x7 (
        bindO (nilChk a0) fun x8 =>
        bindO (fieldA 5 x8) fun x9 =>
        M.bind (stM 1 x9 (Value.bool true)) fun _ =>
        M.ret (Out.ret (Value.int IntKind.i64 10))) (
        bindO (nilChk a0) fun x11 =>
        bindO (fieldA 4 x11) fun x12 =>
        M.bind (rdM (ld1 x12)) fun x13 =>
        bindO (binV BinOp.sub x13 (Value.int IntKind.i64 1)) fun x14 =>
        bindO (nilChk a0) fun x15 =>
        bindO (fieldA 4 x15) fun x16 =>
        M.bind (stM 1 x16 x14) fun _ =>
        M.ret (Out.norm []))) (
      M.ret (Out.norm []))) fun o19 =>
  outK o19 (fun _ =>
    bindO (nilChk a0) fun x22 =>
    bindO (fieldA 1 x22) fun x23 =>
    M.bind (rdM (ld1 x23)) fun x24 =>
    bindO (binV BinOp.add x24 (Value.int IntKind.i64 1)) fun x25 =>
    bindO (nilChk a0) fun x26 =>
    bindO (fieldA 1 x26) fun x27 =>
    M.bind (stM 1 x27 x25) fun _ =>
    M.ret (Value.int IntKind.i64 0)) (fun _ _ =>
    M.fail) (fun r21 => M.ret r21)
def F.disk_Disk_act.plan : Plan := (seq leaf (fork [] [2, 3, 4, 5, 6, 7, 8, 9, 10, 11, 12, 13, 14, 15, 16, 17, 18, 19, 20, 21] [] (seq leaf (cond (seq (seq leaf (cond (seq leaf (seq leaf leaf)) leaf)) leaf) leaf)) (seq leaf (seq leaf leaf))))
theorem F.disk_Disk_act.lift : LiftOk Tryz.prog 114 (ap1 F.disk_Disk_act) :=
  lift1 (g := evFn Tryz.prog tnil tnil 114 Tryz.f114 F.disk_Disk_act.plan) (evFn_sound tnil_ok tnil_ok Tryz.func114 (by kernel_rfl)) (fun x0 => by kernel_rfl)

/-- granary/disk.apply -/
noncomputable def F.disk_apply (a0 a1 a2 : Value) : M Value :=
  M.bind (newM 141 (Value.cells a0)) fun x1 =>
  M.bind (
    bindO (fieldA 0 x1) fun x2 =>
    M.bind (rdM (ld1 x2)) fun x3 =>
    bindO (binV BinOp.eql x3 (Value.int IntKind.i64 0)) fun x4 =>
    condM x4 (
      bindO (fieldA 2 x1) fun x5 =>
      M.bind (rdM (ld1 x5)) fun x6 =>
      bindO (binV BinOp.add a1 x6) fun x7 =>
      M.ret (Out.ret x7)) (
      bindO (binV BinOp.eql x3 (Value.int IntKind.i64 1)) fun x8 =>
      condM x8 (
        bindO (fieldA 3 x1) fun x9 =>
        M.bind (rdM (ld1 x9)) fun x10 =>
        bindO (sliceS a1 none (some x10)) fun x11 =>
        M.ret (Out.ret x11)) (
        bindO (binV BinOp.eql x3 (Value.int IntKind.i64 2)) fun x12 =>
        condM x12 (
          bindO (fieldA 1 x1) fun x13 =>
          M.bind (rdM (ld1 x13)) fun x14 =>
          bindO (fieldA 4 x1) fun x15 =>
          M.bind (rdM (ld1 x15)) fun x16 =>
          bindO (buildV #[(Value.int IntKind.i64 0), (Value.string ByteArray.empty)] [(0, 1, x14), (1, 1, x16)]) fun x17 =>
          bindO (fieldA 6 x1) fun x18 =>
          M.bind (rdM (ld1 x18)) fun x19 =>
          M.bind (updM Tryz.prog 83 (EqSh.offs [(EqK.int, 0), (EqK.str, 1)]) a2 x17 x19) fun _ =>
          M.ret (Out.norm [])) (
          bindO (binV BinOp.eql x3 (Value.int IntKind.i64 3)) fun x21 =>
          condM x21 (
            bindO (fieldA 1 x1) fun x22 =>
            M.bind (rdM (ld1 x22)) fun x23 =>
            bindO (fieldA 4 x1) fun x24 =>
            M.bind (rdM (ld1 x24)) fun x25 =>
            bindO (buildV #[(Value.int IntKind.i64 0), (Value.string ByteArray.empty)] [(0, 1, x23), (1, 1, x25)]) fun x26 =>
            M.bind (delM Tryz.prog 83 (EqSh.offs [(EqK.int, 0), (EqK.str, 1)]) a2 x26) fun _ =>
            M.ret (Out.norm [])) (
            bindO (binV BinOp.eql x3 (Value.int IntKind.i64 4)) fun x28 =>
            condM x28 (
              bindO (fieldA 1 x1) fun x29 =>
              M.bind (rdM (ld1 x29)) fun x30 =>
              bindO (fieldA 4 x1) fun x31 =>
              M.bind (rdM (ld1 x31)) fun x32 =>
              bindO (buildV #[(Value.int IntKind.i64 0), (Value.string ByteArray.empty)] [(0, 1, x30), (1, 1, x32)]) fun x33 =>
              M.bind (rdM (lookV Tryz.prog 83 (EqSh.offs [(EqK.int, 0), (EqK.str, 1)]) (Value.int IntKind.i64 0) false a2 x33)) fun x34 =>
              bindO (fieldA 1 x1) fun x35 =>
              M.bind (rdM (ld1 x35)) fun x36 =>
              bindO (fieldA 4 x1) fun x37 =>
              M.bind (rdM (ld1 x37)) fun x38 =>
              bindO (buildV #[(Value.int IntKind.i64 0), (Value.string ByteArray.empty)] [(0, 1, x36), (1, 1, x38)]) fun x39 =>
              M.bind (delM Tryz.prog 83 (EqSh.offs [(EqK.int, 0), (EqK.str, 1)]) a2 x39) fun _ =>
              bindO (fieldA 1 x1) fun x41 =>
              M.bind (rdM (ld1 x41)) fun x42 =>
              bindO (fieldA 5 x1) fun x43 =>
              M.bind (rdM (ld1 x43)) fun x44 =>
              bindO (buildV #[(Value.int IntKind.i64 0), (Value.string ByteArray.empty)] [(0, 1, x42), (1, 1, x44)]) fun x45 =>
              M.bind (updM Tryz.prog 83 (EqSh.offs [(EqK.int, 0), (EqK.str, 1)]) a2 x45 x34) fun _ =>
              M.ret (Out.norm [])) (
              M.ret (Out.norm []))))))) fun o48 =>
  outK o48 (fun _ =>
    M.ret a1) (fun _ _ =>
    M.fail) (fun r50 => M.ret r50)
def F.disk_apply.plan : Plan := (seq leaf (fork [] [6, 7, 8, 9, 10, 11, 12, 13, 14, 15, 16, 17, 18, 19, 20, 21, 22, 23, 24, 25, 26, 27, 28, 29, 30, 31, 32, 33, 34, 35, 36, 37, 38, 39, 40, 41, 42, 43, 44, 45, 46, 47, 48, 49, 50, 51, 52, 53, 54, 55, 56, 57, 58, 59, 60, 61] [] (seq leaf (body (seq leaf (cond (seq leaf leaf) (seq leaf (cond (seq leaf leaf) (seq leaf (cond leaf (seq leaf (cond leaf (seq leaf (cond (seq leaf (seq leaf leaf)) leaf)))))))))))) (seq leaf leaf)))
theorem F.disk_apply.lift : LiftOk Tryz.prog 99 (ap3 F.disk_apply) :=
  lift3 (g := evFn Tryz.prog tnil tnil 99 Tryz.f99 F.disk_apply.plan) (evFn_sound tnil_ok tnil_ok Tryz.func99 (by kernel_rfl)) (fun x0 x1 x2 => by kernel_rfl)

end Go.Proofs.YtojnickeblbgoaaGreatDoor
