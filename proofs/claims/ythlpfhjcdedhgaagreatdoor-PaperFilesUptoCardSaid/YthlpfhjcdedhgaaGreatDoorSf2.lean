/- What the statement rests on: part 3. -/
import Derived.Test.YthlpfhjcdedhgaaGreatDoorSf1
import Derived.Deep.DeepAppendWide
import Derived.Laws.AppendOwn
import Derived.Lib.MakeNoZero
import Derived.Lib.UnsafeStr
import Derived.Lib.SplitLaws
namespace Go.Proofs.YthlpfhjcdedhgaaGreatDoor
open Go.Lift Go.Lift.Plan
noncomputable def F.digest_NewHasher : M Value:=M.bind (rdM (ldA 4 (Value.pointer (some { block:=2, off:=0, spot:=none })))) λ x1 => bindO (buildV #[(.int .u32 0), (.int .u32 0), (.int .u32 0), (.int .u32 0), (.int .u8 0), (.int .u8 0), (.int .u8 0), (.int .u8 0), (.int .u8 0), (.int .u8 0), (.int .u8 0), (.int .u8 0), (.int .u8 0), (.int .u8 0), (.int .u8 0), (.int .u8 0), (.int .u8 0), (.int .u8 0), (.int .u8 0), (.int .u8 0), (.int .u8 0), (.int .u8 0), (.int .u8 0), (.int .u8 0), (.int .u8 0), (.int .u8 0), (.int .u8 0), (.int .u8 0), (.int .u8 0), (.int .u8 0), (.int .u8 0), (.int .u8 0), (.int .u8 0), (.int .u8 0), (.int .u8 0), (.int .u8 0), (.int .u8 0), (.int .u8 0), (.int .u8 0), (.int .u8 0), (.int .u8 0), (.int .u8 0), (.int .u8 0), (.int .u8 0), (.int .u8 0), (.int .u8 0), (.int .u8 0), (.int .u8 0), (.int .u8 0), (.int .u8 0), (.int .u8 0), (.int .u8 0), (.int .u8 0), (.int .u8 0), (.int .u8 0), (.int .u8 0), (.int .u8 0), (.int .u8 0), (.int .u8 0), (.int .u8 0), (.int .u8 0), (.int .u8 0), (.int .u8 0), (.int .u8 0), (.int .u8 0), (.int .u8 0), (.int .u8 0), (.int .u8 0), (.int .u32 0), (.int .i64 0)] [(0, 4, x1)]) λ x2 => M.bind (newM 200 (Value.cells x2)) λ x3 => M.ret x3
def F.digest_NewHasher.plan : Plan:=(ls 2 leaf)
theorem F.digest_NewHasher.lift : LiftOk Tryz.prog 120 (ap0 F.digest_NewHasher):=lift0 (g:=evFn Tryz.prog tnil tnil 120 Tryz.f120 F.digest_NewHasher.plan) (evFn_sound tnil_ok tnil_ok Tryz.func120 (by kernel_rfl)) (by kernel_rfl)
noncomputable def F.digest_little (a0 : Value) : M Value:=drewM <| bindO (idxS a0 (.int .i64 0)) λ x1 => bindO (cvtI IntKind.u32 x1) λ x2 => bindO (idxS a0 (.int .i64 1)) λ x3 => bindO (cvtI IntKind.u32 x3) λ x4 => bindO (shV BinOp.shl x4 (.int .u64 8)) λ x5 => bindO (binV .or x2 x5) λ x6 => bindO (idxS a0 (.int .i64 2)) λ x7 => bindO (cvtI IntKind.u32 x7) λ x8 => bindO (shV BinOp.shl x8 (.int .u64 16)) λ x9 => bindO (binV .or x6 x9) λ x10 => bindO (idxS a0 (.int .i64 3)) λ x11 => bindO (cvtI IntKind.u32 x11) λ x12 => bindO (shV BinOp.shl x12 (.int .u64 24)) λ x13 => bindO (binV .or x10 x13) λ x14 => M.ret x14
def F.digest_little.plan : Plan:=(ls 2 leaf)
theorem F.digest_little.lift : LiftOk Tryz.prog 171 (ap1 F.digest_little):=lift1 (g:=evFn Tryz.prog tnil tnil 171 Tryz.f171 F.digest_little.plan) (evFn_sound tnil_ok tnil_ok Tryz.func171 (by kernel_rfl)) (λ x0 => by kernel_rfl)
noncomputable def F.bits_RotateLeft32 (a0 a1 : Value) : M Value:=bindO (cvtI IntKind.u64 a1) λ x1 => bindO (binV .and x1 (.int .u64 31)) λ x2 => bindO (shV BinOp.shl a0 x2) λ x3 => bindO (binV .sub (.int .u64 32) x2) λ x4 => bindO (shV BinOp.shr a0 x4) λ x5 => bindO (binV .or x3 x5) λ x6 => M.ret x6
def F.bits_RotateLeft32.plan : Plan:=(ls 3 leaf)
theorem F.bits_RotateLeft32.lift : LiftOk Tryz.prog 172 (ap2 F.bits_RotateLeft32):=lift2 (g:=evFn Tryz.prog tnil tnil 172 Tryz.f172 F.bits_RotateLeft32.plan) (evFn_sound tnil_ok tnil_ok Tryz.func172 (by kernel_rfl)) (λ x0 x1 => by kernel_rfl)
noncomputable def F.digest_mix (a0 a1 : Value) : M Value:=M.bind (newM 197 (Value.cells a0)) λ x1 => M.bind (newM 198 (Value.cells a1)) λ x2 => M.bind (newM 197 #[(.int .u32 0), (.int .u32 0), (.int .u32 0), (.int .u32 0)]) λ x3 => M.bind (newM 194 #[(.int .u32 0), (.int .u32 0), (.int .u32 0), (.int .u32 0), (.int .u32 0), (.int .u32 0), (.int .u32 0), (.int .u32 0), (.int .u32 0), (.int .u32 0), (.int .u32 0), (.int .u32 0), (.int .u32 0), (.int .u32 0), (.int .u32 0), (.int .u32 0)]) λ x4 => M.bind (loopM (λ l5 => bindO (binV .lss (getL l5 0) (.int .i64 16)) λ x6 => condM x6 ( bindO (binV .mul (.int .i64 4) (getL l5 0)) λ x7 => bindO (binV .mul (.int .i64 4) (getL l5 0)) λ x8 => bindO (binV .add x8 (.int .i64 4)) λ x9 => bindO (sliceR 64 1 x2 (some x7) (some x9)) λ x10 => M.bind (rdM (bsR x10)) λ x11 => M.bind (F.digest_little x11) λ x12 => bindO (idxR 16 1 x4 (getL l5 0)) λ x13 => M.bind (stM 1 x13 x12) λ _ => bindO (binV .add (getL l5 0) (.int .i64 1)) λ x15 => M.ret (Out.norm [x15])) ( M.ret (Out.exit 0 [(getL l5 0)]))) [(.int .i64 0)]) λ o17 => outK o17 (λ _ => M.fail) (λ k18 _ => bif Nat.beq k18 0 then ( drewM <| bindO (idxR 4 1 x1 (.int .i64 0)) λ x20 => M.bind (rdM (ld1 x20)) λ x21 => bindO (idxR 4 1 x1 (.int .i64 1)) λ x22 => M.bind (rdM (ld1 x22)) λ x23 => bindO (idxR 4 1 x1 (.int .i64 2)) λ x24 => M.bind (rdM (ld1 x24)) λ x25 => bindO (idxR 4 1 x1 (.int .i64 3)) λ x26 => M.bind (rdM (ld1 x26)) λ x27 => M.bind (rdM (ldA 64 (Value.pointer (some { block:=4, off:=0, spot:=none })))) λ x28 => M.bind (loopM (λ l29 => bindO (binV .lss (getL l29 4) (.int .i64 64)) λ x30 => condM x30 ( bindO (idxG none 64 1 x28 (getL l29 4)) λ x31 => M.bind ( bindO (binV .quo (getL l29 4) (.int .i64 16)) λ x32 => bindO (binV .eql x32 (.int .i64 0)) λ x33 => condM x33 ( bindO (binV .and (getL l29 1) (getL l29 2)) λ x34 => bindO (cplV (getL l29 1)) λ x35 => bindO (binV .and x35 (getL l29 3)) λ x36 => bindO (binV .or x34 x36) λ x37 => M.ret (Out.norm [x37, (getL l29 4)])) ( bindO (binV .eql x32 (.int .i64 1)) λ x38 => condM x38 ( bindO (binV .and (getL l29 3) (getL l29 1)) λ x39 => bindO (cplV (getL l29 3)) λ x40 => bindO (binV .and x40 (getL l29 2)) λ x41 => bindO (binV .or x39 x41) λ x42 => bindO (binV .mul (.int .i64 5) (getL l29 4)) λ x43 => bindO (binV .add x43 (.int .i64 1)) λ x44 => bindO (binV .rem x44 (.int .i64 16)) λ x45 => M.ret (Out.norm [x42, x45])) ( bindO (binV .eql x32 (.int .i64 2)) λ x46 => condM x46 ( bindO (binV .xor (getL l29 1) (getL l29 2)) λ x47 => bindO (binV .xor x47 (getL l29 3)) λ x48 => bindO (binV .mul (.int .i64 3) (getL l29 4)) λ x49 => bindO (binV .add x49 (.int .i64 5)) λ x50 => bindO (binV .rem x50 (.int .i64 16)) λ x51 => M.ret (Out.norm [x48, x51])) ( bindO (cplV (getL l29 3)) λ x52 => bindO (binV .or (getL l29 1) x52) λ x53 => bindO (binV .xor (getL l29 2) x53) λ x54 => bindO (binV .mul (.int .i64 7) (getL l29 4)) λ x55 => bindO (binV .rem x55 (.int .i64 16)) λ x56 => M.ret (Out.norm [x54, x56]))))) λ o58 => outK o58 (λ l57 => drewM <| bindO (binV .add (getL l29 0) (getL l57 0)) λ x61 => bindO (binV .add x61 x31) λ x62 => bindO (idxR 16 1 x4 (getL l57 1)) λ x63 => M.bind (rdM (ld1 x63)) λ x64 => bindO (binV .add x62 x64) λ x65 => bindO (binV .quo (getL l29 4) (.int .i64 16)) λ x66 => bindO (binV .rem (getL l29 4) (.int .i64 4)) λ x67 => bindO (idxR 4 4 (Value.pointer (some { block:=5, off:=0, spot:=none })) x66) λ x68 => bindO (idxR 4 1 x68 x67) λ x69 => M.bind (rdM (ld1 x69)) λ x70 => M.bind (F.bits_RotateLeft32 x65 x70) λ x71 => bindO (binV .add (getL l29 1) x71) λ x72 => bindO (binV .add (getL l29 4) (.int .i64 1)) λ x73 => M.ret (Out.norm [(getL l29 3), x72, (getL l29 1), (getL l29 2), x73])) (λ _ _ => M.fail) (λ r60 => M.ret (Out.ret r60))) ( M.ret (Out.exit 2 [(getL l29 0), (getL l29 1), (getL l29 2), (getL l29 3), (getL l29 4)]))) [x21, x23, x25, x27, (.int .i64 0)]) λ o76 => outK o76 (λ _ => M.fail) (λ k77 l75 => bif Nat.beq k77 2 then ( bindO (idxR 4 1 x1 (.int .i64 0)) λ x79 => M.bind (rdM (ld1 x79)) λ x80 => bindO (binV .add x80 (getL l75 0)) λ x81 => bindO (idxR 4 1 x1 (.int .i64 1)) λ x82 => M.bind (rdM (ld1 x82)) λ x83 => bindO (binV .add x83 (getL l75 1)) λ x84 => bindO (idxR 4 1 x1 (.int .i64 2)) λ x85 => M.bind (rdM (ld1 x85)) λ x86 => bindO (binV .add x86 (getL l75 2)) λ x87 => bindO (idxR 4 1 x1 (.int .i64 3)) λ x88 => M.bind (rdM (ld1 x88)) λ x89 => bindO (binV .add x89 (getL l75 3)) λ x90 => bindO (buildV #[(.int .u32 0), (.int .u32 0), (.int .u32 0), (.int .u32 0)] [(0, 1, x81), (1, 1, x84), (2, 1, x87), (3, 1, x90)]) λ x91 => M.bind (stM 4 x3 x91) λ _ => M.bind (rdM (ldA 4 x3)) λ x93 => M.ret x93) else M.fail) (λ r78 => M.ret r78)) else M.fail) (λ r19 => M.ret r19)
def F.digest_mix.plan : Plan:=(ls 2 (seq (ls 1 (body (loop [16] [6, 16, 17, 18, 19, 20, 21, 22, 23, 24, 25, 26, 27, 28, 29] [0] (ls 1 (seq (cond leaf leaf) (seq (body (ls 1 leaf)) leaf)))))) (ls 1 (seq (ls 1 (body (loop [7, 8, 9, 10, 39] [7, 8, 9, 10, 11, 12, 13, 14, 15, 39, 40, 41, 42, 43, 44, 45, 46, 47, 48, 49, 50, 51, 52, 53, 54, 55, 56, 57, 58, 59, 60, 61, 62, 63, 64, 65, 66, 67, 68, 69, 70, 71, 72, 73, 74, 75, 76, 77, 78, 79, 80, 81, 82, 83, 84, 85, 86, 87, 88, 89, 90, 91, 92, 93, 94, 95, 96, 97, 98, 99, 100, 101, 102, 103, 104, 105, 106, 107, 108, 109, 110, 111, 112, 113] [2] (ls 1 (seq (cond leaf leaf) (seq (body (ls 3 (fork [13, 14] [13, 14, 43, 44, 45, 46, 47, 48, 49, 50, 51, 52, 53, 54, 55, 56, 57, 58, 59, 60, 61, 62, 63, 64, 65, 66, 67, 68, 69, 70, 71, 72, 73, 74, 75, 76, 77, 78, 79, 80, 81, 82, 83, 84, 85, 86, 87, 88, 89] [] (ls 1 (body (ls 1 (cond leaf (ls 1 (cond leaf (ls 1 (cond leaf leaf)))))))) (ls 1 leaf)))) leaf)))))) (ls 1 leaf)))))
theorem F.digest_mix.lift : LiftOk Tryz.prog 149 (ap2 F.digest_mix):=lift2 (g:=evFn Tryz.prog (tcons 171 (ap1 F.digest_little) (tcons 172 (ap2 F.bits_RotateLeft32) tnil)) tnil 149 Tryz.f149 F.digest_mix.plan) (evFn_sound (tcons_ok F.digest_little.lift (tcons_ok F.bits_RotateLeft32.lift tnil_ok)) tnil_ok Tryz.func149 (by kernel_rfl)) (λ x0 x1 => by kernel_rfl)
noncomputable def F.digest_Hasher_take (a0 a1 : Value) : M Value:=bindO (nilChk a0) λ x1 => bindO (fieldA 69 x1) λ x2 => M.bind (rdM (ld1 x2)) λ x3 => bindO (binV .rem x3 (.int .i64 64)) λ x4 => bindO (nilChk a0) λ x5 => bindO (fieldA 69 x5) λ x6 => M.bind (rdM (ld1 x6)) λ x7 => bindO (lenS a1) λ x8 => bindO (binV .add x7 x8) λ x9 => bindO (nilChk a0) λ x10 => bindO (fieldA 69 x10) λ x11 => M.bind (stM 1 x11 x9) λ _ => M.bind (loopM (λ l13 => bindO (lenS (getL l13 0)) λ x14 => bindO (binV .gtr x14 (.int .i64 0)) λ x15 => condM x15 ( bindO (nilChk a0) λ x16 => bindO (fieldA 4 x16) λ x17 => bindO (sliceR 64 1 x17 (some (getL l13 1)) none) λ x18 => M.bind (cpyM 1 x18 (getL l13 0)) λ x19 => bindO (binV .add (getL l13 1) x19) λ x20 => bindO (sliceS (getL l13 0) (some x19) none) λ x21 => bindO (binV .eql x20 (.int .i64 64)) λ x22 => condM x22 ( drewM <| bindO (nilChk a0) λ x23 => bindO (fieldA 0 x23) λ x24 => M.bind (rdM (ldA 4 x24)) λ x25 => bindO (nilChk a0) λ x26 => bindO (fieldA 4 x26) λ x27 => M.bind (rdM (ldA 64 x27)) λ x28 => M.bind (F.digest_mix x25 x28) λ x29 => bindO (nilChk a0) λ x30 => bindO (fieldA 0 x30) λ x31 => M.bind (stM 4 x31 x29) λ _ => M.ret (Out.norm [x21, (.int .i64 0)])) ( M.ret (Out.norm [x21, x20]))) ( M.ret (Out.exit 0 [(getL l13 0), (getL l13 1)]))) [a1, x4]) λ o34 => outK o34 (λ _ => M.fail) (λ k35 _ => bif Nat.beq k35 0 then ( M.ret (Value.tuple #[])) else M.fail) (λ r36 => M.ret r36)
def F.digest_Hasher_take.plan : Plan:=(ls 2 (body (loop [1, 4] [1, 4, 5, 20, 21, 22, 23, 24, 25, 26, 27, 28, 29, 30, 31, 32, 33, 34, 35, 36, 37, 38, 39, 40, 41, 42, 43, 44, 45, 46, 47, 48, 49] [0] (seq (ls 1 (cond leaf leaf)) (body (ls 4 (cond (ls 1 leaf) leaf)))))))
theorem F.digest_Hasher_take.lift : LiftOk Tryz.prog 121 (ap2 F.digest_Hasher_take):=lift2 (g:=evFn Tryz.prog (tcons 149 (ap2 F.digest_mix) tnil) tnil 121 Tryz.f121 F.digest_Hasher_take.plan) (evFn_sound (tcons_ok F.digest_mix.lift tnil_ok) tnil_ok Tryz.func121 (by kernel_rfl)) (λ x0 x1 => by kernel_rfl)
noncomputable def F.digest_words (a0 : Value) : M Value:=M.bind (newM 197 (Value.cells a0)) λ x1 => M.bind (mksM 5 1 1 #[(.int .u8 0)] (.int .i64 0) (.int .i64 16)) λ x2 => M.bind (rdM (ldA 4 x1)) λ x3 => M.bind (loopM (λ l4 => bindO (binV .lss (getL l4 1) (.int .i64 4)) λ x5 => condM x5 ( bindO (idxG none 4 1 x3 (getL l4 1)) λ x6 => bindO (cvtI IntKind.u8 x6) λ x7 => bindO (shV BinOp.shr x6 (.int .u64 8)) λ x8 => bindO (cvtI IntKind.u8 x8) λ x9 => bindO (shV BinOp.shr x6 (.int .u64 16)) λ x10 => bindO (cvtI IntKind.u8 x10) λ x11 => bindO (shV BinOp.shr x6 (.int .u64 24)) λ x12 => bindO (cvtI IntKind.u8 x12) λ x13 => M.bind (bslM 5 4 (Builtin.zeroCells #[(.int .u8 0)] 4) [(0, 1, x7), (1, 1, x9), (2, 1, x11), (3, 1, x13)]) λ x14 => M.bind (appM 5 1 1 #[(.int .u8 0)] (getL l4 0) x14) λ x15 => bindO (binV .add (getL l4 1) (.int .i64 1)) λ x16 => M.ret (Out.norm [x15, x16])) ( M.ret (Out.exit 0 [(getL l4 0), (getL l4 1)]))) [x2, (.int .i64 0)]) λ o18 => outK o18 (λ _ => M.fail) (λ k19 l17 => bif Nat.beq k19 0 then ( M.bind (rdM (bsR (getL l17 0))) λ x21 => M.ret x21) else M.fail) (λ r20 => M.ret r20)
def F.digest_words.plan : Plan:=(ls 2 (seq (ls 1 (body (loop [3, 8] [3, 5, 8, 9, 10, 11, 12, 13, 14, 15, 16, 17, 18, 19, 20, 21, 22, 23, 24, 25] [0] (ls 1 (seq (cond leaf leaf) (seq (body (ls 1 leaf)) leaf)))))) (ls 1 leaf)))
theorem F.digest_words.lift : LiftOk Tryz.prog 150 (ap1 F.digest_words):=lift1 (g:=evFn Tryz.prog tnil tnil 150 Tryz.f150 F.digest_words.plan) (evFn_sound tnil_ok tnil_ok Tryz.func150 (by kernel_rfl)) (λ x0 => by kernel_rfl)
noncomputable def F.digest_Hasher_MD5 (a0 : Value) : M Value:=bindO (eqV (.one .ptr) a0 (.pointer none)) λ x1 => condM x1 ( M.ret (.string (ByteArray.mk #[]))) ( bindO (nilChk a0) λ x2 => M.bind (rdM (ldA 70 x2)) λ x3 => M.bind (newM 200 #[(.int .u32 0), (.int .u32 0), (.int .u32 0), (.int .u32 0), (.int .u8 0), (.int .u8 0), (.int .u8 0), (.int .u8 0), (.int .u8 0), (.int .u8 0), (.int .u8 0), (.int .u8 0), (.int .u8 0), (.int .u8 0), (.int .u8 0), (.int .u8 0), (.int .u8 0), (.int .u8 0), (.int .u8 0), (.int .u8 0), (.int .u8 0), (.int .u8 0), (.int .u8 0), (.int .u8 0), (.int .u8 0), (.int .u8 0), (.int .u8 0), (.int .u8 0), (.int .u8 0), (.int .u8 0), (.int .u8 0), (.int .u8 0), (.int .u8 0), (.int .u8 0), (.int .u8 0), (.int .u8 0), (.int .u8 0), (.int .u8 0), (.int .u8 0), (.int .u8 0), (.int .u8 0), (.int .u8 0), (.int .u8 0), (.int .u8 0), (.int .u8 0), (.int .u8 0), (.int .u8 0), (.int .u8 0), (.int .u8 0), (.int .u8 0), (.int .u8 0), (.int .u8 0), (.int .u8 0), (.int .u8 0), (.int .u8 0), (.int .u8 0), (.int .u8 0), (.int .u8 0), (.int .u8 0), (.int .u8 0), (.int .u8 0), (.int .u8 0), (.int .u8 0), (.int .u8 0), (.int .u8 0), (.int .u8 0), (.int .u8 0), (.int .u8 0), (.int .u32 0), (.int .i64 0)]) λ x4 => M.bind (stM 70 x4 x3) λ _ => bindO (nilChk a0) λ x6 => bindO (fieldA 69 x6) λ x7 => M.bind (rdM (ld1 x7)) λ x8 => bindO (cvtI IntKind.u64 x8) λ x9 => bindO (shV BinOp.shl x9 (.int .u64 3)) λ x10 => bindO (nilChk a0) λ x11 => bindO (fieldA 69 x11) λ x12 => M.bind (rdM (ld1 x12)) λ x13 => bindO (binV .rem x13 (.int .i64 64)) λ x14 => bindO (binV .sub (.int .i64 119) x14) λ x15 => bindO (binV .rem x15 (.int .i64 64)) λ x16 => bindO (binV .add (.int .i64 1) x16) λ x17 => bindO (binV .add (.int .i64 1) x16) λ x18 => bindO (binV .add x18 (.int .i64 8)) λ x19 => M.bind (mksM 5 1 1 #[(.int .u8 0)] x17 x19) λ x20 => bindO (idxA 1 x20 (.int .i64 0)) λ x21 => M.bind (stM 1 x21 (.int .u8 128)) λ _ => M.bind (loopM (λ l23 => bindO (binV .lss (getL l23 1) (.int .i64 8)) λ x24 => condM x24 ( bindO (binV .mul (.int .i64 8) (getL l23 1)) λ x25 => bindO (shV BinOp.shr x10 x25) λ x26 => bindO (cvtI IntKind.u8 x26) λ x27 => M.bind (bslM 5 1 (Builtin.zeroCells #[(.int .u8 0)] 1) [(0, 1, x27)]) λ x28 => M.bind (appM 5 1 1 #[(.int .u8 0)] (getL l23 0) x28) λ x29 => bindO (binV .add (getL l23 1) (.int .i64 1)) λ x30 => M.ret (Out.norm [x29, x30])) ( M.ret (Out.exit 0 [(getL l23 0), (getL l23 1)]))) [x20, (.int .i64 0)]) λ o32 => outK o32 (λ _ => M.fail) (λ k33 l31 => bif Nat.beq k33 0 then ( M.bind (rdM (bsR (getL l31 0))) λ x35 => M.bind (F.digest_Hasher_take x4 x35) λ _ => bindO (fieldA 0 x4) λ x37 => M.bind (rdM (ldA 4 x37)) λ x38 => M.bind (F.digest_words x38) λ x39 => M.ret x39) else M.fail) (λ r34 => M.ret r34))
def F.digest_Hasher_MD5.plan : Plan:=(ls 1 (seq (ls 1 (cond (ls 1 leaf) leaf)) (ls 5 (seq (ls 1 (body (loop [6, 7] [6, 7, 34, 35, 36, 37, 38, 39, 40, 41, 42, 43, 44, 45] [0] (seq (ls 1 (cond leaf leaf)) (seq (body leaf) leaf))))) (ls 2 leaf)))))
theorem F.digest_Hasher_MD5.lift : LiftOk Tryz.prog 122 (ap1 F.digest_Hasher_MD5):=lift1 (g:=evFn Tryz.prog (tcons 121 (ap2 F.digest_Hasher_take) (tcons 150 (ap1 F.digest_words) tnil)) tnil 122 Tryz.f122 F.digest_Hasher_MD5.plan) (evFn_sound (tcons_ok F.digest_Hasher_take.lift (tcons_ok F.digest_words.lift tnil_ok)) tnil_ok Tryz.func122 (by kernel_rfl)) (λ x0 => by kernel_rfl)
noncomputable def F.digest_MD5 (a0 : Value) : M Value:=M.bind (F.digest_NewHasher) λ x1 => bindO (lenL a0) λ x2 => M.bind (loopM (λ l3 => bindO (binV .lss (getL l3 0) x2) λ x4 => condM x4 ( bindO (idxA 1 a0 (getL l3 0)) λ x5 => M.bind (rdM (ld1 x5)) λ x6 => M.bind (F.digest_Hasher_take x1 x6) λ _ => bindO (binV .add (getL l3 0) (.int .i64 1)) λ x8 => M.ret (Out.norm [x8])) ( M.ret (Out.exit 0 [(getL l3 0)]))) [(.int .i64 0)]) λ o10 => outK o10 (λ _ => M.fail) (λ k11 _ => bif Nat.beq k11 0 then ( M.bind (F.digest_Hasher_MD5 x1) λ x13 => M.ret x13) else M.fail) (λ r12 => M.ret r12)
def F.digest_MD5.plan : Plan:=(ls 2 (seq (ls 1 (body (loop [9] [5, 9, 10, 11, 12, 13, 14, 15, 16] [0] (ls 1 (seq (cond leaf leaf) (seq (body (ls 1 leaf)) leaf)))))) (ls 1 leaf)))
theorem F.digest_MD5.lift : LiftOk Tryz.prog 81 (ap1 F.digest_MD5):=lift1 (g:=evFn Tryz.prog (tcons 120 (ap0 F.digest_NewHasher) (tcons 121 (ap2 F.digest_Hasher_take) (tcons 122 (ap1 F.digest_Hasher_MD5) tnil))) tnil 81 Tryz.f81 F.digest_MD5.plan) (evFn_sound (tcons_ok F.digest_NewHasher.lift (tcons_ok F.digest_Hasher_take.lift (tcons_ok F.digest_Hasher_MD5.lift tnil_ok))) tnil_ok Tryz.func81 (by kernel_rfl)) (λ x0 => by kernel_rfl)
noncomputable def F.granarylaw4_told (a0 a1 : Value) : M Value:=M.bind (newM 34 #[(.string .empty), (.int .i64 0), (.int .i64 0), (.slice none 0 0), (.int .i64 0), (.int .i64 0)]) λ x1 => bindO (buildV #[(.string .empty), (.int .i64 0), (.int .i64 0), (.slice none 0 0), (.int .i64 0), (.int .i64 0)] [(0, 1, a0), (1, 1, (.int .i64 7)), (2, 1, (.int .i64 3))]) λ x2 => M.bind (newM 34 #[(.string .empty), (.int .i64 0), (.int .i64 0), (.slice none 0 0), (.int .i64 0), (.int .i64 0)]) λ x3 => M.bind (stM 6 x3 x2) λ _ => M.bind (F.granarylaw4_letters a0) λ x5 => M.bind (guardM x5 true (M.ret a1)) λ x6 => M.bind (guardM x5 true (optM (lenL x6))) λ x7 => M.bind (guardM x5 true (optM (binV .leq x7 (.int .i64 1025)))) λ x8 => bindO (pickV x5 x8 (.bool false)) λ x9 => M.bind (loopM (λ l10 => bindO (lenL a1) λ x11 => bindO (binV .lss (getL l10 2) x11) λ x12 => condM x12 ( bindO (idxA 2 a1 (getL l10 2)) λ x13 => M.bind (rdM (ldA 2 x13)) λ x14 => M.bind (newM 78 #[(.string .empty), (.string .empty)]) λ x15 => M.bind (stM 2 x15 x14) λ _ => drewM <| M.bind (guardM (getL l10 1) true (optM (fieldA 0 x15))) λ x17 => M.bind (guardM (getL l10 1) true (rdM (ld1 x17))) λ x18 => M.bind (guardM (getL l10 1) true (F.granarylaw4_letters x18)) λ x19 => bindO (pickV (getL l10 1) x19 (.bool false)) λ x20 => M.bind (guardM x20 true (M.ret (getL l10 2))) λ x21 => M.bind (guardM x20 true (optM (binV .eql x21 (.int .i64 0)))) λ x22 => M.bind (guardM x20 true (M.ret x22)) λ x23 => M.bind (guardM x23 false (optM (fieldA 0 x15))) λ x24 => M.bind (guardM x23 false (rdM (ld1 x24))) λ x25 => M.bind (guardM x23 false (M.ret a1)) λ x26 => M.bind (guardM x23 false (M.ret (getL l10 2))) λ x27 => M.bind (guardM x23 false (optM (binV .sub x27 (.int .i64 1)))) λ x28 => M.bind (guardM x23 false (optM (idxA 2 x26 x28))) λ x29 => M.bind (guardM x23 false (optM (fieldA 0 x29))) λ x30 => M.bind (guardM x23 false (rdM (ld1 x30))) λ x31 => M.bind (guardM x23 false (optM (binV .gtr x25 x31))) λ x32 => M.bind (guardM x20 true (optM (pickV x23 (.bool true) x32))) λ x33 => bindO (pickV x20 x33 (.bool false)) λ x34 => M.bind (altM (ordO Tryz.prog (regOps Tryz.f38 9) 38 9) [ ([9, 10, 13, 14, 16, 17, 19], getM λ W36 => bindO (fieldA 3 x3) λ x37 => M.bind (rdM (ld1 x37)) λ x38 => bindO (fieldA 0 x15) λ x39 => M.bind (rdM (ld1 x39)) λ x40 => bindO (fieldA 1 x15) λ x41 => M.bind (rdM (ld1 x41)) λ x42 => bindO (lenS x42) λ x43 => bindO (fieldA 1 x15) λ x44 => M.bind (rdM (ld1 x44)) λ x45 => M.bind (bslM 9 1 (Builtin.zeroCells #[(.string .empty)] 1) [(0, 1, x45)]) λ x46 => getM λ W47 => M.bind (F.digest_CRC x46) λ x48 => getM λ W49 => bindO (fieldA 1 x15) λ x50 => M.bind (rdM (ld1 x50)) λ x51 => M.bind (bslM 9 1 (Builtin.zeroCells #[(.string .empty)] 1) [(0, 1, x51)]) λ x52 => getM λ W53 => M.bind (F.digest_MD5 x52) λ x54 => getM λ W55 => bindO (buildV #[(.string .empty), (.int .i64 0), (.int .i64 0), (.string .empty)] [(0, 1, x40), (1, 1, x43), (2, 1, x48), (3, 1, x54)]) λ x56 => M.bind (bslM 75 1 (Builtin.zeroCells #[(.string .empty), (.int .i64 0), (.int .i64 0), (.string .empty)] 1) [(0, 4, x56)]) λ x57 => getM λ W58 => M.bind (appM 75 4 48 #[(.string .empty), (.int .i64 0), (.int .i64 0), (.string .empty)] x38 x57) λ x59 => getM λ _ => bindO (fieldA 3 x3) λ x61 => M.bind (stM 1 x61 x59) λ _ => getM λ _ => reqM (ld1 x37 W47 = some x38) <| reqM (ld1 x37 W49 = some x38) <| reqM (ld1 x37 W53 = some x38) <| reqM (ld1 x37 W55 = some x38) <| reqM (ld1 x37 W58 = some x38) <| reqM (ld1 x39 W47 = some x40) <| reqM (ld1 x39 W49 = some x40) <| reqM (ld1 x39 W53 = some x40) <| reqM (ld1 x39 W55 = some x40) <| reqM (ld1 x41 W47 = some x42) <| reqM (ld1 x41 W49 = some x42) <| reqM (ld1 x41 W53 = some x42) <| reqM (ld1 x41 W55 = some x42) <| reqM (ld1 x50 W36 = some x51) <| reqM (ld1 x50 W47 = some x51) <| M.ret ([] : List Value)), ([9, 13, 10, 14, 16, 17, 19], getM λ W64 => bindO (fieldA 3 x3) λ x65 => M.bind (rdM (ld1 x65)) λ x66 => bindO (fieldA 0 x15) λ x67 => M.bind (rdM (ld1 x67)) λ x68 => bindO (fieldA 1 x15) λ x69 => M.bind (rdM (ld1 x69)) λ x70 => bindO (lenS x70) λ x71 => bindO (fieldA 1 x15) λ x72 => M.bind (rdM (ld1 x72)) λ x73 => M.bind (bslM 9 1 (Builtin.zeroCells #[(.string .empty)] 1) [(0, 1, x73)]) λ x74 => getM λ W75 => bindO (fieldA 1 x15) λ x76 => M.bind (rdM (ld1 x76)) λ x77 => M.bind (bslM 9 1 (Builtin.zeroCells #[(.string .empty)] 1) [(0, 1, x77)]) λ x78 => getM λ W79 => M.bind (F.digest_CRC x74) λ x80 => getM λ W81 => M.bind (F.digest_MD5 x78) λ x82 => getM λ W83 => bindO (buildV #[(.string .empty), (.int .i64 0), (.int .i64 0), (.string .empty)] [(0, 1, x68), (1, 1, x71), (2, 1, x80), (3, 1, x82)]) λ x84 => M.bind (bslM 75 1 (Builtin.zeroCells #[(.string .empty), (.int .i64 0), (.int .i64 0), (.string .empty)] 1) [(0, 4, x84)]) λ x85 => getM λ W86 => M.bind (appM 75 4 48 #[(.string .empty), (.int .i64 0), (.int .i64 0), (.string .empty)] x66 x85) λ x87 => getM λ _ => bindO (fieldA 3 x3) λ x89 => M.bind (stM 1 x89 x87) λ _ => getM λ _ => reqM (ld1 x65 W75 = some x66) <| reqM (ld1 x65 W79 = some x66) <| reqM (ld1 x65 W81 = some x66) <| reqM (ld1 x65 W83 = some x66) <| reqM (ld1 x65 W86 = some x66) <| reqM (ld1 x67 W75 = some x68) <| reqM (ld1 x67 W79 = some x68) <| reqM (ld1 x67 W81 = some x68) <| reqM (ld1 x67 W83 = some x68) <| reqM (ld1 x69 W75 = some x70) <| reqM (ld1 x69 W79 = some x70) <| reqM (ld1 x69 W81 = some x70) <| reqM (ld1 x69 W83 = some x70) <| reqM (ld1 x76 W64 = some x77) <| M.ret ([] : List Value)), ([13, 9, 10, 14, 16, 17, 19], getM λ _ => bindO (fieldA 3 x3) λ x93 => M.bind (rdM (ld1 x93)) λ x94 => bindO (fieldA 0 x15) λ x95 => M.bind (rdM (ld1 x95)) λ x96 => bindO (fieldA 1 x15) λ x97 => M.bind (rdM (ld1 x97)) λ x98 => bindO (lenS x98) λ x99 => bindO (fieldA 1 x15) λ x100 => M.bind (rdM (ld1 x100)) λ x101 => bindO (fieldA 1 x15) λ x102 => M.bind (rdM (ld1 x102)) λ x103 => M.bind (bslM 9 1 (Builtin.zeroCells #[(.string .empty)] 1) [(0, 1, x103)]) λ x104 => getM λ W105 => M.bind (bslM 9 1 (Builtin.zeroCells #[(.string .empty)] 1) [(0, 1, x101)]) λ x106 => getM λ W107 => M.bind (F.digest_CRC x106) λ x108 => getM λ W109 => M.bind (F.digest_MD5 x104) λ x110 => getM λ W111 => bindO (buildV #[(.string .empty), (.int .i64 0), (.int .i64 0), (.string .empty)] [(0, 1, x96), (1, 1, x99), (2, 1, x108), (3, 1, x110)]) λ x112 => M.bind (bslM 75 1 (Builtin.zeroCells #[(.string .empty), (.int .i64 0), (.int .i64 0), (.string .empty)] 1) [(0, 4, x112)]) λ x113 => getM λ W114 => M.bind (appM 75 4 48 #[(.string .empty), (.int .i64 0), (.int .i64 0), (.string .empty)] x94 x113) λ x115 => getM λ _ => bindO (fieldA 3 x3) λ x117 => M.bind (stM 1 x117 x115) λ _ => getM λ _ => reqM (ld1 x93 W105 = some x94) <| reqM (ld1 x93 W107 = some x94) <| reqM (ld1 x93 W109 = some x94) <| reqM (ld1 x93 W111 = some x94) <| reqM (ld1 x93 W114 = some x94) <| reqM (ld1 x95 W105 = some x96) <| reqM (ld1 x95 W107 = some x96) <| reqM (ld1 x95 W109 = some x96) <| reqM (ld1 x95 W111 = some x96) <| reqM (ld1 x97 W105 = some x98) <| reqM (ld1 x97 W107 = some x98) <| reqM (ld1 x97 W109 = some x98) <| reqM (ld1 x97 W111 = some x98) <| reqM (ld1 x100 W105 = some x101) <| M.ret ([] : List Value))]) λ _ => bindO (fieldA 4 x3) λ x120 => M.bind (rdM (ld1 x120)) λ x121 => bindO (fieldA 1 x15) λ x122 => M.bind (rdM (ld1 x122)) λ x123 => bindO (lenS x123) λ x124 => bindO (binV .add x121 x124) λ x125 => bindO (fieldA 4 x3) λ x126 => M.bind (stM 1 x126 x125) λ _ => bindO (fieldA 1 x15) λ x128 => M.bind (rdM (ld1 x128)) λ x129 => bindO (binV .add (getL l10 0) x129) λ x130 => bindO (binV .add (getL l10 2) (.int .i64 1)) λ x131 => M.ret (Out.norm [x130, x34, x131])) ( M.ret (Out.exit 0 [(getL l10 0), (getL l10 1), (getL l10 2)]))) [(.string (ByteArray.mk #[])), x9, (.int .i64 0)]) λ o133 => outK o133 (λ _ => M.fail) (λ k134 l132 => bif Nat.beq k134 0 then ( M.bind (bslM 9 1 (Builtin.zeroCells #[(.string .empty)] 1) [(0, 1, (getL l132 0))]) λ x136 => M.bind (F.digest_CRC x136) λ x137 => bindO (fieldA 5 x3) λ x138 => M.bind (stM 1 x138 x137) λ _ => M.bind (rdM (ldA 6 x3)) λ x140 => M.bind (stM 6 x1 x140) λ _ => M.bind (rdM (ldA 6 x1)) λ x142 => M.ret (Value.tuple #[x142, (getL l132 0), (getL l132 1)])) else M.fail) (λ r135 => M.ret r135)
def F.granarylaw4_told.plan : Plan:=(ls 4 (seq (ls 1 (body (loop [8, 9, 10] [8, 9, 10, 11, 21, 22, 23, 24, 25, 26, 27, 28, 29, 30, 31, 32, 33, 34, 35, 36, 37, 38, 39, 40, 41, 42, 43, 44, 45, 46, 47, 48, 49, 50, 51, 52, 53, 54, 55, 56, 57, 58, 59, 60, 61, 62, 63, 64, 65, 66, 67, 68, 69, 70, 71, 72, 73, 74, 75, 76, 77, 78, 79, 80, 81] [0] (seq (ls 1 (cond leaf leaf)) (seq (body (ls 2 (seq (alts [] [52, 53, 54, 55, 56, 57, 58, 59, 60, 61, 62, 63, 64, 65, 66, 67, 68, 69, 70] [[0, 1, 2, 3, 4, 5, 6, 7, 8, 9, 10, 11, 12, 13, 14, 15, 16, 17, 18, 19], [0, 1, 2, 3, 4, 5, 6, 7, 8, 9, 11, 12, 13, 10, 14, 15, 16, 17, 18, 19], [0, 1, 2, 3, 4, 5, 6, 7, 8, 11, 12, 13, 9, 10, 14, 15, 16, 17, 18, 19]]) (ls 1 leaf)))) leaf))))) (ls 2 leaf)))
theorem F.granarylaw4_told.lift : LiftOk Tryz.prog 38 (ap2 F.granarylaw4_told):=lift2 (g:=evFn Tryz.prog (tcons 57 (ap1 F.granarylaw4_letters) (tcons 68 (ap1 F.digest_CRC) (tcons 81 (ap1 F.digest_MD5) tnil))) tnil 38 Tryz.f38 F.granarylaw4_told.plan) (evFn_sound (tcons_ok F.granarylaw4_letters.lift (tcons_ok F.digest_CRC.lift (tcons_ok F.digest_MD5.lift tnil_ok))) tnil_ok Tryz.func38 (by kernel_rfl)) (λ x0 x1 => by kernel_rfl)
noncomputable def F.granarylaw4_PaperFiles (a0 a1 : Value) : M Value:=M.bind (loopM (λ l1 => bindO (lenL a1) λ x2 => bindO (binV .lss (getL l1 0) x2) λ x3 => condM x3 ( bindO (idxA 2 a1 (getL l1 0)) λ x4 => bindO (fieldA 1 x4) λ x5 => M.bind (rdM (ld1 x5)) λ x6 => bindO (lenS x6) λ x7 => bindO (binV .gtr x7 (.int .i64 1073741824)) λ x8 => condM x8 ( M.ret (Out.ret (.bool true))) ( bindO (binV .add (getL l1 0) (.int .i64 1)) λ x9 => M.ret (Out.norm [x9]))) ( M.ret (Out.exit 0 [(getL l1 0)]))) [(.int .i64 0)]) λ o11 => outK o11 (λ _ => M.fail) (λ k12 _ => bif Nat.beq k12 0 then ( M.bind (F.granarylaw4_told a0 a1) λ x14 => bindO (extV 0 x14) λ x15 => bindO (extV 1 x14) λ _ => bindO (extV 2 x14) λ x17 => M.bind (newM 34 #[(.string .empty), (.int .i64 0), (.int .i64 0), (.slice none 0 0), (.int .i64 0), (.int .i64 0)]) λ x18 => M.bind (stM 6 x18 x15) λ _ => bindO (notV x17) λ x20 => condM x20 ( M.bind (F.granarylaw4_first) λ x21 => M.ret x21) ( M.bind (rdM (ldA 6 x18)) λ x22 => M.bind (F.paper_PrintManifest x22) λ x23 => bindO (extV 0 x23) λ x24 => bindO (extV 1 x23) λ x25 => M.bind (F.paper_ParseManifest x24) λ x26 => bindO (extV 0 x26) λ x27 => bindO (extV 1 x26) λ x28 => M.bind (newM 34 #[(.string .empty), (.int .i64 0), (.int .i64 0), (.slice none 0 0), (.int .i64 0), (.int .i64 0)]) λ x29 => M.bind (stM 6 x29 x27) λ _ => M.bind (F.granarylaw4_num x25) λ x31 => bindO (binV .neq x31 (.int .i64 0)) λ x32 => M.bind (guardM x32 false (M.ret x28)) λ x33 => M.bind (guardM x32 false (F.granarylaw4_num x33)) λ x34 => M.bind (guardM x32 false (optM (binV .neq x34 (.int .i64 0)))) λ x35 => bindO (pickV x32 (.bool true) x35) λ x36 => M.bind (guardM x36 false (rdM (ldA 6 x18))) λ x37 => M.bind (guardM x36 false (rdM (ldA 6 x29))) λ x38 => M.bind (guardM x36 false (F.granarylaw4_sameManifest x37 x38)) λ x39 => M.bind (guardM x36 false (optM (notV x39))) λ x40 => bindO (pickV x36 (.bool true) x40) λ x41 => condM x41 ( M.ret (.bool false)) ( bindO (fieldA 4 x18) λ x42 => M.bind (rdM (ld1 x42)) λ x43 => bindO (binV .add x43 (.int .i64 1)) λ x44 => bindO (fieldA 4 x18) λ x45 => M.bind (stM 1 x45 x44) λ _ => M.bind (rdM (ldA 6 x18)) λ x47 => M.bind (F.paper_PrintManifest x47) λ x48 => bindO (extV 0 x48) λ _ => bindO (extV 1 x48) λ x50 => bindO (fieldA 4 x18) λ x51 => M.bind (rdM (ld1 x51)) λ x52 => bindO (binV .sub x52 (.int .i64 1)) λ x53 => bindO (fieldA 4 x18) λ x54 => M.bind (stM 1 x54 x53) λ _ => bindO (fieldA 5 x18) λ x56 => M.bind (rdM (ld1 x56)) λ x57 => bindO (binV .xor x57 (.int .i64 1)) λ x58 => bindO (fieldA 5 x18) λ x59 => M.bind (stM 1 x59 x58) λ _ => M.bind (rdM (ldA 6 x18)) λ x61 => M.bind (F.paper_PrintManifest x61) λ x62 => bindO (extV 0 x62) λ _ => bindO (extV 1 x62) λ x64 => M.bind (F.granarylaw4_num x50) λ x65 => bindO (binV .eql x65 (.int .i64 43)) λ x66 => M.bind (guardM x66 true (M.ret x64)) λ x67 => M.bind (guardM x66 true (F.granarylaw4_num x67)) λ x68 => M.bind (guardM x66 true (optM (binV .eql x68 (.int .i64 43)))) λ x69 => bindO (pickV x66 x69 (.bool false)) λ x70 => M.ret x70))) else M.fail) (λ r13 => M.ret r13)
def F.granarylaw4_PaperFiles.plan : Plan:=(ls 1 (seq (ls 1 (body (loop [5] [4, 5, 17, 18, 19, 20, 21, 22, 23, 24, 25, 26, 27, 28, 29] [0] (seq (ls 1 (cond leaf leaf)) (seq (body (ls 1 (cond (ls 1 leaf) leaf))) leaf))))) (ls 1 (seq (ls 1 (cond (ls 1 leaf) leaf)) (ls 2 (seq (ls 1 (cond (ls 1 leaf) leaf)) (ls 6 leaf)))))))
theorem F.granarylaw4_PaperFiles.lift : LiftOk Tryz.prog 7 (ap2 F.granarylaw4_PaperFiles):=lift2 (g:=evFn Tryz.prog (tcons 12 (ap1 F.granarylaw4_num) (tcons 15 (ap1 F.paper_PrintManifest) (tcons 27 (ap0 F.granarylaw4_first) (tcons 29 (ap1 F.paper_ParseManifest) (tcons 31 (ap2 F.granarylaw4_sameManifest) (tcons 38 (ap2 F.granarylaw4_told) tnil)))))) tnil 7 Tryz.f7 F.granarylaw4_PaperFiles.plan) (evFn_sound (tcons_ok F.granarylaw4_num.lift (tcons_ok F.paper_PrintManifest.lift (tcons_ok F.granarylaw4_first.lift (tcons_ok F.paper_ParseManifest.lift (tcons_ok F.granarylaw4_sameManifest.lift (tcons_ok F.granarylaw4_told.lift tnil_ok)))))) tnil_ok Tryz.func7 (by kernel_rfl)) (λ x0 x1 => by kernel_rfl)
end Go.Proofs.YthlpfhjcdedhgaaGreatDoor
namespace Go.Lift
def Run {α : Type} (m : M α) (w : World) (Q : α -> World -> Prop) : Prop:=∃ r w', m w = some (r, w') /\ Q r w'
section
variable {α β : Type} {w : World}
theorem Run.mono {m : M α} {Q R : α -> World -> Prop} (h : Run m w Q) (hq : ∀ r w', Q r w' -> R r w') : Run m w R :=
 let ⟨r, w', e, q⟩:=h; ⟨r, w', e, hq _ _ q⟩
@[simp] theorem Run_ret {a : α} {Q : α -> World -> Prop} : Run (M.ret a) w Q ↔ Q a w:=by
 constructor
 ·rintro ⟨r, w', h, q⟩; cases h; exact q
 ·intro h; exact ⟨a, w, rfl, h⟩
@[simp] theorem Run_fail {Q : α -> World -> Prop} : Run (M.fail : M α) w Q ↔ False:=by
 constructor
 ·rintro ⟨r, w', h, q⟩; cases h
 ·exact False.elim
@[simp] theorem Run_bind {m : M α} {k : α -> M β} {Q : β -> World -> Prop} : Run (M.bind m k) w Q ↔ Run m w λ a w' => Run (k a) w' Q:=by
 constructor
 ·rintro ⟨r, w', h, q⟩
  obtain ⟨v, w1, h1, h2⟩:=bind_some h
  exact ⟨v, w1, h1, r, w', h2, q⟩
 ·rintro ⟨v, w1, h1, r, w', h2, q⟩
  exact ⟨r, w', by unfold M.bind; rw [h1]; exact h2, q⟩
@[simp] theorem Run_bindO_some {a : α} {k : α -> M β} {Q : β -> World -> Prop} : Run (bindO (some a) k) w Q ↔ Run (k a) w Q:=Iff.rfl
@[simp] theorem Run_bindO_none {k : α -> M β} {Q : β -> World -> Prop} : Run (bindO none k) w Q ↔ False:=by
 constructor
 ·rintro ⟨r, w', h, q⟩; cases h
 ·exact False.elim
@[simp] theorem Run_optM_some {a : α} {Q : α -> World -> Prop} : Run (optM (some a)) w Q ↔ Q a w:=Run_ret
theorem Run_guardM {b want : Bool} {m : M Value} {Q : Value -> World -> Prop} : Run (guardM (.bool b) want m) w Q ↔ if b = want then Run m w Q else Q undef w:=by
 cases b <;> cases want <;> simp [guardM]
@[simp] theorem Run_condM_true {x y : M β} {Q : β -> World -> Prop} : Run (condM (.bool true) x y) w Q ↔ Run x w Q:=Iff.rfl
@[simp] theorem Run_condM_false {x y : M β} {Q : β -> World -> Prop} : Run (condM (.bool false) x y) w Q ↔ Run y w Q:=Iff.rfl
@[simp] theorem Run_guardM_tt {m : M Value} {Q : Value -> World -> Prop} : Run (guardM (.bool true) true m) w Q ↔ Run m w Q:=by simp [Run_guardM]
@[simp] theorem Run_guardM_ff {m : M Value} {Q : Value -> World -> Prop} : Run (guardM (.bool false) false m) w Q ↔ Run m w Q:=by simp [Run_guardM]
@[simp] theorem Run_guardM_tf {m : M Value} {Q : Value -> World -> Prop} : Run (guardM (.bool true) false m) w Q ↔ Q undef w:=by simp [Run_guardM]
@[simp] theorem Run_guardM_ft {m : M Value} {Q : Value -> World -> Prop} : Run (guardM (.bool false) true m) w Q ↔ Q undef w:=by simp [Run_guardM]
@[simp] theorem Run_guardM_undef {want : Bool} {m : M Value} {Q : Value -> World -> Prop} : Run (guardM undef want m) w Q ↔ Q undef w:=Run_ret
@[simp] theorem Run_guardM_not {b want : Bool} {m : M Value} {Q : Value -> World -> Prop} : Run (guardM (.bool !b) want m) w Q ↔ Run (guardM (.bool b) (!want) m) w Q:=by
 cases b <;> cases want <;> simp
@[simp] theorem Run_condM_not {b : Bool} {x y : M β} {Q : β -> World -> Prop} : Run (condM (.bool !b) x y) w Q ↔ Run (condM (.bool b) y x) w Q:=by
 cases b <;> simp
@[simp] theorem Run_drewM {k : M β} {Q : β -> World -> Prop} : Run (drewM k) w Q ↔ Run k w.drew Q:=Iff.rfl
@[simp] theorem Run_getM {k : World -> M β} {Q : β -> World -> Prop} : Run (getM k) w Q ↔ Run (k w) w Q:=Iff.rfl
@[simp] theorem Run_reqM {p : Prop} {k : M β} {Q : β -> World -> Prop} : Run (reqM p k) w Q ↔ p /\ Run k w Q:=by
 unfold reqM
 by_cases h : p
 ·simp [h]
 ·simp [h]
@[simp] theorem Run_rdM {r : World -> Option Value} {Q : Value -> World -> Prop} : Run (rdM r) w Q ↔ ∃ v, r w = some v /\ Q v w:=by
 constructor
 ·rintro ⟨v, w', h, q⟩
  unfold rdM at h
  cases hr : r w with
  | none => simp [hr] at h
  | some u => simp only [hr, Option.some.injEq, Prod.mk.injEq] at h; obtain ⟨rfl, rfl⟩:=h; exact ⟨_, rfl, q⟩
 ·rintro ⟨v, h, q⟩
  exact ⟨v, w, by simp [rdM, h], q⟩
theorem Run_newM {t : TypeId} {cs : Array Value} {Q : Value -> World -> Prop} : Run (newM t cs) w Q ↔ Q (.pointer (some ⟨w.heap.size, 0, none⟩)) (w.alloc (.cells cs t)):=by
 constructor
 ·rintro ⟨r, w', h, q⟩; cases h; exact q
 ·intro h; exact ⟨_, _, rfl, h⟩
theorem Run_altM {σ : World -> List Nat} {Q : β -> World -> Prop} : ∀ {l : List (List Nat × M β)}, l ≠ [] -> (∀ x ∈ l, Run x.2 w.drew Q) -> Run (altM σ l) w Q
 | [], h, _ => absurd rfl h
 | [x], _, h => h x (by simp)
 | x :: y :: l, _, h => by
  have ih:=Run_altM (σ:=σ) (l:=y :: l) (by simp) λ z hz => h z (by simp [hz])
  by_cases hx : σ w = x.1
  ·obtain ⟨r, w', e, q⟩:=h x (by simp)
   exact ⟨r, w', by simp only [altM]; rw [if_pos hx]; exact e, q⟩
  ·obtain ⟨r, w', e, q⟩:=ih
   exact ⟨r, w', by simp only [altM]; rw [if_neg hx]; exact e, q⟩
theorem Run_loopM {step : List Value -> M Out} {Q : Out -> World -> Prop} (I : List Value -> World -> Prop) (μ : List Value -> World -> Nat)
  (round : ∀ l w, I l w -> Run (step l) w λ o w' => match o with | .norm l' => I l' w' /\ μ l' w' < μ l w | o => Q o w') {l : List Value} (h : I l w) : Run (loopM step l) w Q:=by
 have key : ∀ n l w, μ l w = n -> I l w -> ∃ m r w', iterM step m l w = some (r, w') /\ Q r w':=by
  intro n
  induction n using Nat.strongRecOn with
  | _ n ih =>
   intro l w hn hI
   obtain ⟨o, w1, e, q⟩:=round l w hI
   cases o with
   | norm l' =>
    obtain ⟨m, r, w', hm, hq⟩:=ih (μ l' w1) (hn ▸ q.2) l' w1 rfl q.1
    exact ⟨m + 1, r, w', by simp only [iterM, M.bind, e]; exact hm, hq⟩
   | exit id l' => exact ⟨1, .exit id l', w1, by simp only [iterM, M.bind, e]; rfl, q⟩
   | ret v => exact ⟨1, .ret v, w1, by simp only [iterM, M.bind, e]; rfl, q⟩
 obtain ⟨m, r, w', hm, hq⟩:=key _ l w rfl h
 exact ⟨r, w', loopM_some.2 ⟨m, hm⟩, hq⟩
@[simp] theorem outK_norm {l : List Value} {f : List Value -> M β} {g : Nat -> List Value -> M β} {h : Value -> M β} : outK (.norm l) f g h = f l:=rfl
@[simp] theorem outK_exit {i : Nat} {l : List Value} {f : List Value -> M β} {g : Nat -> List Value -> M β} {h : Value -> M β} : outK (.exit i l) f g h = g i l:=rfl
@[simp] theorem outK_ret {v : Value} {f : List Value -> M β} {g : Nat -> List Value -> M β} {h : Value -> M β} : outK (.ret v) f g h = h v:=rfl
@[simp] theorem getL_zero {v : Value} {l : List Value} : getL (v :: l) 0 = v:=rfl
@[simp] theorem getL_succ {v : Value} {l : List Value} {i : Nat} : getL (v :: l) (i + 1) = getL l i:=rfl
end
@[simp] theorem natBeq (a b : Nat) : Nat.beq a b = decide (a = b):=by
 by_cases h : a = b
 ·subst h; simp
 ·simp only [h, decide_false]; exact Bool.eq_false_iff.2 λ h' => h (Nat.eq_of_beq_eq_true h')
@[simp] theorem cells_int (k : IntKind) (n : Int) : (Value.int k n).cells = #[.int k n]:=rfl
@[simp] theorem cells_bool (b : Bool) : (Value.bool b).cells = #[.bool b]:=rfl
@[simp] theorem cells_string (s : ByteArray) : (Value.string s).cells = #[.string s]:=rfl
@[simp] theorem cells_slice (a : Option Addr) (n c : Nat) : (Value.slice a n c).cells = #[.slice a n c]:=rfl
@[simp] theorem cells_pointer (a : Option Addr) : (Value.pointer a).cells = #[.pointer a]:=rfl
@[simp] theorem cells_agg (cs : Array Value) : (Value.agg cs).cells = cs:=rfl
@[simp] theorem fillV_nil (cs : Array Value) : fillV cs [] = some cs:=rfl
@[simp] theorem isCell_int (k : IntKind) (n : Int) : isCell (.int k n) = true:=by unfold isCell; rfl
@[simp] theorem isCell_bool (b : Bool) : isCell (.bool b) = true:=by unfold isCell; rfl
@[simp] theorem isCell_string (s : ByteArray) : isCell (.string s) = true:=by unfold isCell; rfl
@[simp] theorem isCell_slice (a : Option Addr) (n c : Nat) : isCell (.slice a n c) = true:=by unfold isCell; rfl
@[simp] theorem isCell_pointer (a : Option Addr) : isCell (.pointer a) = true:=by unfold isCell; rfl
@[simp] theorem isCell_map (a : Option Nat) : isCell (.map a) = true:=by unfold isCell; rfl
@[simp] theorem isCell_nilFunc : isCell .nilFunc = true:=by unfold isCell; rfl
@[simp] theorem isCell_func (f : Fn) (x y : Array Value) : isCell (.func f x y) = true:=by unfold isCell; rfl
@[simp] theorem nilChk_ptr (a : Addr) : nilChk (.pointer (some a)) = some (.pointer (some a)):=rfl
@[simp] theorem nilChk_func (f : FuncId) (x y : Array Value) : nilChk (.func (.func f) x y) = some (.func (.func f) x y):=rfl
@[simp] theorem pickV_bool (b : Bool) (x y : Value) : pickV (.bool b) x y = some (bif b then x else y):=by cases b <;> rfl
@[simp] theorem fieldA_ptr (off : Nat) (b o : Nat) : fieldA off (.pointer (some ⟨b, o, none⟩)) = some (.pointer (some ⟨b, o + off, none⟩)):=by simp [fieldA, Addr.add_lit]
@[simp] theorem fieldV_agg (g : Option Nat) (off : Nat) (cs : Array Value) : fieldV g off (.agg cs) = partV g cs off:=rfl
@[simp] theorem partV_none (cs : Array Value) (off : Nat) : partV none cs off = cs[off]?:=rfl
@[simp] theorem partV_some (n : Nat) (cs : Array Value) (off : Nat) : partV (some n) cs off = some (.agg (cs.extract off (off + n))):=rfl
@[simp] theorem idxA_slice (size : Nat) (b o len cap : Nat) (k : IntKind) (n : Int) : idxA size (.slice (some ⟨b, o, none⟩) len cap) (.int k n) = if 0 <= n /\ n < len then some (.pointer (some ⟨b, o + n.toNat * size, none⟩)) else none:=by
 simp [idxA, Addr.add_lit]
@[simp] theorem idxR_ptr (len size : Nat) (b o : Nat) (k : IntKind) (n : Int) : idxR len size (.pointer (some ⟨b, o, none⟩)) (.int k n) = if 0 <= n /\ n < len then some (.pointer (some ⟨b, o + n.toNat * size, none⟩)) else none:=by
 simp [idxR, Addr.add_lit]
@[simp] theorem extV_tuple (i : Nat) (vs : Array Value) : extV i (.tuple vs) = vs[i]?:=rfl
@[simp] theorem lenS_string (s : ByteArray) : lenS (.string s) = some (.int .i64 s.size):=rfl
@[simp] theorem lenL_slice (a : Option Addr) (n c : Nat) : lenL (.slice a n c) = some (.int .i64 n):=rfl
@[simp] theorem capV_slice (a : Option Addr) (n c : Nat) : capV (.slice a n c) = some (.int .i64 c):=rfl
@[simp] theorem notV_bool (b : Bool) : notV (.bool b) = some (.bool !b):=rfl
@[simp] theorem cplV_int (k : IntKind) (n : Int) : cplV (.int k n) = some (.int k (k.wrap (BitVec.ofInt k.bits (if k.signed then -1 else k.max) ^^^ BitVec.ofInt k.bits n).toNat)):=rfl
@[simp] theorem negV_int (k : IntKind) (n : Int) : negV (.int k n) = some (.int k (k.wrap (0 - n))):=rfl
@[simp] theorem cvtI_int (k j : IntKind) (n : Int) : cvtI k (.int j n) = some (.int k (k.wrap n)):=rfl
@[simp] theorem cvtS_string (s : ByteArray) : cvtS (.string s) = some (.string s):=rfl
@[simp] theorem binV_int (op : BinOp) (k : IntKind) (a b : Int) : binV op (.int k a) (.int k b) = intBin op k a b:=by simp [binV]
@[simp] theorem binV_str (op : BinOp) (a b : ByteArray) : binV op (.string a) (.string b) = strBin op a b:=rfl
section
variable (k : IntKind) (a b : Int)
@[simp] theorem intBin_add : intBin .add k a b = some (.int k (k.wrap (a + b))):=rfl
@[simp] theorem intBin_sub : intBin .sub k a b = some (.int k (k.wrap (a - b))):=rfl
@[simp] theorem intBin_mul : intBin .mul k a b = some (.int k (k.wrap (a * b))):=rfl
@[simp] theorem intBin_quo : intBin .quo k a b = if b = 0 then none else some (.int k (k.wrap (a.tdiv b))):=rfl
@[simp] theorem intBin_rem : intBin .rem k a b = if b = 0 then none else some (.int k (a.tmod b)):=rfl
@[simp] theorem intBin_eql : intBin .eql k a b = some (.bool (decide (a = b))):=by simp only [intBin]; rw [Bool.beq_eq_decide_eq]
@[simp] theorem intBin_neq : intBin .neq k a b = some (.bool (!decide (a = b))):=by simp only [intBin, bne]; rw [Bool.beq_eq_decide_eq]
@[simp] theorem intBin_lss : intBin .lss k a b = some (.bool (decide (a < b))):=rfl
@[simp] theorem intBin_leq : intBin .leq k a b = some (.bool (decide (a <= b))):=rfl
@[simp] theorem intBin_gtr : intBin .gtr k a b = some (.bool (decide (a > b))):=rfl
@[simp] theorem intBin_geq : intBin .geq k a b = some (.bool (decide (a >= b))):=rfl
end
section
variable (a b : ByteArray)
@[simp] theorem strBin_eql : strBin .eql a b = some (.bool (a.toList == b.toList)):=rfl
@[simp] theorem strBin_neq : strBin .neq a b = some (.bool !(a.toList == b.toList)):=rfl
@[simp] theorem strBin_lss : strBin .lss a b = some (.bool (Op.bytesLess a.toList b.toList)):=rfl
end
@[simp] theorem eqV_of {sh : EqSh} {x y : Value} : eqV sh x y = (eqlV sh x y).map Value.bool:=by unfold eqV; cases eqlV sh x y <;> rfl
@[simp] theorem neV_of {sh : EqSh} {x y : Value} : neV sh x y = (eqlV sh x y).map λ b => Value.bool !b:=by unfold neV; cases eqlV sh x y <;> rfl
@[simp] theorem eqlV_one (k : EqK) (x y : Value) : eqlV (.one k) x y = eqPrim k x y:=rfl
@[simp] theorem eqlV_offs (l : List (EqK × Nat)) (xs ys : Array Value) : eqlV (.offs l) (.agg xs) (.agg ys) = eqOffs xs ys l:=rfl
@[simp] theorem eqPrim_bool (a b : Bool) : eqPrim .bool (.bool a) (.bool b) = some (a == b):=rfl
@[simp] theorem eqPrim_int (k : IntKind) (a b : Int) : eqPrim .int (.int k a) (.int k b) = some (decide (a = b)):=by simp only [eqPrim, if_true]; rw [Bool.beq_eq_decide_eq]
@[simp] theorem eqPrim_str (a b : ByteArray) : eqPrim .str (.string a) (.string b) = some (a.toList == b.toList):=rfl
@[simp] theorem eqPrim_ptr0 (b : Option Addr) : eqPrim .ptr (.pointer none) (.pointer b) = some b.isNone:=rfl
@[simp] theorem eqPrim_ptr1 (a : Addr) : eqPrim .ptr (.pointer (some a)) (.pointer none) = some false:=rfl
@[simp] theorem eqPrim_sl0 (b : Option Addr) (n c m d : Nat) : eqPrim .sl (.slice none n c) (.slice b m d) = some b.isNone:=rfl
@[simp] theorem eqPrim_sl1 (a : Addr) (n c m d : Nat) : eqPrim .sl (.slice (some a) n c) (.slice none m d) = some false:=rfl
@[simp] theorem eqPrim_ifn0 : eqPrim .ifn .nilIface .nilIface = some true:=rfl
@[simp] theorem eqPrim_ifn1 (t : TypeId) (v : Value) : eqPrim .ifn (.iface t v) .nilIface = some false:=rfl
@[simp] theorem eqPrim_ifc1 (t : TypeId) (v : Value) : eqPrim .ifc (.iface t v) .nilIface = some false:=rfl
@[simp] theorem isCell_iface (t : TypeId) (v : Value) : isCell (.iface t v) = true:=by unfold isCell; rfl
@[simp] theorem isCell_nilIface : isCell .nilIface = true:=by unfold isCell; rfl
@[simp] theorem cells_iface (t : TypeId) (v : Value) : (Value.iface t v).cells = #[.iface t v]:=rfl
@[simp] theorem cells_nilIface : (Value.nilIface).cells = #[.nilIface]:=rfl
@[simp] theorem nilChk_iface (t : TypeId) (v : Value) : nilChk (.iface t v) = some (.iface t v):=rfl
@[simp] theorem eqOffs_nil (xs ys : Array Value) : eqOffs xs ys [] = some true:=rfl
def andO (c : Bool) (o : Option Bool) : Option Bool:=bif c then o else some false
@[simp] theorem andO_some (c q : Bool) : andO c (some q) = some (c && q):=by cases c <;> rfl
@[simp] theorem eqOffs_cons' (xs ys : Array Value) (k : EqK) (o : Nat) (r : List (EqK × Nat)) : eqOffs xs ys ((k, o) :: r) = (xs[o]?).bind λ a => (ys[o]?).bind λ b => (eqPrim k a b).bind λ c => andO c (eqOffs xs ys r):=by
 simp only [eqOffs]
 cases xs[o]? with
 | none => rfl
 | some a =>
  cases ys[o]? with
  | none => rfl
  | some b =>
   simp only [Option.bind_some]
   cases eqPrim k a b with
   | none => rfl
   | some c => cases c <;> rfl
@[simp] theorem bk_drew (w : World) (b : Nat) : bk w.drew b = bk w b:=rfl
theorem bk_lt {w : World} {b : Nat} {l : List Value} (h : bk w b = some l) : b < w.heap.size:=by
 obtain ⟨c, e, m, hb, _⟩:=bk_cells h
 exact (Array.getElem?_eq_some_iff.1 hb).1
theorem bk_sto_ne {w : World} {b b' : Nat} (h : b' ≠ b) (o : Nat) (vs : List Value) : bk (sto w b o vs) b' = bk w b':=by
 unfold bk sto
 simp only [Array.getElem?_modify]
 rw [if_neg (Ne.symm h)]
@[simp] theorem bk_sto_eq (w : World) (b o : Nat) (vs : List Value) : bk (sto w b o vs) b = (bk w b).map λ l => setL l o vs:=by
 cases h : bk w b with
 | some l => rw [bk_sto_same h]; rfl
 | none =>
  unfold bk sto at *
  simp only [Array.getElem?_modify, if_true]
  cases hh : w.heap[b]? with
  | none => simp
  | some x => cases x <;> simp_all
@[simp] theorem wr_drew (w : World) (b : Nat) : wr w.drew b = wr w b:=rfl
theorem wr_alloc_at {w : World} {n : Nat} (h : n = w.heap.size) (c : Array Value) (t : TypeId) : wr (w.alloc (.cells c t)) n = true:=by
 subst h
 have : (w.alloc (.cells c t)).heap[w.heap.size]? = some (.cells c t):=by
  show (w.heap.push _)[w.heap.size]? = _
  simp
 unfold wr
 rw [this]
 rfl
theorem wr_of_heap {w w' : World} {b : Nat} (h : w'.heap[b]? = w.heap[b]?) : wr w' b = wr w b:=by unfold wr; rw [h]
theorem bk_alloc_at {w : World} {n : Nat} (h : n = w.heap.size) (c : Array Value) (t : TypeId) : bk (w.alloc (.cells c t)) n = some c.toList:=by
 subst h
 have : (w.alloc (.cells c t)).heap[w.heap.size]? = some (.cells c t):=by
  show (w.heap.push _)[w.heap.size]? = _
  simp
 unfold bk
 rw [this]
theorem bk_of_heap {w w' : World} {b : Nat} (h : w'.heap[b]? = w.heap[b]?) : bk w' b = bk w b:=by unfold bk; rw [h]
@[simp] theorem size_sto (w : World) (b o : Nat) (vs : List Value) : (sto w b o vs).heap.size = w.heap.size:=by simp [sto]
@[simp] theorem setL_nil (l : List Value) (o : Nat) : setL l o [] = l:=rfl
@[simp] theorem setL_cons (l : List Value) (o : Nat) (v : Value) (r : List Value) : setL l o (v :: r) = setL (l.set o v) (o + 1) r:=rfl
@[simp] theorem ld1_drew (p : Value) (w : World) : ld1 p w.drew = ld1 p w:=rfl
@[simp] theorem ldA_drew (n : Nat) (p : Value) (w : World) : ldA n p w.drew = ldA n p w:=rfl
theorem ldC_bk (w : World) (b o : Nat) : ldC w ⟨b, o, none⟩ = (bk w b).bind (·[o]?):=by unfold ldC; cases bk w b <;> rfl
@[simp] theorem ld1_ptr (w : World) (b o : Nat) : ld1 (.pointer (some ⟨b, o, none⟩)) w = (bk w b).bind (·[o]?):=ldC_bk w b o
theorem ldN_bk {w : World} {b o n : Nat} {l : List Value} (h : bk w b = some l) (hn : o + n <= l.length) : ldN w ⟨b, o, none⟩ n = some ((l.drop o).take n):=by
 unfold ldN
 split
 ·rename_i h0; subst h0; simp
 ·simp only [h]; rw [if_pos hn]
theorem ldA_bk {w : World} {b o n : Nat} {l : List Value} (h : bk w b = some l) (hn : o + n <= l.length) : ldA n (.pointer (some ⟨b, o, none⟩)) w = some (.agg ((l.drop o).take n).toArray):=by
 simp only [ldA, ldN_bk h hn]
@[simp] theorem ldA_ptr (w : World) (b o n : Nat) : ldA (n + 1) (.pointer (some ⟨b, o, none⟩)) w = (bk w b).bind λ l => if o + (n + 1) <= l.length then some (.agg ((l.drop o).take (n + 1)).toArray) else none:=by
 simp only [ldA, ldN, Nat.add_one_ne_zero, if_false]
 cases bk w b with
 | none => rfl
 | some l =>
  simp only [Option.bind_some]
  by_cases h : o + (n + 1) <= l.length
  ·simp only [h, if_true]
  ·simp only [h, if_false]
abbrev okAt (w : World) (b o n : Nat) : Prop:=(∃ l, bk w b = some l /\ o + n <= l.length) /\ wr w b = true
theorem Run_stM {w : World} {b o n : Nat} {v : Value} {Q : Value -> World -> Prop} (hn : v.cells.size = n) (hc : v.cells.toList.all isCell = true) (h : okAt w b o n) :
  Run (stM n (.pointer (some ⟨b, o, none⟩)) v) w Q ↔ Q undef (sto w b o v.cells.toList):=by
 obtain ⟨⟨l, hb, hl⟩, hw⟩:=h
 have e : stM n (.pointer (some ⟨b, o, none⟩)) v w = some (undef, sto w b o v.cells.toList):=by
  by_cases hne : v.cells.toList = []
  ·simp only [stM, hn, if_true, stN, hne, sto_nil]
  ·simp only [stM, hn, if_true, stN, hb]
   rw [if_neg hne, if_pos ⟨⟨by simpa [hn] using hl, hc⟩, hw⟩]
 constructor
 ·rintro ⟨r, w', h1, q⟩; rw [e] at h1; cases h1; exact q
 ·intro q; exact ⟨_, _, e, q⟩
theorem cells_of_isCell {v : Value} (hv : isCell v = true) : v.cells = #[v]:=by cases v <;> first | rfl | cases hv
theorem Run_st1 {w : World} {b o : Nat} {v : Value} {Q : Value -> World -> Prop} (hh : okAt w b o 1 /\ isCell v = true) :
  Run (stM 1 (.pointer (some ⟨b, o, none⟩)) v) w Q ↔ Q undef (sto w b o [v]):=by
 obtain ⟨h, hv⟩:=hh
 have hc:=cells_of_isCell hv
 have:=Run_stM (Q:=Q) (v:=v) (n:=1) (by simp [hc]) (by simp [hc, hv]) h
 simpa [hc] using this
@[simp] theorem Run_stM_iff {w : World} {b o n : Nat} {v : Value} {Q : Value -> World -> Prop} :
  Run (stM (n + 1) (.pointer (some ⟨b, o, none⟩)) v) w Q ↔ v.cells.size = n + 1 /\ v.cells.toList.all isCell = true /\ (∃ l, bk w b = some l /\ o + (n + 1) <= l.length) /\ wr w b = true /\ Q undef (sto w b o v.cells.toList):=by
 constructor
 ·rintro ⟨r, w', h, q⟩
  simp only [stM] at h
  split at h
  ·rename_i hn
   have hne : v.cells.toList ≠ []:=by
    intro he
    have : v.cells.toList.length = 0:=by rw [he]; rfl
    simp at this
    rw [this] at hn
    simp at hn
   simp only [stN, if_neg hne] at h
   cases hb : bk w b with
   | none => simp [hb] at h
   | some l =>
    simp only [hb] at h
    split at h
    ·rename_i hc
     split at hc
     ·rename_i hh
      cases hc; cases h
      refine ⟨hn, hh.1.2, ⟨l, rfl, ?_⟩, hh.2, q⟩
      have:=hh.1.1
      simp [hn] at this
      omega
     ·cases hc
    ·cases h
  ·cases h
 ·rintro ⟨h1, h2, h3, h4, q⟩
  exact (Run_stM h1 h2 ⟨h3, h4⟩).2 q
theorem Run_stA {w : World} {b o n : Nat} {cs : Array Value} {Q : Value -> World -> Prop} (h : okAt w b o n /\ cs.size = n /\ cs.toList.all isCell = true) :
  Run (stM n (.pointer (some ⟨b, o, none⟩)) (.agg cs)) w Q ↔ Q undef (sto w b o cs.toList):=Run_stM (v:=.agg cs) h.2.1 h.2.2 h.1
structure Fr (F : Nat -> Prop) (w w' : World) : Prop where
 os : w'.os = w.os
 tape : w'.tape = w.tape
 output : w'.output = w.output
 size : w.heap.size <= w'.heap.size
 block : ∀ b, b < w.heap.size -> ¬ F b -> w'.heap[b]? = w.heap[b]?
theorem Fr.refl (F : Nat -> Prop) (w : World) : Fr F w w:=⟨rfl, rfl, rfl, Nat.le_refl _, λ _ _ _ => rfl⟩
theorem Fr.trans {F G : Nat -> Prop} {w w1 w2 : World} (h : Fr F w w1) (h' : Fr G w1 w2) (hg : ∀ b, b < w.heap.size -> G b -> F b) : Fr F w w2 :=
 ⟨h'.os.trans h.os, h'.tape.trans h.tape, h'.output.trans h.output, Nat.le_trans h.size h'.size, λ b hb hf =>
  (h'.block b (Nat.lt_of_lt_of_le hb h.size) λ hG => hf (hg b hb hG)).trans (h.block b hb hf)⟩
theorem Fr.mono {F G : Nat -> Prop} {w w' : World} (h : Fr F w w') (hg : ∀ b, F b -> G b) : Fr G w w':=⟨h.os, h.tape, h.output, h.size, λ b hb hf => h.block b hb λ hF => hf (hg b hF)⟩
theorem Fr.bk {F : Nat -> Prop} {w w' : World} (h : Fr F w w') {b : Nat} (hb : b < w.heap.size) (hf : ¬ F b) : bk w' b = bk w b:=bk_of_heap (h.block b hb hf)
theorem Fr.bk_some {F : Nat -> Prop} {w w' : World} (h : Fr F w w') {b : Nat} {l : List Value} (hb : Go.Lift.bk w b = some l) (hf : ¬ F b) : Go.Lift.bk w' b = some l:=by
 rw [h.bk (bk_lt hb) hf]; exact hb
theorem Fr.wr {F : Nat -> Prop} {w w' : World} (h : Fr F w w') {b : Nat} (hb : b < w.heap.size) (hf : ¬ F b) : wr w' b = wr w b:=wr_of_heap (h.block b hb hf)
theorem Fr.drew {F : Nat -> Prop} {w w' : World} (h : Fr F w w') : Fr F w w'.drew:=⟨h.os, h.tape, h.output, h.size, h.block⟩
theorem Fr.alloc {F : Nat -> Prop} {w w' : World} (h : Fr F w w') (o : Obj) : Fr F w (w'.alloc o):=by
 refine ⟨h.os, h.tape, h.output, by have:=h.size; simp; omega, λ b hb hf => ?_⟩
 simp only [World.alloc, Array.getElem?_push]
 rw [if_neg (by have:=h.size; omega)]
 exact h.block b hb hf
theorem Fr.sto {F : Nat -> Prop} {w w' : World} (h : Fr F w w') {b : Nat} (hb : F b ∨ w.heap.size <= b) (o : Nat) (vs : List Value) : Fr F w (sto w' b o vs):=by
 refine ⟨h.os, h.tape, h.output, by have:=h.size; simp; omega, λ b' hb' hf => ?_⟩
 have hne : b ≠ b':=by rintro rfl; rcases hb with hb | hb; exact hf hb; omega
 simp only [Go.Lift.sto, Array.getElem?_modify]
 rw [if_neg hne]
 exact h.block b' hb' hf
def inB (v : Value) (b : Nat) : Prop:=match v with
 | .slice (some a) _ _ => a.block = b
 | .pointer (some a) => a.block = b
 | _ => False
@[simp] theorem inB_nil (n c b : Nat) : inB (.slice none n c) b ↔ False:=Iff.rfl
@[simp] theorem inB_slice (a : Addr) (n c b : Nat) : inB (.slice (some a) n c) b ↔ a.block = b:=Iff.rfl
@[simp] theorem inB_ptr (a : Addr) (b : Nat) : inB (.pointer (some a)) b ↔ a.block = b:=Iff.rfl
@[simp] theorem inB_nilptr (b : Nat) : inB (.pointer none) b ↔ False:=Iff.rfl
def Sl (k : Nat) (w : World) (v : Value) (els : List (List Value)) : Prop :=
 (∀ e ∈ els, e.length = k) /\ ∃ a c, v = .slice a els.length c /\ els.length <= c /\
  (c = 0 ∨ ∃ b o l, a = some ⟨b, o, none⟩ /\ bk w b = some l /\ o + c * k <= l.length /\ (l.drop o).take (els.length * k) = els.flatten)
def SlW (k : Nat) (w : World) (v : Value) (els : List (List Value)) : Prop:=Sl k w v els /\ ∀ b, inB v b -> capV v ≠ some (.int .i64 0) -> wr w b = true
section
variable {k : Nat} {w w' : World} {v x : Value} {els fls : List (List Value)}
theorem Sl.nil (k : Nat) (w : World) : Sl k w (.slice none 0 0) []:=⟨by simp, none, 0, rfl, Nat.le_refl _, .inl rfl⟩
theorem SlW.nil (k : Nat) (w : World) : SlW k w (.slice none 0 0) []:=⟨Sl.nil k w, λ _ h => h.elim⟩
theorem Sl.lenL (h : Sl k w v els) : lenL v = some (.int .i64 els.length):=by obtain ⟨_, a, c, rfl, _⟩:=h; rfl
theorem Sl.lenN (h : Sl k w v els) : lenN v = some els.length:=by obtain ⟨_, a, c, rfl, _⟩:=h; rfl
theorem Sl.isCell (h : Sl k w v els) : isCell v = true:=by obtain ⟨_, a, c, rfl, _⟩:=h; rfl
theorem Sl.congr (h : Sl k w v els) (hb : ∀ b l, inB v b -> bk w b = some l -> bk w' b = some l) : Sl k w' v els:=by
 obtain ⟨h1, a, c, rfl, h2, h3⟩:=h
 refine ⟨h1, a, c, rfl, h2, ?_⟩
 rcases h3 with h3 | ⟨b, o, l, rfl, h4, h5⟩
 ·exact .inl h3
 ·exact .inr ⟨b, o, l, rfl, hb b l rfl h4, h5⟩
theorem Sl.fr {F : Nat -> Prop} (h : Sl k w v els) (f : Fr F w w') (hd : ∀ b, inB v b -> ¬ F b) : Sl k w' v els:=h.congr λ b _ hb hl => f.bk_some hl (hd b hb)
theorem Sl.fr0 (h : Sl k w v els) (f : Fr (λ _ => False) w w') : Sl k w' v els:=h.fr f λ _ _ => id
theorem SlW.fr {F : Nat -> Prop} (h : SlW k w v els) (f : Fr F w w') (hd : ∀ b, inB v b -> ¬ F b) : SlW k w' v els:=by
 refine ⟨h.1.fr f hd, λ b hb hc => ?_⟩
 have hw:=h.2 b hb hc
 obtain ⟨⟨_, a, c, rfl, _, h3⟩, _⟩:=h
 rcases h3 with h3 | ⟨b', o, l, rfl, h4, _⟩
 ·subst h3; simp at hc
 ·simp only [inB_slice] at hb
  subst hb
  rw [f.wr (bk_lt h4) (hd _ rfl)]
  exact hw
theorem Fr.new {w1 w2 : World} {F : Nat -> Prop} (h : Fr (λ _ => False) w w1) (h' : Fr F w1 w2) (hF : ∀ b, F b -> w.heap.size <= b) : Fr (λ _ => False) w w2 :=
 h.trans h' λ b hb hf => Nat.lt_irrefl _ (Nat.lt_of_lt_of_le hb (hF b hf))
theorem Sl.lt (h : Sl k w v els) (hn : 0 < els.length) {b : Nat} (hb : inB v b) : b < w.heap.size:=by
 obtain ⟨_, a, c, rfl, h2, h3⟩:=h
 rcases h3 with h3 | ⟨b', o, l, rfl, h4, _⟩
 ·omega
 ·simp only [inB_slice] at hb; subst hb; exact bk_lt h4
theorem flat_drop : ∀ {els : List (List Value)} (n : Nat), (∀ e ∈ els, e.length = k) -> els.flatten.drop (n * k) = (els.drop n).flatten
 | [], n, _ => by simp
 | x :: els, 0, _ => by simp
 | x :: els, n + 1, hk => by
  have hx:=hk x (by simp)
  have ih:=flat_drop (els:=els) n λ e he => hk e (by simp [he])
  simp only [List.flatten_cons, List.drop_succ_cons]
  rw [show (n + 1) * k = x.length + n * k by rw [hx, Nat.add_mul]; omega, <- List.drop_drop, List.drop_left]
  exact ih
theorem flat_get {e : List Value} {els : List (List Value)} {i : Nat} (hk : ∀ e ∈ els, e.length = k) (h : els[i]? = some e) : (els.flatten.drop (i * k)).take k = e:=by
 obtain ⟨hi, rfl⟩:=List.getElem?_eq_some_iff.1 h
 rw [flat_drop i hk, List.drop_eq_getElem_cons hi, List.flatten_cons]
 have:=hk els[i] (List.getElem_mem hi)
 rw [<- this, List.take_left]
theorem flat_len : ∀ {els : List (List Value)}, (∀ e ∈ els, e.length = k) -> els.flatten.length = els.length * k
 | [], _ => by simp
 | x :: els, hk => by
  have hx:=hk x (by simp)
  have ih:=flat_len (els:=els) λ e he => hk e (by simp [he])
  simp only [List.flatten_cons, List.length_append, ih, hx, List.length_cons, Nat.add_mul]
  omega
theorem Sl.rd (h : Sl k w v els) (_hk : k ≠ 0) {i : Nat} {e : List Value} (he : els[i]? = some e) (kd : IntKind) :
  ∃ b o l, idxA k v (.int kd i) = some (.pointer (some ⟨b, o, none⟩)) /\ bk w b = some l /\ o + k <= l.length /\ (l.drop o).take k = e /\ inB v b:=by
 obtain ⟨h1, a, c, rfl, h2, h3⟩:=h
 have hi : i < els.length:=(List.getElem?_eq_some_iff.1 he).1
 rcases h3 with h3 | ⟨b, o, l, rfl, h4, h5, h6⟩
 ·omega
 ·have hle : (i + 1) * k <= els.length * k:=Nat.mul_le_mul_right _ hi
  have hle2 : els.length * k <= c * k:=Nat.mul_le_mul_right _ h2
  rw [Nat.add_mul] at hle
  refine ⟨b, o + i * k, l, ?_, h4, by omega, ?_, rfl⟩
  ·have hi' : (i : Int) < els.length:=by omega
   simp [idxA, Addr.add_lit, hi]
  ·have:=flat_get h1 he
   rw [<- h6, List.drop_take, List.drop_drop, List.take_take] at this
   rw [<- this]
   congr 1
   omega
theorem take_get {l e : List Value} {o n j : Nat} (h : (l.drop o).take n = e) (hj : j < n) : l[o + j]? = e[j]?:=by
 subst h
 rw [List.getElem?_take]
 rw [if_pos hj, List.getElem?_drop]
theorem take_get0 {l e : List Value} {o n : Nat} (h : (l.drop o).take n = e) (hj : 0 < n) : l[o]? = e[0]?:=take_get (j:=0) h hj
theorem Sl.rd1 (h : Sl 1 w v els) {i : Nat} {y : Value} (he : els[i]? = some [y]) (kd : IntKind) :
  ∃ p, idxA 1 v (.int kd i) = some p /\ ld1 p w = some y:=by
 obtain ⟨b, o, l, h1, h2, h3, h4, _⟩:=h.rd (by decide) he kd
 refine ⟨_, h1, ?_⟩
 rw [ld1_ptr, h2]
 have:=take_get0 h4 (by decide)
 simpa using this
theorem Sl.rdA (h : Sl k w v els) (hk : k ≠ 0) {i : Nat} {e : List Value} (he : els[i]? = some e) (kd : IntKind) :
  ∃ p, idxA k v (.int kd i) = some p /\ ldA k p w = some (.agg e.toArray):=by
 obtain ⟨b, o, l, h1, h2, h3, h4, _⟩:=h.rd hk he kd
 exact ⟨_, h1, by rw [ldA_bk h2 h3, h4]⟩
theorem Sl.rdF (h : Sl k w v els) {i : Nat} {e : List Value} (he : els[i]? = some e) (kd : IntKind) :
  ∃ p, idxA k v (.int kd i) = some p /\ ∀ j, j < k -> ∃ q, fieldA j p = some q /\ ld1 q w = e[j]?:=by
 by_cases hk : k = 0
 ·subst hk
  obtain ⟨h1, a, c, rfl, h2, h3⟩:=h
  have hi : i < els.length:=(List.getElem?_eq_some_iff.1 he).1
  rcases h3 with h3 | ⟨b, o, l, rfl, h4, h5, h6⟩
  ·omega
  ·exact ⟨.pointer (some ⟨b, o, none⟩), by simp [idxA, Addr.add_lit, hi], λ j hj => absurd hj (Nat.not_lt_zero _)⟩
 ·obtain ⟨b, o, l, h1, h2, h3, h4, _⟩:=h.rd hk he kd
  exact ⟨_, h1, λ j hj => ⟨_, fieldA_ptr j b o, by rw [ld1_ptr, h2]; exact take_get h4 hj⟩⟩
theorem Sl.drop (h : Sl k w v els) {n : Nat} (hn : n <= els.length) (kd : IntKind) : ∃ v', sliceV k v (some (.int kd n)) none = some v' /\ Sl k w v' (els.drop n) /\ ∀ b, inB v' b -> inB v b:=by
 obtain ⟨h1, a, c, rfl, h2, h3⟩:=h
 have e : sliceV k (.slice a els.length c) (some (.int kd n)) none = some (.slice (if c = n then a else a.map (·.add (n * k))) (els.length - n) (c - n)):=by
  simp [sliceV, highV, lowV, boundV, hn]
 refine ⟨_, e, ⟨λ x hx => h1 x (List.mem_of_mem_drop hx), (if c = n then a else a.map (·.add (n * k))), c - n, ?_, by rw [List.length_drop]; omega, ?_⟩, ?_⟩
 ·rw [List.length_drop]
 ·by_cases hc : c = n
  ·exact .inl (by omega)
  ·rcases h3 with h3 | ⟨b, o, l, rfl, h4, h5, h6⟩
   ·exact .inl (by omega)
   ·have hm : c * k = n * k + (c - n) * k:=by rw [<- Nat.add_mul]; congr 1; omega
    refine .inr ⟨b, o + n * k, l, by rw [if_neg hc]; simp [Addr.add_lit], h4, by omega, ?_⟩
    have hfl:=flat_drop n h1
    rw [<- hfl, <- h6, List.drop_take, List.drop_drop, List.length_drop]
    congr 1
    rw [Nat.sub_mul]
 ·intro b hb
  cases a with
  | none => simp at hb
  | some a =>
   by_cases hc : c = n
   ·simpa [hc] using hb
   ·simp only [hc, if_false, Option.map_some] at hb
    simp only [inB_slice] at hb ⊢
    rw [<- hb]
    unfold Addr.add
    split <;> rfl
theorem setL_eq : ∀ (vs l : List Value) (o : Nat), o + vs.length <= l.length -> setL l o vs = l.take o ++ vs ++ l.drop (o + vs.length)
 | [], l, o, _ => by simp
 | v :: vs, l, o, h => by
  simp only [List.length_cons] at h
  rw [setL_cons, setL_eq vs (l.set o v) (o + 1) (by simp; omega)]
  have ho : o < l.length:=by omega
  have h1 : (l.set o v).take (o + 1) = l.take o ++ [v]:=by
   rw [List.take_succ_eq_append_getElem (by simpa using ho), List.take_set_of_le (Nat.le_refl _)]
   simp
  have h2 : (l.set o v).drop (o + 1 + vs.length) = l.drop (o + (v :: vs).length):=by
   rw [List.drop_set_of_lt (by omega)]
   simp only [List.length_cons]
   congr 1
   omega
  rw [h1, h2]
  simp
theorem drop_take_setL {vs l : List Value} {o p n : Nat} (h : p + vs.length <= l.length) (ho : o + n = p) : (((setL l p vs).drop o).take (n + vs.length)) = ((l.drop o).take n) ++ vs:=by
 rw [setL_eq vs l p h]
 subst ho
 have h1 : (l.take (o + n)).length = o + n:=by rw [List.length_take]; omega
 rw [List.append_assoc, List.drop_append_of_le_length (by omega), List.drop_take]
 have h2 : ((l.drop o).take (o + n - o)).length = n:=by rw [List.length_take, List.length_drop]; omega
 rw [show o + n - o = n by omega] at h2 ⊢
 rw [List.take_append, h2, List.take_of_length_le (by omega)]
 rw [show n + vs.length - n = vs.length by omega, List.take_left]
theorem ldN_sl {x' : Option Addr} {c : Nat} (h : Sl k w (.slice x' els.length c) els) : firstN w k els.length (.slice x' els.length c) = some els.flatten:=by
 obtain ⟨h1, a, c', e, h2, h3⟩:=h
 cases e
 have hfl:=flat_len h1
 cases x' with
 | none =>
  rcases h3 with h3 | ⟨b, o, l, h4, _⟩
  ·have : els = []:=List.eq_nil_of_length_eq_zero (by omega)
   subst this; rfl
  ·cases h4
 | some a =>
  simp only [firstN]
  rcases h3 with h3 | ⟨b, o, l, h4, h5, h6, h7⟩
  ·have : els = []:=List.eq_nil_of_length_eq_zero (by omega)
   subst this; simp [ldN]
  ·cases h4
   have : els.length * k <= c * k:=Nat.mul_le_mul_right _ h2
   rw [ldN_bk h5 (by omega), h7]
theorem Run_appM {bytes e : Nat} {zero : Array Value} {s : Value} {Q : Value -> World -> Prop} (hs : SlW k w s els) (hx : Sl k w x fls) (hk : k ≠ 0) (hz : zero.size = k) (hb : bytes ≠ 0)
  (hc : ∀ e ∈ fls, e.all isCell = true) (small : (els.length + fls.length + (els.length + fls.length) / 4 + 192) * bytes <= 281474976710656)
  (q : ∀ r w', SlW k w' r (els ++ fls) -> Fr (inB s) w w' -> (∀ b, inB r b -> inB s b ∨ (w.heap.size <= b /\ b < w'.heap.size)) -> Q r w') : Run (appM e k bytes zero s x) w Q:=by
 have hs':=hs.1
 obtain ⟨⟨h1, a, c, rfl, h2, h3⟩, hw⟩:=hs
 have hxl:=hx.lenN
 have hx1:=hx.1
 have hfl:=flat_len h1
 have hfx:=flat_len hx1
 have hall : ∀ e ∈ els ++ fls, e.length = k:=λ e he => (List.mem_append.1 he).elim (h1 e) (hx1 e)
 have hcf : fls.flatten.all isCell = true:=by
  rw [List.all_eq_true]
  intro y hy
  obtain ⟨e, he, hye⟩:=List.mem_flatten.1 hy
  exact List.all_eq_true.1 (hc e he) y hye
 have hnew : firstN w k fls.length x = some fls.flatten:=by
  have hx':=hx
  obtain ⟨_, a', c', rfl, _⟩:=hx'
  exact ldN_sl hx
 unfold Run appM
 simp only [hxl]
 by_cases hroom : els.length + fls.length <= c
 ·rw [if_pos hroom]
  simp only [hnew]
  cases a with
  | none =>
   rcases h3 with h3 | ⟨b, o, l, h4, _⟩
   ·have he : els = []:=List.eq_nil_of_length_eq_zero (by omega)
    have hf : fls = []:=List.eq_nil_of_length_eq_zero (by omega)
    subst he; subst hf; subst h3
    exact ⟨_, _, rfl, q _ _ (SlW.nil k w) (Fr.refl _ _) (by simp)⟩
   ·cases h4
  | some a =>
   simp only []
   by_cases hf : fls.flatten = []
   ·have hf0 : fls = []:=by
     apply List.eq_nil_of_length_eq_zero
     rw [hf] at hfx
     simp only [List.length_nil] at hfx
     rcases Nat.mul_eq_zero.1 hfx.symm with h | h
     ·exact h
     ·exact absurd h hk
    subst hf0
    simp only [List.flatten_nil, stN, if_true]
    refine ⟨_, _, rfl, q _ _ ?_ (Fr.refl _ _) (λ b hb => .inl hb)⟩
    simp only [List.append_nil, List.length_nil, Nat.add_zero]
    exact ⟨hs', hw⟩
   ·rcases h3 with h3 | ⟨b, o, l, h4, h5, h6, h7⟩
    ·have hf : fls = []:=List.eq_nil_of_length_eq_zero (by omega)
     subst hf; simp at hf
    ·cases h4
     have hf1 : fls.length ≠ 0:=λ h0 => hf (by rw [List.eq_nil_of_length_eq_zero h0]; rfl)
     have hwb:=hw b rfl (by simp; omega)
     have hcc : (els.length + fls.length) * k <= c * k:=Nat.mul_le_mul_right _ hroom
     rw [Nat.add_mul] at hcc
     simp only [Addr.add_lit, stN]
     rw [if_neg hf]
     simp only [h5]
     rw [if_pos ⟨⟨by omega, hcf⟩, hwb⟩]
     refine ⟨_, _, rfl, q _ _ ⟨⟨hall, _, c, by rw [List.length_append], by rw [List.length_append]; omega, .inr ⟨b, o, setL l (o + els.length * k) fls.flatten, rfl, by rw [bk_sto_eq, h5]; rfl, by rw [length_setL]; omega, ?_⟩⟩, ?_⟩ ?_ (λ b hb => .inl hb)⟩
     ·rw [List.length_append, Nat.add_mul, <- hfx, drop_take_setL (by omega) rfl, h7, List.flatten_append]
     ·intro b' hb' _
      simp only [inB_slice] at hb'
      subst hb'
      simpa using hwb
     ·exact (Fr.refl _ _).sto (.inl rfl) _ _
 ·rw [if_neg hroom]
  have hg : Builtin.nextslicecap (els.length + fls.length) c * bytes <= 2 ^ 48:=growslice_fits_wide (by omega) small
  rw [if_neg (not_or.2 ⟨hb, Nat.not_lt.2 hg⟩)]
  simp only [ldN_sl hs', hnew]
  refine ⟨_, _, rfl, q _ _ ⟨⟨hall, some ⟨w.heap.size, 0, none⟩, _, by rw [List.length_append], ?_, .inr ⟨w.heap.size, 0, _, rfl, bk_alloc_at rfl _ _, ?_, ?_⟩⟩, ?_⟩ ((Fr.refl _ _).drew.alloc _) (λ b hb => .inr ?_)⟩
  ·rw [List.length_append]; simp only [Question.cut]; omega
  ·have hge : els.length + fls.length <= (Question.appendCap (els.length + fls.length) c e).cut (w.tape w.drawn (.appendCap (els.length + fls.length) c e)):=by simp only [Question.cut]; omega
   generalize (Question.appendCap (els.length + fls.length) c e).cut (w.tape w.drawn (.appendCap (els.length + fls.length) c e)) = C at hge
   simp only [Array.toList_append, List.length_append, Array.length_toList, size_zeroCells, hz, hfl, hfx]
   rw [<- Nat.add_mul, <- Nat.add_mul]
   rw [show els.length + fls.length + (C - (els.length + fls.length)) = C by omega]
   omega
  ·simp only [Array.toList_append, List.drop_zero]
   rw [List.length_append, Nat.add_mul, <- hfl, <- hfx, List.flatten_append, <- List.length_append, List.take_left]
  ·intro b' hb' _
   simp only [inB_slice] at hb'
   subst hb'
   exact wr_alloc_at (by simp) _ _
  ·simp only [inB_slice] at hb
   subst hb
   simp
theorem setL_right : ∀ (vs A B : List Value) (j : Nat), setL (A ++ B) (A.length + j) vs = A ++ setL B j vs
 | [], A, B, j => rfl
 | v :: vs, A, B, j => by
  rw [setL_cons, setL_cons, List.set_append_right _ _ (by omega), show A.length + j - A.length = j by omega, show A.length + j + 1 = A.length + (j + 1) by omega]
  exact setL_right vs A (B.set j v) (j + 1)
theorem setL_left : ∀ (vs A B : List Value) (j : Nat), j + vs.length <= A.length -> setL (A ++ B) j vs = setL A j vs ++ B
 | [], A, B, j, _ => rfl
 | v :: vs, A, B, j, h => by
  simp only [List.length_cons] at h
  rw [setL_cons, setL_cons, List.set_append_left _ _ (by omega)]
  exact setL_left vs (A.set j v) B (j + 1) (by simp; omega)
theorem setL_flat {i j : Nat} {e : List Value} {vs : List Value} (hk : ∀ e ∈ els, e.length = k) (he : els[i]? = some e) (hj : j + vs.length <= k) :
  setL els.flatten (i * k + j) vs = (els.set i (setL e j vs)).flatten:=by
 obtain ⟨hi, rfl⟩:=List.getElem?_eq_some_iff.1 he
 have hl:=hk _ (List.getElem_mem hi)
 have h1 : els = els.take i ++ (els[i] :: els.drop (i + 1)):=by rw [List.getElem_cons_drop, List.take_append_drop]
 have h2 : els.set i (setL els[i] j vs) = els.take i ++ (setL els[i] j vs :: els.drop (i + 1)):=by
  rw [List.set_eq_take_append_cons_drop, if_pos hi]
 have h3 : (els.take i).flatten.length = i * k:=by
  rw [flat_len λ e he => hk e (List.mem_of_mem_take he), List.length_take]
  congr 1; omega
 rw [h2]
 conv => lhs; rw [h1]
 simp only [List.flatten_append, List.flatten_cons]
 rw [<- h3, setL_right, setL_left _ _ _ _ (by omega)]
theorem SlW.put (h : SlW k w v els) {i : Nat} {e : List Value} (he : els[i]? = some e) (kd : IntKind) :
  ∃ b o, idxA k v (.int kd i) = some (.pointer (some ⟨b, o, none⟩)) /\ inB v b /\ b < w.heap.size /\ okAt w b o k /\
   ∀ j vs, j + vs.length <= k -> okAt w b (o + j) vs.length /\ SlW k (sto w b (o + j) vs) v (els.set i (setL e j vs)):=by
 obtain ⟨⟨h1, a, c, rfl, h2, h3⟩, hw⟩:=h
 obtain ⟨hi, hei⟩:=List.getElem?_eq_some_iff.1 he
 rcases h3 with h3 | ⟨b, o, l, rfl, h4, h5, h6⟩
 ·omega
 ·have hle : (i + 1) * k <= els.length * k:=Nat.mul_le_mul_right _ hi
  have hle2 : els.length * k <= c * k:=Nat.mul_le_mul_right _ h2
  rw [Nat.add_mul] at hle
  have hwb : wr w b = true:=hw b rfl (by simp; omega)
  refine ⟨b, o + i * k, ?_, rfl, bk_lt h4, ⟨⟨l, h4, by omega⟩, hwb⟩, λ j vs hj => ⟨⟨⟨l, h4, by omega⟩, hwb⟩, ⟨⟨?_, some ⟨b, o, none⟩, c, ?_, ?_, .inr ⟨b, o, setL l (o + i * k + j) vs, rfl, by rw [bk_sto_eq, h4]; rfl, by rw [length_setL]; exact h5, ?_⟩⟩, ?_⟩⟩⟩
  ·have hi' : (i : Int) < els.length:=by omega
   simp [idxA, Addr.add_lit, hi]
  ·intro x hx
   rcases List.mem_or_eq_of_mem_set hx with hx | rfl
   ·exact h1 x hx
   ·rw [length_setL]; exact h1 e (hei ▸ List.getElem_mem hi)
  ·rw [List.length_set]
  ·rw [List.length_set]; exact h2
  ·have hfl:=flat_len h1
   rw [List.length_set, <- setL_flat h1 he hj]
   have hl : l = l.take o ++ (els.flatten ++ l.drop (o + els.length * k)):=by
    rw [<- h6, <- List.drop_drop, List.take_append_drop, List.take_append_drop]
   have ho : (l.take o).length = o:=by rw [List.length_take]; omega
   have e1 : setL l (o + i * k + j) vs = l.take o ++ (setL els.flatten (i * k + j) vs ++ l.drop (o + els.length * k)):=by
    conv => lhs; rw [hl]
    rw [show o + i * k + j = (l.take o).length + (i * k + j) by omega, setL_right, setL_left _ _ _ _ (by omega)]
   have e2 : ∀ X : List Value, (l.take o ++ X).drop o = X:=λ X => by
    have:=List.drop_left (l₁:=l.take o) (l₂:=X)
    rwa [ho] at this
   rw [e1, e2, List.take_append_of_le_length (by rw [length_setL]; omega), List.take_of_length_le (by rw [length_setL]; omega)]
  ·intro b' hb' _
   simp only [inB_slice] at hb'
   subst hb'
   simpa using hwb
theorem Run_mksM {e bytes n c : Nat} {zero : Array Value} {Q : Value -> World -> Prop} (hz : zero.size = k) (hn : n <= c) (hc : c < 9223372036854775808) (hb : bytes * c <= 281474976710656)
  (q : ∀ r w', SlW k w' r (List.replicate n zero.toList) -> Fr (λ _ => False) w w' -> (∀ b, inB r b -> w.heap.size <= b /\ b < w'.heap.size) -> Q r w') :
  Run (mksM e k bytes zero (.int .i64 n) (.int .i64 c)) w Q:=by
 have hw1 : IntKind.i64.wrap (n : Int) = n:=by simp [IntKind.wrap, IntKind.bits, IntKind.signed]; omega
 have hw2 : IntKind.i64.wrap (c : Int) = c:=by simp [IntKind.wrap, IntKind.bits, IntKind.signed]; omega
 unfold Run mksM
 simp only [hw1, hw2]
 rw [if_neg (by
  rintro (h | h | h | h)
  ·omega
  ·omega
  ·have : ((bytes * c : Nat) : Int) <= 281474976710656:=by omega
   rw [Int.natCast_mul] at this
   omega
  ·exact h hz)]
 have hzc : ∀ m, (Builtin.zeroCells zero m).toList = (List.replicate m zero.toList).flatten:=by
  intro m
  apply List.ext_getElem?
  intro i
  simp only [Builtin.zeroCells, Array.toList_map, Array.toList_range, List.getElem?_map]
  by_cases hi : i < m * zero.size
  ·have hz0 : 0 < zero.size:=by rcases Nat.eq_zero_or_pos zero.size with h | h; rw [h] at hi; omega; exact h
   rw [List.getElem?_range hi]
   have hq : i / zero.size < m:=Nat.div_lt_of_lt_mul (by rw [Nat.mul_comm]; exact hi)
   have hr:=Nat.mod_lt i hz0
   have hk' : ∀ e ∈ List.replicate m zero.toList, e.length = zero.size:=by
    intro e he
    rw [List.eq_of_mem_replicate he]
    simp
   have hg:=flat_get (i:=i / zero.size) (e:=zero.toList) hk' (by simp [hq])
   have:=take_get (l:=(List.replicate m zero.toList).flatten) hg hr
   rw [Nat.div_add_mod' i zero.size] at this
   rw [this]
   simp [hr]
  ·have h1 : ((List.replicate m zero.toList).flatten).length = m * zero.size:=by
    rw [flat_len (k:=zero.size)]
    ·simp
    ·intro e he
     rw [List.eq_of_mem_replicate he]
     simp
   rw [List.getElem?_eq_none (by simp; omega), List.getElem?_eq_none (by omega)]
   rfl
 refine ⟨_, _, rfl, q _ _ ⟨⟨?_, some ⟨w.heap.size, 0, none⟩, c, by simp, by simp; omega, .inr ⟨_, _, _, rfl, bk_alloc_at rfl _ _, ?_, ?_⟩⟩, ?_⟩ ((Fr.refl _ _).alloc _) (λ b hb => ?_)⟩
 ·intro e he
  rw [List.eq_of_mem_replicate he]
  simp [hz]
 ·simp [size_zeroCells, hz]
 ·simp only [Int.toNat_natCast, hzc, List.drop_zero, List.length_replicate]
  rw [show c = n + (c - n) by omega, <- List.replicate_append_replicate, List.flatten_append]
  have : (List.replicate n zero.toList).flatten.length = n * k:=by
   rw [flat_len (k:=k)]
   ·simp
   ·intro e he
    rw [List.eq_of_mem_replicate he]
    simp [hz]
  rw [<- this, List.take_left]
 ·intro b hb _
  simp only [inB_slice] at hb
  subst hb
  exact wr_alloc_at rfl _ _
 ·simp only [inB_slice] at hb
  subst hb
  simp
theorem heap_alloc_at {w : World} {n : Nat} (h : n = w.heap.size) (o : Obj) : (w.alloc o).heap[n]? = some o:=by
 subst h
 show (w.heap.push _)[w.heap.size]? = _
 simp
theorem Run_sbM {e : TypeId} {s : ByteArray} {Q : Value -> World -> Prop}
  (q : ∀ r w', SlW 1 w' r (s.data.toList.map λ b => [.int .u8 b.toNat]) -> Fr (λ _ => False) w w' -> (∀ b, inB r b -> w.heap.size <= b /\ b < w'.heap.size) -> Q r w') :
  Run (sbM e (.string s)) w Q:=by
 unfold Run
 simp only [sbM]
 have hge : s.size <= (Question.appendCap s.size 0 e).cut (w.tape w.drawn (.appendCap s.size 0 e)):=by simp only [Question.cut]; omega
 generalize (Question.appendCap s.size 0 e).cut (w.tape w.drawn (.appendCap s.size 0 e)) = C at hge
 have hs : s.data.size = s.size:=rfl
 have hs' : s.data.toList.length = s.size:=rfl
 have hget:=heap_alloc_at (w:=w.drew) (n:=w.heap.size) rfl (.cells ((s.data.map λ b => Value.int .u8 b.toNat) ++ Array.replicate (C - s.size) (.int .u8 0)) e (C, C + 1))
 refine ⟨_, _, rfl, q _ _ ⟨⟨?_, some ⟨w.heap.size, 0, none⟩, C, ?_, ?_, .inr ⟨_, _, _, rfl, (by unfold bk; rw [hget]), ?_, ?_⟩⟩, ?_⟩ ((Fr.refl _ _).drew.alloc _) (λ b hb => ?_)⟩
 ·intro x hx
  obtain ⟨y, _, rfl⟩:=List.mem_map.1 hx
  rfl
 ·rw [List.length_map, hs']
 ·rw [List.length_map, hs']; exact hge
 ·simp [hs]; omega
 ·have : (List.map (λ b : UInt8 => [Value.int .u8 b.toNat]) s.data.toList).flatten = s.data.toList.map λ b => Value.int .u8 b.toNat:=by
   induction s.data.toList with
   | nil => rfl
   | cons x l ih => simp [ih]
  rw [this]
  simp only [Array.toList_append, Array.toList_map, List.drop_zero, List.length_map, Nat.mul_one]
  rw [List.take_append_of_le_length (by simp), List.take_of_length_le (by simp)]
 ·intro b hb _
  simp only [inB_slice] at hb
  subst hb
  unfold wr
  rw [hget]
  simp [hs]
  omega
 ·simp only [inB_slice] at hb
  subst hb
  simp
theorem Run_new {t : TypeId} {cs : Array Value} {Q : Value -> World -> Prop}
  (q : ∀ b w', bk w' b = some cs.toList -> wr w' b = true -> Fr (λ _ => False) w w' -> w.heap.size <= b -> Q (.pointer (some ⟨b, 0, none⟩)) w') : Run (newM t cs) w Q :=
 Run_newM.2 (q _ _ (bk_alloc_at rfl _ _) (wr_alloc_at rfl _ _) ((Fr.refl _ _).alloc _) (Nat.le_refl _))
def partsL (k off : Nat) : List Value -> List (Nat × Nat × Value)
 | [] => []
 | v :: vs => (off, k, v) :: partsL k (off + k) vs
theorem foldl_set : ∀ (l : List Value) (off j : Nat) (cs : Array Value), off + j + l.length <= cs.size ->
  ((l.zipIdx j).foldl (λ cs (x : Value × Nat) => cs.setIfInBounds (off + x.2) x.1) cs).toList = setL cs.toList (off + j) l
 | [], off, j, cs, _ => rfl
 | v :: l, off, j, cs, h => by
  simp only [List.length_cons] at h
  simp only [List.zipIdx_cons, List.foldl_cons, setL_cons]
  rw [foldl_set l off (j + 1) _ (by simp; omega)]
  simp [Nat.add_assoc]
theorem fillV_parts : ∀ (vs : List Value) (off : Nat) (cs : Array Value), (∀ v ∈ vs, v.cells.size = k) -> off + vs.length * k <= cs.size ->
  fillV cs (partsL k off vs) = some (setL cs.toList off (vs.map λ v => v.cells.toList).flatten).toArray
 | [], off, cs, _, _ => by simp [partsL]
 | v :: vs, off, cs, hv, h => by
  have hk:=hv v (by simp)
  simp only [List.length_cons, Nat.add_mul] at h
  simp only [partsL, fillV, hk]
  rw [if_neg (by simp; omega)]
  have hcs : (v.cells.zipIdx.foldl (λ cs (x : Value × Nat) => cs.setIfInBounds (off + x.2) x.1) cs).toList = setL cs.toList off v.cells.toList:=by
   rw [<- Array.foldl_toList, Array.toList_zipIdx]
   have:=foldl_set v.cells.toList off 0 cs (by simp [hk]; omega)
   simpa using this
  have hsz : (v.cells.zipIdx.foldl (λ cs (x : Value × Nat) => cs.setIfInBounds (off + x.2) x.1) cs).size = cs.size:=by
   rw [<- Array.length_toList, hcs, length_setL, Array.length_toList]
  have ih:=fillV_parts vs (off + k) _ (λ x hx => hv x (by simp [hx])) (by rw [hsz]; omega)
  refine ih.trans ?_
  rw [hcs]
  simp only [List.map_cons, List.flatten_cons]
  have happ : ∀ (a b l : List Value) (o : Nat), setL (setL l o a) (o + a.length) b = setL l o (a ++ b):=by
   intro a
   induction a with
   | nil => intro b l o; simp
   | cons x a ih => intro b l o; simp only [setL_cons, List.cons_append, List.length_cons]; rw [<- ih, show o + 1 + a.length = o + (a.length + 1) by omega]
  rw [<- happ, Array.length_toList, hk]
theorem Run_bsl {e n : Nat} {zero : Array Value} {parts : List (Nat × Nat × Value)} {vs : List Value} {Q : Value -> World -> Prop} (hp : parts = partsL k 0 vs) (hv : ∀ v ∈ vs, v.cells.size = k) (hn : vs.length = n) (hz : zero.size = n * k)
  (q : ∀ r w', SlW k w' r (vs.map λ v => v.cells.toList) -> Fr (λ _ => False) w w' -> (∀ b, inB r b -> b = w.heap.size /\ b < w'.heap.size) -> Q r w') : Run (bslM e n zero parts) w Q:=by
 subst hp
 have hfl : (vs.map λ v => v.cells.toList).flatten.length = n * k:=by
  rw [flat_len (k:=k)]
  ·simp [hn]
  ·intro x hx
   obtain ⟨v, hv', rfl⟩:=List.mem_map.1 hx
   simp [hv v hv']
 have hf:=fillV_parts (k:=k) vs 0 zero hv (by rw [hz, hn]; omega)
 refine ⟨_, _, by unfold bslM; rw [hf], q _ _ ⟨⟨?_, some ⟨w.heap.size, 0, none⟩, n, by simp [hn], by simp [hn], .inr ⟨_, _, _, rfl, bk_alloc_at rfl _ _, ?_, ?_⟩⟩, ?_⟩ ((Fr.refl _ _).alloc _) λ b hb => ?_⟩
 ·intro x hx
  obtain ⟨v, hv', rfl⟩:=List.mem_map.1 hx
  simp [hv v hv']
 ·simp [length_setL, hz]
 ·rw [setL_eq _ _ _ (by simp only [hfl, Array.length_toList, hz]; omega)]
  simp only [List.take_zero, List.nil_append, List.drop_zero, List.length_map, hn]
  rw [<- hfl, List.take_left]
 ·intro b hb _
  simp only [inB_slice] at hb
  subst hb
  exact wr_alloc_at rfl _ _
 ·simp only [inB_slice] at hb
  subst hb
  simp
theorem Run_app1 {e e' bytes : Nat} {zero : Array Value} {s y : Value} {K : World -> Value -> World -> Prop} (hes : y.cells.size = k) (hs : SlW k w s els) (hk : k ≠ 0) (hz : zero.size = k) (hb : bytes ≠ 0)
  (hc : y.cells.toList.all isCell = true) (small : (els.length + 1 + (els.length + 1) / 4 + 192) * bytes <= 281474976710656)
  (q : ∀ r w', SlW k w' r (els ++ [y.cells.toList]) -> Fr (inB s) w w' -> (∀ b, inB r b -> inB s b ∨ (w.heap.size <= b /\ b < w'.heap.size)) -> ∀ w1, Fr (λ _ => False) w w1 -> K w1 r w') :
  Run (bslM e' 1 (Builtin.zeroCells zero 1) [(0, k, y)]) w λ a w1 => Run (appM e k bytes zero s a) w1 λ r w' => K w1 r w':=by
 have hf : fillV (Builtin.zeroCells zero 1) [(0, k, y)] = some y.cells:=by
  have:=fillV_parts (k:=k) [y] 0 (Builtin.zeroCells zero 1) (by simpa using hes) (by simp [size_zeroCells, hz])
  rw [show [(0, k, y)] = partsL k 0 [y] from rfl, this, setL_eq _ _ _ (by simp [size_zeroCells, hz, hes])]
  simp [hes]
  rw [List.drop_of_length_le (by simp [size_zeroCells, hz])]
  simp
 generalize y.cells = es at *
 have fr : Fr (λ _ => False) w (w.alloc (.cells es e')):=(Fr.refl _ _).alloc _
 refine ⟨_, _, by unfold bslM; rw [hf], ?_⟩
 have hx : Sl k (w.alloc (.cells es e')) (.slice (some ⟨w.heap.size, 0, none⟩) 1 1) [es.toList] :=
  ⟨by simp [hes], _, 1, rfl, Nat.le_refl _, .inr ⟨_, _, _, rfl, bk_alloc_at rfl _ _, by simp [hes], by simp [<- hes, List.take_of_length_le]⟩⟩
 refine Run_appM (hs.fr fr λ _ _ => id) hx hk hz hb (λ e he => by obtain rfl:=List.mem_singleton.1 he; exact hc) (by simpa using small) λ r w' h1 h2 h3 => q r w' h1 (fr.mono (λ _ h => h.elim) |>.trans h2 λ _ _ h => h) (λ b hb => ?_) _ fr
 rcases h3 b hb with h | h
 ·exact .inl h
 ·have:=fr.size; exact .inr ⟨by simp at h; omega, h.2⟩
theorem Run_for {step : List Value -> M Out} {Q : Out -> World -> Prop} {l : List Value} (n : Nat) (I : Nat -> List Value -> World -> Prop) (h : I 0 l w)
  (round : ∀ i l w, i < n -> I i l w -> Run (step l) w λ o w' => match o with | .norm l' => I (i + 1) l' w' | o => Q o w')
  (last : ∀ l w, I n l w -> Run (step l) w λ o w' => match o with | .norm _ => False | o => Q o w') : Run (loopM step l) w Q:=by
 have key : ∀ d i l w, i + d = n -> I i l w -> ∃ m r w', iterM step m l w = some (r, w') /\ Q r w':=by
  intro d
  induction d with
  | zero =>
   intro i l w hi hI
   have hi' : i = n:=by omega
   subst hi'
   obtain ⟨o, w1, e, q⟩:=last l w hI
   cases o with
   | norm l' => exact q.elim
   | exit id l' => exact ⟨1, .exit id l', w1, by simp only [iterM, M.bind, e]; rfl, q⟩
   | ret v => exact ⟨1, .ret v, w1, by simp only [iterM, M.bind, e]; rfl, q⟩
  | succ d ih =>
   intro i l w hi hI
   obtain ⟨o, w1, e, q⟩:=round i l w (by omega) hI
   cases o with
   | norm l' =>
    obtain ⟨m, r, w', hm, hq⟩:=ih (i + 1) l' w1 (by omega) q
    exact ⟨m + 1, r, w', by simp only [iterM, M.bind, e]; exact hm, hq⟩
   | exit id l' => exact ⟨1, .exit id l', w1, by simp only [iterM, M.bind, e]; rfl, q⟩
   | ret v => exact ⟨1, .ret v, w1, by simp only [iterM, M.bind, e]; rfl, q⟩
 obtain ⟨m, r, w', hm, hq⟩:=key n 0 l w (by omega) h
 exact ⟨r, w', loopM_some.2 ⟨m, hm⟩, hq⟩
end
section
variable {k : Nat} {w w' : World} {v x : Value} {els fls : List (List Value)}
theorem flat_take : ∀ {els : List (List Value)} (n : Nat), (∀ e ∈ els, e.length = k) -> els.flatten.take (n * k) = (els.take n).flatten
 | [], n, _ => by simp
 | e :: els, 0, _ => by simp
 | e :: els, n + 1, h => by
  have he : e.length = k:=h e (by simp)
  have ih:=flat_take n λ x hx => h x (List.mem_cons_of_mem _ hx)
  simp only [List.flatten_cons, List.take_succ_cons, List.flatten_cons]
  rw [List.take_append, he, List.take_of_length_le (by rw [he, Nat.add_mul]; omega), show (n + 1) * k - k = n * k by rw [Nat.add_mul]; omega, ih]
theorem Sl.take (h : Sl k w v els) {n : Nat} (hn : n <= els.length) (kd : IntKind) : ∃ v', sliceV k v none (some (.int kd n)) = some v' /\ Sl k w v' (els.take n) /\ ∀ b, inB v' b -> inB v b:=by
 obtain ⟨h1, a, c, rfl, h2, h3⟩:=h
 have hnc : n <= c:=by omega
 have e : sliceV k (.slice a els.length c) none (some (.int kd n)) = some (.slice (if c = 0 then a else a.map (·.add (0 * k))) n c):=by
  simp [sliceV, highV, lowV, boundV, hnc]
 have hlt : (els.take n).length = n:=by rw [List.length_take]; omega
 refine ⟨_, e, ⟨λ x hx => h1 x (List.mem_of_mem_take hx), (if c = 0 then a else a.map (·.add (0 * k))), c, by rw [hlt], by rw [hlt]; omega, ?_⟩, ?_⟩
 ·by_cases hc : c = 0
  ·exact .inl hc
  ·rcases h3 with h3 | ⟨b, o, l, rfl, h4, h5, h6⟩
   ·exact .inl h3
   ·refine .inr ⟨b, o, l, by rw [if_neg hc]; simp [Addr.add_lit], h4, h5, ?_⟩
    rw [hlt]
    have hfl:=flat_take n h1
    rw [<- hfl, <- h6, List.take_take]
    congr 1
    have : n * k <= els.length * k:=Nat.mul_le_mul_right _ hn
    omega
 ·intro b hb
  cases a with
  | none => simp at hb
  | some a =>
   by_cases hc : c = 0
   ·simpa [hc] using hb
   ·simp only [hc, if_false, Option.map_some] at hb
    simp only [inB_slice] at hb ⊢
    rw [<- hb]
    unfold Addr.add
    split <;> rfl
theorem SlW.drop (h : SlW k w v els) {n : Nat} (hn : n <= els.length) (kd : IntKind) : ∃ v', sliceV k v (some (.int kd n)) none = some v' /\ SlW k w v' (els.drop n) /\ ∀ b, inB v' b -> inB v b:=by
 obtain ⟨v', e1, e2, e3⟩:=h.1.drop hn kd
 refine ⟨v', e1, ⟨e2, λ b hb hc => h.2 b (e3 b hb) λ hz => hc ?_⟩, e3⟩
 obtain ⟨⟨h1, a, c, rfl, h2, h3⟩, _⟩:=h
 simp [capV] at hz
 subst hz
 obtain ⟨_, a', c', rfl, _, _⟩:=e2
 simp [sliceV, highV, lowV, boundV, hn] at e1
 simp [capV]
 omega
theorem Sl.pre {a : Option Addr} {n m c : Nat} (h : Sl k w (.slice a m c) els) (hn : n <= m) : Sl k w (.slice a n c) (els.take n):=by
 obtain ⟨h1, a', c', he, h2, h3⟩:=h
 cases he
 have hlt : (els.take n).length = n:=by rw [List.length_take]; omega
 refine ⟨λ x hx => h1 x (List.mem_of_mem_take hx), a, c, by rw [hlt], by rw [hlt]; omega, ?_⟩
 rcases h3 with h3 | ⟨b, o, l, rfl, h4, h5, h6⟩
 ·exact .inl h3
 ·refine .inr ⟨b, o, l, rfl, h4, h5, ?_⟩
  rw [hlt]
  have hfl:=flat_take n h1
  rw [<- hfl, <- h6, List.take_take]
  congr 1
  have : n * k <= els.length * k:=Nat.mul_le_mul_right _ hn
  omega
end
end Go.Lift
namespace Go.Proofs.YthlpfhjcdedhgaaGreatDoor
open Go.Lift
set_option linter.unusedSimpArgs false
set_option linter.unusedVariables false
set_option maxHeartbeats 4000000
abbrev PtrB (b : Nat) : Value:=.pointer (some ⟨b, 0, none⟩)
theorem ba_ext0 {a b : ByteArray} (h : a.data.toList = b.data.toList) : a = b:=by
 rcases a with ⟨⟨a⟩⟩
 rcases b with ⟨⟨b⟩⟩
 simp at h
 subst h
 rfl
structure Bld (w : World) (x g cap : Nat) (l : List UInt8) : Prop where
 hb : bk w x = some [PtrB x, .slice (some ⟨g, 0, none⟩) l.length cap]
 hw : wr w x = true
 ne : x ≠ g
 le : l.length <= cap
 buf : ∃ cs : Array Value, w.heap[g]? = some (.cells cs 5 (0, 0)) /\ cs.size = cap /\ cs.toList.take l.length = l.map λ b => Value.int .u8 b.toNat
section
variable {w w' : World} {x g cap : Nat} {l : List UInt8}
theorem bldSliceT : Tryz.prog.underlying 91 = some (.slice 5):=by kernel_rfl
theorem bldPtrT : Tryz.prog.underlying 182 = some (.pointer 5):=by kernel_rfl
theorem u8C : Tryz.prog.cellsOf 5 = 1:=by kernel_rfl
theorem cell0 {v : Value} {r : List Value} (h : bk w x = some (v :: r)) : w.cell? ⟨x, 0, none⟩ = some v:=by
 unfold bk at h
 unfold World.cell?
 split at h
 ·rename_i c t fz hh
  simp only [Option.some.injEq] at h
  rw [hh]
  simp
  rw [<- Array.getElem?_toList, h]
  rfl
 ·cases h
theorem bldUsed_run {v : Value} (h : bk w x = some [PtrB x, v]) {Q : Value -> World -> Prop} (q : Q (.tuple #[]) w) : Run (F.strings_Builder_copyCheck (PtrB x)) w Q:=by
 refine ⟨_, _, ?_, q⟩
 unfold F.strings_Builder_copyCheck
 simp only [cell0 h, if_true]
theorem bldFirst_run {Q : Value -> World -> Prop} (q : ∀ w', bk w' w.heap.size = some [PtrB w.heap.size, .slice none 0 0] -> wr w' w.heap.size = true -> w'.heap.size = w.heap.size + 1 -> Fr (λ _ => False) w w' -> Q (.tuple #[]) w') :
  Run (F.strings_Builder_copyCheck (PtrB w.heap.size)) (w.alloc (.cells #[.pointer none, .slice none 0 0] 93)) Q:=by
 have hh : (w.alloc (.cells #[.pointer none, .slice none 0 0] 93)).heap[w.heap.size]? = some (.cells #[.pointer none, .slice none 0 0] 93 (0, 0)):=by
  show (w.heap.push _)[w.heap.size]? = _
  simp
 have h0:=cell0 (bk_alloc_at (w:=w) rfl #[.pointer none, .slice none 0 0] 93)
 have h1 : (w.alloc (.cells #[.pointer none, .slice none 0 0] 93)).shape? w.heap.size = some (93, 2):=by
  unfold World.shape?
  rw [hh]
  rfl
 have h2 : (w.alloc (.cells #[.pointer none, .slice none 0 0] 93)).frozen? ⟨w.heap.size, 0, none⟩ = false:=by
  unfold World.frozen?
  rw [hh]
  rfl
 refine ⟨_, _, ?_, q ((w.alloc (.cells #[.pointer none, .slice none 0 0] 93)).setCell ⟨w.heap.size, 0, none⟩ (PtrB w.heap.size)) ?_ ?_ ?_ ?_⟩
 ·unfold F.strings_Builder_copyCheck
  simp only [h0, h1, h2, and_self, if_true]
 ·unfold bk World.setCell
  simp only [Array.getElem?_modify, hh, if_true]
  rfl
 ·unfold wr World.setCell
  simp only [Array.getElem?_modify, hh, if_true]
  rfl
 ·unfold World.setCell
  simp only [Array.size_modify]
  show (w.heap.push _).size = _
  simp
 ·refine ⟨rfl, rfl, rfl, ?_, λ b hb _ => ?_⟩
  ·unfold World.setCell
   simp only [Array.size_modify]
   show _ <= (w.heap.push _).size
   simp
  ·unfold World.setCell
   simp only [Array.getElem?_modify]
   rw [if_neg (by omega)]
   show (w.heap.push _)[b]? = _
   rw [Array.getElem?_push]
   rw [if_neg (by omega)]
theorem Bld.fr {F : Nat -> Prop} (h : Bld w x g cap l) (f : Fr F w w') (hx : ¬ F x) (hg : ¬ F g) : Bld w' x g cap l:=by
 obtain ⟨cs, h1, h2, h3⟩:=h.buf
 exact ⟨f.bk_some h.hb hx, by rw [f.wr (bk_lt h.hb) hx]; exact h.hw, h.ne, h.le, cs, by rw [f.block g (Array.getElem?_eq_some_iff.1 h1).1 hg]; exact h1, h2, h3⟩
theorem bldGrow_run {n : Nat} (h1 : 1 <= n) (hn : n <= 281474976710656) {β : Type} {K : Value -> M β} {Q : β -> World -> Prop} (q : ∀ x g cap w', Bld w' x g cap [] -> n <= cap -> w.heap.size <= x -> w.heap.size <= g -> Fr (λ _ => False) w w' -> Run (K (PtrB x)) w' Q) :
  Run (M.bind (newM 93 #[.pointer none, .slice none 0 0]) λ x49 => M.bind (F.strings_Builder_Grow x49 (.int .i64 n)) λ _ => K x49) w Q:=by
 simp only [Run_bind, Run_newM]
 unfold F.strings_Builder_Grow
 simp only [Run_bind]
 refine bldFirst_run λ w2 hb hw hs f => ?_
 generalize hx : w.heap.size = x at *
 have hneg : ¬ ((n : Nat) : Int) < 0:=by omega
 have hlt : 0 < n:=by omega
 have wz : IntKind.i64.wrap 0 = 0:=by decide
 have wn' : IntKind.i64.wrap ((n : Int)) = n:=by simp [IntKind.wrap, IntKind.bits, IntKind.signed]; omega
 simp [hneg, hb, capV, hlt, wz]
 unfold F.strings_Builder_grow
 simp [hb, capV, wz, wn']
 obtain ⟨cs, hr, hle, _⟩:=Lib.run_makeNoZero (P:=Tryz.prog) (w:=w2.drew.drew) #[3] 91 5 bldSliceT n hn
 have hg : (w2.drew.drew).heap.size = x + 1:=hs
 rw [hg] at hr
 have hrun : Run (F.bytealg_MakeNoZero (.int .i64 n)) w2.drew.drew λ r w3 => r = .slice (some ⟨x + 1, 0, none⟩) n cs.size /\ w3 = (w2.drew.drew).drew.drew.alloc (.cells cs 5):=by
  have e : F.bytealg_MakeNoZero (.int .i64 n) w2.drew.drew = some (.slice (some ⟨x + 1, 0, none⟩) n cs.size, (w2.drew.drew).drew.drew.alloc (.cells cs 5)):=by
   unfold F.bytealg_MakeNoZero
   simp only [hr]
  exact ⟨_, _, e, rfl, rfl⟩
 refine hrun.mono ?_
 rintro _ w3 ⟨rfl, rfl⟩
 have hh : ((w2.drew.drew).drew.drew.alloc (.cells cs 5)).heap[x + 1]? = some (.cells cs 5 (0, 0)):=by
  show (w2.heap.push _)[x + 1]? = _
  rw [<- hs]
  simp
 have f3 : Fr (λ _ => False) w2 ((w2.drew.drew).drew.drew.alloc (.cells cs 5)):=(Fr.refl (λ _ => False) w2).drew.drew.drew.drew.alloc _
 generalize (w2.drew.drew).drew.drew.alloc (.cells cs 5) = w3 at *
 have hb3:=f3.bk_some hb id
 have hw3 : wr w3 x = true:=by rw [f3.wr (bk_lt hb) id]; exact hw
 have hsl : sliceV 1 (.slice (some ⟨x + 1, 0, none⟩) n cs.size) none (some (.int .i64 0)) = some (.slice (some ⟨x + 1, 0, none⟩) 0 cs.size):=by
  have hc : cs.size ≠ 0:=by omega
  simp [sliceV, highV, lowV, boundV, hc]
  rfl
 simp [hb3, hsl, hb]
 have hc : Run (cpyM 1 (.slice (some ⟨x + 1, 0, none⟩) 0 cs.size) (.slice none 0 0)) w3 λ r w4 => w4 = w3:=by
  refine ⟨.int .i64 0, w3, ?_, rfl⟩
  unfold cpyM
  simp [lenN, firstN, stN]
  try rfl
 refine hc.mono ?_
 rintro r w4 rfl
 simp [hb3, hw3]
 have fs : Fr (λ c => c = x) w4 (sto w4 x 1 [.slice (some ⟨x + 1, 0, none⟩) 0 cs.size]):=(Fr.refl (λ c => c = x) w4).sto (.inl rfl) _ _
 refine q x (x + 1) cs.size _ ⟨?_, by simpa using hw3, by omega, by simp, cs, ?_, rfl, by simp⟩ hle (by omega) (by omega) ?_
 ·rw [bk_sto_eq, hb3]; rfl
 ·rw [fs.block (x + 1) (Array.getElem?_eq_some_iff.1 hh).1 (by omega)]; exact hh
 ·exact (f.trans f3 λ _ _ => id).new fs λ c hc => by omega
theorem byteV_all (l : List UInt8) : (l.map λ b => Value.int .u8 (b.toNat : Int)).all isCell = true:=by simp [List.all_eq_true]
theorem bldWrite_run (h : Bld w x g cap l) (s : ByteArray) (hroom : l.length + s.size <= cap) : Run (F.strings_Builder_WriteString (PtrB x) (.string s)) w λ _ w' => Bld w' x g cap (l ++ s.data.toList) /\ Fr (λ c => c = x ∨ c = g) w w':=by
 unfold F.strings_Builder_WriteString
 simp only [Run_bind]
 have hb:=h.hb
 refine bldUsed_run hb ?_
 obtain ⟨cs, c1, c2, c3⟩:=h.buf
 have hne:=h.ne
 simp [hb]
 have happ : Run (appM 5 1 1 #[.int .u8 0] (.slice (some ⟨g, 0, none⟩) l.length cap) (.string s)) w λ r w1 => r = .slice (some ⟨g, 0, none⟩) (l ++ s.data.toList).length cap /\ bk w1 x = bk w x /\ wr w1 x = wr w x /\ Fr (λ c => c = g) w w1 /\
   ∃ cs' : Array Value, w1.heap[g]? = some (.cells cs' 5 (0, 0)) /\ cs'.size = cap /\ cs'.toList.take (l ++ s.data.toList).length = (l ++ s.data.toList).map λ b => Value.int .u8 b.toNat:=by
  have hlen : (l ++ s.data.toList).length = l.length + s.size:=by rw [List.length_append]; rfl
  have hext : s.extract 0 s.size = s:=by apply ba_ext0; simp
  have hnew : firstN w 1 s.size (.string s) = some (s.data.toList.map λ b => Value.int .u8 b.toNat):=by
   simp only [firstN, hext]
   simp
  have hcl : cs.toList.length = cap:=(Array.length_toList (xs:=cs)).trans c2
  have hsl : s.data.toList.length = s.size:=rfl
  by_cases he : s.data.toList = []
  ·refine ⟨_, w, ?_, rfl, rfl, rfl, Fr.refl _ _, cs, c1, c2, by rw [he, List.append_nil]; exact c3⟩
   unfold appM
   simp only [lenN]
   rw [if_pos hroom, hnew]
   have h0 : s.size = 0:=by
    have : s.data.toList.length = s.size:=rfl
    rw [he] at this
    exact this.symm
   simp [he, stN, h0]
  ·have hbg : bk w g = some cs.toList:=by unfold bk; rw [c1]
   have hwg : wr w g = true:=by unfold wr; rw [c1]; simp
   have hst : stN (Addr.add ⟨g, 0, none⟩ (l.length * 1)) (s.data.toList.map λ b => Value.int .u8 b.toNat) w = some (sto w g l.length (s.data.toList.map λ b => Value.int .u8 b.toNat)):=by
    simp only [Addr.add_lit, stN, Nat.zero_add, Nat.mul_one]
    rw [if_neg (by simpa using he)]
    simp only [hbg]
    have hc : l.length + (s.data.toList.map λ b => Value.int .u8 (b.toNat : Int)).length <= cs.toList.length:=by rw [List.length_map]; omega
    rw [if_pos ⟨⟨hc, byteV_all _⟩, hwg⟩]
   refine ⟨_, sto w g l.length (s.data.toList.map λ b => Value.int .u8 b.toNat), ?_, rfl, bk_sto_ne hne _ _, wr_sto _ _ _ _ _, (Fr.refl (λ c => c = g) w).sto (.inl rfl) _ _, (setL cs.toList l.length (s.data.toList.map λ b => Value.int .u8 b.toNat)).toArray, ?_, ?_, ?_⟩
   ·unfold appM
    simp only [lenN]
    rw [if_pos hroom, hnew]
    simp only [hst, hlen]
   ·simp only [sto, Array.getElem?_modify, c1, if_true]
    rfl
   ·rw [List.size_toArray, length_setL, Array.length_toList, c2]
   ·have:=drop_take_setL (l:=cs.toList) (o:=0) (p:=l.length) (n:=l.length) (vs:=s.data.toList.map λ b => Value.int .u8 b.toNat) (by rw [List.length_map]; omega) (by omega)
    simp only [List.drop_zero, List.length_map] at this
    rw [List.toList_toArray, List.length_append, this, c3, List.map_append]
 refine happ.mono ?_
 rintro _ w1 ⟨rfl, e1, e2, f1, hbuf⟩
 rw [hb] at e1
 have hw1 : wr w1 x = true:=by rw [e2]; exact h.hw
 simp [e1, hw1]
 have fs : Fr (λ c => c = x) w1 (sto w1 x 1 [.slice (some ⟨g, 0, none⟩) (l.length + s.size) cap]):=(Fr.refl (λ c => c = x) w1).sto (.inl rfl) _ _
 obtain ⟨cs', d1, d2, d3⟩:=hbuf
 have hlen : (l ++ s.data.toList).length = l.length + s.size:=by rw [List.length_append]; rfl
 refine ⟨⟨?_, by simpa using hw1, hne, by rw [hlen]; exact hroom, cs', by rw [fs.block g (Array.getElem?_eq_some_iff.1 d1).1 (Ne.symm hne)]; exact d1, d2, d3⟩, (f1.mono λ c hc => Or.inr hc).trans fs λ c _ hc => .inl hc⟩
 rw [bk_sto_eq, e1, hlen]
 rfl
theorem bldString_run (h : Bld w x g cap l) (h0 : l ≠ []) (h63 : l.length <= 281474976710656) : Run (F.strings_Builder_String (PtrB x)) w λ r w' => r = .string ⟨l.toArray⟩ /\ Fr (λ c => c = x ∨ c = g) w w':=by
 unfold F.strings_Builder_String
 have hb:=h.hb
 obtain ⟨cs, c1, c2, c3⟩:=h.buf
 have hne:=h.ne
 have hle:=h.le
 have hl0 : l.length ≠ 0:=by simpa using h0
 have hcap : cap ≠ 0:=by omega
 simp [hb, sdV, hcap]
 have hsh : w.drew.shape? g = some (5, cap):=by
  unfold World.shape?
  have : w.drew.heap[g]? = some (.cells cs 5 (0, 0)):=c1
  rw [this]
  simp [c2]
 have hcell : ∀ j y, l[j]? = some y -> w.drew.cell? ((⟨g, 0, none⟩ : Addr).add j) = some (.int .u8 y.toNat):=by
  intro j y hy
  have hj:=(List.getElem?_eq_some_iff.1 hy).1
  have h1 : (cs.toList.take l.length)[j]? = some (.int .u8 y.toNat):=by rw [c3, List.getElem?_map, hy]; rfl
  rw [List.getElem?_take_of_lt hj] at h1
  have h2 : cs[j]? = some (.int .u8 y.toNat):=by rw [<- Array.getElem?_toList]; exact h1
  have h3 : w.drew.heap[g]? = some (.cells cs 5 (0, 0)):=c1
  unfold World.cell?
  simp only [Addr.add_lit, h3, Nat.zero_add]
  exact h2
 have hr:=Lib.run_unsafeString_row (P:=Tryz.prog) (w:=w.drew) 182 3 0 5 bldPtrT u8C g cap hsh l h0 hle (by omega) hcell
 have hrun : Run (usM Tryz.prog [182, 3] (.pointer (some ⟨g, 0, none⟩)) (.int .i64 l.length)) w.drew λ r w1 => r = .string ⟨l.toArray⟩ /\ w1 = w.drew.freeze ⟨g, 0, none⟩ l.length:=by
  have e : usM Tryz.prog [182, 3] (.pointer (some ⟨g, 0, none⟩)) (.int .i64 l.length) w.drew = some (.string ⟨l.toArray⟩, w.drew.freeze ⟨g, 0, none⟩ l.length):=by
   unfold usM
   simp only [hr]
  exact ⟨_, _, e, rfl, rfl⟩
 refine hrun.mono ?_
 rintro _ w1 ⟨rfl, rfl⟩
 simp [hb]
 unfold World.freeze
 rw [if_neg hl0]
 refine ⟨rfl, rfl, rfl, by simp, λ b hb hf => ?_⟩
 simp only [Array.getElem?_modify]
 rw [if_neg (by omega)]
 rfl
end
def joinL (xs : List ByteArray) (sep : ByteArray) : List UInt8:=match xs with
 | [] => []
 | x :: r => x.data.toList ++ (r.map λ y => sep.data.toList ++ y.data.toList).flatten
theorem wrap_succ' {n : Nat} (h : n + 1 < 9223372036854775808) : IntKind.i64.wrap ((n : Int) + 1) = ((n + 1 : Nat) : Int):=by simp [IntKind.wrap, IntKind.bits, IntKind.signed]; omega
theorem quo_big {k : Nat} (h1 : 1 <= k) (h2 : k <= 16777216) : ∃ q, intBin .quo .i64 9223372036854775807 (k : Int) = some (.int .i64 q) /\ 1048576 <= q:=by
 have hk : ¬ (k : Int) = 0:=by omega
 have hd : (9223372036854775807 : Int).tdiv k = ((9223372036854775807 / k : Nat) : Int):=by
  rw [show (9223372036854775807 : Int) = ((9223372036854775807 : Nat) : Int) from rfl, Int.ofNat_tdiv]
 have hb : 9223372036854775807 / 16777216 <= 9223372036854775807 / k:=Nat.div_le_div_left h2 h1
 have hb2 : 9223372036854775807 / k <= 9223372036854775807:=Nat.div_le_self _ _
 refine ⟨((9223372036854775807 / k : Nat) : Int), ?_, by omega⟩
 simp only [intBin]
 rw [if_neg hk, hd]
 congr 2
 generalize 9223372036854775807 / k = z at *
 simp [IntKind.wrap, IntKind.bits, IntKind.signed]; omega
def accL (x0 sep : ByteArray) (l : List ByteArray) : List UInt8:=x0.data.toList ++ (l.map λ y => sep.data.toList ++ y.data.toList).flatten
theorem acc_snoc (x0 sep : ByteArray) (l : List ByteArray) (y : ByteArray) : accL x0 sep (l ++ [y]) = accL x0 sep l ++ (sep.data.toList ++ y.data.toList):=by simp [accL]
theorem acc_full (x0 sep : ByteArray) : ∀ l : List ByteArray, (accL x0 sep l).length = x0.size + l.length * sep.size + (l.map (·.size)).sum
 | [] => by simp [accL]
 | y :: l => by
  have ih:=acc_full x0 sep l
  have hss : sep.data.toList.length = sep.size:=rfl
  have hys : y.data.toList.length = y.size:=rfl
  simp only [accL, List.length_append, List.map_cons, List.flatten_cons, List.sum_cons, List.length_cons, hss, hys, Nat.add_mul] at ih ⊢
  omega
theorem sum_take_le : ∀ (l : List ByteArray) (i : Nat), ((l.take i).map (·.size)).sum <= (l.map (·.size)).sum
 | [], _ => by simp
 | y :: l, 0 => by simp
 | y :: l, i + 1 => by have:=sum_take_le l i; simp only [List.take_succ_cons, List.map_cons, List.sum_cons]; omega
theorem acc_len (x0 sep : ByteArray) {l : List ByteArray} {i : Nat} : (accL x0 sep (l.take i)).length <= x0.size + l.length * sep.size + (l.map (·.size)).sum:=by
 rw [acc_full]
 have h1:=sum_take_le l i
 have h2 : (l.take i).length * sep.size <= l.length * sep.size:=Nat.mul_le_mul_right _ (List.length_take_le' i l)
 omega
theorem join2_run {w : World} {v : Value} {xs : List ByteArray} {sep : ByteArray} (hv : Sl 1 w v (xs.map λ x => [.string x])) (h1 : 1 <= sep.size) (h2 : sep.size <= 1024) (hx : (xs.map (·.size)).sum <= 140737488355328) (hl : xs.length <= 16777216) :
  Run (F.strings_Join v (.string sep)) w λ r w' => r = .string ⟨(joinL xs sep).toArray⟩ /\ Fr (λ _ => False) w w':=by
 unfold F.strings_Join
 have hlen:=hv.lenL
 rw [List.length_map] at hlen
 match xs, hv, hx, hl, hlen with
 | [], hv, hx, hl, hlen =>
  simp at hlen
  simp [hlen, joinL]
  exact Fr.refl _ _
 | [x], hv, hx, hl, hlen =>
  simp at hlen
  obtain ⟨q, q1, q2⟩:=hv.rd1 (i:=0) (y:=.string x) rfl .i64
  have q1' : idxA 1 v (.int .i64 0) = some q:=q1
  simp [hlen, q1', q2, joinL]
  exact Fr.refl _ _
 | x0 :: x1 :: r, hv, hx, hl, hlen =>
  obtain ⟨m, hm⟩ : ∃ m : Nat, (x0 :: x1 :: r).length = m + 2:=⟨r.length, rfl⟩
  generalize hxs : x0 :: x1 :: r = xs at *
  rw [hm] at hlen
  have e0 : ¬ ((m + 2 : Nat) : Int) = 0:=by omega
  have e1 : ¬ ((m + 2 : Nat) : Int) = 1:=by omega
  have e2 : IntKind.i64.wrap (((m + 2 : Nat) : Int) - 1) = ((m + 1 : Nat) : Int):=by simp [IntKind.wrap, IntKind.bits, IntKind.signed]; omega
  have hpos : (0 : Int) < sep.size:=by omega
  obtain ⟨qq, hq, hqg⟩:=quo_big (k:=m + 1) (by omega) (by omega)
  have hge : ¬ (sep.size : Int) >= qq:=by omega
  have hmul : sep.size * (m + 1) <= 1024 * 16777216:=Nat.mul_le_mul h2 (by omega)
  have e3 : IntKind.i64.wrap ((sep.size : Int) * ((m + 1 : Nat) : Int)) = ((sep.size * (m + 1) : Nat) : Int):=by
   rw [<- Int.natCast_mul]
   generalize sep.size * (m + 1) = z at *
   simp [IntKind.wrap, IntKind.bits, IntKind.signed]; omega
  have e4 : IntKind.i64.wrap (0 + ((sep.size * (m + 1) : Nat) : Int)) = ((sep.size * (m + 1) : Nat) : Int):=by
   generalize sep.size * (m + 1) = z at *
   simp [IntKind.wrap, IntKind.bits, IntKind.signed]; omega
  simp only [hlen, Run_bindO_some, binV_int, intBin_eql, e0, e1, decide_false, Run_condM_false, Run_bind, lenS, intBin_gtr, hpos, decide_true, Run_condM_true, intBin_sub, e2, hq, intBin_geq, hge, Run_ret, outK_norm, intBin_mul, e3, intBin_add, e4, getL_zero]
  obtain ⟨base, hbase⟩ : ∃ base, base = sep.size * (m + 1):=⟨_, rfl⟩
  rw [<- hbase] at hmul ⊢
  have hsum : ∀ i, ((xs.take i).map (·.size)).sum <= 140737488355328:=λ i => Nat.le_trans (sum_take_le xs i) hx
  refine Run_for xs.length (λ i l w' => l = [.int .i64 ((base + ((xs.take i).map (·.size)).sum : Nat) : Int), .int .i64 i] /\ w' = w) ⟨by simp, rfl⟩ ?_ ?_
  ·intro i l w' hi hI
   obtain ⟨hl1, hl2⟩:=hI
   subst hl1
   subst hl2
   have ei : xs[i]? = some xs[i]:=List.getElem?_eq_getElem hi
   have et : xs.take (i + 1) = xs.take i ++ [xs[i]]:=by rw [List.take_add_one, ei]; rfl
   have hxi : xs[i].size <= 140737488355328:=by have:=hsum (i + 1); rw [et, List.map_append, List.sum_append, List.map_singleton, List.sum_singleton] at this; omega
   rw [et]
   generalize xs[i] = y at ei hxi
   have hs:=hsum i
   obtain ⟨p, p1, p2⟩:=hv.rd1 (i:=i) (y:=.string y) (by simp [ei]) .i64
   have hi' : (i : Int) < ((m + 2 : Nat) : Int):=by omega
   have wi:=wrap_succ' (n:=i) (by omega)
   rw [List.map_append, List.sum_append, List.map_singleton, List.sum_singleton]
   generalize ((xs.take i).map (·.size)).sum = S at *
   have w1 : IntKind.i64.wrap (9223372036854775807 - ((base + S : Nat) : Int)) = 9223372036854775807 - ((base + S : Nat) : Int):=by simp [IntKind.wrap, IntKind.bits, IntKind.signed]; omega
   have w2 : IntKind.i64.wrap (((base + S : Nat) : Int) + (y.size : Int)) = ((base + (S + y.size) : Nat) : Int):=by simp [IntKind.wrap, IntKind.bits, IntKind.signed]; omega
   have hng : ¬ (y.size : Int) > 9223372036854775807 - ((base + S : Nat) : Int):=by omega
   simp only [getL_zero, getL_succ, binV_int, intBin_lss, hi', decide_true, Run_bindO_some, Run_condM_true, Run_bind, p1, Run_rdM, p2, Option.some.injEq, exists_eq_left', intBin_sub, w1, intBin_gtr, hng, decide_false, Run_condM_false, Run_ret, outK_norm, intBin_add, w2, wi]
   exact ⟨trivial, trivial⟩
  ·rintro l w' ⟨rfl, rfl⟩
   rw [List.take_length]
   have hs:=hsum xs.length
   rw [List.take_length] at hs
   have hni : ¬ (xs.length : Int) < ((m + 2 : Nat) : Int):=by omega
   simp only [getL_zero, getL_succ, binV_int, intBin_lss, hni, decide_false, Run_bindO_some, Run_condM_false, Run_ret, outK_exit]
   obtain ⟨N, hN⟩ : ∃ N, N = base + (xs.map (·.size)).sum:=⟨_, rfl⟩
   rw [<- hN]
   have hb1 : 1 <= base:=by
    rw [hbase]
    exact Nat.mul_le_mul h1 (show 1 <= m + 1 by omega)
   simp only [show Nat.beq 1 1 = true from rfl, cond_true]
   have hm1 : xs.length - 1 = m + 1:=by omega
   have hx0 : xs[0]? = some x0:=by rw [<- hxs]; rfl
   have hN1 : 1 <= N:=by omega
   have hN2 : N <= 281474976710656:=by omega
   refine bldGrow_run hN1 hN2 λ x g cap w1 hB hle hxw hgw f1 => ?_
   obtain ⟨p, p1, p2⟩:=(hv.fr0 f1).rd1 (i:=0) (y:=.string x0) (by simp [hx0]) .i64
   have p1' : idxA 1 v (.int .i64 0) = some p:=p1
   simp only [p1', Run_bindO_some, Run_bind, Run_rdM, p2, Option.some.injEq, exists_eq_left']
   have hS : (xs.map (·.size)).sum = x0.size + ((x1 :: r).map (·.size)).sum:=by rw [<- hxs]; simp
   have hrl : (x1 :: r).length = m + 1:=by rw [<- hxs] at hm; simpa using hm
   have hb0 : base = (m + 1) * sep.size:=by rw [hbase]; exact Nat.mul_comm _ _
   have hacc:=λ i => acc_len x0 sep (l:=x1 :: r) (i:=i)
   rw [hrl] at hacc
   have hd : xs.drop 1 = x1 :: r:=by rw [<- hxs]; rfl
   refine (bldWrite_run hB x0 (by simp only [List.length_nil]; omega)).mono ?_
   rintro _ w2 ⟨hB2, f2⟩
   have f2' : Fr (λ _ => False) w' w2:=f1.new f2 λ c hc => by omega
   obtain ⟨u, u1, u2, _⟩:=(hv.fr0 f2').drop (n:=1) (by rw [List.length_map]; omega) .i64
   have u1' : sliceV 1 v (some (.int .i64 1)) none = some u:=u1
   have u2' : Sl 1 w2 u ((x1 :: r).map λ x => [.string x]):=by
    rw [<- List.map_drop, hd] at u2
    exact u2
   have ul:=u2'.lenL
   rw [List.length_map, hrl] at ul
   simp only [u1', ul, Run_bindO_some, Run_bind]
   have z1:=f1.size
   have z2:=f2.size
   refine Run_for (m + 1) (λ i l w3 => l = [.int .i64 i] /\ Bld w3 x g cap (accL x0 sep ((x1 :: r).take i)) /\ Fr (λ c => c = x ∨ c = g) w2 w3) ⟨rfl, by simpa [accL] using hB2, Fr.refl _ _⟩ ?_ ?_
   ·rintro i l w3 hi ⟨rfl, hB3, f3⟩
    have hil : i < (x1 :: r).length:=by omega
    have ei : (x1 :: r)[i]? = some (x1 :: r)[i]:=List.getElem?_eq_getElem hil
    have et : (x1 :: r).take (i + 1) = (x1 :: r).take i ++ [(x1 :: r)[i]]:=by rw [List.take_add_one, ei]; rfl
    have hai:=hacc (i + 1)
    rw [et] at hai ⊢
    generalize (x1 :: r)[i] = y at *
    have f23 : Fr (λ _ => False) w' w3:=f2'.new f3 λ c hc => by omega
    obtain ⟨u', e1, e2, _⟩:=(hv.fr0 f23).drop (n:=1) (by rw [List.length_map]; omega) .i64
    have huu : u' = u:=Option.some.inj (e1.symm.trans u1)
    subst huu
    rw [<- List.map_drop, hd] at e2
    obtain ⟨p, p1, p2⟩:=e2.rd1 (i:=i) (y:=.string y) (by rw [List.getElem?_map, ei]; rfl) .i64
    have hi' : (i : Int) < ((m + 1 : Nat) : Int):=by omega
    have wi:=wrap_succ' (n:=i) (by omega)
    rw [acc_snoc] at hai ⊢
    rw [List.length_append, List.length_append] at hai
    have hss : sep.data.toList.length = sep.size:=rfl
    have hys : y.data.toList.length = y.size:=rfl
    simp only [getL_zero, getL_succ, binV_int, intBin_lss, hi', decide_true, Run_bindO_some, Run_condM_true, Run_bind, p1, Run_rdM, p2, Option.some.injEq, exists_eq_left']
    refine (bldWrite_run hB3 sep (by omega)).mono ?_
    rintro _ w4 ⟨hB4, f4⟩
    refine (bldWrite_run hB4 y (by rw [List.length_append]; omega)).mono ?_
    rintro _ w5 ⟨hB5, f5⟩
    simp only [intBin_add, wi, Run_bindO_some, Run_ret]
    refine ⟨trivial, ?_, (f3.trans f4 λ _ _ h => h).trans f5 λ _ _ h => h⟩
    rw [<- List.append_assoc]
    exact hB5
   ·rintro l w3 ⟨rfl, hB3, f3⟩
    have hni : ¬ ((m + 1 : Nat) : Int) < ((m + 1 : Nat) : Int):=by omega
    rw [List.take_of_length_le (by omega)] at hB3
    have f23 : Fr (λ _ => False) w' w3:=f2'.new f3 λ c hc => by omega
    simp only [getL_zero, getL_succ, binV_int, intBin_lss, hni, decide_false, Run_bindO_some, Run_condM_false, Run_ret, outK_exit, show Nat.beq 3 3 = true from rfl, cond_true, Run_bind]
    have hfull:=acc_full x0 sep (x1 :: r)
    rw [hrl] at hfull
    have hne : accL x0 sep (x1 :: r) ≠ []:=λ he => by
     rw [he, List.length_nil] at hfull
     omega
    refine (bldString_run hB3 hne (by omega)).mono ?_
    rintro _ w4 ⟨rfl, f4⟩
    refine ⟨?_, f23.new f4 λ c hc => by omega⟩
    rw [<- hxs]
    rfl
end Go.Proofs.YthlpfhjcdedhgaaGreatDoor
namespace Go.Lift
set_option linter.unusedSectionVars false
set_option linter.unusedSimpArgs false
section
variable {K V : Type} [DecidableEq K] {P : Program} {kt : TypeId} {sh : EqSh} {kv : K -> Value} {vv : V -> Value} {w w' : World}
structure MapAt (kv : K -> Value) (vv : V -> Value) (w : World) (b : Nat) (l : List (K × V)) : Prop where
 ex : ∃ (es : List MapEntry) (c : Nat), w.heap[b]? = some (.map es.toArray c) /\ es.map (λ e => (e.key, e.val)) = l.map (λ p => (kv p.1, vv p.2)) /\ (l.map (·.1)).Nodup /\ (∀ e ∈ es, e.born < c) /\ (es.map (·.born)).Nodup
theorem MapAt.lt {b : Nat} {l : List (K × V)} (h : MapAt kv vv w b l) : b < w.heap.size:=by
 obtain ⟨es, c, h, _⟩:=h
 exact (Array.getElem?_eq_some_iff.1 h).1
theorem MapAt.fr {F : Nat -> Prop} {b : Nat} {l : List (K × V)} (h : MapAt kv vv w b l) (f : Fr F w w') (hd : ¬ F b) : MapAt kv vv w' b l:=by
 have hl:=h.lt
 obtain ⟨es, c, h1, h2⟩:=h
 exact ⟨es, c, by rw [f.block b hl hd]; exact h1, h2⟩
def getK (a : K) : List (K × V) -> Option V
 | [] => none
 | p :: l => if a = p.1 then some p.2 else getK a l
structure ItAt (kv : K -> Value) (vv : V -> Value) (w : World) (r b : Nat) (l : List (K × V)) (js : List Nat) : Prop where
 ne : r ≠ b
 nd : js.Nodup
 lt : ∀ j ∈ js, j < l.length
 ex : ∃ (es : List MapEntry) (c : Nat), w.heap[b]? = some (.map es.toArray c) /\ w.heap[r]? = some (.mapIter (some b) c (js.filterMap λ j => es[j]?.map (·.born)).toArray c) /\ es.map (λ e => (e.key, e.val)) = l.map (λ p => (kv p.1, vv p.2)) /\ (l.map (·.1)).Nodup /\ (∀ e ∈ es, e.born < c) /\ (es.map (·.born)).Nodup
theorem ItAt.map {r b : Nat} {l : List (K × V)} {js : List Nat} (h : ItAt kv vv w r b l js) : MapAt kv vv w b l:=by
 obtain ⟨_, _, _, es, c, h1, _, h2, h3, h4, h5⟩:=h
 exact ⟨es, c, h1, h2, h3, h4, h5⟩
theorem ItAt.fr {F : Nat -> Prop} {r b : Nat} {l : List (K × V)} {js : List Nat} (h : ItAt kv vv w r b l js) (f : Fr F w w') (hb : ¬ F b) (hr : ¬ F r) : ItAt kv vv w' r b l js:=by
 obtain ⟨ne, nd, lt, es, c, h1, h2, h3⟩:=h
 exact ⟨ne, nd, lt, es, c, by rw [f.block b (Array.getElem?_eq_some_iff.1 h1).1 hb]; exact h1, by rw [f.block r (Array.getElem?_eq_some_iff.1 h2).1 hr]; exact h2, h3⟩
theorem nodup_inj : ∀ {l : List Nat} {i j x : Nat}, l.Nodup -> l[i]? = some x -> l[j]? = some x -> i = j
 | [], i, j, x, _, h, _ => by simp at h
 | y :: l, 0, 0, x, _, _, _ => rfl
 | y :: l, 0, j + 1, x, hn, h, h' => by
  simp only [List.getElem?_cons_zero, Option.some.injEq] at h
  simp only [List.getElem?_cons_succ] at h'
  subst h
  exact absurd (List.mem_of_getElem? h') (List.nodup_cons.1 hn).1
 | y :: l, i + 1, 0, x, hn, h, h' => by
  simp only [List.getElem?_cons_zero, Option.some.injEq] at h'
  simp only [List.getElem?_cons_succ] at h
  subst h'
  exact absurd (List.mem_of_getElem? h) (List.nodup_cons.1 hn).1
 | y :: l, i + 1, j + 1, x, hn, h, h' => by
  simp only [List.getElem?_cons_succ] at h h'
  rw [nodup_inj (List.nodup_cons.1 hn).2 h h']
theorem ItAt.entry {r b : Nat} {l : List (K × V)} {js : List Nat} {j : Nat} {p : K × V} (h : ItAt kv vv w r b l (js ++ [j])) (hp : l[j]? = some p) : entV (.pointer (some ⟨r, 0, none⟩)) w = some (.tuple #[kv p.1, vv p.2]):=by
 obtain ⟨ne, nd, lt, es, c, h1, h2, h3, h4, h5, h6⟩:=h
 have hlen : es.length = l.length:=by simpa using congrArg List.length h3
 have hjl:=(List.getElem?_eq_some_iff.1 hp).1
 have hej : es[j]? = some (es[j]'(by omega)):=List.getElem?_eq_getElem _
 generalize es[j]'(by omega) = e at hej
 have hkv:=congrArg (λ z => z[j]?) h3
 simp only [List.getElem?_map, hej, hp, Option.map_some, Option.some.injEq, Prod.mk.injEq] at hkv
 unfold entV
 simp only [h2]
 have hback : (js ++ [j]).filterMap (λ j => es[j]?.map (·.born)) = js.filterMap (λ j => es[j]?.map (·.born)) ++ [e.born]:=by
  simp [List.filterMap_append, hej]
 rw [hback]
 have hb : (js.filterMap (λ j => es[j]?.map (·.born)) ++ [e.born]).toArray.back? = some e.born:=by simp
 simp only [hb, h1]
 rw [if_neg (by simp)]
 have hfind : es.toArray.find? (λ x => x.born == e.born) = some e:=by
  rw [List.find?_toArray]
  rw [List.find?_eq_some_iff_getElem]
  refine ⟨by simp, j, by omega, ?_, ?_⟩
  ·have:=(List.getElem?_eq_some_iff.1 hej).2
   exact this
  ·intro i hi
   simp only [Bool.not_eq_true', beq_eq_false_iff_ne]
   intro heq
   have a1 : (es.map (·.born))[i]? = some e.born:=by
    rw [List.getElem?_map, List.getElem?_eq_getElem (by omega)]
    simp [heq]
   have a2 : (es.map (·.born))[j]? = some e.born:=by simp [hej]
   have:=nodup_inj h6 a1 a2
   omega
 rw [hfind]
 simp only [hkv.1, hkv.2]
structure HalfMap (kv : K -> Value) (vv : V -> Value) (w : World) (b : Nat) (l : List (K × V)) (a : K) (c : Nat) : Prop where
 ex : ∃ (es : List MapEntry) (z : Value), w.heap[b]? = some (.map (es ++ [({ key:=kv a, val:=z, born:=c } : MapEntry)]).toArray (c + 1)) /\ es.map (λ e => (e.key, e.val)) = l.map (λ p => (kv p.1, vv p.2)) /\ (l.map (·.1)).Nodup /\ getK a l = none /\ (∀ e ∈ es, e.born < c) /\ (es.map (·.born)).Nodup
theorem HalfMap.fr {F : Nat -> Prop} {b c : Nat} {l : List (K × V)} {a : K} (h : HalfMap kv vv w b l a c) (f : Fr F w w') (hd : ¬ F b) : HalfMap kv vv w' b l a c:=by
 obtain ⟨es, z, h1, h2⟩:=h
 exact ⟨es, z, by rw [f.block b (Array.getElem?_eq_some_iff.1 h1).1 hd]; exact h1, h2⟩
end
end Go.Lift
namespace Go.Proofs.YthlpfhjcdedhgaaGreatDoor
open Go.Lift
set_option linter.unusedSimpArgs false
set_option linter.unusedVariables false
set_option maxHeartbeats 4000000
theorem u32W {n : Nat} (h : n < 4294967296) : IntKind.u32.wrap (n : Int) = n:=by simp [IntKind.wrap, IntKind.bits, IntKind.signed]; omega
theorem i64W {n : Nat} (h : n < 9223372036854775808) : IntKind.i64.wrap (n : Int) = n:=by simp [IntKind.wrap, IntKind.bits, IntKind.signed]; omega
theorem u64W {n : Nat} (h : n < 18446744073709551616) : IntKind.u64.wrap (n : Int) = n:=by simp [IntKind.wrap, IntKind.bits, IntKind.signed]; omega
theorem u8W {n : Nat} (h : n < 256) : IntKind.u8.wrap (n : Int) = n:=by simp [IntKind.wrap, IntKind.bits, IntKind.signed]; omega
theorem bv_xor {n a b : Nat} (ha : a < 2 ^ n) (hb : b < 2 ^ n) : (BitVec.ofInt n (a : Int) ^^^ BitVec.ofInt n (b : Int)).toNat = a ^^^ b:=by
 rw [BitVec.toNat_xor, BitVec.ofInt_natCast, BitVec.ofInt_natCast, BitVec.toNat_ofNat, BitVec.toNat_ofNat, Nat.mod_eq_of_lt ha, Nat.mod_eq_of_lt hb]
theorem bv_and {n a b : Nat} (ha : a < 2 ^ n) (hb : b < 2 ^ n) : (BitVec.ofInt n (a : Int) &&& BitVec.ofInt n (b : Int)).toNat = a &&& b:=by
 rw [BitVec.toNat_and, BitVec.ofInt_natCast, BitVec.ofInt_natCast, BitVec.toNat_ofNat, BitVec.toNat_ofNat, Nat.mod_eq_of_lt ha, Nat.mod_eq_of_lt hb]
theorem binV_xor32 {a b : Nat} (ha : a < 4294967296) (hb : b < 4294967296) : intBin .xor .u32 a b = some (.int .u32 ((a ^^^ b : Nat) : Int)):=by
 have h:=Nat.xor_lt_two_pow (n:=32) (show a < 2 ^ 32 from ha) (show b < 2 ^ 32 from hb)
 simp only [intBin]
 rw [bv_xor (n:=IntKind.u32.bits) (show a < 2 ^ 32 from ha) (show b < 2 ^ 32 from hb), u32W h]
theorem binV_and15 {a : Nat} (ha : a < 4294967296) : intBin .and .u32 a 15 = some (.int .u32 ((a % 16 : Nat) : Int)):=by
 have h15 : ((15 : Int)) = ((15 : Nat) : Int):=rfl
 rw [h15]
 simp only [intBin]
 rw [bv_and (n:=IntKind.u32.bits) (show a < 2 ^ 32 from ha) (show 15 < 2 ^ 32 by decide), show (15 : Nat) = 2 ^ 4 - 1 from rfl, Nat.and_two_pow_sub_one_eq_mod, u32W (by omega)]
theorem shV_four {a : Nat} : shV .shr (.int .u32 a) (.int .u64 4) = some (.int .u32 ((a / 16 : Nat) : Int)):=by
 have h : ¬ ((4 : Int) < 0):=by omega
 simp only [shV, h, if_false]
 rw [show (4 : Int).toNat = 4 from rfl, Nat.min_eq_left (by decide), Int.fdiv_eq_ediv_of_nonneg _ (by decide)]
 norm_cast
theorem rem_nat {a b : Nat} {k : IntKind} (hb : b ≠ 0) : intBin .rem k (a : Int) (b : Int) = some (.int k ((a % b : Nat) : Int)):=by
 simp only [intBin]
 rw [if_neg (by omega), Int.tmod_eq_emod_of_nonneg (by omega)]; norm_cast
theorem quo_nat {a b : Nat} {k : IntKind} (hb : b ≠ 0) (hw : k.wrap ((a / b : Nat) : Int) = ((a / b : Nat) : Int)) : intBin .quo k (a : Int) (b : Int) = some (.int k ((a / b : Nat) : Int)):=by
 simp only [intBin]
 have e : ((a : Int)).tdiv (b : Int) = ((a / b : Nat) : Int):=by rw [Int.tdiv_eq_ediv_of_nonneg (by omega)]; norm_cast
 rw [if_neg (by omega), e, hw]
def PLY : Nat:=3988292384
def st (w : Nat) : Nat:=if w % 2 = 0 then w / 2 else (w / 2) ^^^ PLY
theorem st_xor (x y : Nat) : st (x ^^^ y) = st x ^^^ st y:=by
 have h1 : (x ^^^ y) / 2 = x / 2 ^^^ y / 2:=by
  apply Nat.eq_of_testBit_eq
  intro i
  simp [Nat.testBit_div_two]
 have h2 : (x ^^^ y) % 2 = (x + y) % 2:=by
  have:=Nat.testBit_xor x y 0
  simp only [Nat.testBit_zero] at this
  rcases Nat.mod_two_eq_zero_or_one x with a | a <;> rcases Nat.mod_two_eq_zero_or_one y with b | b <;> rcases Nat.mod_two_eq_zero_or_one (x ^^^ y) with c | c <;> simp [a, b, c] at this <;> omega
 unfold st
 rw [h1, h2]
 rcases Nat.mod_two_eq_zero_or_one x with a | a <;> rcases Nat.mod_two_eq_zero_or_one y with b | b
 ·rw [if_pos (by omega), if_pos a, if_pos b]
 ·rw [if_neg (by omega), if_pos a, if_neg (by omega), Nat.xor_assoc]
 ·rw [if_neg (by omega), if_neg (by omega), if_pos b, Nat.xor_assoc, Nat.xor_assoc, Nat.xor_comm PLY]
 ·rw [if_pos (by omega), if_neg (by omega), if_neg (by omega)]
  apply Nat.eq_of_testBit_eq
  intro i
  simp only [Nat.testBit_xor]
  cases (x / 2).testBit i <;> cases (y / 2).testBit i <;> cases PLY.testBit i <;> rfl
def st4 (w : Nat) : Nat:=st (st (st (st w)))
theorem st4_xor (x y : Nat) : st4 (x ^^^ y) = st4 x ^^^ st4 y:=by unfold st4; rw [st_xor, st_xor, st_xor, st_xor]
theorem st_even (w : Nat) : st (2 * w) = w:=by
 unfold st
 rw [if_pos (by omega)]; omega
theorem st4_up (h : Nat) : st4 (16 * h) = h:=by
 unfold st4
 rw [show 16 * h = 2 * (2 * (2 * (2 * h))) by omega, st_even, st_even, st_even, st_even]
theorem split16 (w : Nat) : w = (16 * (w / 16)) ^^^ (w % 16):=by
 apply Nat.eq_of_testBit_eq
 intro i
 rw [Nat.testBit_xor, show (16 : Nat) * (w / 16) = 2 ^ 4 * (w / 2 ^ 4) by rfl, Nat.testBit_two_pow_mul, Nat.testBit_div_two_pow, show (16 : Nat) = 2 ^ 4 by rfl, Nat.testBit_mod_two_pow]
 by_cases hi : i < 4
 ·simp [hi, show ¬ 4 <= i by omega]
 ·simp [hi, show 4 <= i by omega, show i - 4 + 4 = i by omega]
def nib (l : Nat) : Nat:=([0, 498536548, 997073096, 651767980, 1994146192, 1802195444, 1303535960, 1342533948, 3988292384, 4027552580, 3604390888, 3412177804, 2607071920, 2262029012, 2685067896, 3183342108][l]?).getD 0
theorem nib_st : ∀ l, l < 16 -> st4 l = nib l:=by decide +kernel
theorem st4_eq (w : Nat) : st4 w = nib (w % 16) ^^^ (w / 16):=by
 conv => lhs; rw [split16 w]
 rw [st4_xor, st4_up, nib_st _ (Nat.mod_lt _ (by decide)), Nat.xor_comm]
theorem nib_lt : ∀ l, l < 16 -> nib l < 4294967296:=by decide +kernel
theorem st_lt {w : Nat} (h : w < 4294967296) : st w < 4294967296:=by
 unfold st
 split
 ·omega
 ·exact Nat.xor_lt_two_pow (n:=32) (by omega) (by decide)
theorem st4_lt {w : Nat} (h : w < 4294967296) : st4 w < 4294967296:=st_lt (st_lt (st_lt (st_lt h)))
def byF (w : Nat) (b : UInt8) : Nat:=st4 (st4 (w ^^^ b.toNat))
theorem byF_lt {w : Nat} (h : w < 4294967296) (b : UInt8) : byF w b < 4294967296:=st4_lt (st4_lt (Nat.xor_lt_two_pow (n:=32) h (by have:=b.toNat_lt; omega)))
def runF (w : Nat) (l : List UInt8) : Nat:=l.foldl byF w
theorem runF_lt : ∀ (l : List UInt8) {w : Nat}, w < 4294967296 -> runF w l < 4294967296
 | [], w, h => h
 | b :: l, w, h => runF_lt l (byF_lt h b)
def crcF (s : ByteArray) : Nat:=runF 4294967295 s.data.toList ^^^ 4294967295
theorem crcF_lt (s : ByteArray) : crcF s < 4294967296:=Nat.xor_lt_two_pow (n:=32) (runF_lt _ (by decide)) (by decide)
theorem take_snocP {α : Type} {l : List α} {i : Nat} {e : α} (he : l[i]? = some e) : l.take (i + 1) = l.take i ++ [e]:=by rw [List.take_add_one, he]; rfl
theorem runF_snoc {w : Nat} {l : List UInt8} {i : Nat} {b : UInt8} (h : l[i]? = some b) : runF w (l.take (i + 1)) = byF (runF w (l.take i)) b:=by
 unfold runF
 rw [take_snocP h, List.foldl_append]; rfl
section
variable {w : World}
def nibV : List Value:=[.int .u32 0, .int .u32 498536548, .int .u32 997073096, .int .u32 651767980, .int .u32 1994146192, .int .u32 1802195444, .int .u32 1303535960, .int .u32 1342533948, .int .u32 3988292384, .int .u32 4027552580, .int .u32 3604390888, .int .u32 3412177804, .int .u32 2607071920, .int .u32 2262029012, .int .u32 2685067896, .int .u32 3183342108]
theorem nibV_at : ∀ l, l < 16 -> nibV[l]? = some (.int .u32 ((nib l : Nat) : Int)):=by
 intro l hl
 match l, hl with
 | 0, _ => rfl
 | 1, _ => rfl
 | 2, _ => rfl
 | 3, _ => rfl
 | 4, _ => rfl
 | 5, _ => rfl
 | 6, _ => rfl
 | 7, _ => rfl
 | 8, _ => rfl
 | 9, _ => rfl
 | 10, _ => rfl
 | 11, _ => rfl
 | 12, _ => rfl
 | 13, _ => rfl
 | 14, _ => rfl
 | 15, _ => rfl
 | n + 16, h => exact absurd h (by omega)
theorem idxS_at {s : ByteArray} {i : Nat} {b : UInt8} (h : s.data.toList[i]? = some b) : idxS (.string s) (.int .i64 i) = some (.int .u8 (b.toNat : Int)):=by
 obtain ⟨h1, h2⟩:=List.getElem?_eq_some_iff.1 h
 have hs : i < s.size:=by
  show i < s.data.size
  rw [<- Array.length_toList]; exact h1
 have hg : s[i] = b:=by rw [<- h2]; rfl
 simp [idxS, hs, hg]
theorem nib_ld (hn : bk w 1 = some nibV) {k : Nat} (hk : k < 16) : ld1 (.pointer (some (({ block:=1, off:=0 } : Addr).add k))) w = some (.int .u32 ((nib k : Nat) : Int)):=by
 have e : ({ block:=1, off:=0 } : Addr).add k = ⟨1, k, none⟩:=by simp [Addr.add]; exact λ h => h.symm
 rw [e, ld1_ptr, hn]
 exact nibV_at k hk
theorem through_run (hn : bk w 1 = some nibV) (s : ByteArray) (hs : s.size <= 4611686018427387904) {c : Nat} (hc : c < 4294967296) :
  Run (F.digest_through (.int .u32 c) (.string s)) w λ r w' => r = .int .u32 ((runF c s.data.toList : Nat) : Int) /\ w' = w:=by
 unfold F.digest_through
 simp only [Run_bind]
 have hl : s.data.toList.length = s.size:=Array.length_toList
 refine Run_for s.size (λ i L w' => L = [.int .u32 ((runF c (s.data.toList.take i) : Nat) : Int), .int .i64 i] /\ w' = w) ⟨rfl, rfl⟩ ?_ ?_
 ·rintro i L w1 hi ⟨rfl, hw⟩
  rw [hw]
  have hi' : (i : Int) < s.size:=by omega
  have ei : s.data.toList[i]? = some s.data.toList[i]:=List.getElem?_eq_getElem (by omega)
  generalize s.data.toList[i] = b at ei
  rw [runF_snoc ei]
  have hr:=runF_lt (s.data.toList.take i) hc
  generalize runF c (s.data.toList.take i) = u at hr
  have hb:=b.toNat_lt
  have hx : u ^^^ b.toNat < 4294967296:=Nat.xor_lt_two_pow (n:=32) hr (by omega)
  have wi:=wrap_succ' (n:=i) (by omega)
  have cb : IntKind.u32.wrap (b.toNat : Int) = b.toNat:=u32W (by omega)
  have e1:=st4_eq (u ^^^ b.toNat)
  have hy:=st4_lt hx
  have e2:=st4_eq (st4 (u ^^^ b.toNat))
  have n1:=nibV_at _ (Nat.mod_lt (u ^^^ b.toNat) (show 0 < 16 by decide))
  have n2:=nibV_at _ (Nat.mod_lt (st4 (u ^^^ b.toNat)) (show 0 < 16 by decide))
  have m1:=nib_lt _ (Nat.mod_lt (u ^^^ b.toNat) (show 0 < 16 by decide))
  have m2:=nib_lt _ (Nat.mod_lt (st4 (u ^^^ b.toNat)) (show 0 < 16 by decide))
  have l1 : (u ^^^ b.toNat) % 16 < 16:=Nat.mod_lt _ (by decide)
  have l2 : st4 (u ^^^ b.toNat) % 16 < 16:=Nat.mod_lt _ (by decide)
  unfold byF
  rw [e2]
  generalize hX : u ^^^ b.toNat = X at *
  have x1:=binV_xor32 (a:=nib (X % 16)) (b:=X / 16) m1 (by omega)
  rw [<- e1] at x1
  generalize hY : st4 X = Y at *
  have x2:=binV_xor32 (a:=nib (Y % 16)) (b:=Y / 16) m2 (by omega)
  have x0:=binV_xor32 (a:=u) (b:=b.toNat) hr (by omega)
  rw [hX] at x0
  have j1 : ((X % 16 : Nat) : Int) < 16:=by omega
  have j2 : ((Y % 16 : Nat) : Int) < 16:=by omega
  have a1:=binV_and15 (a:=X) hx
  have a2:=binV_and15 (a:=Y) hy
  have s1:=shV_four (a:=X)
  have s2:=shV_four (a:=Y)
  simp [-ldA_ptr, -Int.natCast_emod, -Int.natCast_ediv, hi', idxS_at ei, cb, x0, a1, idxR, l1, l2, j1, j2, nib_ld hn l1, s1, x1, a2, nib_ld hn l2, s2, x2, wi]
 ·rintro L w1 ⟨rfl, hw⟩
  rw [hw, <- hl, List.take_length]
  simp
theorem cpl32 {u : Nat} (hu : u < 4294967296) : cplV (.int .u32 u) = some (.int .u32 ((u ^^^ 4294967295 : Nat) : Int)):=by
 have h:=Nat.xor_lt_two_pow (n:=32) (show u < 2 ^ 32 from hu) (show 4294967295 < 2 ^ 32 by decide)
 rw [cplV_int]
 have e : (if IntKind.u32.signed = true then (-1 : Int) else IntKind.u32.max) = ((4294967295 : Nat) : Int):=by decide
 rw [e, bv_xor (n:=IntKind.u32.bits) (show 4294967295 < 2 ^ 32 by decide) (show u < 2 ^ 32 from hu), Nat.xor_comm, u32W h]
theorem crc_run (hn : bk w 1 = some nibV) {v : Value} {s : ByteArray} (hv : Sl 1 w v [[.string s]]) (hs : s.size <= 4611686018427387904) :
  Run (F.digest_CRC v) w λ r w' => r = .int .i64 ((crcF s : Nat) : Int) /\ w' = w:=by
 unfold F.digest_CRC
 have hlen:=hv.lenL
 simp only [List.length_singleton] at hlen
 rw [hlen]
 simp only [Run_bindO_some, Run_bind]
 refine Run_for 1 (λ i L w' => L = [.int .u32 ((if i = 0 then 4294967295 else runF 4294967295 s.data.toList : Nat) : Int), .int .i64 i] /\ w' = w) ⟨rfl, rfl⟩ ?_ ?_
 ·rintro i L w1 hi ⟨rfl, hw⟩
  rw [hw]
  obtain rfl : i = 0:=by omega
  obtain ⟨p, p1, p2⟩:=hv.rd1 (i:=0) (y:=.string s) (by simp) .i64
  have p1' : idxA 1 v (.int .i64 0) = some p:=p1
  simp [-ldA_ptr, p1', p2]
  refine (through_run hn s hs (show 4294967295 < 4294967296 by decide)).mono ?_
  rintro _ w2 ⟨rfl, hw2⟩
  rw [hw2]
  have w1 : IntKind.i64.wrap 1 = 1:=by decide
  simp [w1]
 ·rintro L w1 ⟨rfl, hw⟩
  rw [hw]
  have hr:=runF_lt s.data.toList (w:=4294967295) (by decide)
  have hc:=crcF_lt s
  have h64:=i64W (n:=crcF s) (by omega)
  simp [cpl32 hr, crcF] at h64 ⊢
  exact h64
end
def by8 (b : UInt8) : Value:=.int .u8 b.toNat
theorem bytesV_by8 : ∀ (l : List UInt8), bytesV (l.map by8) = some l
 | [] => rfl
 | b :: l => by
  have ih:=bytesV_by8 l
  show bytesV (Value.int .u8 (b.toNat : Int) :: l.map by8) = _
  unfold bytesV
  simp [ih]
theorem by8_cell (b : UInt8) : isCell (by8 b) = true:=rfl
def DIG : ByteArray:=ByteArray.mk #[48, 49, 50, 51, 52, 53, 54, 55, 56, 57, 97, 98, 99, 100, 101, 102]
def hexd (k : Nat) : UInt8:=(DIG.data.toList[k]?).getD 0
theorem idx_DIG {k : IntKind} {i : Nat} (h : i < 16) : idxS (.string DIG) (.int k i) = some (by8 (hexd i)):=by
 have hs : DIG.size = 16:=by decide +kernel
 have h' : i < DIG.size:=by omega
 have e : DIG[i] = hexd i:=by
  unfold hexd
  rw [List.getElem?_eq_getElem (show i < DIG.data.toList.length by rw [Array.length_toList]; exact h')]
  rfl
 simp [idxS, h', e, by8]
def lowD (n : Nat) : Nat -> List UInt8
 | 0 => []
 | k + 1 => hexd (n / 16 ^ k % 16) :: lowD n k
theorem lowD_len (n : Nat) : ∀ k, (lowD n k).length = k
 | 0 => rfl
 | k + 1 => by simp [lowD, lowD_len n k]
def eightL (n : Nat) : List UInt8:=lowD n 8
def eightS (n : Nat) : ByteArray:=⟨(eightL n).toArray⟩
section
variable {w w1 w2 : World}
structure OwnB (w w1 : World) (v : Value) (l : List UInt8) : Prop where
 sl : SlW 1 w1 v (l.map λ b => [by8 b])
 fresh : ∀ c, inB v c -> w.heap.size <= c /\ c < w1.heap.size
 fr : Fr (λ _ => False) w w1
theorem OwnB.nil (w : World) : OwnB w w (.slice none 0 0) []:=⟨SlW.nil _ _, λ _ h => h.elim, Fr.refl _ _⟩
theorem ownB_app {v : Value} {l : List UInt8} (h : OwnB w w1 v l) (b : UInt8) {a1 a2 : Nat} (hl : l.length <= 33554432) {K : Value -> World -> Prop} (q : ∀ r w2, OwnB w w2 r (l ++ [b]) -> K r w2) :
  Run (bslM a1 1 (Builtin.zeroCells #[(Value.int IntKind.u8 0)] 1) [(0, 1, by8 b)]) w1 λ a w2 => Run (appM a2 1 1 #[(Value.int IntKind.u8 0)] v a) w2 λ r w' => K r w':=by
 refine Run_app1 (K:=λ _ r w' => K r w') (k:=1) (y:=by8 b) rfl h.sl (by decide) rfl (by decide) rfl (by simp only [List.length_map]; omega) λ r w2 hr f2 hin w3 f3 => q r w2 ?_
 have s:=f2.size
 refine ⟨by simpa [by8] using hr, λ c hc => ?_, h.fr.new f2 λ c hc => (h.fresh c hc).1⟩
 have s0:=h.fr.size
 rcases hin c hc with hc | hc
 ·have:=h.fresh c hc; omega
 ·omega
theorem ownB_text {v : Value} {l : List UInt8} (h : Sl 1 w1 v (l.map λ b => [by8 b])) : bsR v w1 = some (.string ⟨l.toArray⟩):=by
 obtain ⟨a, c, e, hc⟩:=h.2
 have hfl : (l.map λ b => [by8 b]).flatten = l.map by8:=by
  clear h e hc
  induction l with
  | nil => rfl
  | cons b l ih => simp only [List.map_cons, List.flatten_cons, ih]; rfl
 rw [e] at h ⊢
 have hn:=ldN_sl h
 rw [hfl] at hn
 cases a with
 | none =>
  rcases hc.2 with hc' | ⟨b, o, l', h4, _⟩
  ·have : l = []:=by
    have:=hc.1
    rw [List.length_map] at this
    exact List.eq_nil_of_length_eq_zero (by omega)
   subst this; rfl
  ·cases h4
 | some ad =>
  simp only [firstN, List.length_map, Nat.mul_one] at hn
  simp only [bsR, List.length_map, hn, bytesV_by8]
end
theorem ex_len : ∀ n : Nat, ∃ J, n / 16 ^ J < 16 /\ ∀ j, j < J -> 16 <= n / 16 ^ j:=by
 intro n
 induction n using Nat.strongRecOn with
 | _ n ih =>
  by_cases h : n < 16
  ·exact ⟨0, by simpa using h, λ j hj => absurd hj (by omega)⟩
  ·obtain ⟨J, h1, h2⟩:=ih (n / 16) (by omega)
   have e : ∀ k, n / 16 ^ (k + 1) = n / 16 / 16 ^ k:=λ k => by rw [Nat.div_div_eq_div_mul, Nat.pow_succ, Nat.mul_comm]
   refine ⟨J + 1, by rw [e]; exact h1, λ j hj => ?_⟩
   cases j with
   | zero => simpa using Nat.not_lt.1 h
   | succ k => rw [e]; exact h2 k (by omega)
theorem len_le {n J : Nat} (hn : n < 4294967296) (h : ∀ j, j < J -> 16 <= n / 16 ^ j) : J <= 7:=Nat.not_lt.1 λ h8 => by
 have:=h 7 h8
 have e : (16 : Nat) ^ 7 = 268435456:=by decide
 rw [e] at this
 omega
theorem hexd0 : hexd 0 = 48:=by decide +kernel
theorem lowD_more {n k : Nat} (h : n / 16 ^ k = 0) : ∀ m, lowD n (k + m) = List.replicate m 48 ++ lowD n k
 | 0 => rfl
 | m + 1 => by
  have e : n / 16 ^ (k + m) = 0:=by
   rw [Nat.pow_add, <- Nat.div_div_eq_div_mul, h, Nat.zero_div]
  show hexd (n / 16 ^ (k + m) % 16) :: lowD n (k + m) = _
  rw [e, lowD_more h m, Nat.zero_mod, hexd0]
  rfl
section
variable {w w1 w2 : World}
def rowV (n j : Nat) : List Value:=(List.replicate (65 - j) 0 ++ lowD n j).map by8
theorem rowV_len (n j : Nat) (hj : j <= 65) : (rowV n j).length = 65:=by
 unfold rowV
 rw [List.length_map, List.length_append, List.length_replicate, lowD_len]; omega
theorem rowV_set (n j : Nat) (hj : j < 65) : setL (rowV n j) (64 - j) [by8 (hexd (n / 16 ^ j % 16))] = rowV n (j + 1):=by
 have e : rowV n j = (List.replicate (64 - j) 0).map by8 ++ (by8 0 :: (lowD n j).map by8):=by
  unfold rowV
  rw [show 65 - j = (64 - j) + 1 by omega, List.replicate_succ', List.append_assoc, List.map_append]
  rfl
 have e2 : rowV n (j + 1) = (List.replicate (64 - j) 0).map by8 ++ (by8 (hexd (n / 16 ^ j % 16)) :: (lowD n j).map by8):=by
  unfold rowV
  rw [show 65 - (j + 1) = 64 - j by omega, List.map_append]
  rfl
 rw [e, e2]
 have hl : ((List.replicate (64 - j) (0 : UInt8)).map by8).length = 64 - j:=by rw [List.length_map, List.length_replicate]
 simp only [setL_cons, setL_nil]
 rw [List.set_append_right _ _ (by omega), hl, Nat.sub_self]
 rfl
def BitsTab (w : World) : Prop:=∃ l, bk w 10 = some l /\ l[15]? = some (.int .u8 4)
theorem isPow16 {w : World} {Q : Value -> World -> Prop} (q : Q (.bool true) w) : Run (F.strconv_isPowerOfTwo (.int .i64 16)) w Q:=by
 unfold F.strconv_isPowerOfTwo
 have e1 : intBin .sub .i64 16 1 = some (.int .i64 15):=by kernel_rfl
 have e2 : intBin .and .i64 16 15 = some (.int .i64 0):=by kernel_rfl
 simp only [binV_int, e1, e2, Run_bindO_some, intBin_eql, decide_true, Run_ret]
 exact q
theorem trail16 (ht : BitsTab w) {Q : Value -> World -> Prop} (q : Q (.int .i64 4) w) : Run (F.bits_TrailingZeros (.int .u64 16)) w Q:=by
 obtain ⟨l, h1, h2⟩:=ht
 unfold F.bits_TrailingZeros F.bits_TrailingZeros64
 have e0 : negV (.int .u64 16) = some (.int .u64 18446744073709551600):=by kernel_rfl
 have e1 : intBin .and .u64 16 18446744073709551600 = some (.int .u64 16):=by kernel_rfl
 have e2 : intBin .mul .u64 16 285870213051353865 = some (.int .u64 4573923408821661840):=by kernel_rfl
 have e3 : shV .shr (.int .u64 4573923408821661840) (.int .u64 58) = some (.int .u64 15):=by kernel_rfl
 have w4 : IntKind.i64.wrap 4 = 4:=by decide
 have h16 : ¬ ((16 : Int) = 0):=by decide
 have ea : idxR 64 1 (.pointer (some ({ block:=10, off:=0, spot:=none } : Addr))) (.int .u64 15) = some (.pointer (some (⟨10, 15, none⟩ : Addr))):=by kernel_rfl
 simp only [Run_condM_false, Run_bind, binV_int, intBin_eql, h16, decide_false, Run_bindO_some, e0, e1, e2, e3, ea]
 simp [-ldA_ptr, h1, h2, w4]
 exact q
theorem shr4 {n : Nat} : shV .shr (.int .u64 n) (.int .u64 4) = some (.int .u64 ((n / 16 : Nat) : Int)):=by
 have h : ¬ ((4 : Int) < 0):=by omega
 simp only [shV, h, if_false]
 rw [show (4 : Int).toNat = 4 from rfl, Nat.min_eq_left (by decide), Int.fdiv_eq_ediv_of_nonneg _ (by decide)]
 norm_cast
theorem and15_64 {n : Nat} (hn : n < 18446744073709551616) : intBin .and .u64 n 15 = some (.int .u64 ((n % 16 : Nat) : Int)):=by
 have h15 : ((15 : Int)) = ((15 : Nat) : Int):=rfl
 rw [h15]
 simp only [intBin]
 rw [bv_and (n:=IntKind.u64.bits) (show n < 2 ^ 64 from hn) (show 15 < 2 ^ 64 by decide), show (15 : Nat) = 2 ^ 4 - 1 from rfl, Nat.and_two_pow_sub_one_eq_mod, u64W (by omega)]
def DIG36 : ByteArray:=ByteArray.mk #[48, 49, 50, 51, 52, 53, 54, 55, 56, 57, 97, 98, 99, 100, 101, 102, 103, 104, 105, 106, 107, 108, 109, 110, 111, 112, 113, 114, 115, 116, 117, 118, 119, 120, 121, 122]
theorem idx_DIG36 {k : IntKind} {i : Nat} (h : i < 16) : idxS (.string DIG36) (.int k i) = some (by8 (hexd i)):=by
 have hs : DIG36.size = 36:=by decide +kernel
 have h' : i < DIG36.size:=by omega
 have e : ∀ i, (h : i < 16) -> DIG36.data.toList[i]? = DIG.data.toList[i]?:=by decide +kernel
 have e2 : DIG36[i] = hexd i:=by
  unfold hexd
  rw [<- e i h, List.getElem?_eq_getElem (show i < DIG36.data.toList.length by rw [Array.length_toList]; exact h')]
  rfl
 simp [idxS, h', e2, by8]
theorem idxR_at {x k : Nat} (h : k < 65) : idxR 65 1 (.pointer (some ⟨x, 0, none⟩)) (.int .i64 (k : Int)) = some (.pointer (some ⟨x, k, none⟩)):=by
 rw [idxR_ptr, if_pos (by omega)]; simp
theorem sliceR_at {x k : Nat} (h : k < 65) : sliceR 65 1 (.pointer (some ⟨x, 0, none⟩)) (some (.int .i64 (k : Int))) none = some (.slice (some ⟨x, k, none⟩) (65 - k) (65 - k)):=by
 have b2 : boundV (.int .i64 (k : Int)) 65 = some k:=by
  unfold boundV
  simp only
  rw [if_pos (by omega)]
  simp
 simp only [sliceR, highV, lowV, b2]
 rw [if_neg (by omega)]
 simp [Addr.add_lit]
theorem bits_run (ht : BitsTab w) {n J : Nat} (hn : n < 4294967296) (h1 : n / 16 ^ J < 16) (h2 : ∀ j, j < J -> 16 <= n / 16 ^ j) :
  Run (F.strconv_formatBits (.slice none 0 0) (.int .u64 n) (.int .i64 16) (.bool false) (.bool false)) w λ r w' => r = .tuple #[.slice none 0 0, .string ⟨(lowD n (J + 1)).toArray⟩] /\ Fr (λ _ => False) w w':=by
 unfold F.strconv_formatBits
 have eD : ByteArray.mk #[48, 49, 50, 51, 52, 53, 54, 55, 56, 57, 97, 98, 99, 100, 101, 102, 103, 104, 105, 106, 107, 108, 109, 110, 111, 112, 113, 114, 115, 116, 117, 118, 119, 120, 121, 122] = DIG36:=rfl
 rw [eD]
 have hJ:=len_le hn h2
 have b1 : ¬ ((16 : Int) < 2):=by decide
 have b2 : ¬ ((16 : Int) = 10):=by decide
 have b3 : ¬ ((36 : Int) < 16):=by decide
 simp [-ldA_ptr, b1, b2, b3]
 refine Run_new λ x w1 hx hxw f1 hxle => ?_
 have hx0 : bk w1 x = some (rowV n 0):=hx
 have ht1 : BitsTab w1:=by
  obtain ⟨l, q1, q2⟩:=ht
  exact ⟨l, f1.bk_some q1 id, q2⟩
 refine isPow16 ?_
 simp [-ldA_ptr]
 have c16 : IntKind.u64.wrap 16 = 16:=by decide
 have c4 : IntKind.u64.wrap 4 = 4:=by decide
 have c15 : IntKind.u64.wrap 15 = 15:=by decide
 simp [-ldA_ptr, c16]
 refine trail16 ht1 ?_
 simp [-ldA_ptr, c16, c4, c15]
 refine Run_for J (λ j L w' => L = [.int .u64 ((n / 16 ^ j : Nat) : Int), .int .i64 ((65 - j : Nat) : Int)] /\ bk w' x = some (rowV n j) /\ wr w' x = true /\ Fr (λ c => c = x) w1 w') ?_ ?_ ?_
 ·exact ⟨by simp, hx0, hxw, Fr.refl _ _⟩
 ·rintro j L w2 hj ⟨rfl, hb, hw, f2⟩
  have hg : (16 : Int) <= ((n / 16 ^ j : Nat) : Int):=by have:=h2 j hj; omega
  have hd : n / 16 ^ j <= n:=Nat.div_le_self _ _
  have a1:=and15_64 (n:=n / 16 ^ j) (by omega)
  have ix:=idx_DIG36 (k:=.u64) (i:=n / 16 ^ j % 16) (Nat.mod_lt _ (by decide))
  have s1:=shr4 (n:=n / 16 ^ j)
  have wj : IntKind.i64.wrap (((65 - j : Nat) : Int) - 1) = ((64 - j : Nat) : Int):=by
   rw [show ((65 - j : Nat) : Int) - 1 = ((64 - j : Nat) : Int) by omega]; exact i64W (by omega)
  have hr:=rowV_len n j (by omega)
  have ir:=idxR_at (x:=x) (k:=64 - j) (by omega)
  have hst:=rowV_set n j (by omega)
  have hdd : n / 16 ^ j / 16 = n / 16 ^ (j + 1):=by rw [Nat.div_div_eq_div_mul, Nat.pow_succ]
  have hlt : 64 - j < (rowV n j).length:=by omega
  have e65 : ((65 - (j + 1) : Nat) : Int) = ((64 - j : Nat) : Int):=by omega
  simp only [getL_zero, getL_succ, binV_int, intBin_geq, ge_iff_le, hg, decide_true, Run_bindO_some, Run_condM_true, Run_bind, intBin_sub, wj, a1, ix, s1, ir]
  simp [-ldA_ptr, -Int.natCast_pow, -Int.natCast_emod, -Int.natCast_ediv, hb, hw, hlt, by8_cell, hdd]
  exact ⟨rfl, λ i hi => by
   obtain rfl : i = 0:=by have : i < 1:=hi; omega
   rfl, by omega, hst, f2.sto (.inl rfl) _ _⟩
 ·rintro L w2 ⟨rfl, hb, hw, f2⟩
  have hg : ¬ (16 : Int) <= ((n / 16 ^ J : Nat) : Int):=by omega
  have wj : IntKind.i64.wrap (((65 - J : Nat) : Int) - 1) = ((64 - J : Nat) : Int):=by
   rw [show ((65 - J : Nat) : Int) - 1 = ((64 - J : Nat) : Int) by omega]; exact i64W (by omega)
  have ix:=idx_DIG36 (k:=.u64) (i:=n / 16 ^ J) h1
  have ir:=idxR_at (x:=x) (k:=64 - J) (by omega)
  have hr:=rowV_len n J (by omega)
  have hlt : 64 - J < (rowV n J).length:=by omega
  have sl:=sliceR_at (x:=x) (k:=64 - J) (by omega)
  simp only [getL_zero, getL_succ, binV_int, intBin_geq, ge_iff_le, hg, decide_false, Run_bindO_some, Run_condM_false, Run_bind, Run_ret]
  simp only [outK_exit, natBeq, decide_true, cond_true, getL_zero, getL_succ, binV_int, intBin_sub, wj, ix, Run_bindO_some, ir, Run_bind]
  simp [-ldA_ptr, -Int.natCast_pow, -Int.natCast_emod, -Int.natCast_ediv, hb, hw, hlt, by8_cell, sl]
  have hst:=rowV_set n J (by omega)
  rw [Nat.mod_eq_of_lt h1] at hst
  have hb2 : bk (sto w2 x (64 - J) [by8 (hexd (n / 16 ^ J))]) x = some (rowV n (J + 1)):=by rw [bk_sto_eq, hb, <- hst]; rfl
  have hld : ldN (sto w2 x (64 - J) [by8 (hexd (n / 16 ^ J))]) ⟨x, 64 - J, none⟩ (65 - (64 - J)) = some ((lowD n (J + 1)).map by8):=by
   rw [ldN_bk hb2 (by rw [rowV_len n (J + 1) (by omega)]; omega)]
   congr 1
   unfold rowV
   rw [List.map_append, show 65 - (J + 1) = 64 - J by omega, List.drop_append_of_le_length (by simp), show 65 - (64 - J) = J + 1 by omega]
   rw [List.drop_of_length_le (by simp), List.nil_append, List.take_of_length_le (by simp [lowD_len])]
  refine ⟨rfl, λ i hi => by
   obtain rfl : i = 0:=by have : i < 1:=hi; omega
   rfl, by omega, _, ?_, rfl, ?_⟩
  ·show bsR _ (sto w2 x (64 - J) [by8 (hexd (n / 16 ^ J))]) = _
   simp only [bsR, hld, bytesV_by8]
  ·exact f1.new (f2.sto (.inl rfl) _ _) λ c hc => by rw [hc]; exact hxle
end
theorem strAdd {a c : ByteArray} (h : a.size + c.size <= 9223372036854775807) : binV .add (.string a) (.string c) = some (.string (a ++ c)):=by
 have hx : ¬ (((a.size + c.size : Nat) : Int) > IntKind.i64.max):=by
  have e : IntKind.i64.max = 9223372036854775807:=by decide
  rw [e]; omega
 show strBin .add a c = _
 simp only [strBin, hx, if_false]
section
variable {w w1 w2 : World}
theorem rep_zero : ∀ c : Nat, c <= 7 -> F.strings_Repeat (.string (ByteArray.mk #[48])) (.int .i64 (c : Int)) w = some (.string ⟨(List.replicate c 48).toArray⟩, w)
 | 0, _ => by kernel_rfl
 | 1, _ => by kernel_rfl
 | 2, _ => by kernel_rfl
 | 3, _ => by kernel_rfl
 | 4, _ => by kernel_rfl
 | 5, _ => by kernel_rfl
 | 6, _ => by kernel_rfl
 | 7, _ => by kernel_rfl
 | c + 8, h => absurd h (by omega)
theorem hex8_run (ht : BitsTab w) {n : Nat} (hn : n < 4294967296) : Run (F.paper_hex8 (.int .i64 n)) w λ r w' => r = .string (eightS n) /\ Fr (λ _ => False) w w':=by
 unfold F.paper_hex8 F.strconv_FormatInt F.strconv_FormatInt_131
 obtain ⟨J, h1, h2⟩:=ex_len n
 have hJ:=len_le hn h2
 have c0 : IntKind.u64.wrap (n : Int) = n:=u64W (by omega)
 have b1 : ¬ ((16 : Int) = 10):=by decide
 have b2 : ¬ ((n : Int) < 0):=by omega
 simp [-ldA_ptr, b1, b2, c0]
 refine (bits_run ht hn h1 h2).mono ?_
 rintro _ w1 ⟨rfl, f1⟩
 have hsz : (⟨(lowD n (J + 1)).toArray⟩ : ByteArray).size = J + 1:=by
  show (lowD n (J + 1)).toArray.size = J + 1
  rw [List.size_toArray]; exact lowD_len n _
 have hw : IntKind.i64.wrap (8 - ((J + 1 : Nat) : Int)) = ((7 - J : Nat) : Int):=by
  rw [show 8 - ((J + 1 : Nat) : Int) = ((7 - J : Nat) : Int) by omega]; exact i64W (by omega)
 have hr:=rep_zero (w:=w1) (7 - J) (by omega)
 have hz : n / 16 ^ (J + 1) = 0:=by
  rw [Nat.pow_succ, <- Nat.div_div_eq_div_mul]; exact Nat.div_eq_of_lt h1
 have hm:=lowD_more hz (7 - J)
 rw [show J + 1 + (7 - J) = 8 by omega] at hm
 have he : (⟨(List.replicate (7 - J) (48 : UInt8)).toArray⟩ : ByteArray) ++ ⟨(lowD n (J + 1)).toArray⟩ = eightS n:=by
  apply ByteArray.ext
  rw [ByteArray.data_append]
  show (List.replicate (7 - J) (48 : UInt8)).toArray ++ (lowD n (J + 1)).toArray = (lowD n 8).toArray
  rw [List.append_toArray, hm]
 have e1 : (#[Value.slice none 0 0, Value.string { data:=(lowD n (J + 1)).toArray }] : Array Value)[0]? = some (Value.slice none 0 0):=rfl
 have e2 : (#[Value.slice none 0 0, Value.string { data:=(lowD n (J + 1)).toArray }] : Array Value)[1]? = some (Value.string { data:=(lowD n (J + 1)).toArray }):=rfl
 simp only [extV_tuple, e1, e2, Run_bindO_some, lenS_string, hsz, binV_int, intBin_sub, hw, Run_bind, Run_ret]
 refine ⟨_, _, hr, ?_⟩
 show Run (bindO (binV BinOp.add (.string ⟨(List.replicate (7 - J) (48 : UInt8)).toArray⟩) (.string ⟨(lowD n (J + 1)).toArray⟩)) λ x6 => M.ret x6) w1 _
 have hsr : (⟨(List.replicate (7 - J) (48 : UInt8)).toArray⟩ : ByteArray).size = 7 - J:=by
  show (List.replicate (7 - J) (48 : UInt8)).toArray.size = _
  rw [List.size_toArray, List.length_replicate]
 rw [strAdd (by rw [hsr, hsz]; omega), Run_bindO_some, he]
 exact ⟨_, _, rfl, rfl, f1⟩
end
section
variable {w w1 w2 : World}
def Row (w : World) (v : Value) (n : Nat) : Prop:=∃ l : List UInt8, l.length = n /\ SlW 1 w v (l.map λ b => [by8 b])
theorem Row.drew {v : Value} {n : Nat} (h : Row w v n) : Row w.drew v n:=h
theorem Run_put {β : Type} {a0 : Value} {n : Nat} (h : Row w a0 n) {i : Int} (h0 : 0 <= i) (hi : i < n) {kd : IntKind} (b : UInt8) {K : M β} {Q : β -> World -> Prop} (q : ∀ w', Row w' a0 n -> Run K w' Q) :
  Run (bindO (idxA 1 a0 (.int kd i)) λ p => M.bind (stM 1 p (by8 b)) λ _ => K) w Q:=by
 obtain ⟨l, hl, hs⟩:=h
 obtain ⟨j, rfl⟩ : ∃ j : Nat, i = j:=⟨i.toNat, by omega⟩
 obtain ⟨y, hy⟩ : ∃ y, l[j]? = some y:=⟨l[j]'(by omega), List.getElem?_eq_getElem _⟩
 obtain ⟨bl, o, e1, _, _, ok, hp⟩:=hs.put (i:=j) (e:=[by8 y]) (by simp [hy]) kd
 have e1' : idxA 1 a0 (.int kd (j : Int)) = some (.pointer (some ⟨bl, o, none⟩)):=e1
 rw [e1', Run_bindO_some, Run_bind, Run_stM (by rfl) (by rfl) ok]
 refine q _ ⟨l.set j b, by rw [List.length_set]; exact hl, ?_⟩
 have:=(hp 0 [by8 b] (by simp)).2
 rw [List.map_set]
 exact this
def DDS : ByteArray:=ByteArray.mk #[48, 48, 48, 49, 48, 50, 48, 51, 48, 52, 48, 53, 48, 54, 48, 55, 48, 56, 48, 57, 49, 48, 49, 49, 49, 50, 49, 51, 49, 52, 49, 53, 49, 54, 49, 55, 49, 56, 49, 57, 50, 48, 50, 49, 50, 50, 50, 51, 50, 52, 50, 53, 50, 54, 50, 55, 50, 56, 50, 57, 51, 48, 51, 49, 51, 50, 51, 51, 51, 52, 51, 53, 51, 54, 51, 55, 51, 56, 51, 57, 52, 48, 52, 49, 52, 50, 52, 51, 52, 52, 52, 53, 52, 54, 52, 55, 52, 56, 52, 57, 53, 48, 53, 49, 53, 50, 53, 51, 53, 52, 53, 53, 53, 54, 53, 55, 53, 56, 53, 57, 54, 48, 54, 49, 54, 50, 54, 51, 54, 52, 54, 53, 54, 54, 54, 55, 54, 56, 54, 57, 55, 48, 55, 49, 55, 50, 55, 51, 55, 52, 55, 53, 55, 54, 55, 55, 55, 56, 55, 57, 56, 48, 56, 49, 56, 50, 56, 51, 56, 52, 56, 53, 56, 54, 56, 55, 56, 56, 56, 57, 57, 48, 57, 49, 57, 50, 57, 51, 57, 52, 57, 53, 57, 54, 57, 55, 57, 56, 57, 57]
theorem idxD {k : IntKind} {i : Nat} (h : i < 200) : ∃ b : UInt8, idxS (.string DDS) (.int k (i : Int)) = some (by8 b):=by
 have hs : DDS.size = 200:=by decide +kernel
 have h' : i < DDS.size:=by omega
 exact ⟨DDS[i], by simp [idxS, h', by8]⟩
theorem i64I {a : Int} (h0 : 0 <= a) (h : a < 9223372036854775808) : IntKind.i64.wrap a = a:=by simp [IntKind.wrap, IntKind.bits, IntKind.signed]; omega
theorem subI {i c : Int} (h0 : 0 <= i - c) (h : i - c < 9223372036854775808) : binV .sub (.int .i64 i) (.int .i64 c) = some (.int .i64 (i - c)):=by
 simp only [binV_int, intBin_sub, i64I h0 h]
theorem q100 {a : Nat} (h : a < 4294967296) : binV .quo (.int .u32 (a : Int)) (.int .u32 100) = some (.int .u32 ((a / 100 : Nat) : Int)):=quo_nat (b:=100) (by decide) (u32W (by omega))
theorem r100 {a : Nat} : binV .rem (.int .u32 (a : Int)) (.int .u32 100) = some (.int .u32 ((a % 100 : Nat) : Int)):=rem_nat (b:=100) (by decide)
theorem q10000 {a : Nat} (h : a < 4294967296) : binV .quo (.int .u32 (a : Int)) (.int .u32 10000) = some (.int .u32 ((a / 10000 : Nat) : Int)):=quo_nat (b:=10000) (by decide) (u32W (by omega))
theorem r10000 {a : Nat} : binV .rem (.int .u32 (a : Int)) (.int .u32 10000) = some (.int .u32 ((a % 10000 : Nat) : Int)):=rem_nat (b:=10000) (by decide)
theorem q1e8 {a : Nat} (h : a < 18446744073709551616) : binV .quo (.int .u64 (a : Int)) (.int .u64 100000000) = some (.int .u64 ((a / 100000000 : Nat) : Int)):=quo_nat (b:=100000000) (by decide) (u64W (by omega))
theorem r1e8 {a : Nat} : binV .rem (.int .u64 (a : Int)) (.int .u64 100000000) = some (.int .u64 ((a % 100000000 : Nat) : Int)):=rem_nat (b:=100000000) (by decide)
theorem m2 {a : Nat} (h : a < 100) : binV .mul (.int .u32 (a : Int)) (.int .u32 2) = some (.int .u32 ((a * 2 : Nat) : Int)):=by
 have e : (a : Int) * 2 = ((a * 2 : Nat) : Int):=by omega
 simp only [binV_int, intBin_mul]
 rw [e, u32W (by omega)]
theorem a1_ {a : Nat} (h : a < 4294967295) : binV .add (.int .u32 (a : Int)) (.int .u32 1) = some (.int .u32 ((a + 1 : Nat) : Int)):=by
 have e : (a : Int) + 1 = ((a + 1 : Nat) : Int):=by omega
 simp only [binV_int, intBin_add]
 rw [e, u32W (by omega)]
theorem Run_two {β : Type} {a0 : Value} {n : Nat} (h : Row w a0 n) {i c1 c2 : Int} {d : Nat} (hi : i <= n) (hn : n < 4611686018427387904) (h1 : 1 <= c1 /\ c1 <= i) (h2 : 1 <= c2 /\ c2 <= i) (hd : d + 1 < 200) {K : M β} {Q : β -> World -> Prop} (q : ∀ w', Row w' a0 n -> Run K w' Q) :
  Run (drewM <|
   bindO (binV BinOp.sub (.int .i64 i) (Value.int IntKind.i64 c1)) λ x17 =>
   bindO (binV BinOp.sub (.int .i64 i) (Value.int IntKind.i64 c2)) λ x18 =>
   bindO (binV BinOp.add (.int .u32 (d : Int)) (Value.int IntKind.u32 1)) λ x19 =>
   bindO (idxS (Value.string DDS) x19) λ x20 =>
   bindO (idxS (Value.string DDS) (.int .u32 (d : Int))) λ x21 =>
   bindO (idxA 1 a0 x17) λ x22 =>
   M.bind (stM 1 x22 x20) λ _ =>
   bindO (idxA 1 a0 x18) λ x24 =>
   M.bind (stM 1 x24 x21) λ _ => K) w Q:=by
 obtain ⟨b1, e1⟩:=idxD (k:=.u32) (i:=d + 1) hd
 obtain ⟨b2, e2⟩:=idxD (k:=.u32) (i:=d) (by omega)
 rw [Run_drewM, subI (by omega) (by omega), Run_bindO_some, subI (by omega) (by omega), Run_bindO_some, a1_ (by omega), Run_bindO_some, e1, Run_bindO_some, e2, Run_bindO_some]
 exact Run_put h.drew (by omega) (by omega) b1 λ w1 h1 => Run_put h1 (by omega) (by omega) b2 q
end
section
variable {w w1 w2 : World}
theorem Row.lenL {v : Value} {n : Nat} (h : Row w v n) : lenL v = some (.int .i64 n):=by
 obtain ⟨l, hl, hs⟩:=h
 rw [hs.1.lenL, List.length_map, hl]
theorem geqT {k : IntKind} {a b : Int} (h : b <= a) : binV .geq (.int k a) (.int k b) = some (.bool true):=by simp [h]
theorem geqF {k : IntKind} {a b : Int} (h : ¬ b <= a) : binV .geq (.int k a) (.int k b) = some (.bool false):=by simp only [binV_int, intBin_geq, ge_iff_le, h, decide_false]
theorem fb10_run {a0 : Value} {n u : Nat} (h : Row w a0 n) (hn : n < 4611686018427387904) (h0 : 1 <= n) (hu : u < 18446744073709551616) : Run (F.strconv_formatBase10 a0 (.int .u64 u)) w λ _ w' => Row w' a0 n:=by
 unfold F.strconv_formatBase10
 have eD : ByteArray.mk #[48, 48, 48, 49, 48, 50, 48, 51, 48, 52, 48, 53, 48, 54, 48, 55, 48, 56, 48, 57, 49, 48, 49, 49, 49, 50, 49, 51, 49, 52, 49, 53, 49, 54, 49, 55, 49, 56, 49, 57, 50, 48, 50, 49, 50, 50, 50, 51, 50, 52, 50, 53, 50, 54, 50, 55, 50, 56, 50, 57, 51, 48, 51, 49, 51, 50, 51, 51, 51, 52, 51, 53, 51, 54, 51, 55, 51, 56, 51, 57, 52, 48, 52, 49, 52, 50, 52, 51, 52, 52, 52, 53, 52, 54, 52, 55, 52, 56, 52, 57, 53, 48, 53, 49, 53, 50, 53, 51, 53, 52, 53, 53, 53, 54, 53, 55, 53, 56, 53, 57, 54, 48, 54, 49, 54, 50, 54, 51, 54, 52, 54, 53, 54, 54, 54, 55, 54, 56, 54, 57, 55, 48, 55, 49, 55, 50, 55, 51, 55, 52, 55, 53, 55, 54, 55, 55, 55, 56, 55, 57, 56, 48, 56, 49, 56, 50, 56, 51, 56, 52, 56, 53, 56, 54, 56, 55, 56, 56, 56, 57, 57, 48, 57, 49, 57, 50, 57, 51, 57, 52, 57, 53, 57, 54, 57, 55, 57, 56, 57, 57] = DDS:=rfl
 rw [eD]
 rw [h.lenL, Run_bindO_some, Run_bind]
 refine Run_for (n / 8) (λ k L w' => (∃ u : Nat, u < 18446744073709551616 /\ L = [.int .u64 u, .int .i64 ((n : Int) - 8 * k)]) /\ Row w' a0 n) ?_ ?_ ?_
 ·exact ⟨⟨u, hu, by simp⟩, h⟩
 ·rintro k L w1 hk ⟨⟨u, hu, rfl⟩, hr⟩
  have hge : (8 : Int) <= (n : Int) - 8 * (k : Int):=by omega
  have c1 : IntKind.u32.wrap ((u % 100000000 : Nat) : Int) = ((u % 100000000 : Nat) : Int):=u32W (by omega)
  simp only [getL_zero, getL_succ]
  rw [geqT hge, Run_bindO_some, Run_condM_true, r1e8, Run_bindO_some, cvtI_int, c1, Run_bindO_some, q1e8 hu, Run_bindO_some]
  generalize hm : u % 100000000 = m
  have hml : m < 100000000:=by omega
  rw [q10000 (by omega), Run_bindO_some, r10000, Run_bindO_some, q100 (by omega), Run_bindO_some, m2 (by omega), Run_bindO_some, r100, Run_bindO_some, m2 (by omega), Run_bindO_some,
   q100 (by omega), Run_bindO_some, m2 (by omega), Run_bindO_some, r100, Run_bindO_some, m2 (by omega), Run_bindO_some]
  refine Run_two hr (by omega) hn (by omega) (by omega) (by omega) λ w2 hr => ?_
  refine Run_two hr (by omega) hn (by omega) (by omega) (by omega) λ w3 hr => ?_
  refine Run_two hr (by omega) hn (by omega) (by omega) (by omega) λ w4 hr => ?_
  refine Run_two hr (by omega) hn (by omega) (by omega) (by omega) λ w5 hr => ?_
  rw [subI (by omega) (by omega), Run_bindO_some, Run_ret]
  exact ⟨⟨u / 100000000, by omega, by rw [show (n : Int) - 8 * ((k + 1 : Nat) : Int) = n - 8 * (k : Int) - 8 by omega]⟩, hr⟩
 ·rintro L w1 ⟨⟨u, hu, rfl⟩, hr⟩
  have hge : ¬ (8 : Int) <= (n : Int) - 8 * ((n / 8 : Nat) : Int):=by omega
  generalize hi : (n : Int) - 8 * ((n / 8 : Nat) : Int) = i at *
  have hi0 : 0 <= i:=by omega
  have hin : i <= n:=by omega
  simp only [getL_zero, getL_succ]
  rw [geqF hge, Run_bindO_some, Run_condM_false, Run_ret]
  have c1 : IntKind.u32.wrap (u : Int) = ((u % 4294967296 : Nat) : Int):=by simp [IntKind.wrap, IntKind.bits, IntKind.signed]
  generalize hm : u % 4294967296 = m at c1
  have hml : m < 4294967296:=by omega
  simp only [outK_exit, getL_zero, getL_succ]
  rw [show Nat.beq 0 0 = true from rfl, cond_true, cvtI_int, c1, Run_bindO_some, Run_bind]
  refine Run.mono (Q:=λ o w' => ∃ i' m' : Nat, o = .norm [.int .i64 i', .int .u32 m'] /\ i' <= n /\ m' < 4294967296 /\ Row w' a0 n) ?_ ?_
  ·by_cases h4 : 4 <= i
   ·rw [geqT h4, Run_bindO_some, Run_condM_true, r10000, Run_bindO_some, q10000 hml, Run_bindO_some, q100 (by omega), Run_bindO_some, m2 (by omega), Run_bindO_some, r100, Run_bindO_some, m2 (by omega), Run_bindO_some]
    refine Run_two hr (by omega) hn (by omega) (by omega) (by omega) λ w2 hr => ?_
    refine Run_two hr (by omega) hn (by omega) (by omega) (by omega) λ w3 hr => ?_
    rw [subI (by omega) (by omega), Run_bindO_some, Run_ret]
    exact ⟨(i - 4).toNat, m / 10000, by rw [Int.toNat_of_nonneg (by omega)], by omega, by omega, hr⟩
   ·rw [geqF h4, Run_bindO_some, Run_condM_false, Run_ret]
    exact ⟨i.toNat, m, by rw [Int.toNat_of_nonneg (by omega)], by omega, by omega, hr⟩
  ·rintro _ w2 ⟨i', m', rfl, hi', hm', hr⟩
   simp only [outK_norm, getL_zero, getL_succ]
   rw [Run_bind]
   refine Run.mono (Q:=λ o w' => ∃ i' m' : Nat, o = .norm [.int .i64 i', .int .u32 m'] /\ i' <= n /\ m' < 4294967296 /\ Row w' a0 n) ?_ ?_
   ·by_cases h2 : (2 : Int) <= i'
    ·rw [geqT h2, Run_bindO_some, Run_condM_true, r100, Run_bindO_some, m2 (by omega), Run_bindO_some, q100 hm', Run_bindO_some]
     refine Run_two hr (by omega) hn (by omega) (by omega) (by omega) λ w3 hr => ?_
     rw [subI (by omega) (by omega), Run_bindO_some, Run_ret]
     exact ⟨i' - 2, m' / 100, by rw [show ((i' - 2 : Nat) : Int) = (i' : Int) - 2 by omega], by omega, by omega, hr⟩
    ·rw [geqF h2, Run_bindO_some, Run_condM_false, Run_ret]
     exact ⟨i', m', rfl, by omega, by omega, hr⟩
   ·rintro _ w3 ⟨i2, m2, rfl, hi2, hm2, hr⟩
    simp only [outK_norm, getL_zero, getL_succ, binV_int, intBin_gtr, gt_iff_lt, Run_bindO_some, intBin_add, cvtI_int]
    by_cases hp : (0 : Int) < i2
    ·simp only [hp, decide_true, Run_condM_true]
     generalize hz : IntKind.u8.wrap (IntKind.u32.wrap (48 + (m2 : Int))) = z
     obtain ⟨b, rfl⟩ : ∃ b : UInt8, z = (b.toNat : Int):=by
      have hz8 : 0 <= z /\ z < 256:=by rw [<- hz]; simp [IntKind.wrap, IntKind.bits, IntKind.signed]; omega
      exact ⟨UInt8.ofNat z.toNat, by simp; omega⟩
     rw [Run_bindO_some, cvtI_int, hz, Run_bindO_some]
     refine Run_put (i:=0) (kd:=.i64) hr (by omega) (by omega) b λ w' h' => ?_
     rw [Run_ret]
     exact h'
    ·simp only [hp, decide_false, Run_condM_false, Run_ret]
     exact hr
end
end Go.Proofs.YthlpfhjcdedhgaaGreatDoor
namespace Go.Lift
theorem runN_ended {P : Program} {m m1 : Machine} {n : Nat} {o : Outcome} {w : World} (h : runN P n m = .next m1) (he : step P m1 = .ended o w) : runN P (n + 1) m = .ended o w:=by
 rw [runN_add, h]
 simp [runN, he]
theorem ended_lt {P : Program} {m m1 m2 : Machine} {a b : Nat} {o : Outcome} {w : World} (h : runN P a m = .next m1) (he : step P m1 = .ended o w) (h' : runN P b m = .next m2) : b <= a:=by
 refine Nat.not_lt.1 λ hlt => ?_
 obtain ⟨c, rfl⟩ : ∃ c, b = (a + 1) + c:=⟨b - (a + 1), by omega⟩
 rw [runN_add, runN_ended h he] at h'
 cases h'
structure Own (P : Program) (f : FuncId) : Prop where
 fn : ∃ fn, P.funcs[f]? = some fn /\ fn.body.isSome = true /\ (fn.name == "runtime.NumGoroutine") = false
 init : P.inits.idxOf? f = none
theorem got_own {P : Program} {f : FuncId} (h : Own P f) {args : Array Value} {w w' : World} {v : Value} (g : Got P (callFunc f args) w v w') : Calls P f args w λ e w'' => e = .returned v /\ w'' = w':=by
 obtain ⟨⟨fn, hf, hb, hname⟩, _⟩:=h
 obtain ⟨c, hc⟩:=Option.isSome_iff_exists.1 hb
 have hr : (callFunc f args).run P w = .ok (.enter f args) w:=by
  simp [callFunc, hf, show fn.name ≠ "runtime.NumGoroutine" by simpa using hname, hc]
 rcases g with g | ⟨_, g⟩ | ⟨f', args', w1, g, hcalls⟩
 ·rw [hr] at g; cases g
 ·rw [hr] at g; cases g
 ·rw [hr] at g; cases g; exact hcalls
end Go.Lift
namespace Go.Proofs.YthlpfhjcdedhgaaGreatDoor
open Go.Lift Go.Sort
set_option linter.unusedSimpArgs false
set_option linter.unusedVariables false
set_option maxHeartbeats 4000000
section
variable {w w1 w2 : World}
structure Tb (w : World) : Prop where
 nib : bk w 1 = some nibV
 ml : ∃ m : Int, bk w 3 = some [.int .i64 m]
 p10 : bk w 6 = some (Lib.pow10Tab.map λ z => Value.int .u64 z)
 bits : BitsTab w
theorem Tb.fr {F : Nat -> Prop} (h : Tb w) (f : Fr F w w1) (hF : ∀ b, b < 11 -> ¬ F b) : Tb w1 where
 nib:=f.bk_some h.nib (hF 1 (by decide))
 ml:=by obtain ⟨m, hm⟩:=h.ml; exact ⟨m, f.bk_some hm (hF 3 (by decide))⟩
 p10:=f.bk_some h.p10 (hF 6 (by decide))
 bits:=by obtain ⟨l, h1, h2⟩:=h.bits; exact ⟨l, f.bk_some h1 (hF 10 (by decide)), h2⟩
theorem Tb.fr0 (h : Tb w) (f : Fr (λ _ => False) w w1) : Tb w1:=h.fr f λ _ _ => id
theorem Tb.tab (h : Tb w) : Lib.TabIs Tryz.prog w "internal/strconv.uint64pow10" .u64 Lib.pow10Tab:=by
 have hg : Tryz.prog.globalNamed "internal/strconv.uint64pow10" = some 6:=by kernel_rfl
 obtain ⟨c, e, m, hh, hc⟩:=bk_cells h.p10
 unfold Lib.TabIs World.var?
 rw [hg]
 show (match w.heap[6]? with | some (.cells cs _ _) => some cs | _ => none) = _
 rw [hh, <- hc]
theorem fr_grow (w : World) (k : Nat) (os : Array Obj) : Fr (λ _ => False) w (grow (w.drewN k) os) where
 os:=rfl
 tape:=rfl
 output:=rfl
 size:=by show w.heap.size <= (w.heap ++ os).size; simp
 block:=λ b hb _ => heap_grow_old (w.drewN k) os hb
theorem calls_post {P : Program} {f : FuncId} {args : Array Value} {w w1 : World} {v1 : Value} {R : Value -> World -> Prop} (h1 : Calls P f args w λ e w'' => e = .returned v1 /\ w'' = w1)
  (h2 : Calls P f args w λ e w'' => ∃ v, e = .returned v /\ R v w'') (hi : P.inits.idxOf? f = none) : R v1 w1:=by
 obtain ⟨e, w', fr, ⟨rfl, rfl⟩, ⟨a, ha⟩, hf, hl⟩:=h1 []
 obtain ⟨e', w'', fr', ⟨v, rfl, hR⟩, ⟨b, hb⟩, hf', hl'⟩:=h2 []
 have d:=step_leave_done hl (by rw [hf]; exact hi)
 have d':=step_leave_done hl' (by rw [hf']; exact hi)
 have hab : a = b:=Nat.le_antisymm (ended_lt hb d' ha) (ended_lt ha d hb)
 subst hab
 rw [ha] at hb
 have hm:=Stepped.next.inj hb
 rw [hm] at d
 rw [d] at d'
 simp only [Stepped.ended.injEq, Outcome.done.injEq] at d'
 obtain ⟨rfl, rfl⟩:=d'
 exact hR
theorem own20 : Own Tryz.prog 48:=⟨⟨_, Tryz.func48, by kernel_rfl, by kernel_rfl⟩, by kernel_rfl⟩
theorem nDig_le {n : Nat} (h1 : 1 <= n) (h : n < 18446744073709551616) : Lib.nDigits n <= 20:=by
 have:=Lib.numDigits_eq n h1 h
 have h2:=this.1
 split at h2 <;> omega
theorem itoa_ends (ht : Tb w) {n : Nat} (hn : n < 9223372036854775808) : Run (F.strconv_Itoa (.int .i64 n)) w λ _ _ => True:=by
 unfold F.strconv_Itoa F.strconv_Itoa_95 F.strconv_FormatInt_131
 have h0 : (0 : Int) <= (n : Int):=by omega
 have hnn : ¬ (n : Int) < 0:=by omega
 by_cases h100 : n < 100
 ·have h1 : (n : Int) < 100:=by omega
  simp [h0, h1]
  exact ⟨_, _, by unfold F.strconv_small; simp only; rw [if_pos ⟨h0, h1⟩], trivial⟩
 ·have h1 : ¬ (n : Int) < 100:=by omega
  have c0 : IntKind.u64.wrap (n : Int) = n:=u64W (by omega)
  simp [-ldA_ptr, h0, h1, hnn, c0]
  refine Run_new λ x w1 hx hxw f1 hxle => ?_
  have ht1:=ht.fr0 f1
  have hd:=nDig_le (n:=n) (by omega) (by omega)
  have hp:=Lib.nDigits_pos n
  have e1 : F.strconv_numDigits (.int .u64 (n : Int)) w1 = some (.int .i64 (Lib.nDigits n), w1):=by
   unfold F.strconv_numDigits
   simp only
   rw [if_pos ⟨⟨by omega, by omega⟩, ht1.tab⟩]
   simp
  have wn : IntKind.i64.wrap (1 + ((Lib.nDigits n : Nat) : Int)) = ((1 + Lib.nDigits n : Nat) : Int):=by
   rw [show 1 + ((Lib.nDigits n : Nat) : Int) = ((1 + Lib.nDigits n : Nat) : Int) by omega]; exact i64W (by omega)
  generalize hnd : Lib.nDigits n = nd at *
  have es : sliceR 24 1 (.pointer (some ⟨x, 0, none⟩)) (some (.int .i64 1)) (some (.int .i64 ((1 + nd : Nat) : Int))) = some (.slice (some ⟨x, 1, none⟩) nd 23):=by
   have b1 : boundV (.int .i64 1) (1 + nd) = some 1:=by
    unfold boundV
    simp only
    rw [if_pos (by omega)]
    simp
   have b2 : boundV (.int .i64 ((1 + nd : Nat) : Int)) 24 = some (1 + nd):=by
    unfold boundV
    simp only
    rw [if_pos (by omega)]
    rfl
   simp only [sliceR, highV, lowV, b2, b1]
   rw [if_neg (by omega)]
   simp [Addr.add_lit]
  have hrow : Row w1 (.slice (some ⟨x, 1, none⟩) nd 23) nd:=by
   refine ⟨List.replicate nd 0, by simp, ⟨λ e he => ?_, some ⟨x, 1, none⟩, 23, by simp, by simp; omega, .inr ⟨x, 1, _, rfl, hx, by simp, ?_⟩⟩, λ b hb _ => ?_⟩
   ·obtain ⟨y, _, rfl⟩:=List.mem_map.1 he; rfl
   ·have ez : ∀ k, ((List.replicate k (0 : UInt8)).map λ b => [by8 b]).flatten = List.replicate k (by8 0):=λ k => by
     induction k with
     | zero => rfl
     | succ k ih => simp only [List.replicate_succ, List.map_cons, List.flatten_cons, ih]; rfl
    rw [ez]
    show ((List.replicate 24 (by8 0)).drop 1).take _ = _
    rw [List.drop_replicate, List.take_replicate, List.length_map, List.length_replicate, Nat.mul_one, Nat.min_eq_left (by omega)]
   ·cases hb
    exact hxw
  refine ⟨_, _, e1, ?_⟩
  simp only [Run_bindO_some, binV_int, intBin_add, wn, es, Run_bind]
  refine (fb10_run hrow (by omega) hp (by omega)).mono ?_
  rintro _ w2 hr2
  obtain ⟨l, hl, hs⟩:=hr2
  have hlt : intBin .lss .i64 (n : Int) 0 = some (.bool false):=by simp [hnn]
  simp only [hlt, Run_bindO_some, Run_condM_false, wn, es, Run_bind, Run_rdM, Run_ret]
  exact ⟨_, ownB_text hs.1, trivial⟩
def itoaS (n : Nat) : ByteArray:=⟨(Lib.decDigits n).toArray⟩
theorem itoa_run (ht : Tb w) {n : Nat} (hn : n < 9223372036854775808) : Run (F.strconv_Itoa (.int .i64 n)) w λ r w' => r = .string (itoaS n) /\ Fr (λ _ => False) w w':=by
 obtain ⟨v, w1, e, _⟩:=itoa_ends ht hn
 have g:=got_own own20 (F.strconv_Itoa.lift [.int .i64 (n : Int)] w v w1 e)
 have c:=Tryz.strconv_Itoa (n : Int) (by omega) (by omega) w ht.tab
 obtain ⟨h1, k, os, h2⟩:=calls_post (R:=λ v w' => v = .string ⟨(Lib.itoa n).toArray⟩ /\ ∃ k os, w' = grow (w.drewN k) os) g (c.mono λ e w' h => ⟨_, h.1, rfl, h.2⟩) (by kernel_rfl)
 refine ⟨v, w1, e, ?_, by rw [h2]; exact fr_grow w k os⟩
 rw [h1]
 unfold Lib.itoa itoaS
 rw [if_neg (by omega), Int.toNat_natCast]
end
structure Nt where
 k : Int
 f : Int
 u : Int
 c : Int
def Nt.ok (n : Nt) : Prop:=(1 <= n.k /\ n.k <= 4) /\ (0 <= n.f /\ n.f <= 9007199254740992) /\ (0 <= n.u /\ n.u <= 9007199254740992) /\ (0 <= n.c /\ n.c < 4294967296)
instance (n : Nt) : Decidable n.ok:=by unfold Nt.ok; exact inferInstance
def Nt.v (n : Nt) : Value:=.agg #[.int .i64 n.k, .int .i64 n.f, .int .i64 n.u, .int .i64 n.c]
def preL (n : Nt) : List UInt8:=Lib.decDigits n.k.toNat ++ [32] ++ Lib.decDigits n.f.toNat ++ [32] ++ Lib.decDigits n.u.toNat ++ [32] ++ eightL n.c.toNat ++ [32]
def noteL (n : Nt) : List UInt8:=preL n ++ eightL (crcF ⟨(preL n).toArray⟩) ++ [10]
theorem dec_len {n : Nat} (h : n < 9223372036854775808) : (Lib.decDigits n).length <= 20:=by
 rw [Lib.decDigits_length]
 rcases Nat.eq_zero_or_pos n with rfl | h1
 ·rw [Lib.nDigits_small (by decide)]; decide
 ·exact nDig_le h1 (by omega)
section
variable {w w1 w2 : World}
theorem isSum_run {x : Int} : F.paper_isSum (.int .i64 x) w = some (.bool (decide (0 <= x /\ x < 4294967296)), w):=by
 have : Run (F.paper_isSum (.int .i64 x)) w λ r w' => r = .bool (decide (0 <= x /\ x < 4294967296)) /\ w' = w:=by
  unfold F.paper_isSum
  by_cases h1 : 0 <= x <;> by_cases h2 : x < 4294967296 <;> simp [h1, h2]
 obtain ⟨r, w', e, rfl, rfl⟩:=this
 exact e
end
section
variable {w w1 w2 : World}
def sb (l : List UInt8) : ByteArray:=⟨l.toArray⟩
theorem sb_size (l : List UInt8) : (sb l).size = l.length:=by
 show l.toArray.size = _
 rw [List.size_toArray]
theorem sbAdd {a c : List UInt8} (h : a.length + c.length <= 9223372036854775807) : binV .add (.string (sb a)) (.string (sb c)) = some (.string (sb (a ++ c))):=by
 rw [strAdd (by rw [sb_size, sb_size]; exact h)]
 have e : sb a ++ sb c = sb (a ++ c):=by
  apply ByteArray.ext
  rw [ByteArray.data_append]
  show a.toArray ++ c.toArray = (a ++ c).toArray
  simp
 rw [e]
end
section
variable (b : UInt8)
def jn : List (List UInt8) -> List UInt8
 | [] => []
 | x :: r => x ++ (r.map λ y => [b] ++ y).flatten
theorem jn_cons {x : List UInt8} {l : List (List UInt8)} (h : l ≠ []) : jn b (x :: l) = x ++ [b] ++ jn b l:=by
 cases l with
 | nil => exact absurd rfl h
 | cons y r => simp [jn]
theorem jn_count : ∀ (N : List (List UInt8)), N ≠ [] -> (∀ x ∈ N, b ∉ x) -> (jn b N).count b + 1 = N.length
 | [], h, _ => absurd rfl h
 | [x], _, h => by simp [jn, List.count_eq_zero_of_not_mem (h x (by simp))]
 | x :: y :: r, _, h => by
  have ih:=jn_count (y :: r) (by simp) λ z hz => h z (List.mem_cons_of_mem _ hz)
  rw [jn_cons b (x:=x) (by simp)]
  simp only [List.count_append, List.count_eq_zero_of_not_mem (h x (by simp)), List.length_cons] at ih ⊢
  simp
  omega
theorem index_at {x s : List UInt8} (h : b ∉ x) : Lib.indexByte (x ++ b :: s) b = x.length:=by
 have hge:=Lib.indexByte_ge (x ++ b :: s) b
 have hat : (x ++ b :: s)[x.length]? = some b:=by simp
 obtain ⟨o, ho⟩ : ∃ o : Nat, Lib.indexByte (x ++ b :: s) b = o:=by
  by_cases hn : Lib.indexByte (x ++ b :: s) b = -1
  ·exact absurd hat (Lib.indexByte_none hn _)
  ·exact ⟨(Lib.indexByte (x ++ b :: s) b).toNat, by omega⟩
 obtain ⟨h1, h2⟩:=Lib.indexByte_some ho
 have : o = x.length:=by
  rcases Nat.lt_trichotomy o x.length with hlt | he | hgt
  ·rw [List.getElem?_append_left hlt] at h1
   exact absurd (List.mem_of_getElem? h1) h
  ·exact he
  ·exact absurd hat (h2 _ hgt)
 rw [ho, this]
theorem index_no {x : List UInt8} (h : b ∉ x) : Lib.indexByte x b = -1:=by
 have hge:=Lib.indexByte_ge x b
 refine Classical.byContradiction λ hn => ?_
 obtain ⟨h1, _⟩:=Lib.indexByte_some (o:=(Lib.indexByte x b).toNat) (show Lib.indexByte x b = _ by omega)
 exact h (List.mem_of_getElem? h1)
theorem split_join : ∀ (k : Nat) (N : List (List UInt8)), N ≠ [] -> (∀ x ∈ N, b ∉ x) -> N.length <= k + 1 -> Lib.splitK [b] 0 k (jn b N) = N
 | _, [], h, _, _ => absurd rfl h
 | 0, [x], _, h, _ => by simp [Lib.splitK, jn]
 | 0, x :: y :: r, _, _, hl => by simp at hl
 | k + 1, [x], _, h, _ => by
  unfold Lib.splitK
  rw [show jn b [x] = x by simp [jn], Lib.index_one, index_no b (h x (by simp))]
  rfl
 | k + 1, x :: y :: r, _, h, hl => by
  have ih:=split_join k (y :: r) (by simp) (λ z hz => h z (List.mem_cons_of_mem _ hz)) (by simpa using hl)
  unfold Lib.splitK
  rw [jn_cons b (x:=x) (by simp)]
  have e : x ++ [b] ++ jn b (y :: r) = x ++ b :: jn b (y :: r):=by simp
  rw [e, Lib.index_one, index_at b (h x (by simp))]
  have hne : ((x.length : Int) == -1) = false:=by simp
  rw [hne]
  have e1 : (x.length : Int).toNat + 0 = x.length:=by omega
  have e2 : (x.length : Int).toNat + ([b] : List UInt8).length = x.length + 1:=by simp
  rw [e1, e2]
  simp only [Bool.false_eq_true, if_false, List.take_left]
  have e3 : (x ++ b :: jn b (y :: r)).drop (x.length + 1) = jn b (y :: r):=by simp
  rw [e3, ih]
def spl : List UInt8 -> List (List UInt8)
 | [] => [[]]
 | c :: r => if c = b then [] :: spl r else match spl r with
  | p :: ps => (c :: p) :: ps
  | [] => [[c]]
theorem spl_ne : ∀ r, spl b r ≠ []
 | [] => by simp [spl]
 | c :: r => by
  unfold spl
  split
  ·simp
  ·split <;> simp
theorem spl_jn : ∀ r, jn b (spl b r) = r /\ ∀ x ∈ spl b r, b ∉ x
 | [] => by simp [spl, jn]
 | c :: r => by
  obtain ⟨h1, h2⟩:=spl_jn r
  have hne:=spl_ne b r
  unfold spl
  by_cases hc : c = b
  ·rw [if_pos hc, jn_cons b hne, h1]
   refine ⟨by simp [hc], λ x hx => ?_⟩
   rcases List.mem_cons.1 hx with rfl | hx
   ·simp
   ·exact h2 x hx
  ·rw [if_neg hc]
   cases hp : spl b r with
   | nil => exact absurd hp hne
   | cons p ps =>
    rw [hp] at h1 h2
    simp only
    refine ⟨?_, λ x hx => ?_⟩
    ·cases ps with
     | nil => simp [jn] at h1 ⊢; rw [h1]
     | cons q t =>
      rw [jn_cons b (by simp)] at h1 ⊢
      rw [<- h1]; simp
    ·rcases List.mem_cons.1 hx with rfl | hx
     ·have:=h2 p (by simp)
      simp only [List.mem_cons, not_or]
      exact ⟨λ h => hc h.symm, this⟩
     ·exact h2 x (List.mem_cons_of_mem _ hx)
theorem spl_of {N : List (List UInt8)} (hn : N ≠ []) (h : ∀ x ∈ N, b ∉ x) : spl b (jn b N) = N:=by
 obtain ⟨h1, h2⟩:=spl_jn b (jn b N)
 have l1:=jn_count b N hn h
 have l2:=jn_count b _ (spl_ne b (jn b N)) h2
 rw [h1] at l2
 have e1:=split_join b ((jn b N).count b) N hn h (by omega)
 have e2:=split_join b ((jn b N).count b) _ (spl_ne b (jn b N)) h2 (by omega)
 rw [h1] at e2
 rw [<- e2, e1]
end
section
variable {w w1 w2 : World}
theorem ba_eq {x y : ByteArray} (h : x.data.toList = y.data.toList) : x = y:=by
 apply ByteArray.ext
 exact Array.toList_inj.1 h
theorem mapD_inj {l l' : List ByteArray} (h : l.map (·.data.toList) = l'.map (·.data.toList)) : l = l':=by
 induction l generalizing l' with
 | nil => cases l' with
  | nil => rfl
  | cons y r => simp at h
 | cons x r ih => cases l' with
  | nil => simp at h
  | cons y r' =>
   simp only [List.map_cons, List.cons.injEq] at h
   rw [ba_eq h.1, ih h.2]
theorem split_run (ht : Tb w) (l : List UInt8) (b : UInt8) (hl : l.length < 4294967281) :
  Run (F.strings_Split (.string (sb l)) (.string (sb [b]))) w λ r w' => SlW 1 w' r ((spl b l).map λ x => [.string (sb x)]) /\ Fr (λ _ => False) w w' /\ ∀ c, inB r c -> w.heap.size <= c /\ c < w'.heap.size:=by
 obtain ⟨m, hm⟩:=ht.ml
 have hcell : w.cell? ⟨3, 0, none⟩ = some (.int .i64 m):=by
  obtain ⟨c, e, fr, hh, hc⟩:=bk_cells hm
  unfold World.cell?
  rw [hh]
  simp
  rw [<- Array.getElem?_toList, hc]; rfl
 obtain ⟨hj, hno⟩:=spl_jn b l
 have hne:=spl_ne b l
 have hcnt:=jn_count b _ hne hno
 rw [hj] at hcnt
 have hcb : Lib.countB (sb l) (sb [b]) = l.count b:=by
  show Lib.count l [b] = _
  rw [Lib.count_one]
 have hparts : Lib.splitB (sb [b]) 0 (Lib.countB (sb l) (sb [b])) (sb l) = (spl b l).map sb:=by
  apply mapD_inj
  rw [Lib.splitB_data, hcb]
  have:=split_join b (l.count b) _ hne hno (by omega)
  rw [hj] at this
  rw [List.map_map]
  have e : ((λ x : ByteArray => x.data.toList) ∘ sb) = id:=by funext l; rfl
  rw [e, List.map_id]
  exact this
 have e : F.strings_Split (.string (sb l)) (.string (sb [b])) w = some (.slice (some ⟨w.heap.size, 0, none⟩) (spl b l).length (spl b l).length, w.alloc (.cells (((spl b l).map sb).map Value.string).toArray 9)):=by
  unfold F.strings_Split
  simp only
  rw [if_pos ⟨by rw [sb_size]; exact hl, by rw [sb_size]; simp, m, hcell⟩, hparts, hcb, hcnt]
 refine ⟨_, _, e, ⟨⟨by simp, some ⟨w.heap.size, 0, none⟩, (spl b l).length, by simp, by simp, .inr ⟨w.heap.size, 0, ((spl b l).map sb).map Value.string, rfl, ?_, by simp, ?_⟩⟩, λ c hc _ => ?_⟩, (Fr.refl _ _).alloc _, λ c hc => ?_⟩
 ·have:=bk_alloc_at (w:=w) rfl (((spl b l).map sb).map Value.string).toArray 9
  simpa using this
 ·have : ∀ l : List (List UInt8), (l.map λ x => [Value.string (sb x)]).flatten = (l.map sb).map Value.string:=by
   intro l
   induction l with
   | nil => rfl
   | cons x l ih => simp [ih]
  rw [this, List.drop_zero, List.length_map, Nat.mul_one, List.take_of_length_le (by simp)]
 ·cases hc; exact wr_alloc_at rfl _ _
 ·cases hc; exact ⟨Nat.le_refl _, by simp⟩
theorem sbEq (a c : List UInt8) : binV .eql (.string (sb a)) (.string (sb c)) = some (.bool (decide (a = c))):=by
 show strBin .eql (sb a) (sb c) = _
 simp only [strBin, ByteArray.toList_eq]
 show some (Value.bool (a == c)) = _
 by_cases h : a = c <;> simp [h]
theorem sbNe (a c : List UInt8) : binV .neq (.string (sb a)) (.string (sb c)) = some (.bool (!decide (a = c))):=by
 show strBin .neq (sb a) (sb c) = _
 simp only [strBin, ByteArray.toList_eq]
 show some (Value.bool (!(a == c))) = _
 by_cases h : a = c <;> simp [h]
theorem sb_extract {l : List UInt8} {n m : Nat} : (sb l).extract n m = sb ((l.take m).drop n):=by
 apply ba_eq
 show ((sb l).extract n m).data.toList = (l.take m).drop n
 simp [sb, List.drop_take]
theorem bound_at {kd : IntKind} {n m : Nat} (h : n <= m) : boundV (.int kd (n : Int)) m = some n:=by
 unfold boundV
 simp only
 rw [if_pos (by omega)]
 simp
theorem slTo {l : List UInt8} {n : Nat} (h : n <= l.length) : sliceS (.string (sb l)) none (some (.int .i64 (n : Int))) = some (.string (sb (l.take n))):=by
 simp only [sliceS, highV, lowV, bound_at (show n <= (sb l).size by rw [sb_size]; exact h), sb_extract, List.drop_zero]
theorem slFrom {l : List UInt8} {n : Nat} (h : n <= l.length) : sliceS (.string (sb l)) (some (.int .i64 (n : Int))) none = some (.string (sb (l.drop n))):=by
 simp only [sliceS, highV, lowV, sb_extract, sb_size, List.take_length, bound_at h]
theorem slBoth {l : List UInt8} {n m : Nat} (h : n <= m) (hm : m <= l.length) : sliceS (.string (sb l)) (some (.int .i64 (n : Int))) (some (.int .i64 (m : Int))) = some (.string (sb ((l.take m).drop n))):=by
 simp only [sliceS, highV, lowV, bound_at (show m <= (sb l).size by rw [sb_size]; exact hm), bound_at h, sb_extract]
theorem idxSb {l : List UInt8} {kd : IntKind} {i : Nat} {c : UInt8} (h : l[i]? = some c) : idxS (.string (sb l)) (.int kd (i : Int)) = some (by8 c):=by
 obtain ⟨h1, h2⟩:=List.getElem?_eq_some_iff.1 h
 have hs : i < (sb l).size:=by rw [sb_size]; exact h1
 have hg : (sb l)[i] = c:=by rw [<- h2]; rfl
 simp [idxS, hs, hg, by8]
end
def isD (c : UInt8) : Bool:=decide (48 <= c.toNat /\ c.toNat <= 57)
def valF (a : Nat) (c : UInt8) : Nat:=10 * a + (c.toNat - 48)
def valL (l : List UInt8) : Nat:=l.foldl valF 0
def numF (l : List UInt8) : Option Nat:=if l = [] ∨ 16 < l.length ∨ (1 < l.length /\ l.head? = some 48) ∨ l.all isD = false then none else some (valL l)
def numV (o : Option Nat) : Value:=.tuple #[.int .i64 ((o.getD 0 : Nat) : Int), .bool o.isSome]
theorem valL_snoc (l : List UInt8) (c : UInt8) : valL (l ++ [c]) = 10 * valL l + (c.toNat - 48):=by
 unfold valL
 rw [List.foldl_append]; rfl
theorem valF_lt : ∀ (l : List UInt8) (a k : Nat), l.all isD = true -> a < 10 ^ k -> l.foldl valF a < 10 ^ (k + l.length)
 | [], a, k, _, h => h
 | c :: l, a, k, ha, h => by
  simp only [List.all_cons, Bool.and_eq_true, isD, decide_eq_true_eq] at ha
  have:=valF_lt l (valF a c) (k + 1) ha.2 (by unfold valF; rw [Nat.pow_succ]; omega)
  rw [List.length_cons, show k + (l.length + 1) = k + 1 + l.length by omega]
  exact this
theorem valL_lt (l : List UInt8) (h : l.all isD = true) : valL l < 10 ^ l.length:=by
 have:=valF_lt l 0 0 h (by decide)
 rwa [Nat.zero_add] at this
def runD (l : List UInt8) : List UInt8:=l.takeWhile isD
theorem runD_all (l : List UInt8) : (runD l).all isD = true:=by
 unfold runD
 induction l with
 | nil => rfl
 | cons c l ih =>
  by_cases h : isD c = true
  ·simp [List.takeWhile_cons, h] at ih ⊢
  ·simp [List.takeWhile_cons, h]
theorem runD_le (l : List UInt8) : (runD l).length <= l.length:=(List.takeWhile_prefix isD).length_le
theorem runD_take (l : List UInt8) : l.take (runD l).length = runD l:=((List.prefix_iff_eq_take).1 (List.takeWhile_prefix isD)).symm
theorem runD_at (l : List UInt8) {i : Nat} (h : i < (runD l).length) : ∃ c, l[i]? = some c /\ isD c = true:=by
 have ha:=runD_all l
 have hc : (runD l)[i]? = some (runD l)[i]:=List.getElem?_eq_getElem h
 refine ⟨(runD l)[i], ?_, ?_⟩
 ·rw [<- hc]
  conv => rhs; rw [<- runD_take]
  rw [List.getElem?_take_of_lt h]
 ·exact List.all_eq_true.1 ha _ (List.getElem_mem h)
theorem runD_end : ∀ (l : List UInt8) {c : UInt8}, l[(runD l).length]? = some c -> isD c = false
 | [], c, h => by simp at h
 | x :: l, c, h => by
  unfold runD at h
  by_cases hx : isD x = true
  ·simp only [List.takeWhile_cons, hx, if_true, List.length_cons, List.getElem?_cons_succ] at h
   exact runD_end l h
  ·simp only [List.takeWhile_cons, hx] at h
   simp at h
   subst h
   simpa using hx
theorem runD_full {l : List UInt8} : l.all isD = true ↔ (runD l).length = l.length:=by
 constructor
 ·intro h
  unfold runD
  induction l with
  | nil => rfl
  | cons c l ih =>
   simp only [List.all_cons, Bool.and_eq_true] at h
   simp [List.takeWhile_cons, h.1, ih h.2]
 ·intro h
  have:=runD_take l
  rw [h, List.take_length] at this
  rw [this]
  exact runD_all l
section
variable {w w1 w2 : World}
theorem pow_le16 {i : Nat} (h : i <= 16) : 10 ^ i <= 10000000000000000:=by
 have : (10 : Nat) ^ i <= 10 ^ 16:=Nat.pow_le_pow_right (by decide) h
 exact this
theorem number_run (l : List UInt8) (hl : l.length <= 4611686018427387904) : Run (F.paper_number (.string (sb l))) w λ r w' => r = numV (numF l) /\ Fr (λ _ => False) w w':=by
 unfold F.paper_number
 have e0 : ByteArray.mk #[] = sb []:=rfl
 rw [e0]
 have hno : ∀ {p : Prop}, p -> (p -> l = [] ∨ 16 < l.length ∨ (1 < l.length /\ l.head? = some 48) ∨ l.all isD = false) -> numV (numF l) = .tuple #[.int .i64 0, .bool false]:=λ hp h => by rw [numF, if_pos (h hp)]; rfl
 by_cases h1 : l = []
 ·simp [-binV_str, sbEq, h1]
  rw [<- h1, hno h1 .inl]
  exact ⟨rfl, Fr.refl _ _⟩
 by_cases h2 : 16 < l.length
 ·have h2' : (16 : Int) < l.length:=by omega
  simp [-binV_str, sbEq, h1, sb_size, h2']
  rw [hno h2 λ h => .inr (.inl h)]
  exact ⟨rfl, Fr.refl _ _⟩
 have h2' : ¬ (16 : Int) < l.length:=by omega
 obtain ⟨c0, r0, rfl⟩:=List.exists_cons_of_ne_nil h1
 have i0 : idxS (.string (sb (c0 :: r0))) (.int .i64 0) = some (by8 c0):=idxSb (l:=c0 :: r0) (i:=0) rfl
 have hz : ∀ c : UInt8, ((c.toNat : Int) = 48) ↔ c = 48:=λ c => by
  constructor
  ·intro h
   have h48 : c.toNat = 48:=by omega
   have : c.toNat = (48 : UInt8).toNat:=by rw [h48]; rfl
   exact UInt8.toNat_inj.1 this
  ·rintro rfl; rfl
 have l1 : (1 : Int) < ((c0 :: r0).length : Int) ↔ 1 < (c0 :: r0).length:=by omega
 generalize hL : c0 :: r0 = L at *
 have hsz:=sb_size L
 have hh : L.head? = some c0:=by rw [<- hL]; rfl
 by_cases h34 : 1 < L.length /\ c0 = 48
 ·have h3' : (1 : Int) < L.length:=by omega
  have h4' : (c0.toNat : Int) = 48:=(hz _).2 h34.2
  simp [-binV_str, sbEq, h1, sb_size, h2', h3', i0, by8, h4']
  rw [hno h34.2 λ h => .inr (.inr (.inl ⟨h34.1, by rw [hh, h]⟩))]
  exact ⟨rfl, Fr.refl _ _⟩
 have e : numF L = if L.all isD = true then some (valL L) else none:=by
  unfold numF
  by_cases ha : L.all isD = true
  ·rw [if_pos ha, if_neg]
   rintro (h | h | ⟨h, h'⟩ | h)
   ·exact h1 h
   ·exact h2 h
   ·rw [hh] at h'; cases h'; exact h34 ⟨h, rfl⟩
   ·rw [ha] at h; cases h
  ·rw [if_neg ha, if_pos (.inr (.inr (.inr (by simpa using ha))))]
 have hR1 : L.all isD = true -> numF L = some (valL L):=λ h => by rw [e, if_pos h]
 have hR0 : ¬ L.all isD = true -> numF L = none:=λ h => by rw [e, if_neg h]
 generalize numF L = R at *
 have h9 : ((1 : Int) < L.length /\ ¬ (c0.toNat : Int) = 48) ∨ ¬ (1 : Int) < L.length:=by
  by_cases h : 1 < L.length
  ·exact .inl ⟨by omega, λ h' => h34 ⟨h, (hz _).1 h'⟩⟩
  ·exact .inr (by omega)
 rcases h9 with ⟨h3, h4⟩ | h3
 all_goals
  first
  | simp [-binV_str, sbEq, h1, sb_size, h2', h3, h4, i0, by8]
  | simp [-binV_str, sbEq, h1, sb_size, h2', h3, i0, by8]
  refine Run_sbM λ r w1 hr f1 _ => ?_
  have hlen:=hr.1.lenL
  rw [List.length_map] at hlen
  have hlen' : lenL r = some (.int .i64 (L.length : Int)):=hlen
  rw [hlen', Run_bindO_some, Run_bind]
  have hJ:=runD_le L
  refine Run_for (runD L).length (λ i L' w' => L' = [.int .i64 ((valL (L.take i) : Nat) : Int), .int .i64 (i : Int)] /\ w' = w1) ⟨rfl, rfl⟩ ?_ ?_
  ·rintro i L' w2 hi ⟨rfl, hw2⟩
   rw [hw2]
   obtain ⟨c, hc, hd⟩:=runD_at L hi
   have hil : (i : Int) < L.length:=by omega
   obtain ⟨p, p1, p2⟩:=hr.1.rd1 (i:=i) (y:=by8 c) (by simp [sb, hc, by8]) .i64
   have hd':=hd
   simp only [isD, decide_eq_true_eq] at hd'
   have d1 : ¬ (c.toNat : Int) < 48:=by omega
   have d2 : ¬ (57 : Int) < c.toNat:=by omega
   have hv:=valL_snoc (L.take i) c
   rw [<- take_snocP hc] at hv
   have hall : (L.take i).all isD = true:=by
    have:=runD_all L
    rw [<- runD_take L] at this
    have e3 : L.take i = (L.take (runD L).length).take i:=by rw [List.take_take, Nat.min_eq_left (by omega)]
    rw [e3]
    exact List.all_eq_true.2 λ x hx => List.all_eq_true.1 this x (List.mem_of_mem_take hx)
   have hb:=valL_lt _ hall
   have hb2:=pow_le16 (i:=(L.take i).length) (by rw [List.length_take]; omega)
   have w1' : IntKind.i64.wrap (10 * ((valL (L.take i) : Nat) : Int)) = ((10 * valL (L.take i) : Nat) : Int):=by
    rw [show 10 * ((valL (L.take i) : Nat) : Int) = ((10 * valL (L.take i) : Nat) : Int) by omega]; exact i64W (by omega)
   have w2' : IntKind.u8.wrap ((c.toNat : Int) - 48) = ((c.toNat - 48 : Nat) : Int):=by
    rw [show (c.toNat : Int) - 48 = ((c.toNat - 48 : Nat) : Int) by omega]; exact u8W (by have:=c.toNat_lt; omega)
   have w3' : IntKind.i64.wrap ((c.toNat - 48 : Nat) : Int) = ((c.toNat - 48 : Nat) : Int):=i64W (by have:=c.toNat_lt; omega)
   have w4' : IntKind.i64.wrap (((10 * valL (L.take i) : Nat) : Int) + ((c.toNat - 48 : Nat) : Int)) = ((valL (L.take (i + 1)) : Nat) : Int):=by
    rw [show ((10 * valL (L.take i) : Nat) : Int) + ((c.toNat - 48 : Nat) : Int) = ((valL (L.take (i + 1)) : Nat) : Int) by omega]; exact i64W (by have:=c.toNat_lt; omega)
   have wi:=wrap_succ' (n:=i) (by omega)
   have p1' : idxA 1 r (.int .i64 (i : Int)) = some p:=p1
   simp only [getL_zero, getL_succ, binV_int, intBin_lss, intBin_gtr, gt_iff_lt, hil, decide_true, Run_bindO_some, Run_condM_true, p1', Run_bind, Run_rdM, p2]
   refine ⟨_, rfl, ?_⟩
   simp only [by8, binV_int, intBin_lss, intBin_gtr, gt_iff_lt, d1, d2, decide_false, Run_bindO_some, Run_bind, Run_guardM_ff, Run_ret, Run_optM_some, pickV_bool, cond_false, Run_condM_false, intBin_mul, w1', intBin_sub, w2', cvtI_int, w3', intBin_add, w4', wi]
   exact ⟨trivial, trivial⟩
  ·rintro L' w2 ⟨rfl, hw2⟩
   rw [hw2]
   by_cases hJL : (runD L).length = L.length
   ·have hall:=runD_full.2 hJL
    have hn : ¬ ((runD L).length : Int) < L.length:=by omega
    simp only [getL_zero, getL_succ, binV_int, intBin_lss, hn, decide_false, Run_bindO_some, Run_condM_false, Run_ret, outK_exit]
    show Run (M.ret _) w1 _
    rw [Run_ret, hR1 hall, hJL, List.take_length]
    exact ⟨rfl, f1⟩
   ·have hall : ¬ L.all isD = true:=λ h => hJL (runD_full.1 h)
    have hil : ((runD L).length : Int) < L.length:=by omega
    obtain ⟨c, hc⟩ : ∃ c, L[(runD L).length]? = some c:=⟨_, List.getElem?_eq_getElem (by omega)⟩
    have hd:=runD_end L hc
    obtain ⟨p, p1, p2⟩:=hr.1.rd1 (i:=(runD L).length) (y:=by8 c) (by simp [sb, hc, by8]) .i64
    have p1' : idxA 1 r (.int .i64 ((runD L).length : Int)) = some p:=p1
    simp only [isD, decide_eq_false_iff_not] at hd
    simp only [getL_zero, getL_succ, binV_int, intBin_lss, intBin_gtr, gt_iff_lt, hil, decide_true, Run_bindO_some, Run_condM_true, p1', Run_bind, Run_rdM, p2]
    refine ⟨_, rfl, ?_⟩
    rw [hR0 hall]
    by_cases d1 : (c.toNat : Int) < 48
    ·simp [by8, d1, numV, f1]
    ·have d2 : (57 : Int) < c.toNat:=by omega
     simp [by8, d1, d2, numV, f1]
end
def hvN (m : Nat) : Option Nat:=if 48 <= m /\ m <= 57 then some (m - 48) else if 97 <= m /\ m <= 102 then some (m - 87) else none
theorem hvN_lt {m k : Nat} (h : hvN m = some k) : k < 16:=by
 unfold hvN at h
 split at h
 ·cases h; omega
 ·split at h
  ·cases h; omega
  ·cases h
def hvV (m : Nat) : Int:=match hvN m with
 | some k => k
 | none => -1
def pairV (l : List UInt8) (i : Nat) : Option UInt8:=match l[2 * i]?, l[2 * i + 1]? with
 | some a, some b => match hvN a.toNat, hvN b.toNat with
  | some x, some y => some (UInt8.ofNat (16 * x + y))
  | _, _ => none
 | _, _ => none
def pairsF (l : List UInt8) : Nat -> Option (List UInt8)
 | 0 => some []
 | n + 1 => match pairsF l n, pairV l n with
  | some r, some c => some (r ++ [c])
  | _, _ => none
theorem pairsF_len {l : List UInt8} : ∀ {n : Nat} {r : List UInt8}, pairsF l n = some r -> r.length = n
 | 0, r, h => by cases h; rfl
 | n + 1, r, h => by
  unfold pairsF at h
  split at h
  ·rename_i r' c h1 h2
   cases h
   rw [List.length_append, pairsF_len h1]; rfl
  ·cases h
theorem pairsF_bad {l : List UInt8} {J : Nat} (hJ : pairV l J = none) : ∀ {n : Nat}, J < n -> pairsF l n = none
 | 0, h => absurd h (by omega)
 | n + 1, h => by
  unfold pairsF
  by_cases hn : J = n
  ·subst hn; rw [hJ]; split <;> simp_all
  ·rw [pairsF_bad hJ (n:=n) (by omega)]
theorem pairs_far (l : List UInt8) : ∀ n : Nat, ∃ J, J <= n /\ (∀ i, i <= J -> ∃ r, pairsF l i = some r) /\ (J = n ∨ pairV l J = none)
 | 0 => ⟨0, Nat.le_refl _, λ i hi => ⟨[], (show i = 0 by omega) ▸ rfl⟩, .inl rfl⟩
 | n + 1 => by
  obtain ⟨J, h1, h2, h3⟩:=pairs_far l n
  rcases h3 with rfl | h3
  ·cases hp : pairV l J with
   | none => exact ⟨J, by omega, h2, .inr hp⟩
   | some c =>
    refine ⟨J + 1, Nat.le_refl _, λ i hi => ?_, .inl rfl⟩
    rcases Nat.lt_or_ge i (J + 1) with h | h
    ·exact h2 i (by omega)
    ·obtain rfl : i = J + 1:=by omega
     obtain ⟨r, hr⟩:=h2 J (Nat.le_refl _)
     exact ⟨r ++ [c], by unfold pairsF; rw [hr, hp]⟩
  ·exact ⟨J, by omega, h2, .inr h3⟩
section
variable {w w1 w2 : World}
theorem digit_run {c : UInt8} : F.digest_digit (by8 c) w = some (.int .i64 (hvV c.toNat), w):=by
 have : Run (F.digest_digit (by8 c)) w λ r w' => r = .int .i64 (hvV c.toNat) /\ w' = w:=by
  unfold F.digest_digit by8 hvV hvN
  have hlt:=c.toNat_lt
  by_cases h1 : 48 <= c.toNat
  ·by_cases h2 : c.toNat <= 57
   ·have a1 : (48 : Int) <= c.toNat:=by omega
    have a2 : (c.toNat : Int) <= 57:=by omega
    have e1 : IntKind.u8.wrap ((c.toNat : Int) - 48) = ((c.toNat - 48 : Nat) : Int):=by
     rw [show (c.toNat : Int) - 48 = ((c.toNat - 48 : Nat) : Int) by omega]; exact u8W (by omega)
    have e2 : IntKind.i64.wrap ((c.toNat - 48 : Nat) : Int) = ((c.toNat - 48 : Nat) : Int):=i64W (by omega)
    simp [a1, a2, h1, h2, e1, e2]
   ·have a1 : (48 : Int) <= c.toNat:=by omega
    have a2 : ¬ (c.toNat : Int) <= 57:=by omega
    by_cases h3 : 97 <= c.toNat
    ·have a3 : (97 : Int) <= c.toNat:=by omega
     by_cases h4 : c.toNat <= 102
     ·have a4 : (c.toNat : Int) <= 102:=by omega
      have e1 : IntKind.u8.wrap ((c.toNat : Int) - 97) = ((c.toNat - 97 : Nat) : Int):=by
       rw [show (c.toNat : Int) - 97 = ((c.toNat - 97 : Nat) : Int) by omega]; exact u8W (by omega)
      have e2 : IntKind.i64.wrap ((c.toNat - 97 : Nat) : Int) = ((c.toNat - 97 : Nat) : Int):=i64W (by omega)
      have e3 : IntKind.i64.wrap (((c.toNat - 97 : Nat) : Int) + 10) = ((c.toNat - 87 : Nat) : Int):=by
       rw [show ((c.toNat - 97 : Nat) : Int) + 10 = ((c.toNat - 87 : Nat) : Int) by omega]; exact i64W (by omega)
      simp [a1, a2, a3, a4, h1, h2, h3, h4, e1, e2, e3]
     ·have a4 : ¬ (c.toNat : Int) <= 102:=by omega
      simp [a1, a2, a3, a4, h1, h2, h3, h4]
    ·have a3 : ¬ (97 : Int) <= c.toNat:=by omega
     simp [a1, a2, a3, h1, h2, h3]
  ·have a1 : ¬ (48 : Int) <= c.toNat:=by omega
   have h3 : ¬ 97 <= c.toNat:=by omega
   have a3 : ¬ (97 : Int) <= c.toNat:=by omega
   simp [a1, a3, h1, h3]
 obtain ⟨r, w', e, rfl, rfl⟩:=this
 exact e
theorem OwnB.put {v : Value} {l : List UInt8} (h : OwnB w w1 v l) {i : Nat} {y : UInt8} (hy : l[i]? = some y) (kd : IntKind) :
  ∃ p, idxA 1 v (.int kd (i : Int)) = some p /\ ld1 p w1 = some (by8 y) /\ ∀ (β : Type) (b : UInt8) (K : M β) (Q : β -> World -> Prop), (∀ w2, OwnB w w2 v (l.set i b) -> Fr (inB v) w1 w2 -> Run K w2 Q) -> Run (M.bind (stM 1 p (by8 b)) λ _ => K) w1 Q:=by
 obtain ⟨bl, o, e1, hin, hlt, ok, hp⟩:=h.sl.put (i:=i) (e:=[by8 y]) (by simp [hy]) kd
 obtain ⟨p, p1, p2⟩:=h.sl.1.rd1 (i:=i) (y:=by8 y) (by simp [hy]) kd
 have e1' : idxA 1 v (.int kd (i : Int)) = some (.pointer (some ⟨bl, o, none⟩)):=e1
 have p1' : idxA 1 v (.int kd (i : Int)) = some p:=p1
 rw [e1'] at p1'
 cases p1'
 refine ⟨_, e1', p2, λ β b K Q q => ?_⟩
 rw [Run_bind, Run_stM (by rfl) (by rfl) ok]
 have hs:=(hp 0 [by8 b] (by simp)).2
 have hf : Fr (inB v) w1 (sto w1 bl o [by8 b]):=(Fr.refl _ _).sto (.inl hin) _ _
 refine q _ ⟨?_, λ c hc => ?_, ?_⟩ hf
 ·rw [List.map_set]; exact hs
 ·exact ⟨(h.fresh c hc).1, Nat.lt_of_lt_of_le (h.fresh c hc).2 hf.size⟩
 ·exact h.fr.sto (.inr (h.fresh _ hin).1) _ _
theorem shl4 {m : Nat} (h : m < 16) : shV .shl (.int .u8 (m : Int)) (.int .u64 4) = some (.int .u8 ((16 * m : Nat) : Int)):=by
 have h0 : ¬ ((4 : Int) < 0):=by omega
 simp only [shV, h0, if_false]
 have e : (m : Int) * 2 ^ (min (4 : Int).toNat IntKind.u8.bits) = ((16 * m : Nat) : Int):=by
  have : min (4 : Int).toNat IntKind.u8.bits = 4:=by decide
  rw [this]; omega
 rw [e, u8W (by omega)]
theorem or8 {m d : Nat} (h : m < 16) (hd : d < 16) : intBin .or .u8 ((16 * m : Nat) : Int) (d : Int) = some (.int .u8 ((16 * m + d : Nat) : Int)):=by
 simp only [intBin]
 have e : (BitVec.ofInt IntKind.u8.bits ((16 * m : Nat) : Int) ||| BitVec.ofInt IntKind.u8.bits (d : Int)).toNat = 16 * m + d:=by
  rw [BitVec.toNat_or, BitVec.ofInt_natCast, BitVec.ofInt_natCast, BitVec.toNat_ofNat, BitVec.toNat_ofNat]
  show 16 * m % 2 ^ 8 ||| d % 2 ^ 8 = _
  rw [Nat.mod_eq_of_lt (show 16 * m < 2 ^ 8 by omega), Nat.mod_eq_of_lt (show d < 2 ^ 8 by omega)]
  have:=Nat.two_pow_add_eq_or_of_lt (i:=4) (b:=d) (by omega) m
  rw [show (2 : Nat) ^ 4 = 16 from rfl] at this
  exact this.symm
 rw [e, u8W (by omega)]
theorem Run_digit {c : UInt8} {Q : Value -> World -> Prop} : Run (F.digest_digit (by8 c)) w Q ↔ Q (.int .i64 (hvV c.toNat)) w:=by
 constructor
 ·rintro ⟨r, w', e, q⟩
  rw [digit_run] at e
  cases e
  exact q
 ·exact λ q => ⟨_, _, digit_run, q⟩
def accP (x y : Nat) : Nat -> Nat
 | 0 => 0
 | 1 => x
 | _ => 16 * x + y
theorem lssT {k : IntKind} {a b : Int} (h : a < b) : binV .lss (.int k a) (.int k b) = some (.bool true):=by simp [h]
theorem lssF {k : IntKind} {a b : Int} (h : ¬ a < b) : binV .lss (.int k a) (.int k b) = some (.bool false):=by simp only [binV_int, intBin_lss, h, decide_false]
theorem take2 {l : List UInt8} {i : Nat} {a b : UInt8} (ha : l[2 * i]? = some a) (hb : l[2 * i + 1]? = some b) : (l.take (2 * i + 2)).drop (2 * i) = [a, b]:=by
 apply List.ext_getElem?
 intro k
 rw [List.getElem?_drop, List.getElem?_take]
 match k with
 | 0 => simp [ha]
 | 1 => simp [hb]
 | k + 2 => simp; omega
theorem by8_of {m : Nat} (h : m < 256) : by8 (UInt8.ofNat m) = .int .u8 (m : Int):=by
 unfold by8
 rw [show (UInt8.ofNat m).toNat = m from UInt8.toNat_ofNat_of_lt' h]
theorem hvV_some {m k : Nat} (h : hvN m = some k) : hvV m = (k : Int):=by unfold hvV; rw [h]
theorem hvV_none {m : Nat} (h : hvN m = none) : hvV m = -1:=by unfold hvV; rw [h]
noncomputable def pairB (v x14 : Value) (i : Nat) : List Value -> M Out:=λ l16 =>
 bindO (binV BinOp.lss (getL l16 0) (.int .i64 2)) λ x17 =>
 condM x17 (
  bindO (idxA 1 x14 (getL l16 0)) λ x18 =>
  M.bind (rdM (ld1 x18)) λ x19 =>
  M.bind (F.digest_digit x19) λ x20 =>
  bindO (binV BinOp.lss x20 (Value.int IntKind.i64 0)) λ x21 =>
  condM x21 (
   M.ret (Out.ret (Value.tuple #[(Value.string (sb [])), (Value.int IntKind.i64 20)]))) (
   bindO (idxA 1 v (.int .i64 (i : Int))) λ x22 =>
   M.bind (rdM (ld1 x22)) λ x23 =>
   bindO (shV BinOp.shl x23 (Value.int IntKind.u64 4)) λ x24 =>
   bindO (cvtI IntKind.u8 x20) λ x25 =>
   bindO (binV BinOp.or x24 x25) λ x26 =>
   bindO (idxA 1 v (.int .i64 (i : Int))) λ x27 =>
   M.bind (stM 1 x27 x26) λ _ =>
   bindO (binV BinOp.add (getL l16 0) (Value.int IntKind.i64 1)) λ x29 =>
   M.ret (Out.norm [x29]))) (
  M.ret (Out.exit 2 [(getL l16 0)]))
theorem pair_bad {v x14 : Value} {i k : Nat} (hk : k < 2) {c : UInt8} {els : List (List Value)} (h14 : Sl 1 w1 x14 els) (hc : els[k]? = some [by8 c]) (hb : hvN c.toNat = none) {Q : Out -> World -> Prop}
  (q : Q (.ret (.tuple #[.string (sb []), .int .i64 20])) w1) : Run (pairB v x14 i [.int .i64 (k : Int)]) w1 Q:=by
 unfold pairB
 obtain ⟨p, p1, p2⟩:=h14.rd1 hc .i64
 have p1' : idxA 1 x14 (.int .i64 (k : Int)) = some p:=p1
 have hk' : (k : Int) < 2:=by omega
 simp only [getL_zero, binV_int, intBin_lss, hk', decide_true, Run_bindO_some, Run_condM_true, p1', Run_bind, Run_rdM, p2]
 refine ⟨_, rfl, ?_⟩
 rw [Run_digit, hvV_none hb]
 have hn : (-1 : Int) < 0:=by decide
 simp only [binV_int, intBin_lss, hn, decide_true, Run_bindO_some, Run_condM_true, Run_ret]
 exact q
theorem pair_step {v x14 : Value} {i k m d : Nat} (hk : k < 2) {c : UInt8} {els : List (List Value)} (h14 : Sl 1 w1 x14 els) (hc : els[k]? = some [by8 c]) (hb : hvN c.toNat = some d) {r R : List UInt8} (hi : r.length = i) (hm : m < 16)
  (hO : OwnB w w1 v (r ++ UInt8.ofNat m :: R)) (hd : ∀ c, inB x14 c -> ¬ inB v c) {Q : Out -> World -> Prop}
  (q : ∀ w2, OwnB w w2 v (r ++ UInt8.ofNat (16 * m + d) :: R) -> Sl 1 w2 x14 els -> Q (.norm [.int .i64 ((k + 1 : Nat) : Int)]) w2) : Run (pairB v x14 i [.int .i64 (k : Int)]) w1 Q:=by
 unfold pairB
 obtain ⟨p, p1, p2⟩:=h14.rd1 hc .i64
 have p1' : idxA 1 x14 (.int .i64 (k : Int)) = some p:=p1
 have hk' : (k : Int) < 2:=by omega
 have hlt:=hvN_lt hb
 simp only [getL_zero, binV_int, intBin_lss, hk', decide_true, Run_bindO_some, Run_condM_true, p1', Run_bind, Run_rdM, p2]
 refine ⟨_, rfl, ?_⟩
 rw [Run_digit, hvV_some hb]
 have hn : ¬ (d : Int) < 0:=by omega
 obtain ⟨p3, e1, e2, e3⟩:=hO.put (i:=i) (y:=UInt8.ofNat m) (by rw [<- hi]; simp) .i64
 have wd : IntKind.u8.wrap (d : Int) = d:=u8W (by omega)
 have wk:=wrap_succ' (n:=k) (by omega)
 simp only [binV_int, intBin_lss, hn, decide_false, Run_bindO_some, Run_condM_false, e1, Run_bind, Run_rdM, e2]
 refine ⟨_, rfl, ?_⟩
 rw [by8_of (by omega), shl4 hm, Run_bindO_some, cvtI_int, wd, Run_bindO_some, binV_int, or8 hm hlt, Run_bindO_some, <- by8_of (by omega), Run_bindO_some]
 refine (e3 _ (UInt8.ofNat (16 * m + d)) _ _ λ w2 h2 f2 => ?_)
 rw [intBin_add, wk, Run_bindO_some, Run_ret]
 refine q w2 ?_ (h14.fr f2 hd)
 have : (r ++ UInt8.ofNat m :: R).set i (UInt8.ofNat (16 * m + d)) = r ++ UInt8.ofNat (16 * m + d) :: R:=by
  rw [List.set_append_right _ _ (by omega), hi, Nat.sub_self]; rfl
 rwa [this] at h2
theorem pair_end {v x14 : Value} {i : Nat} {Q : Out -> World -> Prop} (q : Q (.exit 2 [.int .i64 2]) w1) : Run (pairB v x14 i [.int .i64 ((2 : Nat) : Int)]) w1 Q:=by
 unfold pairB
 have h : ¬ ((2 : Nat) : Int) < 2:=by omega
 simp only [getL_zero, binV_int, intBin_lss, h, decide_false, Run_bindO_some, Run_condM_false, Run_ret]
 exact q
theorem pair_loop {v x14 : Value} {r R : List UInt8} {i : Nat} (hi : r.length = i) {a b : UInt8} (hO : OwnB w w1 v (r ++ 0 :: R)) (h14 : Sl 1 w1 x14 [[by8 a], [by8 b]]) (hd : ∀ c, inB x14 c -> ¬ inB v c) :
  Run (loopM (pairB v x14 i) [.int .i64 0]) w1 λ o w2 => match hvN a.toNat, hvN b.toNat with
   | some x, some y => o = .exit 2 [.int .i64 2] /\ OwnB w w2 v (r ++ UInt8.ofNat (16 * x + y) :: R)
   | _, _ => o = .ret (.tuple #[.string (sb []), .int .i64 20]) /\ Fr (λ _ => False) w w2:=by
 have hO0 : OwnB w w1 v (r ++ UInt8.ofNat 0 :: R):=hO
 cases ha : hvN a.toNat with
 | none =>
  refine Run_for 0 (λ k L w' => L = [.int .i64 (k : Int)] /\ w' = w1) ⟨rfl, rfl⟩ (λ i l w hi => absurd hi (by omega)) ?_
  rintro L w2 ⟨rfl, hw2⟩
  rw [hw2]
  exact pair_bad (k:=0) (by decide) h14 rfl ha ⟨rfl, hO.fr⟩
 | some x =>
  have hx:=hvN_lt ha
  cases hb : hvN b.toNat with
  | none =>
   refine Run_for 1 (λ k L w' => L = [.int .i64 (k : Int)] /\ OwnB w w' v (r ++ UInt8.ofNat (accP x 0 k) :: R) /\ Sl 1 w' x14 [[by8 a], [by8 b]]) ⟨rfl, hO0, h14⟩ ?_ ?_
   ·rintro k L w2 hk ⟨rfl, h1, h2⟩
    obtain rfl : k = 0:=by omega
    refine pair_step (k:=0) (m:=0) (by decide) h2 rfl ha hi (by decide) h1 hd λ w3 h3 h4 => ⟨rfl, ?_, h4⟩
    simpa [accP] using h3
   ·rintro L w2 ⟨rfl, h1, h2⟩
    exact pair_bad (k:=1) (by decide) h2 rfl hb ⟨rfl, h1.fr⟩
  | some y =>
   refine Run_for 2 (λ k L w' => L = [.int .i64 (k : Int)] /\ OwnB w w' v (r ++ UInt8.ofNat (accP x y k) :: R) /\ Sl 1 w' x14 [[by8 a], [by8 b]]) ⟨rfl, hO0, h14⟩ ?_ ?_
   ·rintro k L w2 hk ⟨rfl, h1, h2⟩
    match k, hk with
    | 0, _ =>
     refine pair_step (k:=0) (m:=0) (by decide) h2 rfl ha hi (by decide) h1 hd λ w3 h3 h4 => ⟨rfl, ?_, h4⟩
     simpa [accP] using h3
    | 1, _ =>
     refine pair_step (k:=1) (m:=x) (by decide) h2 rfl hb hi hx h1 hd λ w3 h3 h4 => ⟨rfl, ?_, h4⟩
     exact h3
   ·rintro L w2 ⟨rfl, h1, h2⟩
    exact pair_end ⟨rfl, h1⟩
theorem unhex_run {l : List UInt8} {n : Nat} (hl : l.length = 2 * n) (hn : n <= 1048576) :
  Run (F.digest_Unhex (.string (sb l))) w λ r w' => r = (match pairsF l n with
   | some b => .tuple #[.string (sb b), .int .i64 0]
   | none => .tuple #[.string (sb []), .int .i64 20]) /\ Fr (λ _ => False) w w':=by
 unfold F.digest_Unhex
 have e0 : ByteArray.mk #[] = sb []:=rfl
 rw [e0]
 have r2:=rem_nat (a:=2 * n) (b:=2) (k:=.i64) (by decide)
 have q2:=quo_nat (a:=2 * n) (b:=2) (k:=.i64) (by decide) (by rw [Nat.mul_div_cancel_left _ (by decide)]; exact i64W (by omega))
 rw [Nat.mul_mod_right] at r2
 rw [Nat.mul_div_cancel_left _ (by decide)] at q2
 have hs : lenS (.string (sb l)) = some (.int .i64 ((2 * n : Nat) : Int)):=by rw [lenS_string, sb_size, hl]
 have r2' : intBin .rem .i64 ((2 * n : Nat) : Int) 2 = some (.int .i64 0):=r2
 have q2' : intBin .quo .i64 ((2 * n : Nat) : Int) 2 = some (.int .i64 (n : Int)):=q2
 have h01 : ¬ (0 : Int) = 1:=by decide
 rw [hs]
 simp only [Run_bindO_some, binV_int, r2', q2', intBin_eql, h01, decide_false, Run_condM_false, Run_bind]
 refine Run_mksM (k:=1) rfl (Nat.le_refl n) (by omega) (by omega) λ v w1 hv f1 hfr => ?_
 have hO : OwnB w w1 v (List.replicate n 0):=⟨by simpa [by8] using hv, hfr, f1⟩
 have hlen:=hv.1.lenL
 rw [List.length_replicate] at hlen
 rw [hlen, Run_bindO_some, Run_bind]
 obtain ⟨J, hJn, hgood, hbad⟩:=pairs_far l n
 have head : ∀ (i : Nat), i < n -> ∀ (w2 : World) {r : List UInt8}, OwnB w w2 v (r ++ List.replicate (n - i) 0) -> ∀ {a b : UInt8}, l[2 * i]? = some a -> l[2 * i + 1]? = some b -> ∀ {β : Type} {K : Value -> M β} {Q : β -> World -> Prop},
   (∀ x14 w3, OwnB w w3 v (r ++ 0 :: List.replicate (n - (i + 1)) 0) -> Sl 1 w3 x14 [[by8 a], [by8 b]] -> (∀ c, inB x14 c -> ¬ inB v c) -> Run (K x14) w3 Q) ->
   Run (bindO (binV BinOp.mul (Value.int IntKind.i64 2) (.int .i64 (i : Int))) λ x10 =>
    bindO (binV BinOp.mul (Value.int IntKind.i64 2) (.int .i64 (i : Int))) λ x11 =>
    bindO (binV BinOp.add x11 (Value.int IntKind.i64 2)) λ x12 =>
    bindO (sliceS (.string (sb l)) (some x10) (some x12)) λ x13 =>
    M.bind (sbM 5 x13) K) w2 Q:=by
  intro i hi w2 r hI a b ha hb β K Q q
  have m2' : IntKind.i64.wrap (2 * (i : Int)) = ((2 * i : Nat) : Int):=by rw [show 2 * (i : Int) = ((2 * i : Nat) : Int) by omega]; exact i64W (by omega)
  have a2' : IntKind.i64.wrap (((2 * i : Nat) : Int) + 2) = ((2 * i + 2 : Nat) : Int):=by rw [show ((2 * i : Nat) : Int) + 2 = ((2 * i + 2 : Nat) : Int) by omega]; exact i64W (by omega)
  have hsl:=slBoth (l:=l) (n:=2 * i) (m:=2 * i + 2) (by omega) (by omega)
  rw [take2 ha hb] at hsl
  simp only [binV_int, intBin_mul, m2', Run_bindO_some, intBin_add, a2', hsl, Run_bind]
  refine Run_sbM λ x14 w3 h14 f3 hn => q x14 w3 ?_ h14.1 λ c hc hv => ?_
  ·have : List.replicate (n - i) (0 : UInt8) = 0 :: List.replicate (n - (i + 1)) 0:=by rw [show n - i = n - (i + 1) + 1 by omega, List.replicate_succ]
   rw [this] at hI
   exact ⟨hI.sl.fr f3 λ _ _ => id, λ c hc => ⟨(hI.fresh c hc).1, Nat.lt_of_lt_of_le (hI.fresh c hc).2 f3.size⟩, hI.fr.trans f3 λ _ _ => id⟩
  ·have h1:=(hn c hc).1
   have h2:=(hI.fresh c hv).2
   omega
 refine Run_for J (λ i L w' => L = [.int .i64 (i : Int)] /\ ∃ r, pairsF l i = some r /\ OwnB w w' v (r ++ List.replicate (n - i) 0)) ⟨rfl, [], rfl, by simpa using hO⟩ ?_ ?_
 ·rintro i L w2 hi ⟨rfl, r, hr, hI⟩
  obtain ⟨r', hr'⟩:=hgood (i + 1) (by omega)
  have hlr:=pairsF_len hr
  unfold pairsF at hr'
  rw [hr] at hr'
  cases hp : pairV l i with
  | none => rw [hp] at hr'; simp at hr'
  | some c =>
   have hp2:=hp
   unfold pairV at hp2
   obtain ⟨a, ha⟩ : ∃ a, l[2 * i]? = some a:=⟨_, List.getElem?_eq_getElem (by omega)⟩
   obtain ⟨b, hb⟩ : ∃ b, l[2 * i + 1]? = some b:=⟨_, List.getElem?_eq_getElem (by omega)⟩
   rw [ha, hb] at hp2
   simp only at hp2
   cases hx : hvN a.toNat with
   | none => rw [hx] at hp2; simp at hp2
   | some x =>
    cases hy : hvN b.toNat with
    | none => rw [hx, hy] at hp2; simp at hp2
    | some y =>
     rw [hx, hy] at hp2
     simp only [Option.some.injEq] at hp2
     have hin : (i : Int) < n:=by omega
     rw [getL_zero, lssT hin, Run_bindO_some, Run_condM_true]
     refine head i (by omega) w2 hI ha hb λ x14 w3 h3 h14 hd => ?_
     have hl14 : lenL x14 = some (.int .i64 2):=h14.lenL
     rw [hl14, Run_bindO_some, Run_bind]
     refine (pair_loop hlr h3 h14 hd).mono ?_
     rw [hx, hy]
     rintro _ w4 ⟨rfl, h4⟩
     have wi:=wrap_succ' (n:=i) (by omega)
     simp only [outK_exit]
     show Run (bindO (binV BinOp.add (.int .i64 (i : Int)) (Value.int IntKind.i64 1)) λ x34 => M.ret (Out.norm [x34])) w4 _
     rw [binV_int, intBin_add, wi, Run_bindO_some, Run_ret]
     refine ⟨rfl, r ++ [c], by unfold pairsF; rw [hr, hp], ?_⟩
     rw [hp2] at h4
     rw [List.append_assoc]
     exact h4
 ·rintro L w2 ⟨rfl, r, hr, hI⟩
  rcases hbad with rfl | hp
  ·have hin : ¬ (J : Int) < (J : Int):=by omega
   rw [getL_zero, lssF hin, Run_bindO_some, Run_condM_false, Run_ret]
   simp only [outK_exit]
   rw [show Nat.beq 0 0 = true from rfl, cond_true, Run_bind, Run_rdM]
   have hz : r ++ List.replicate (J - J) 0 = r:=by simp
   rw [hz] at hI
   refine ⟨_, ownB_text hI.sl.1, ?_⟩
   rw [Run_ret, hr]
   exact ⟨rfl, hI.fr⟩
  ·rcases Nat.lt_or_ge J n with hlt | hge
   ·have hin : (J : Int) < n:=by omega
    rw [getL_zero, lssT hin, Run_bindO_some, Run_condM_true]
    obtain ⟨a, ha⟩ : ∃ a, l[2 * J]? = some a:=⟨_, List.getElem?_eq_getElem (by omega)⟩
    obtain ⟨b, hb⟩ : ∃ b, l[2 * J + 1]? = some b:=⟨_, List.getElem?_eq_getElem (by omega)⟩
    refine head J hlt w2 hI ha hb λ x14 w3 h3 h14 hd => ?_
    have hl14 : lenL x14 = some (.int .i64 2):=h14.lenL
    rw [hl14, Run_bindO_some, Run_bind]
    refine (pair_loop (pairsF_len hr) h3 h14 hd).mono ?_
    have hp2:=hp
    unfold pairV at hp2
    rw [ha, hb] at hp2
    simp only at hp2
    rw [pairsF_bad hp hlt]
    cases hx : hvN a.toNat with
    | none =>
     rintro _ w4 ⟨rfl, h4⟩
     simp only [outK_ret, Run_ret]
     exact ⟨trivial, h4⟩
    | some x =>
     cases hy : hvN b.toNat with
     | none =>
      rintro _ w4 ⟨rfl, h4⟩
      simp only [outK_ret, Run_ret]
      exact ⟨trivial, h4⟩
     | some y => rw [hx, hy] at hp2; simp at hp2
   ·obtain rfl : J = n:=by omega
    have hin : ¬ (J : Int) < (J : Int):=by omega
    rw [getL_zero, lssF hin, Run_bindO_some, Run_condM_false, Run_ret]
    simp only [outK_exit]
    rw [show Nat.beq 0 0 = true from rfl, cond_true, Run_bind, Run_rdM]
    have hz : r ++ List.replicate (J - J) 0 = r:=by simp
    rw [hz] at hI
    refine ⟨_, ownB_text hI.sl.1, ?_⟩
    rw [Run_ret, hr]
    exact ⟨rfl, hI.fr⟩
end
def valB (l : List UInt8) : Nat:=l.foldl (λ a c => 256 * a + c.toNat) 0
theorem valB_snoc (l : List UInt8) (c : UInt8) : valB (l ++ [c]) = 256 * valB l + c.toNat:=by
 unfold valB
 rw [List.foldl_append]; rfl
theorem valB_foldl : ∀ (l : List UInt8) (a k : Nat), a < 256 ^ k -> l.foldl (λ a c => 256 * a + c.toNat) a < 256 ^ (k + l.length)
 | [], a, k, h => h
 | c :: l, a, k, h => by
  have:=valB_foldl l (256 * a + c.toNat) (k + 1) (by rw [Nat.pow_succ]; have:=c.toNat_lt; omega)
  rw [List.length_cons, show k + (l.length + 1) = k + 1 + l.length by omega]
  exact this
theorem valB_lt (l : List UInt8) : valB l < 256 ^ l.length:=by
 have:=valB_foldl l 0 0 (by decide)
 rwa [Nat.zero_add] at this
def sumF (l : List UInt8) : Option Nat:=if l.length = 8 then (pairsF l 4).map valB else none
section
variable {w w1 w2 : World}
theorem shl8 {m : Nat} (h : m < 16777216) : shV .shl (.int .i64 (m : Int)) (.int .u64 8) = some (.int .i64 ((256 * m : Nat) : Int)):=by
 have h0 : ¬ ((8 : Int) < 0):=by omega
 simp only [shV, h0, if_false]
 have e : (m : Int) * 2 ^ (min (8 : Int).toNat IntKind.i64.bits) = ((256 * m : Nat) : Int):=by
  have : min (8 : Int).toNat IntKind.i64.bits = 8:=by decide
  rw [this]; omega
 rw [e, i64W (by omega)]
theorem or64 {m d : Nat} (h : m < 16777216) (hd : d < 256) : intBin .or .i64 ((256 * m : Nat) : Int) (d : Int) = some (.int .i64 ((256 * m + d : Nat) : Int)):=by
 simp only [intBin]
 have e : (BitVec.ofInt IntKind.i64.bits ((256 * m : Nat) : Int) ||| BitVec.ofInt IntKind.i64.bits (d : Int)).toNat = 256 * m + d:=by
  rw [BitVec.toNat_or, BitVec.ofInt_natCast, BitVec.ofInt_natCast, BitVec.toNat_ofNat, BitVec.toNat_ofNat]
  show 256 * m % 2 ^ 64 ||| d % 2 ^ 64 = _
  rw [Nat.mod_eq_of_lt (show 256 * m < 2 ^ 64 by omega), Nat.mod_eq_of_lt (show d < 2 ^ 64 by omega)]
  have:=Nat.two_pow_add_eq_or_of_lt (i:=8) (b:=d) (by omega) m
  rw [show (2 : Nat) ^ 8 = 256 from rfl] at this
  exact this.symm
 rw [e, i64W (by omega)]
theorem punhex_run {l : List UInt8} {n : Nat} (hn : n <= 1048576) (hl : l.length <= 4611686018427387904) :
  Run (F.paper_unhex (.string (sb l)) (.int .i64 (n : Int))) w λ r w' => r = (match (if l.length = 2 * n then pairsF l n else none) with
   | some b => .tuple #[.string (sb b), .bool true]
   | none => .tuple #[.string (sb []), .bool false]) /\ Fr (λ _ => False) w w':=by
 unfold F.paper_unhex
 have e0 : ByteArray.mk #[] = sb []:=rfl
 rw [e0]
 have m2' : IntKind.i64.wrap (2 * (n : Int)) = ((2 * n : Nat) : Int):=by rw [show 2 * (n : Int) = ((2 * n : Nat) : Int) by omega]; exact i64W (by omega)
 by_cases h : l.length = 2 * n
 ·have h' : ((l.length : Nat) : Int) = ((2 * n : Nat) : Int):=by omega
  rw [if_pos h]
  rw [lenS_string, sb_size]
  simp only [Run_bindO_some, binV_int, intBin_mul, m2', intBin_neq, h', Run_bind]
  simp only [decide_true, Bool.not_true, Run_condM_false, Run_bind]
  refine (unhex_run h hn).mono ?_
  rintro r w1 ⟨rfl, f1⟩
  cases pairsF l n with
  | some b => simp [f1]
  | none => simp [f1]
 ·have h' : ¬ ((l.length : Nat) : Int) = ((2 * n : Nat) : Int):=by omega
  rw [if_neg h]
  rw [lenS_string, sb_size]
  simp only [Run_bindO_some, binV_int, intBin_mul, m2', intBin_neq, h', decide_false, Bool.not_false, Run_condM_true, Run_ret]
  exact ⟨trivial, Fr.refl _ _⟩
theorem sumOf_run {l : List UInt8} (hl : l.length <= 4611686018427387904) : Run (F.paper_sumOf (.string (sb l))) w λ r w' => r = numV (sumF l) /\ Fr (λ _ => False) w w':=by
 unfold F.paper_sumOf
 rw [Run_bind]
 refine (punhex_run (n:=4) (by decide) hl).mono ?_
 have key : ∀ (b : List UInt8) (ok : Bool), b.length <= 4 -> ∀ w1, Fr (λ _ => False) w w1 -> Run (M.bind (sbM 5 (.string (sb b))) λ x4 =>
   bindO (lenL x4) λ x5 =>
   M.bind (loopM (λ l6 =>
    bindO (binV BinOp.lss (getL l6 1) x5) λ x7 =>
    condM x7 (
     bindO (idxA 1 x4 (getL l6 1)) λ x8 =>
     M.bind (rdM (ld1 x8)) λ x9 =>
     bindO (shV BinOp.shl (getL l6 0) (Value.int IntKind.u64 8)) λ x10 =>
     bindO (cvtI IntKind.i64 x9) λ x11 =>
     bindO (binV BinOp.or x10 x11) λ x12 =>
     bindO (binV BinOp.add (getL l6 1) (Value.int IntKind.i64 1)) λ x13 =>
     M.ret (Out.norm [x12, x13])) (
     M.ret (Out.exit 0 [(getL l6 0), (getL l6 1)]))) [(Value.int IntKind.i64 0), (Value.int IntKind.i64 0)]) λ o15 =>
   outK o15 (λ _ => M.fail) (λ k16 l14 =>
    bif Nat.beq k16 0 then (
     M.ret (Value.tuple #[(getL l14 0), .bool ok])) else
    M.fail) (λ r17 => M.ret r17)) w1 λ r w' => r = .tuple #[.int .i64 ((valB b : Nat) : Int), .bool ok] /\ Fr (λ _ => False) w w':=by
  intro b ok hb w1 f1
  rw [Run_bind]
  refine Run_sbM λ r w2 hr f2 _ => ?_
  have hlen:=hr.1.lenL
  rw [List.length_map] at hlen
  have hlen' : lenL r = some (.int .i64 (b.length : Int)):=hlen
  rw [hlen', Run_bindO_some, Run_bind]
  refine Run_for b.length (λ i L' w' => L' = [.int .i64 ((valB (b.take i) : Nat) : Int), .int .i64 (i : Int)] /\ w' = w2) ⟨rfl, rfl⟩ ?_ ?_
  ·rintro i L' w3 hi ⟨rfl, hw3⟩
   rw [hw3]
   obtain ⟨c, hc⟩ : ∃ c, b[i]? = some c:=⟨_, List.getElem?_eq_getElem hi⟩
   obtain ⟨p, p1, p2⟩:=hr.1.rd1 (i:=i) (y:=by8 c) (by simp [sb, hc, by8]) .i64
   have p1' : idxA 1 r (.int .i64 (i : Int)) = some p:=p1
   have hv:=valB_snoc (b.take i) c
   rw [<- take_snocP hc] at hv
   have hlt:=valB_lt (b.take i)
   have hp : 256 ^ (b.take i).length <= 256 ^ 3:=Nat.pow_le_pow_right (by decide) (by rw [List.length_take]; omega)
   have hil : (i : Int) < b.length:=by omega
   have wi:=wrap_succ' (n:=i) (by omega)
   have hct:=c.toNat_lt
   have wc : IntKind.i64.wrap (c.toNat : Int) = c.toNat:=i64W (by omega)
   rw [getL_succ, getL_zero, lssT hil, Run_bindO_some, Run_condM_true, p1', Run_bindO_some, Run_bind, Run_rdM]
   refine ⟨_, p2, ?_⟩
   have e16 : (256 : Nat) ^ 3 = 16777216:=by decide
   rw [e16] at hp
   rw [getL_zero, shl8 (by omega), Run_bindO_some]
   simp only [by8, cvtI_int, wc, Run_bindO_some, binV_int, or64 (show valB (b.take i) < 16777216 by omega) hct, intBin_add, wi, Run_ret]
   rw [hv]
   exact ⟨rfl, trivial⟩
  ·rintro L' w3 ⟨rfl, hw3⟩
   rw [hw3]
   have hn : ¬ ((b.length : Nat) : Int) < b.length:=by omega
   rw [getL_succ, getL_zero, lssF hn, Run_bindO_some, Run_condM_false, Run_ret]
   simp only [outK_exit]
   rw [show Nat.beq 0 0 = true from rfl, cond_true, Run_ret, List.take_length]
   exact ⟨rfl, f1.trans f2 λ _ _ => id⟩
 have e8 : (2 * 4 : Nat) = 8:=rfl
 unfold sumF
 rw [e8]
 by_cases h8 : l.length = 8
 ·rw [if_pos h8, if_pos h8]
  cases hp : pairsF l 4 with
  | some b =>
   rintro r w1 ⟨rfl, f1⟩
   have:=key b true (by rw [pairsF_len hp]; decide) w1 f1
   simp only [extV_tuple]
   exact this
  | none =>
   rintro r w1 ⟨rfl, f1⟩
   exact key [] false (by decide) w1 f1
 ·rw [if_neg h8, if_neg h8]
  rintro r w1 ⟨rfl, f1⟩
  exact key [] false (by decide) w1 f1
end
def rdD (l : List UInt8) (p : Nat) : List UInt8:=runD ((l.drop p).take 17)
theorem rdD_len (l : List UInt8) (p : Nat) : (rdD l p).length <= 17 /\ (rdD l p).length <= l.length - p:=by
 have h1:=runD_le ((l.drop p).take 17)
 rw [List.length_take, List.length_drop] at h1
 unfold rdD
 omega
theorem rdD_at (l : List UInt8) (p : Nat) {i : Nat} (h : i < (rdD l p).length) : ∃ c, l[p + i]? = some c /\ isD c = true /\ (rdD l p)[i]? = some c:=by
 obtain ⟨c, h1, h2⟩:=runD_at _ h
 have h3:=(rdD_len l p).1
 have h4 : (rdD l p)[i]? = some c:=by
  unfold rdD
  rw [<- runD_take]
  unfold rdD at h h3
  rw [List.getElem?_take_of_lt h, h1]
 rw [List.getElem?_take_of_lt (by omega), List.getElem?_drop] at h1
 exact ⟨c, h1, h2, h4⟩
theorem rdD_end (l : List UInt8) (p : Nat) (h17 : (rdD l p).length < 17) {c : UInt8} (h : l[p + (rdD l p).length]? = some c) : isD c = false:=by
 refine runD_end ((l.drop p).take 17) (c:=c) ?_
 unfold rdD at h17 h
 rw [List.getElem?_take_of_lt h17, List.getElem?_drop]
 exact h
section
variable {w w1 w2 : World}
def RS (w : World) (b : Nat) (l : List UInt8) (p : Nat) (bad : Bool) : Prop:=bk w b = some [.string (sb l), .int .i64 (p : Int), .bool bad] /\ wr w b = true
theorem RS.drew {b p : Nat} {l : List UInt8} {bad : Bool} (h : RS w b l p bad) : RS w.drew b l p bad:=h
theorem RS.at {b p : Nat} {l : List UInt8} {bad : Bool} (h : RS w b l p bad) (p' : Nat) : RS (sto w b 1 [.int .i64 (p' : Int)]) b l p' bad:=by
 refine ⟨?_, by rw [wr_sto]; exact h.2⟩
 rw [bk_sto_same h.1]
 rfl
theorem RS.bad {b p : Nat} {l : List UInt8} {bad : Bool} (h : RS w b l p bad) : RS (sto w b 2 [.bool true]) b l p true:=by
 refine ⟨?_, by rw [wr_sto]; exact h.2⟩
 rw [bk_sto_same h.1]
 rfl
theorem rnum_run {b p : Nat} {l : List UInt8} {bad : Bool} (h : RS w b l p bad) (hp : p <= l.length) (hl : l.length <= 4611686018427387904) :
  Run (F.granaryref4_Reader_number (.pointer (some ⟨b, 0, none⟩))) w λ r w' => r = .int .i64 (((numF (rdD l p)).getD 0 : Nat) : Int) /\ RS w' b l (p + (rdD l p).length) (bad || (numF (rdD l p)).isNone) /\ Fr (λ c => c = b) w w':=by
 unfold F.granaryref4_Reader_number
 obtain ⟨hb, hw⟩:=h
 have hd:=rdD_len l p
 simp [-ldA_ptr, hb]
 refine Run_for (rdD l p).length (λ i L w' => L = [.int .i64 ((valL ((rdD l p).take i) : Nat) : Int)] /\ RS w' b l (p + i) bad /\ Fr (λ c => c = b) w w') ⟨rfl, ⟨hb, hw⟩, Fr.refl _ _⟩ ?_ ?_
 ·rintro i L w1 hi ⟨rfl, ⟨hb1, hw1⟩, f1⟩
  obtain ⟨c, hc, hdg, hci⟩:=rdD_at l p hi
  have hpi : p + i < l.length:=by omega
  simp only [isD, decide_eq_true_eq] at hdg
  have h1 : ((p + i : Nat) : Int) < l.length:=by omega
  have w1' : IntKind.i64.wrap (((p + i : Nat) : Int) - p) = (i : Int):=by rw [show ((p + i : Nat) : Int) - p = (i : Int) by omega]; exact i64W (by omega)
  have h2 : (i : Int) < 17:=by omega
  have ix:=idxSb (kd:=.i64) hc
  have h3 : (48 : Int) <= c.toNat:=by omega
  have h4 : (c.toNat : Int) <= 57:=by omega
  have hlen : (sb l).size = l.length:=sb_size l
  have hv:=valL_snoc ((rdD l p).take i) c
  rw [<- take_snocP hci] at hv
  have hall : ((rdD l p).take i).all isD = true:=List.all_eq_true.2 λ x hx => List.all_eq_true.1 (runD_all _) x (List.mem_of_mem_take hx)
  have hlt:=valL_lt _ hall
  have h17 : 10 ^ ((rdD l p).take i).length <= 10 ^ 17:=Nat.pow_le_pow_right (by decide) (by rw [List.length_take]; omega)
  have e17 : (10 : Nat) ^ 17 = 100000000000000000:=by decide
  rw [e17] at h17
  have hct:=c.toNat_lt
  generalize valL ((rdD l p).take i) = V at *
  generalize valL ((rdD l p).take (i + 1)) = V' at *
  have wq:=wrap_succ' (n:=p + i) (by omega)
  rw [show p + (i + 1) = p + i + 1 by omega]
  generalize p + i = q at *
  have w2' : IntKind.i64.wrap (10 * (V : Int)) = ((10 * V : Nat) : Int):=by rw [show 10 * (V : Int) = ((10 * V : Nat) : Int) by omega]; exact i64W (by omega)
  have w3' : IntKind.u8.wrap ((c.toNat : Int) - 48) = ((c.toNat - 48 : Nat) : Int):=by rw [show (c.toNat : Int) - 48 = ((c.toNat - 48 : Nat) : Int) by omega]; exact u8W (by omega)
  have w4' : IntKind.i64.wrap ((c.toNat - 48 : Nat) : Int) = ((c.toNat - 48 : Nat) : Int):=i64W (by omega)
  have w5' : IntKind.i64.wrap (((10 * V : Nat) : Int) + ((c.toNat - 48 : Nat) : Int)) = (V' : Int):=by rw [show ((10 * V : Nat) : Int) + ((c.toNat - 48 : Nat) : Int) = (V' : Int) by omega]; exact i64W (by omega)
  simp [-ldA_ptr, -Int.natCast_mul, hb1, hlen, h1, w1', h2, ix, by8, h3, h4, w2', w3', w4', w5', wq, hw1]
  have hR : RS w1.drew.drew b l q bad:=⟨hb1, hw1⟩
  exact ⟨hR.at (q + 1), (f1.drew.drew).sto (.inl rfl) _ _⟩
 ·rintro L w1 ⟨rfl, ⟨hb1, hw1⟩, f1⟩
  have hlen : (sb l).size = l.length:=sb_size l
  have hJ : (rdD l p).length <= 17:=hd.1
  have hJ2 : p + (rdD l p).length <= l.length:=by omega
  have wJ : IntKind.i64.wrap (((p + (rdD l p).length : Nat) : Int) - p) = ((rdD l p).length : Int):=by rw [show ((p + (rdD l p).length : Nat) : Int) - p = ((rdD l p).length : Int) by omega]; exact i64W (by omega)
  have hR : RS w1.drew b l (p + (rdD l p).length) bad:=⟨hb1, hw1⟩
  have htk : (rdD l p).take (rdD l p).length = rdD l p:=List.take_length
  refine Run.mono (Q:=λ o w' => o = .exit 0 [.int .i64 ((valL (rdD l p) : Nat) : Int)] /\ RS w' b l (p + (rdD l p).length) bad /\ Fr (λ c => c = b) w w') ?_ ?_
  ·rw [htk]
   by_cases e1 : p + (rdD l p).length < l.length
   ·by_cases e2 : (rdD l p).length < 17
    ·obtain ⟨c, hc⟩ : ∃ c, l[p + (rdD l p).length]? = some c:=⟨_, List.getElem?_eq_getElem e1⟩
     have hng:=rdD_end l p e2 hc
     simp only [isD, decide_eq_false_iff_not] at hng
     have ix:=idxSb (kd:=.i64) hc
     have h1 : ((p + (rdD l p).length : Nat) : Int) < l.length:=by omega
     have h2 : ((rdD l p).length : Int) < 17:=by omega
     generalize p + (rdD l p).length = q at *
     by_cases e3 : 48 <= c.toNat
     ·have h3 : (48 : Int) <= c.toNat:=by omega
      have h4 : ¬ (c.toNat : Int) <= 57:=by omega
      simp [-ldA_ptr, hb1, hlen, h1, wJ, h2, ix, by8, h3, h4, hR, f1.drew]
     ·have h3 : ¬ (48 : Int) <= c.toNat:=by omega
      simp [-ldA_ptr, hb1, hlen, h1, wJ, h2, ix, by8, h3, hR, f1.drew]
    ·have h1 : ((p + (rdD l p).length : Nat) : Int) < l.length:=by omega
     have h2 : ¬ ((rdD l p).length : Int) < 17:=by omega
     generalize p + (rdD l p).length = q at *
     simp [-ldA_ptr, hb1, hlen, h1, wJ, h2, hR, f1.drew]
   ·have h1 : ¬ ((p + (rdD l p).length : Nat) : Int) < l.length:=by omega
    generalize p + (rdD l p).length = q at *
    simp [-ldA_ptr, hb1, hlen, h1, wJ, hR, f1.drew]
  ·rintro _ w2 ⟨rfl, hR2, f2⟩
   clear hR hw1 hb1 f1
   obtain ⟨hb2, hw2⟩:=hR2
   have hR2 : RS w2 b l (p + (rdD l p).length) bad:=⟨hb2, hw2⟩
   have hdall : (rdD l p).all isD = true:=runD_all _
   have hbadR:=hR2.bad
   have hbadF : Fr (λ c => c = b) w (sto w2 b 2 [.bool true]):=f2.sto (.inl rfl) _ _
   by_cases c1 : (rdD l p).length < 1
   ·have hnum : numF (rdD l p) = none:=by
     unfold numF
     rw [if_pos (.inl (List.eq_nil_of_length_eq_zero (by omega)))]
    have h1 : ((rdD l p).length : Int) < 1:=by omega
    rw [hnum]
    generalize p + (rdD l p).length = q at *
    simp [-ldA_ptr, hb2, wJ, h1, hw2]
    exact ⟨hbadR, hbadF⟩
   by_cases c2 : 16 < (rdD l p).length
   ·have hnum : numF (rdD l p) = none:=by
     unfold numF
     rw [if_pos (.inr (.inl c2))]
    have h1 : ¬ ((rdD l p).length : Int) < 1:=by omega
    have h2 : (16 : Int) < (rdD l p).length:=by omega
    rw [hnum]
    generalize p + (rdD l p).length = q at *
    simp [-ldA_ptr, hb2, wJ, h1, h2, hw2]
    exact ⟨hbadR, hbadF⟩
   obtain ⟨c, hc, _, hc0⟩:=rdD_at l p (i:=0) (by omega)
   have ix:=idxSb (kd:=.i64) (i:=p) hc
   have hh : (rdD l p).head? = some c:=by rw [List.head?_eq_getElem?]; exact hc0
   have h1 : ¬ ((rdD l p).length : Int) < 1:=by omega
   have h2 : ¬ (16 : Int) < (rdD l p).length:=by omega
   have hz : ((c.toNat : Int) = 48) ↔ c = 48:=by
    constructor
    ·intro h
     have h48 : c.toNat = 48:=by omega
     have : c.toNat = (48 : UInt8).toNat:=by rw [h48]; rfl
     exact UInt8.toNat_inj.1 this
    ·rintro rfl; rfl
   have hgood : ¬ (1 < (rdD l p).length /\ c = 48) -> numF (rdD l p) = some (valL (rdD l p)):=by
    intro hn
    unfold numF
    rw [if_neg]
    rintro (h | h | ⟨h, h'⟩ | h)
    ·rw [h] at c1; simp at c1
    ·exact c2 h
    ·rw [hh] at h'; cases h'; exact hn ⟨h, rfl⟩
    ·rw [hdall] at h; cases h
   by_cases c3 : 1 < (rdD l p).length
   ·have h3 : (1 : Int) < (rdD l p).length:=by omega
    by_cases c4 : c = 48
    ·have hnum : numF (rdD l p) = none:=by
      unfold numF
      rw [if_pos (.inr (.inr (.inl ⟨c3, by rw [hh, c4]⟩)))]
     have h4:=hz.2 c4
     rw [hnum]
     generalize p + (rdD l p).length = q at *
     simp [-ldA_ptr, hb2, wJ, h1, h2, h3, hw2, ix, by8, h4]
     exact ⟨hbadR, hbadF⟩
    ·have h4 : ¬ (c.toNat : Int) = 48:=λ h => c4 (hz.1 h)
     rw [hgood λ h => c4 h.2]
     generalize p + (rdD l p).length = q at *
     simp [-ldA_ptr, hb2, wJ, h1, h2, h3, hw2, ix, by8, h4, hR2, f2]
   ·have h3 : ¬ (1 : Int) < (rdD l p).length:=by omega
    rw [hgood λ h => c3 h.1]
    generalize p + (rdD l p).length = q at *
    simp [-ldA_ptr, hb2, wJ, h1, h2, h3, hw2, hR2, f2]
end
section
variable {w w1 w2 : World}
theorem prefix_take {p l : List UInt8} (h : p.length <= l.length) : p <+: l ↔ l.take p.length = p:=by
 rw [List.prefix_iff_eq_take]
 exact eq_comm
structure LitP (w w' : World) (b : Nat) (l : List UInt8) (p : Nat) (q : List UInt8) (bad : Bool) : Prop where
 rs : ∃ p', RS w' b l p' (bad || !decide (q <+: l.drop p)) /\ p' <= l.length /\ (bad = false -> q <+: l.drop p -> p' = p + q.length)
 fr : Fr (λ c => c = b) w w'
theorem rlit_run {b p : Nat} {l q : List UInt8} {bad : Bool} (h : RS w b l p bad) (hp : p <= l.length) (hl : l.length <= 4611686018427387904) (hq : q.length <= 4611686018427387904) :
  Run (F.granaryref4_Reader_lit (.pointer (some ⟨b, 0, none⟩)) (.string (sb q))) w λ _ w' => LitP w w' b l p q bad:=by
 unfold F.granaryref4_Reader_lit
 obtain ⟨hb, hw⟩:=h
 have hR : RS w.drew b l p bad:=⟨hb, hw⟩
 have f0 : Fr (λ c => c = b) w w.drew:=(Fr.refl _ _).drew
 have hlen : (sb l).size = l.length:=sb_size l
 have hlq : (sb q).size = q.length:=sb_size q
 have hbadR:=hR.bad
 have hbadF : Fr (λ c => c = b) w (sto w.drew b 2 [.bool true]):=f0.sto (.inl rfl) _ _
 have bdone : ¬ (bad = false /\ q <+: l.drop p) -> LitP w (sto w.drew b 2 [.bool true]) b l p q bad:=λ hn => by
  refine ⟨⟨p, ?_, hp, λ h1 h2 => absurd ⟨h1, h2⟩ hn⟩, hbadF⟩
  have e : (bad || !decide (q <+: l.drop p)) = true:=by
   cases bad with
   | true => rfl
   | false => simp; exact λ h => hn ⟨rfl, h⟩
  rw [e]; exact hbadR
 by_cases c1 : bad = true
 ·subst c1
  simp [-ldA_ptr, hb, hw]
  exact bdone λ h => Bool.noConfusion h.1
 have c1' : bad = false:=by simpa using c1
 have ws : IntKind.i64.wrap ((l.length : Int) - p) = ((l.length - p : Nat) : Int):=by rw [show (l.length : Int) - p = ((l.length - p : Nat) : Int) by omega]; exact i64W (by omega)
 by_cases c2 : l.length - p < q.length
 ·have h2 : ((l.length - p : Nat) : Int) < q.length:=by omega
  rw [c1'] at hb
  simp [-ldA_ptr, hb, hw, hlen, hlq, ws, h2]
  refine bdone λ h => ?_
  have:=h.2.length_le
  rw [List.length_drop] at this
  omega
 have h2 : ¬ ((l.length - p : Nat) : Int) < q.length:=by omega
 have wa : IntKind.i64.wrap ((p : Int) + q.length) = ((p + q.length : Nat) : Int):=by rw [show (p : Int) + q.length = ((p + q.length : Nat) : Int) by omega]; exact i64W (by omega)
 have hsl:=slBoth (l:=l) (n:=p) (m:=p + q.length) (by omega) (by omega)
 have htk : (l.take (p + q.length)).drop p = (l.drop p).take q.length:=by
  rw [List.drop_take, Nat.add_sub_cancel_left]
 rw [htk] at hsl
 have hpre:=prefix_take (p:=q) (l:=l.drop p) (by rw [List.length_drop]; omega)
 have hb0:=hb
 rw [c1'] at hb
 have he : p + q.length <= l.length:=by omega
 generalize he0 : p + q.length = e at *
 by_cases c3 : (l.drop p).take q.length = q
 ·simp [-ldA_ptr, -binV_str, sbNe, hb, hw, hlen, hlq, ws, h2, wa, hsl, c3]
  have e2 : (bad || !decide (q <+: l.drop p)) = bad:=by simp [hpre.2 c3]
  exact ⟨⟨e, by rw [e2]; exact hR.at _, he, λ _ _ => he0.symm⟩, f0.sto (.inl rfl) _ _⟩
 ·simp [-ldA_ptr, -binV_str, sbNe, hb, hw, hlen, hlq, ws, h2, wa, hsl, c3]
  exact bdone λ h => c3 (hpre.1 h.2)
theorem hexd_hv : ∀ m : Fin 256, ∀ i : Fin 16, ((hexd i.val).toNat = m.val ↔ hvN m.val = some i.val):=by decide +kernel
theorem half_run (c : UInt8) : Run (F.granaryref4_half (by8 c)) w λ r w' => r = .int .i64 (hvV c.toNat) /\ w' = w:=by
 unfold F.granaryref4_half
 have eD : ByteArray.mk #[48, 49, 50, 51, 52, 53, 54, 55, 56, 57, 97, 98, 99, 100, 101, 102] = DIG:=rfl
 rw [eD, Run_bind]
 have key : ∀ i, i < 16 -> ((hexd i).toNat = c.toNat ↔ hvN c.toNat = some i):=λ i hi => hexd_hv ⟨c.toNat, c.toNat_lt⟩ ⟨i, hi⟩
 have eq8 : ∀ i, i < 16 -> binV .eql (by8 (hexd i)) (by8 c) = some (.bool (decide (hvN c.toNat = some i))):=λ i hi => by
  unfold by8
  rw [binV_int, intBin_eql]
  have : ((hexd i).toNat : Int) = c.toNat ↔ hvN c.toNat = some i:=by rw [<- key i hi]; omega
  simp only [this]
 obtain ⟨J, hJ, hlt, hend⟩ : ∃ J, J <= 16 /\ (∀ i, i < J -> hvN c.toNat ≠ some i) /\ (J < 16 /\ hvN c.toNat = some J ∨ J = 16 /\ hvN c.toNat = none):=by
  cases h : hvN c.toNat with
  | none => exact ⟨16, Nat.le_refl _, λ i _ => by simp, .inr ⟨rfl, rfl⟩⟩
  | some k => exact ⟨k, Nat.le_of_lt (hvN_lt h), λ i hi he => by cases he; omega, .inl ⟨hvN_lt h, rfl⟩⟩
 refine Run_for J (λ i L w' => L = [.int .i64 (i : Int)] /\ w' = w) ⟨rfl, rfl⟩ ?_ ?_
 ·rintro i L w1 hi ⟨rfl, hw⟩
  rw [hw]
  have h1 : (i : Int) < 16:=by omega
  have wi:=wrap_succ' (n:=i) (by omega)
  rw [getL_zero, lssT h1, Run_bindO_some, Run_condM_true, idx_DIG (show i < 16 by omega), Run_bindO_some, eq8 i (by omega), Run_bindO_some, decide_eq_false (hlt i hi), Run_condM_false, binV_int, intBin_add, wi, Run_bindO_some, Run_ret]
  exact ⟨rfl, rfl⟩
 ·rintro L w1 ⟨rfl, hw⟩
  rw [hw]
  rcases hend with ⟨h16, he⟩ | ⟨h16, he⟩
  ·have h1 : (J : Int) < 16:=by omega
   rw [getL_zero, lssT h1, Run_bindO_some, Run_condM_true, idx_DIG h16, Run_bindO_some, eq8 J h16, Run_bindO_some, decide_eq_true he, Run_condM_true, Run_ret]
   simp only [outK_ret, Run_ret, hvV_some he]
   exact ⟨trivial, trivial⟩
  ·have h1 : ¬ (J : Int) < 16:=by omega
   rw [getL_zero, lssF h1, Run_bindO_some, Run_condM_false, Run_ret]
   simp only [outK_exit]
   rw [show Nat.beq 0 0 = true from rfl, cond_true, Run_ret, hvV_none he]
   exact ⟨rfl, rfl⟩
end
section
variable {w w1 w2 : World}
structure OwnF (F : Nat -> Prop) (w w1 : World) (v : Value) (l : List UInt8) : Prop where
 sl : SlW 1 w1 v (l.map λ b => [by8 b])
 fresh : ∀ c, inB v c -> w.heap.size <= c /\ c < w1.heap.size
 fr : Fr F w w1
theorem ownF_app {F : Nat -> Prop} {v : Value} {l : List UInt8} (h : OwnF F w w1 v l) (b : UInt8) {a1 a2 : Nat} (hl : l.length <= 33554432) {K : Value -> World -> Prop} (q : ∀ r w2, OwnF F w w2 r (l ++ [b]) -> Fr (inB v) w1 w2 -> K r w2) :
  Run (bslM a1 1 (Builtin.zeroCells #[(Value.int IntKind.u8 0)] 1) [(0, 1, by8 b)]) w1 λ a w2 => Run (appM a2 1 1 #[(Value.int IntKind.u8 0)] v a) w2 λ r w' => K r w':=by
 refine Run_app1 (K:=λ _ r w' => K r w') (k:=1) (y:=by8 b) rfl h.sl (by decide) rfl (by decide) rfl (by simp only [List.length_map]; omega) λ r w2 hr f2 hin w3 f3 => q r w2 ?_ f2
 have s:=f2.size
 refine ⟨by simpa [by8] using hr, λ c hc => ?_, h.fr.trans f2 λ c hc hv => ?_⟩
 ·have s0:=h.fr.size
  rcases hin c hc with hc | hc
  ·have:=h.fresh c hc; omega
  ·omega
 ·have:=(h.fresh c hv).1; omega
theorem drop_at {l : List UInt8} {p k : Nat} : (l.drop p)[k]? = l[p + k]?:=List.getElem?_drop
theorem RS.blk {b p : Nat} {l : List UInt8} {bad : Bool} (h : RS w b l p bad) : bk w b = some [.string (sb l), .int .i64 (p : Int), .bool bad]:=h.1
structure ByP (w w' : World) (b : Nat) (l : List UInt8) (p n : Nat) (bad : Bool) (r : Value) : Prop where
 val : r = .string (sb ((if bad then none else pairsF (l.drop p) n).getD []))
 rs : ∃ p', RS w' b l p' (if bad then none else pairsF (l.drop p) n).isNone /\ p' <= l.length /\ ((if bad then none else pairsF (l.drop p) n).isSome = true -> p' = p + 2 * n)
 fr : Fr (λ c => c = b) w w'
theorem rbytes_run {b p n : Nat} {l : List UInt8} {bad : Bool} (h : RS w b l p bad) (hp : p <= l.length) (hl : l.length <= 4611686018427387904) (h0 : 0 < n) (hn : n <= 1048576) :
  Run (F.granaryref4_Reader_bytes (.pointer (some ⟨b, 0, none⟩)) (.int .i64 (n : Int))) w λ r w' => ByP w w' b l p n bad r:=by
 unfold F.granaryref4_Reader_bytes
 have e0 : ByteArray.mk #[] = sb []:=rfl
 have hlen : (sb l).size = l.length:=sb_size l
 rw [e0, Run_bind]
 cases bad with
 | true =>
  refine Run_for 0 (λ i L w' => L = [.slice none 0 0, .int .i64 (i : Int)] /\ w' = w) ⟨rfl, rfl⟩ (λ i l w hi => absurd hi (by omega)) ?_
  rintro L w1 ⟨rfl, hw1⟩
  rw [hw1]
  obtain ⟨hb, hw⟩:=h
  have hR : RS w.drew b l p true:=⟨hb, hw⟩
  have h0' : (0 : Int) < n:=by omega
  simp [-ldA_ptr, hb, hw, h0', h0]
  exact ⟨rfl, ⟨p, hR.bad, hp, λ h => by cases h⟩, (show Fr (λ c => c = b) w w.drew from (Fr.refl _ _).drew).sto (.inl rfl) _ _⟩
 | false =>
  obtain ⟨J, hJn, hgood, hbad⟩:=pairs_far (l.drop p) n
  refine Run_for J (λ i L w' => ∃ v r, L = [v, .int .i64 (i : Int)] /\ pairsF (l.drop p) i = some r /\ OwnF (λ c => c = b) w w' v r /\ RS w' b l (p + 2 * i) false /\ p + 2 * i <= l.length) ⟨_, [], rfl, rfl, ⟨SlW.nil _ _, λ _ h => h.elim, Fr.refl _ _⟩, h, hp⟩ ?_ ?_
  ·rintro i L w1 hi ⟨v, r, rfl, hr, hO, ⟨hb1, hw1⟩, hle⟩
   obtain ⟨r', hr'⟩:=hgood (i + 1) (by omega)
   have hr2:=hr'
   unfold pairsF at hr'
   rw [hr] at hr'
   cases hpv : pairV (l.drop p) i with
   | none => rw [hpv] at hr'; simp at hr'
   | some c =>
    rw [hpv] at hr'
    simp only [Option.some.injEq] at hr'
    subst hr'
    have hlr:=pairsF_len hr
    unfold pairV at hpv
    rw [drop_at, drop_at] at hpv
    cases ha : l[p + 2 * i]? with
    | none => rw [ha] at hpv; simp at hpv
    | some a =>
     cases hb' : l[p + (2 * i + 1)]? with
     | none => rw [ha, hb'] at hpv; simp at hpv
     | some b' =>
      rw [ha, hb'] at hpv
      simp only at hpv
      cases hx : hvN a.toNat with
      | none => rw [hx] at hpv; simp at hpv
      | some x =>
       cases hy : hvN b'.toNat with
       | none => rw [hx, hy] at hpv; simp at hpv
       | some y =>
        rw [hx, hy] at hpv
        simp only [Option.some.injEq] at hpv
        have hlt2 : p + (2 * i + 1) < l.length:=(List.getElem?_eq_some_iff.1 hb').1
        have hx16:=hvN_lt hx
        have hy16:=hvN_lt hy
        have i1:=idxSb (kd:=.i64) ha
        have i2:=idxSb (kd:=.i64) hb'
        rw [show p + (2 * i + 1) = p + 2 * i + 1 by omega] at i2 hlt2
        have e2 : p + 2 * (i + 1) = p + 2 * i + 2:=by omega
        rw [e2]
        have hin : (i : Int) < n:=by omega
        have hin' : i < n:=by omega
        have wi:=wrap_succ' (n:=i) (by omega)
        generalize p + 2 * i = Q at *
        have hR1 : RS w1 b l Q false:=⟨hb1, hw1⟩
        have wl : IntKind.i64.wrap ((l.length : Int) - Q) = ((l.length - Q : Nat) : Int):=by rw [show (l.length : Int) - Q = ((l.length - Q : Nat) : Int) by omega]; exact i64W (by omega)
        have hl2 : ¬ ((l.length - Q : Nat) : Int) < 2:=by omega
        have wq:=wrap_succ' (n:=Q) (by omega)
        have wq2 : IntKind.i64.wrap ((Q : Int) + 2) = ((Q + 2 : Nat) : Int):=by rw [show (Q : Int) + 2 = ((Q + 2 : Nat) : Int) by omega]; exact i64W (by omega)
        simp [-ldA_ptr, hb1, hin, hin', hlen, wl, hl2, i1, -Int.natCast_add]
        refine (half_run a).mono ?_
        rintro _ w2 ⟨rfl, hw2⟩
        rw [hw2, hvV_some hx]
        have nx : ¬ (x : Int) < 0:=by omega
        have ny : ¬ (y : Int) < 0:=by omega
        have m16 : IntKind.i64.wrap (16 * (x : Int)) = ((16 * x : Nat) : Int):=by rw [show 16 * (x : Int) = ((16 * x : Nat) : Int) by omega]; exact i64W (by omega)
        have a16 : IntKind.i64.wrap (((16 * x : Nat) : Int) + y) = ((16 * x + y : Nat) : Int):=by rw [show ((16 * x : Nat) : Int) + y = ((16 * x + y : Nat) : Int) by omega]; exact i64W (by omega)
        have c16 : IntKind.u8.wrap ((16 * x + y : Nat) : Int) = ((16 * x + y : Nat) : Int):=u8W (by omega)
        have hby:=by8_of (m:=16 * x + y) (by omega)
        rw [hpv] at hby
        simp [-ldA_ptr, hb1, wq, i2, -Int.natCast_add]
        refine (half_run b').mono ?_
        rintro _ w3 ⟨rfl, hw3⟩
        rw [hw3, hvV_some hy]
        simp [-ldA_ptr, nx, ny, m16, a16, c16, -Int.natCast_add, -Int.natCast_mul]
        rw [<- hby]
        have hO2 : OwnF (λ c => c = b) w w1.drew.drew.drew v r:=⟨hO.sl, hO.fresh, hO.fr.drew.drew.drew⟩
        refine ownF_app hO2 c (by omega) λ r2 w4 h4 f4 => ?_
        have hbf : ¬ inB v b:=λ hv => by
         have h1:=(hO.fresh b hv).1
         have h2:=bk_lt (RS.blk h)
         omega
        have hb4 : bk w4 b = some [.string (sb l), .int .i64 (Q : Int), .bool false]:=f4.bk_some (w:=w1.drew.drew.drew) hb1 hbf
        have hw4 : wr w4 b = true:=by
         rw [f4.wr (w:=w1.drew.drew.drew) (bk_lt hb1) hbf]; exact hw1
        have hR4 : RS w4 b l Q false:=⟨hb4, hw4⟩
        simp [-ldA_ptr, hb4, hw4, wq2, wi, -Int.natCast_add]
        have f5 : Fr (λ c => c = b) w4 (sto w4 b 1 [.int .i64 ((Q + 2 : Nat) : Int)]):=(show Fr (λ c => c = b) w4 w4 from Fr.refl _ _).sto (.inl rfl) _ _
        refine ⟨r ++ [c], hr2, ⟨h4.sl.fr f5 λ c hc he => ?_, λ c hc => ⟨(h4.fresh c hc).1, Nat.lt_of_lt_of_le (h4.fresh c hc).2 f5.size⟩, h4.fr.trans f5 λ _ _ h => h⟩, hR4.at _, by omega⟩
        subst he
        have h1:=(h4.fresh _ hc).1
        have h2:=bk_lt (RS.blk h)
        omega
  ·rintro L w1 ⟨v, r, rfl, hr, hO, ⟨hb1, hw1⟩, hle⟩
   by_cases hJ : J = n
   ·subst hJ
    have hin : ¬ (J : Int) < (J : Int):=by omega
    have hR1 : RS w1 b l (p + 2 * J) false:=⟨hb1, hw1⟩
    have ht:=ownB_text hO.sl.1
    rw [getL_succ, getL_zero, lssF hin, Run_bindO_some, Run_condM_false, Run_ret]
    simp only [outK_exit, getL_zero]
    rw [show Nat.beq 0 0 = true from rfl, cond_true, Run_bind, Run_rdM]
    refine ⟨_, ht, ?_⟩
    rw [Run_ret]
    refine ⟨by simp only [Bool.false_eq_true, if_false, hr, Option.getD_some]; rfl, ⟨p + 2 * J, ?_, hle, λ _ => rfl⟩, hO.fr⟩
    simp only [Bool.false_eq_true, if_false, hr, Option.isNone_some]
    exact hR1
   ·have hpv : pairV (l.drop p) J = none:=hbad.resolve_left hJ
    have hlt : J < n:=by omega
    have hnone:=pairsF_bad hpv hlt
    have hin : (J : Int) < n:=by omega
    have byp : ∀ w2, RS w2 b l (p + 2 * J) false -> Fr (λ c => c = b) w w2 -> ByP w (sto w2 b 2 [.bool true]) b l p n false (.string (sb [])):=λ w2 hR2 f2 => by
     refine ⟨?_, ⟨p + 2 * J, ?_, hle, λ h => ?_⟩, f2.sto (.inl rfl) _ _⟩
     ·simp only [Bool.false_eq_true, if_false, hnone, Option.getD_none]
     ·simp only [Bool.false_eq_true, if_false, hnone, Option.isNone_none]
      exact hR2.bad
     ·simp only [Bool.false_eq_true, if_false, hnone] at h
      cases h
    have fd:=hO.fr.drew
    have wl : IntKind.i64.wrap ((l.length : Int) - ((p + 2 * J : Nat) : Int)) = ((l.length - (p + 2 * J) : Nat) : Int):=by rw [show (l.length : Int) - ((p + 2 * J : Nat) : Int) = ((l.length - (p + 2 * J) : Nat) : Int) by omega]; exact i64W (by omega)
    by_cases h2 : l.length - (p + 2 * J) < 2
    ·have h2' : ((l.length - (p + 2 * J) : Nat) : Int) < 2:=by omega
     generalize p + 2 * J = Q at *
     have hR1 : RS w1.drew b l Q false:=⟨hb1, hw1⟩
     simp [-ldA_ptr, hb1, hin, hlt, hlen, wl, h2', hw1]
     exact byp _ hR1 fd
    ·have h2' : ¬ ((l.length - (p + 2 * J) : Nat) : Int) < 2:=by omega
     unfold pairV at hpv
     rw [drop_at, drop_at] at hpv
     obtain ⟨a, ha⟩ : ∃ a, l[p + 2 * J]? = some a:=⟨_, List.getElem?_eq_getElem (by omega)⟩
     obtain ⟨b', hb'⟩ : ∃ a, l[p + (2 * J + 1)]? = some a:=⟨_, List.getElem?_eq_getElem (by omega)⟩
     rw [ha, hb'] at hpv
     simp only at hpv
     have i1:=idxSb (kd:=.i64) ha
     have i2:=idxSb (kd:=.i64) hb'
     rw [show p + (2 * J + 1) = p + 2 * J + 1 by omega] at i2
     have wq:=wrap_succ' (n:=p + 2 * J) (by omega)
     generalize p + 2 * J = Q at *
     simp [-ldA_ptr, hb1, hin, hlt, hlen, wl, h2', i1, -Int.natCast_add]
     refine (half_run a).mono ?_
     rintro _ w2 ⟨rfl, hw2⟩
     rw [hw2]
     simp [-ldA_ptr, hb1, wq, i2, -Int.natCast_add]
     refine (half_run b').mono ?_
     rintro _ w3 ⟨rfl, hw3⟩
     rw [hw3]
     have hR3 : RS w1.drew.drew.drew b l Q false:=⟨hb1, hw1⟩
     have fd3:=fd.drew.drew
     cases hx : hvN a.toNat with
     | none =>
      rw [hvV_none hx]
      simp [-ldA_ptr, hb1, hw1]
      exact byp _ hR3 fd3
     | some x =>
      cases hy : hvN b'.toNat with
      | none =>
       have nx : ¬ (x : Int) < 0:=by omega
       rw [hvV_some hx, hvV_none hy]
       simp [-ldA_ptr, nx, hb1, hw1]
       exact byp _ hR3 fd3
      | some y => rw [hx, hy] at hpv; simp at hpv
end
end Go.Proofs.YthlpfhjcdedhgaaGreatDoor
