/- What the statement rests on: part 3. -/
import Derived.Test.YtojnickeblbgoaaGreatDoorWa1
import Derived.Deep.DeepAppendWide
import Derived.Laws.AppendOwn
namespace Go.Proofs.YtojnickeblbgoaaGreatDoor
open Go.Lift Go.Lift.Plan
noncomputable def F.d_do (a0 a1 : Value) : M Value:=M.bind (newM 141 (Value.cells a1)) λ x1 => M.bind (F.d_act a0) λ x2 => bindO (binV .neq x2 (.int .i64 0)) λ x3 => condM x3 ( M.ret x2) ( drewM <| bindO (nilChk a0) λ x4 => bindO (fieldA 6 x4) λ x5 => M.bind (rdM (ld1 x5)) λ x6 => bindO (fieldA 1 x1) λ x7 => M.bind (rdM (ld1 x7)) λ x8 => bindO (idxA 3 x6 x8) λ x9 => drewM <| M.bind (rdM (ldA 7 x1)) λ x10 => bindO (nilChk x9) λ x11 => bindO (fieldA 1 x11) λ x12 => M.bind (rdM (ld1 x12)) λ x13 => bindO (nilChk a0) λ x14 => bindO (fieldA 7 x14) λ x15 => M.bind (rdM (ld1 x15)) λ x16 => M.bind (F.dd_apply x10 x13 x16) λ x17 => bindO (nilChk x9) λ x18 => bindO (fieldA 1 x18) λ x19 => M.bind (stM 1 x19 x17) λ _ => drewM <| getM λ _ => bindO (nilChk a0) λ x22 => bindO (fieldA 9 x22) λ x23 => M.bind (rdM (ld1 x23)) λ x24 => M.bind (rdM (ldA 7 x1)) λ x25 => M.bind (bslM 141 1 (Builtin.zeroCells #[(.int .i64 0), (.int .i64 0), (.string .empty), (.int .i64 0), (.string .empty), (.string .empty), (.int .i64 0)] 1) [(0, 7, x25)]) λ x26 => getM λ W27 => M.bind (appM 141 7 80 #[(.int .i64 0), (.int .i64 0), (.string .empty), (.int .i64 0), (.string .empty), (.string .empty), (.int .i64 0)] x24 x26) λ x28 => getM λ _ => bindO (nilChk a0) λ x30 => bindO (fieldA 9 x30) λ x31 => M.bind (stM 1 x31 x28) λ _ => getM λ _ => reqM (ld1 x23 W27 = some x24) <| M.ret (.int .i64 0))
def F.d_do.plan : Plan:=(ls 1 (seq (ls 2 (cond (ls 1 leaf) leaf)) (ls 4 leaf)))
theorem F.d_do.lift : LiftOk Tryz.prog 90 (ap2 F.d_do):=lift2 (g:=evFn Tryz.prog (tcons 99 (ap3 F.dd_apply) (tcons 114 (ap1 F.d_act) tnil)) tnil 90 Tryz.f90 F.d_do.plan) (evFn_sound (tcons_ok F.dd_apply.lift (tcons_ok F.d_act.lift tnil_ok)) tnil_ok Tryz.func90 (by kernel_rfl)) (λ x0 x1 => by kernel_rfl)
noncomputable def F.d_add (a0 a1 a2 : Value) : M Value:=M.bind (F.d_ready a0) λ x1 => bindO (binV .neq x1 (.int .i64 0)) λ x2 => condM x2 ( M.ret x1) ( M.bind (F.dd_parse a1) λ x3 => bindO (extV 0 x3) λ x4 => bindO (extV 1 x3) λ x5 => bindO (notV x5) λ x6 => condM x6 ( M.ret (.int .i64 11)) ( M.bind (F.d_walk a0 x4) λ x7 => bindO (extV 0 x7) λ x8 => bindO (extV 1 x7) λ x9 => M.bind (newM 85 #[(.int .i64 0), (.string .empty), (.int .i64 0)]) λ x10 => M.bind (stM 3 x10 x8) λ _ => bindO (binV .neq x9 (.int .i64 0)) λ x12 => condM x12 ( M.ret x9) ( bindO (fieldA 2 x10) λ x13 => M.bind (rdM (ld1 x13)) λ x14 => bindO (binV .geq x14 (.int .i64 0)) λ x15 => condM x15 ( M.ret (.int .i64 13)) ( bindO (nilChk a0) λ x16 => bindO (fieldA 6 x16) λ x17 => M.bind (rdM (ld1 x17)) λ x18 => bindO (buildV #[(.int .i64 0), (.string .empty), (.string .empty)] [(0, 1, a2)]) λ x19 => M.bind (bslM 94 1 (Builtin.zeroCells #[(.int .i64 0), (.string .empty), (.string .empty)] 1) [(0, 3, x19)]) λ x20 => M.bind (appM 94 3 40 #[(.int .i64 0), (.string .empty), (.string .empty)] x18 x20) λ x21 => bindO (nilChk a0) λ x22 => bindO (fieldA 6 x22) λ x23 => M.bind (stM 1 x23 x21) λ _ => drewM <| bindO (fieldA 0 x10) λ x25 => bindO (fieldA 0 x25) λ x26 => M.bind (rdM (ld1 x26)) λ x27 => bindO (fieldA 0 x10) λ x28 => bindO (fieldA 1 x28) λ x29 => M.bind (rdM (ld1 x29)) λ x30 => bindO (nilChk a0) λ x31 => bindO (fieldA 6 x31) λ x32 => M.bind (rdM (ld1 x32)) λ x33 => bindO (lenL x33) λ x34 => bindO (binV .sub x34 (.int .i64 1)) λ x35 => bindO (buildV #[(.int .i64 0), (.int .i64 0), (.string .empty), (.int .i64 0), (.string .empty), (.string .empty), (.int .i64 0)] [(0, 1, (.int .i64 2)), (1, 1, x27), (4, 1, x30), (6, 1, x35)]) λ x36 => M.bind (F.d_do a0 x36) λ x37 => M.ret x37))))
def F.d_add.plan : Plan:=(ls 1 (seq (ls 2 (cond (ls 1 leaf) leaf)) (ls 1 (seq (ls 1 (cond (ls 1 leaf) leaf)) (ls 1 (seq (ls 1 (cond (ls 1 leaf) leaf)) (seq (ls 1 (cond (ls 1 leaf) leaf)) (ls 2 leaf))))))))
theorem F.d_add.lift : LiftOk Tryz.prog 88 (ap3 F.d_add):=lift3 (g:=evFn Tryz.prog (tcons 85 (ap1 F.d_ready) (tcons 86 (ap1 F.dd_parse) (tcons 90 (ap2 F.d_do) (tcons 92 (ap2 F.d_walk) tnil)))) tnil 88 Tryz.f88 F.d_add.plan) (evFn_sound (tcons_ok F.d_ready.lift (tcons_ok F.dd_parse.lift (tcons_ok F.d_do.lift (tcons_ok F.d_walk.lift tnil_ok)))) tnil_ok Tryz.func88 (by kernel_rfl)) (λ x0 x1 x2 => by kernel_rfl)
noncomputable def F.d_Mkdir (a0 a1 : Value) : M Value:=M.bind (F.d_add a0 a1 (.int .i64 1)) λ x1 => M.ret x1
def F.d_Mkdir.plan : Plan:=(ls 2 leaf)
theorem F.d_Mkdir.lift : LiftOk Tryz.prog 39 (ap2 F.d_Mkdir):=lift2 (g:=evFn Tryz.prog (tcons 88 (ap3 F.d_add) tnil) tnil 39 Tryz.f39 F.d_Mkdir.plan) (evFn_sound (tcons_ok F.d_add.lift tnil_ok) tnil_ok Tryz.func39 (by kernel_rfl)) (λ x0 x1 => by kernel_rfl)
noncomputable def F.r_act (a0 : Value) : M Value:=bindO (nilChk a0) λ x1 => bindO (fieldA 3 x1) λ x2 => M.bind (rdM (ld1 x2)) λ x3 => bindO (binV .eql x3 (.int .i64 0)) λ x4 => condM x4 ( bindO (nilChk a0) λ x5 => bindO (fieldA 4 x5) λ x6 => M.bind (stM 1 x6 (.bool true)) λ _ => M.ret (.int .i64 10)) ( M.bind ( bindO (nilChk a0) λ x8 => bindO (fieldA 3 x8) λ x9 => M.bind (rdM (ld1 x9)) λ x10 => bindO (binV .gtr x10 (.int .i64 0)) λ x11 => condM x11 ( bindO (nilChk a0) λ x12 => bindO (fieldA 3 x12) λ x13 => M.bind (rdM (ld1 x13)) λ x14 => bindO (binV .sub x14 (.int .i64 1)) λ x15 => bindO (nilChk a0) λ x16 => bindO (fieldA 3 x16) λ x17 => M.bind (stM 1 x17 x15) λ _ => M.ret (Out.norm [])) ( M.ret (Out.norm []))) λ o20 => outK o20 (λ _ => bindO (nilChk a0) λ x23 => bindO (fieldA 1 x23) λ x24 => M.bind (rdM (ld1 x24)) λ x25 => bindO (binV .add x25 (.int .i64 1)) λ x26 => bindO (nilChk a0) λ x27 => bindO (fieldA 1 x27) λ x28 => M.bind (stM 1 x28 x26) λ _ => M.ret (.int .i64 0)) (λ _ _ => M.fail) (λ r22 => M.ret r22))
def F.r_act.plan : Plan:=(ls 1 (seq (ls 1 (cond (ls 2 leaf) leaf)) (fork [] [11, 12, 13, 14, 15, 16, 17, 18, 19, 20, 21, 22] [] (ls 1 (cond leaf leaf)) (ls 2 leaf))))
theorem F.r_act.lift : LiftOk Tryz.prog 115 (ap1 F.r_act):=lift1 (g:=evFn Tryz.prog tnil tnil 115 Tryz.f115 F.r_act.plan) (evFn_sound tnil_ok tnil_ok Tryz.func115 (by kernel_rfl)) (λ x0 => by kernel_rfl)
noncomputable def F.rr_having (a0 a1 a2 : Value) : M Value:=M.bind (loopM (λ l1 => bindO (lenL a0) λ x2 => bindO (binV .lss (getL l1 2) x2) λ x3 => condM x3 ( M.bind ( M.bind ( bindO (notV (getL l1 1)) λ x4 => M.bind (guardM x4 true (M.ret a0)) λ x5 => M.bind (guardM x4 true (M.ret (getL l1 2))) λ x6 => M.bind (guardM x4 true (optM (idxA 2 x5 x6))) λ x7 => M.bind (guardM x4 true (optM (fieldA 0 x7))) λ x8 => M.bind (guardM x4 true (rdM (ld1 x8))) λ x9 => M.bind (guardM x4 true (M.ret a1)) λ x10 => M.bind (guardM x4 true (optM (binV .geq x9 x10))) λ x11 => bindO (pickV x4 x11 (.bool false)) λ x12 => condM x12 ( bindO (buildV #[(.string .empty), (.int .i64 0)] [(0, 1, a1), (1, 1, a2)]) λ x13 => M.bind (bslM 113 1 (Builtin.zeroCells #[(.string .empty), (.int .i64 0)] 1) [(0, 2, x13)]) λ x14 => M.bind (appM 113 2 24 #[(.string .empty), (.int .i64 0)] (getL l1 0) x14) λ x15 => M.ret (Out.norm [x15, (.bool true)])) ( M.ret (Out.norm [(getL l1 0), (getL l1 1)]))) λ o17 => outK o17 (λ l16 => bindO (idxA 2 a0 (getL l1 2)) λ x20 => bindO (fieldA 0 x20) λ x21 => M.bind (rdM (ld1 x21)) λ x22 => bindO (binV .neq x22 a1) λ x23 => condM x23 ( bindO (idxA 2 a0 (getL l1 2)) λ x24 => M.bind (rdM (ldA 2 x24)) λ x25 => M.bind (bslM 113 1 (Builtin.zeroCells #[(.string .empty), (.int .i64 0)] 1) [(0, 2, x25)]) λ x26 => M.bind (appM 113 2 24 #[(.string .empty), (.int .i64 0)] (getL l16 0) x26) λ x27 => M.ret (Out.norm [x27, (getL l16 1)])) ( M.ret (Out.norm [(getL l16 0), (getL l16 1)]))) (λ _ _ => M.fail) (λ r19 => M.ret (Out.ret r19))) λ o30 => outK o30 (λ l29 => bindO (binV .add (getL l1 2) (.int .i64 1)) λ x33 => M.ret (Out.norm [(getL l29 0), (getL l29 1), x33])) (λ _ _ => M.fail) (λ r32 => M.ret (Out.ret r32))) ( M.ret (Out.exit 0 [(getL l1 0), (getL l1 1), (getL l1 2)]))) [(.slice none 0 0), (.bool false), (.int .i64 0)]) λ o36 => outK o36 (λ _ => M.fail) (λ k37 l35 => bif Nat.beq k37 0 then ( M.bind ( bindO (notV (getL l35 1)) λ x39 => condM x39 ( bindO (buildV #[(.string .empty), (.int .i64 0)] [(0, 1, a1), (1, 1, a2)]) λ x40 => M.bind (bslM 113 1 (Builtin.zeroCells #[(.string .empty), (.int .i64 0)] 1) [(0, 2, x40)]) λ x41 => M.bind (appM 113 2 24 #[(.string .empty), (.int .i64 0)] (getL l35 0) x41) λ x42 => M.ret (Out.norm [x42])) ( M.ret (Out.norm [(getL l35 0)]))) λ o44 => outK o44 (λ l43 => M.ret (getL l43 0)) (λ _ _ => M.fail) (λ r46 => M.ret r46)) else M.fail) (λ r38 => M.ret r38)
def F.rr_having.plan : Plan:=(ls 3 (seq (ls 1 (body (loop [7, 8, 9] [7, 8, 9, 10, 11, 12, 13, 14, 15, 16, 17, 18, 19, 20, 21, 22, 23, 24, 25, 26, 27, 28, 29, 30, 31, 32, 33, 34, 35, 36, 37, 38, 39, 40, 41, 42, 43, 44, 45, 46] [0] (seq (ls 1 (cond leaf leaf)) (fork [7, 8] [7, 8, 16, 17, 18, 19, 20, 21, 22, 23, 24, 25, 26, 27, 28, 29, 30, 31, 32, 33, 34, 35, 36, 37, 38, 39, 40, 41, 42, 43, 44, 45, 46] [] (body (fork [7, 8] [7, 8, 16, 17, 18, 19, 20, 21, 22, 23, 24, 25, 26, 27, 28, 29, 30, 31, 32] [] (ls 1 (cond (ls 1 leaf) leaf)) (ls 1 (cond leaf leaf)))) leaf))))) (fork [7] [7, 47, 48, 49, 50, 51, 52, 53, 54] [] (ls 1 (cond leaf leaf)) (ls 1 leaf))))
theorem F.rr_having.lift : LiftOk Tryz.prog 117 (ap3 F.rr_having):=lift3 (g:=evFn Tryz.prog tnil tnil 117 Tryz.f117 F.rr_having.plan) (evFn_sound tnil_ok tnil_ok Tryz.func117 (by kernel_rfl)) (λ x0 x1 x2 => by kernel_rfl)
noncomputable def F.rr_without (a0 a1 : Value) : M Value:=M.bind (loopM (λ l1 => bindO (lenL a0) λ x2 => bindO (binV .lss (getL l1 1) x2) λ x3 => condM x3 ( M.bind ( bindO (idxA 2 a0 (getL l1 1)) λ x4 => bindO (fieldA 0 x4) λ x5 => M.bind (rdM (ld1 x5)) λ x6 => bindO (binV .neq x6 a1) λ x7 => condM x7 ( bindO (idxA 2 a0 (getL l1 1)) λ x8 => M.bind (rdM (ldA 2 x8)) λ x9 => M.bind (bslM 113 1 (Builtin.zeroCells #[(.string .empty), (.int .i64 0)] 1) [(0, 2, x9)]) λ x10 => M.bind (appM 113 2 24 #[(.string .empty), (.int .i64 0)] (getL l1 0) x10) λ x11 => M.ret (Out.norm [x11])) ( M.ret (Out.norm [(getL l1 0)]))) λ o13 => outK o13 (λ l12 => bindO (binV .add (getL l1 1) (.int .i64 1)) λ x16 => M.ret (Out.norm [(getL l12 0), x16])) (λ _ _ => M.fail) (λ r15 => M.ret (Out.ret r15))) ( M.ret (Out.exit 0 [(getL l1 0), (getL l1 1)]))) [(.slice none 0 0), (.int .i64 0)]) λ o19 => outK o19 (λ _ => M.fail) (λ k20 l18 => bif Nat.beq k20 0 then ( M.ret (getL l18 0)) else M.fail) (λ r21 => M.ret r21)
def F.rr_without.plan : Plan:=(ls 2 (seq (ls 1 (body (loop [5, 6] [5, 6, 7, 8, 9, 10, 11, 12, 13, 14, 15, 16, 17, 18, 19, 20, 21, 22, 23, 24, 25, 26] [0] (seq (ls 1 (cond leaf leaf)) (fork [5] [5, 13, 14, 15, 16, 17, 18, 19, 20, 21, 22, 23, 24, 25, 26] [] (body (ls 1 (cond leaf leaf))) leaf))))) (ls 1 leaf)))
theorem F.rr_without.lift : LiftOk Tryz.prog 118 (ap2 F.rr_without):=lift2 (g:=evFn Tryz.prog tnil tnil 118 Tryz.f118 F.rr_without.plan) (evFn_sound tnil_ok tnil_ok Tryz.func118 (by kernel_rfl)) (λ x0 x1 => by kernel_rfl)
noncomputable def F.rr_done (a0 a1 : Value) : M Value:=M.bind (newM 105 (Value.cells a0)) λ x1 => M.bind (newM 144 (Value.cells a1)) λ x2 => M.bind (newM 105 #[(.string .empty), (.slice none 0 0)]) λ x3 => M.bind ( bindO (fieldA 1 x2) λ x4 => M.bind (rdM (ld1 x4)) λ x5 => bindO (binV .eql x5 (.int .i64 1)) λ x6 => condM x6 ( bindO (fieldA 0 x1) λ x7 => M.bind (rdM (ld1 x7)) λ x8 => bindO (fieldA 5 x2) λ x9 => M.bind (rdM (ld1 x9)) λ x10 => bindO (binV .add x8 x10) λ x11 => bindO (fieldA 0 x1) λ x12 => M.bind (stM 1 x12 x11) λ _ => M.ret (Out.norm [])) ( bindO (binV .eql x5 (.int .i64 2)) λ x14 => condM x14 ( bindO (fieldA 0 x1) λ x15 => M.bind (rdM (ld1 x15)) λ x16 => bindO (fieldA 2 x2) λ x17 => M.bind (rdM (ld1 x17)) λ x18 => bindO (sliceS x16 none (some x18)) λ x19 => bindO (fieldA 0 x1) λ x20 => M.bind (stM 1 x20 x19) λ _ => M.ret (Out.norm [])) ( bindO (binV .eql x5 (.int .i64 3)) λ x22 => condM x22 ( bindO (fieldA 1 x1) λ x23 => M.bind (rdM (ld1 x23)) λ x24 => bindO (fieldA 3 x2) λ x25 => M.bind (rdM (ld1 x25)) λ x26 => bindO (fieldA 2 x2) λ x27 => M.bind (rdM (ld1 x27)) λ x28 => M.bind (F.rr_having x24 x26 x28) λ x29 => bindO (fieldA 1 x1) λ x30 => M.bind (stM 1 x30 x29) λ _ => M.ret (Out.norm [])) ( bindO (binV .eql x5 (.int .i64 4)) λ x32 => condM x32 ( bindO (fieldA 1 x1) λ x33 => M.bind (rdM (ld1 x33)) λ x34 => bindO (fieldA 3 x2) λ x35 => M.bind (rdM (ld1 x35)) λ x36 => M.bind (F.rr_without x34 x36) λ x37 => bindO (fieldA 1 x1) λ x38 => M.bind (stM 1 x38 x37) λ _ => M.ret (Out.norm [])) ( bindO (binV .eql x5 (.int .i64 5)) λ x40 => condM x40 ( bindO (fieldA 1 x1) λ x41 => M.bind (rdM (ld1 x41)) λ x42 => bindO (fieldA 3 x2) λ x43 => M.bind (rdM (ld1 x43)) λ x44 => M.bind (F.rr_find x42 x44) λ x45 => bindO (fieldA 1 x1) λ x46 => M.bind (rdM (ld1 x46)) λ x47 => bindO (fieldA 3 x2) λ x48 => M.bind (rdM (ld1 x48)) λ x49 => M.bind (F.rr_without x47 x49) λ x50 => bindO (fieldA 4 x2) λ x51 => M.bind (rdM (ld1 x51)) λ x52 => M.bind (F.rr_having x50 x52 x45) λ x53 => bindO (fieldA 1 x1) λ x54 => M.bind (stM 1 x54 x53) λ _ => M.ret (Out.norm [])) ( M.ret (Out.norm []))))))) λ o57 => outK o57 (λ _ => M.bind (rdM (ldA 2 x1)) λ x60 => M.bind (stM 2 x3 x60) λ _ => M.bind (rdM (ldA 2 x3)) λ x62 => M.ret x62) (λ _ _ => M.fail) (λ r59 => M.ret r59)
def F.rr_done.plan : Plan:=(ls 1 (fork [] [5, 6, 7, 8, 9, 10, 11, 12, 13, 14, 15, 16, 17, 18, 19, 20, 21, 22, 23, 24, 25, 26, 27, 28, 29, 30, 31, 32, 33, 34, 35, 36, 37, 38, 39, 40, 41, 42, 43, 44, 45, 46, 47, 48, 49, 50, 51, 52, 53, 54, 55, 56, 57, 58, 59, 60] [] (ls 1 (body (ls 1 (cond leaf (ls 1 (cond leaf (ls 1 (cond leaf (ls 1 (cond leaf (ls 1 (cond (ls 2 leaf) leaf)))))))))))) (ls 1 leaf)))
theorem F.rr_done.lift : LiftOk Tryz.prog 102 (ap2 F.rr_done):=lift2 (g:=evFn Tryz.prog (tcons 116 (ap2 F.rr_find) (tcons 117 (ap3 F.rr_having) (tcons 118 (ap2 F.rr_without) tnil))) tnil 102 Tryz.f102 F.rr_done.plan) (evFn_sound (tcons_ok F.rr_find.lift (tcons_ok F.rr_having.lift (tcons_ok F.rr_without.lift tnil_ok))) tnil_ok Tryz.func102 (by kernel_rfl)) (λ x0 x1 => by kernel_rfl)
noncomputable def F.r_change (a0 a1 : Value) : M Value:=M.bind (newM 144 (Value.cells a1)) λ x1 => M.bind (F.r_act a0) λ x2 => bindO (binV .neq x2 (.int .i64 0)) λ x3 => condM x3 ( M.ret x2) ( drewM <| getM λ _ => bindO (nilChk a0) λ x5 => bindO (fieldA 5 x5) λ x6 => M.bind (rdM (ld1 x6)) λ x7 => bindO (fieldA 0 x1) λ x8 => M.bind (rdM (ld1 x8)) λ x9 => bindO (nilChk a0) λ x10 => bindO (fieldA 5 x10) λ x11 => M.bind (rdM (ld1 x11)) λ x12 => bindO (fieldA 0 x1) λ x13 => M.bind (rdM (ld1 x13)) λ x14 => bindO (idxA 5 x12 x14) λ x15 => bindO (fieldA 1 x15) λ x16 => M.bind (rdM (ldA 2 x16)) λ x17 => M.bind (rdM (ldA 6 x1)) λ x18 => M.bind (F.rr_done x17 x18) λ x19 => getM λ W20 => bindO (idxA 5 x7 x9) λ x21 => bindO (fieldA 1 x21) λ x22 => M.bind (stM 2 x22 x19) λ _ => getM λ _ => reqM (ld1 x6 W20 = some x7) <| reqM (ld1 x8 W20 = some x9) <| drewM <| getM λ _ => bindO (nilChk a0) λ x26 => bindO (fieldA 6 x26) λ x27 => M.bind (rdM (ld1 x27)) λ x28 => M.bind (rdM (ldA 6 x1)) λ x29 => M.bind (bslM 144 1 (Builtin.zeroCells #[(.int .i64 0), (.int .i64 0), (.int .i64 0), (.string .empty), (.string .empty), (.string .empty)] 1) [(0, 6, x29)]) λ x30 => getM λ W31 => M.bind (appM 144 6 72 #[(.int .i64 0), (.int .i64 0), (.int .i64 0), (.string .empty), (.string .empty), (.string .empty)] x28 x30) λ x32 => getM λ _ => bindO (nilChk a0) λ x34 => bindO (fieldA 6 x34) λ x35 => M.bind (stM 1 x35 x32) λ _ => getM λ _ => reqM (ld1 x27 W31 = some x28) <| M.ret (.int .i64 0))
def F.r_change.plan : Plan:=(ls 2 (seq (ls 1 (cond (ls 1 leaf) leaf)) (ls 3 leaf)))
theorem F.r_change.lift : LiftOk Tryz.prog 91 (ap2 F.r_change):=lift2 (g:=evFn Tryz.prog (tcons 102 (ap2 F.rr_done) (tcons 115 (ap1 F.r_act) tnil)) tnil 91 Tryz.f91 F.r_change.plan) (evFn_sound (tcons_ok F.rr_done.lift (tcons_ok F.r_act.lift tnil_ok)) tnil_ok Tryz.func91 (by kernel_rfl)) (λ x0 x1 => by kernel_rfl)
noncomputable def F.r_make (a0 a1 a2 : Value) : M Value:=M.bind (F.r_names a0 a1 (.bool true)) λ x1 => bindO (extV 0 x1) λ x2 => bindO (extV 1 x1) λ x3 => bindO (binV .neq x3 (.int .i64 0)) λ x4 => condM x4 ( M.ret x3) ( M.bind (F.r_spot a0 x2) λ x5 => bindO (extV 0 x5) λ x6 => bindO (extV 1 x5) λ x7 => M.bind (newM 100 #[(.int .i64 0), (.string .empty), (.int .i64 0)]) λ x8 => M.bind (stM 3 x8 x6) λ _ => bindO (binV .neq x7 (.int .i64 0)) λ x10 => condM x10 ( M.ret x7) ( bindO (fieldA 2 x8) λ x11 => M.bind (rdM (ld1 x11)) λ x12 => bindO (binV .geq x12 (.int .i64 0)) λ x13 => condM x13 ( M.ret (.int .i64 13)) ( bindO (nilChk a0) λ x14 => bindO (fieldA 5 x14) λ x15 => M.bind (rdM (ld1 x15)) λ x16 => bindO (buildV #[(.int .i64 0), (.string .empty), (.slice none 0 0), (.string .empty), (.slice none 0 0)] [(0, 1, a2)]) λ x17 => M.bind (bslM 107 1 (Builtin.zeroCells #[(.int .i64 0), (.string .empty), (.slice none 0 0), (.string .empty), (.slice none 0 0)] 1) [(0, 5, x17)]) λ x18 => M.bind (appM 107 5 88 #[(.int .i64 0), (.string .empty), (.slice none 0 0), (.string .empty), (.slice none 0 0)] x16 x18) λ x19 => bindO (nilChk a0) λ x20 => bindO (fieldA 5 x20) λ x21 => M.bind (stM 1 x21 x19) λ _ => drewM <| bindO (fieldA 0 x8) λ x23 => M.bind (rdM (ld1 x23)) λ x24 => bindO (fieldA 1 x8) λ x25 => M.bind (rdM (ld1 x25)) λ x26 => bindO (nilChk a0) λ x27 => bindO (fieldA 5 x27) λ x28 => M.bind (rdM (ld1 x28)) λ x29 => bindO (lenL x29) λ x30 => bindO (binV .sub x30 (.int .i64 1)) λ x31 => bindO (buildV #[(.int .i64 0), (.int .i64 0), (.int .i64 0), (.string .empty), (.string .empty), (.string .empty)] [(0, 1, x24), (1, 1, (.int .i64 3)), (3, 1, x26), (2, 1, x31)]) λ x32 => M.bind (F.r_change a0 x32) λ x33 => M.ret x33)))
def F.r_make.plan : Plan:=(ls 2 (seq (ls 1 (cond (ls 1 leaf) leaf)) (ls 1 (seq (ls 1 (cond (ls 1 leaf) leaf)) (seq (ls 1 (cond (ls 1 leaf) leaf)) (ls 2 leaf))))))
theorem F.r_make.lift : LiftOk Tryz.prog 89 (ap3 F.r_make):=lift3 (g:=evFn Tryz.prog (tcons 87 (ap3 F.r_names) (tcons 91 (ap2 F.r_change) (tcons 94 (ap2 F.r_spot) tnil))) tnil 89 Tryz.f89 F.r_make.plan) (evFn_sound (tcons_ok F.r_names.lift (tcons_ok F.r_change.lift (tcons_ok F.r_spot.lift tnil_ok))) tnil_ok Tryz.func89 (by kernel_rfl)) (λ x0 x1 x2 => by kernel_rfl)
noncomputable def F.r_Mkdir (a0 a1 : Value) : M Value:=M.bind (F.r_make a0 a1 (.int .i64 1)) λ x1 => M.ret x1
def F.r_Mkdir.plan : Plan:=(ls 2 leaf)
theorem F.r_Mkdir.lift : LiftOk Tryz.prog 40 (ap2 F.r_Mkdir):=lift2 (g:=evFn Tryz.prog (tcons 89 (ap3 F.r_make) tnil) tnil 40 Tryz.f40 F.r_Mkdir.plan) (evFn_sound (tcons_ok F.r_make.lift tnil_ok) tnil_ok Tryz.func40 (by kernel_rfl)) (λ x0 x1 => by kernel_rfl)
noncomputable def F.d_Create (a0 a1 : Value) : M Value:=M.bind (F.d_add a0 a1 (.int .i64 2)) λ x1 => M.ret x1
def F.d_Create.plan : Plan:=(ls 2 leaf)
theorem F.d_Create.lift : LiftOk Tryz.prog 41 (ap2 F.d_Create):=lift2 (g:=evFn Tryz.prog (tcons 88 (ap3 F.d_add) tnil) tnil 41 Tryz.f41 F.d_Create.plan) (evFn_sound (tcons_ok F.d_add.lift tnil_ok) tnil_ok Tryz.func41 (by kernel_rfl)) (λ x0 x1 => by kernel_rfl)
noncomputable def F.r_Create (a0 a1 : Value) : M Value:=M.bind (F.r_make a0 a1 (.int .i64 2)) λ x1 => M.ret x1
def F.r_Create.plan : Plan:=(ls 2 leaf)
theorem F.r_Create.lift : LiftOk Tryz.prog 42 (ap2 F.r_Create):=lift2 (g:=evFn Tryz.prog (tcons 89 (ap3 F.r_make) tnil) tnil 42 Tryz.f42 F.r_Create.plan) (evFn_sound (tcons_ok F.r_make.lift tnil_ok) tnil_ok Tryz.func42 (by kernel_rfl)) (λ x0 x1 => by kernel_rfl)
noncomputable def F.d_Used (a0 : Value) : M Value:=bindO (eqV (.one .ptr) a0 (.pointer none)) λ x1 => condM x1 ( M.ret (.int .i64 0)) ( bindO (nilChk a0) λ x2 => bindO (fieldA 7 x2) λ x3 => M.bind (rdM (ld1 x3)) λ x4 => M.bind (rngM x4) λ x5 => M.bind (loopM (λ l6 => M.bind (nxtM x5) λ x7 => bindO (extV 0 x7) λ x8 => condM x8 ( M.bind (rdM (entV x5)) λ x9 => bindO (extV 1 x9) λ x10 => bindO (nilChk a0) λ x11 => bindO (fieldA 6 x11) λ x12 => M.bind (rdM (ld1 x12)) λ x13 => bindO (idxA 3 x13 x10) λ x14 => bindO (fieldA 1 x14) λ x15 => M.bind (rdM (ld1 x15)) λ x16 => bindO (lenS x16) λ x17 => bindO (binV .add (getL l6 0) x17) λ x18 => M.ret (Out.norm [x18])) ( M.ret (Out.exit 0 [(getL l6 0)]))) [(.int .i64 0)]) λ o20 => outK o20 (λ _ => M.fail) (λ k21 l19 => bif Nat.beq k21 0 then ( M.ret (getL l19 0)) else M.fail) (λ r22 => M.ret r22))
def F.d_Used.plan : Plan:=(ls 1 (seq (ls 1 (cond (ls 1 leaf) leaf)) (ls 1 (seq (ls 1 (body (loop [3] [3, 5, 13, 14, 15, 16, 17, 18, 19, 20, 21, 22, 23, 24, 25, 26, 27] [0] (ls 1 (seq (cond leaf leaf) (body (ls 1 leaf))))))) (ls 1 leaf)))))
theorem F.d_Used.lift : LiftOk Tryz.prog 55 (ap1 F.d_Used):=lift1 (g:=evFn Tryz.prog tnil tnil 55 Tryz.f55 F.d_Used.plan) (evFn_sound tnil_ok tnil_ok Tryz.func55 (by kernel_rfl)) (λ x0 => by kernel_rfl)
noncomputable def F.d_Append (a0 a1 a2 : Value) : M Value:=M.bind (F.d_find a0 a1 (.int .i64 2)) λ x1 => bindO (extV 0 x1) λ x2 => bindO (extV 1 x1) λ x3 => M.bind (newM 85 #[(.int .i64 0), (.string .empty), (.int .i64 0)]) λ x4 => M.bind (stM 3 x4 x2) λ _ => bindO (binV .neq x3 (.int .i64 0)) λ x6 => condM x6 ( M.ret x3) ( drewM <| getM λ W7 => M.bind (F.d_Used a0) λ x8 => getM λ _ => bindO (lenS a2) λ x10 => bindO (binV .add x8 x10) λ x11 => bindO (nilChk a0) λ x12 => bindO (fieldA 0 x12) λ x13 => M.bind (rdM (ld1 x13)) λ x14 => bindO (binV .gtr x11 x14) λ x15 => reqM (ld1 x13 W7 = some x14) <| condM x15 ( M.ret (.int .i64 15)) ( bindO (fieldA 2 x4) λ x16 => M.bind (rdM (ld1 x16)) λ x17 => bindO (buildV #[(.int .i64 0), (.int .i64 0), (.string .empty), (.int .i64 0), (.string .empty), (.string .empty), (.int .i64 0)] [(0, 1, (.int .i64 0)), (1, 1, x17), (2, 1, a2)]) λ x18 => M.bind (F.d_do a0 x18) λ x19 => M.ret x19))
def F.d_Append.plan : Plan:=(ls 2 (seq (ls 1 (cond (ls 1 leaf) leaf)) (seq (ls 1 (cond (ls 1 leaf) leaf)) (ls 1 leaf))))
theorem F.d_Append.lift : LiftOk Tryz.prog 43 (ap3 F.d_Append):=lift3 (g:=evFn Tryz.prog (tcons 55 (ap1 F.d_Used) (tcons 72 (ap3 F.d_find) (tcons 90 (ap2 F.d_do) tnil))) tnil 43 Tryz.f43 F.d_Append.plan) (evFn_sound (tcons_ok F.d_Used.lift (tcons_ok F.d_find.lift (tcons_ok F.d_do.lift tnil_ok))) tnil_ok Tryz.func43 (by kernel_rfl)) (λ x0 x1 x2 => by kernel_rfl)
noncomputable def F.r_weight.step (rec : Value -> Value -> M Value) (a0 a1 : Value) : M Value:=bindO (nilChk a0) λ x1 => bindO (fieldA 5 x1) λ x2 => M.bind (rdM (ld1 x2)) λ x3 => bindO (idxA 5 x3 a1) λ x4 => bindO (fieldA 1 x4) λ x5 => bindO (fieldA 1 x5) λ x6 => M.bind (rdM (ld1 x6)) λ x7 => M.bind (loopM (λ l8 => bindO (lenL x7) λ x9 => bindO (binV .lss (getL l8 1) x9) λ x10 => condM x10 ( M.bind ( drewM <| getM λ _ => bindO (nilChk a0) λ x12 => bindO (fieldA 5 x12) λ x13 => M.bind (rdM (ld1 x13)) λ x14 => bindO (idxA 2 x7 (getL l8 1)) λ x15 => bindO (fieldA 1 x15) λ x16 => M.bind (rdM (ld1 x16)) λ x17 => bindO (idxA 5 x14 x17) λ x18 => M.bind (rdM (ldA 5 x18)) λ x19 => M.bind (newM 107 #[(.int .i64 0), (.string .empty), (.slice none 0 0), (.string .empty), (.slice none 0 0)]) λ x20 => getM λ W21 => M.bind (stM 5 x20 x19) λ _ => getM λ _ => reqM (ld1 x13 W21 = some x14) <| reqM (ld1 x16 W21 = some x17) <| reqM (ldA 5 x18 W21 = some x19) <| bindO (fieldA 1 x20) λ x24 => bindO (fieldA 0 x24) λ x25 => M.bind (rdM (ld1 x25)) λ x26 => bindO (lenS x26) λ x27 => bindO (binV .add (getL l8 0) x27) λ x28 => bindO (fieldA 0 x20) λ x29 => M.bind (rdM (ld1 x29)) λ x30 => bindO (binV .eql x30 (.int .i64 1)) λ x31 => condM x31 ( bindO (idxA 2 x7 (getL l8 1)) λ x32 => bindO (fieldA 1 x32) λ x33 => M.bind (rdM (ld1 x33)) λ x34 => M.bind (rec a0 x34) λ x35 => bindO (binV .add x28 x35) λ x36 => M.ret (Out.norm [x36])) ( M.ret (Out.norm [x28]))) λ o38 => outK o38 (λ l37 => bindO (binV .add (getL l8 1) (.int .i64 1)) λ x41 => M.ret (Out.norm [(getL l37 0), x41])) (λ _ _ => M.fail) (λ r40 => M.ret (Out.ret r40))) ( M.ret (Out.exit 0 [(getL l8 0), (getL l8 1)]))) [(.int .i64 0), (.int .i64 0)]) λ o44 => outK o44 (λ _ => M.fail) (λ k45 l43 => bif Nat.beq k45 0 then ( M.ret (getL l43 0)) else M.fail) (λ r46 => M.ret r46)
def F.r_weight.plan : Plan:=(ls 3 (seq (ls 1 (body (loop [5, 7] [5, 7, 8, 9, 19, 20, 21, 22, 23, 24, 25, 26, 27, 28, 29, 30, 31, 32, 33, 34, 35, 36, 37, 38, 39, 40, 41, 42, 43, 44, 45, 46, 47, 48, 49, 50, 51, 52, 53, 54] [0] (seq (ls 1 (cond leaf leaf)) (fork [5] [5, 8, 9, 25, 26, 27, 28, 29, 30, 31, 32, 33, 34, 35, 36, 37, 38, 39, 40, 41, 42, 43, 44, 45, 46, 47, 48, 49, 50, 51, 52, 53, 54] [] (body (ls 3 (cond (ls 1 leaf) leaf))) leaf))))) (ls 1 leaf)))
theorem F.r_weight.step_lift {rec : Value -> Value -> M Value} (hrec : LiftOk Tryz.prog 97 (ap2 rec)) : LiftOk Tryz.prog 97 (ap2 (F.r_weight.step rec)) :=
 lift2 (g:=evFn Tryz.prog (tcons 97 (ap2 rec) tnil) tnil 97 Tryz.f97 F.r_weight.plan) (evFn_sound (tcons_ok hrec tnil_ok) tnil_ok Tryz.func97 (by kernel_rfl)) (λ x0 x1 => by kernel_rfl)
noncomputable def F.r_weight.it : Nat -> Value -> Value -> M Value | 0 => λ _ _ => M.fail | n + 1 => F.r_weight.step (F.r_weight.it n)
theorem F.r_weight.it_lift : ∀ n, LiftOk Tryz.prog 97 (ap2 (F.r_weight.it n))
 | 0 => lift_fail λ args => by unfold ap2; split <;> rfl
 | n + 1 => F.r_weight.step_lift (F.r_weight.it_lift n)
noncomputable def F.r_weight (x0 x1 : Value) : M Value:=recL (λ n => ap2 (F.r_weight.it n)) [x0, x1]
theorem F.r_weight.lift : LiftOk Tryz.prog 97 (ap2 F.r_weight):=lift2 (recL_lift F.r_weight.it_lift) λ _ _ => rfl
theorem F.r_weight.own : Own Tryz.prog 97:=⟨⟨Tryz.f97, Tryz.func97, by kernel_rfl, by kernel_rfl⟩, by kernel_rfl⟩
theorem F.r_weight.run {n : Nat} {x0 x1 : Value} {w : World} {Q : Value -> World -> Prop} (h : Run (F.r_weight.it n x0 x1) w Q) : Run (F.r_weight x0 x1) w Q:=recL_run F.r_weight.it_lift F.r_weight.own (n:=n) h
noncomputable def F.r_Used (a0 : Value) : M Value:=bindO (eqV (.one .ptr) a0 (.pointer none)) λ x1 => condM x1 ( M.ret (.int .i64 0)) ( M.bind (F.r_weight a0 (.int .i64 0)) λ x2 => M.ret x2)
def F.r_Used.plan : Plan:=(ls 1 (seq (ls 1 (cond (ls 1 leaf) leaf)) (ls 1 leaf)))
theorem F.r_Used.lift : LiftOk Tryz.prog 56 (ap1 F.r_Used):=lift1 (g:=evFn Tryz.prog (tcons 97 (ap2 F.r_weight) tnil) tnil 56 Tryz.f56 F.r_Used.plan) (evFn_sound (tcons_ok F.r_weight.lift tnil_ok) tnil_ok Tryz.func56 (by kernel_rfl)) (λ x0 => by kernel_rfl)
noncomputable def F.r_Append (a0 a1 a2 : Value) : M Value:=M.bind (F.r_at a0 a1 (.int .i64 2)) λ x1 => bindO (extV 0 x1) λ x2 => bindO (extV 1 x1) λ x3 => M.bind (newM 100 #[(.int .i64 0), (.string .empty), (.int .i64 0)]) λ x4 => M.bind (stM 3 x4 x2) λ _ => bindO (binV .neq x3 (.int .i64 0)) λ x6 => condM x6 ( M.ret x3) ( M.bind (F.r_Used a0) λ x7 => bindO (lenS a2) λ x8 => bindO (nilChk a0) λ x9 => bindO (fieldA 0 x9) λ x10 => M.bind (rdM (ld1 x10)) λ x11 => bindO (binV .sub x11 x7) λ x12 => bindO (binV .gtr x8 x12) λ x13 => condM x13 ( M.ret (.int .i64 15)) ( bindO (fieldA 2 x4) λ x14 => M.bind (rdM (ld1 x14)) λ x15 => bindO (buildV #[(.int .i64 0), (.int .i64 0), (.int .i64 0), (.string .empty), (.string .empty), (.string .empty)] [(0, 1, x15), (1, 1, (.int .i64 1)), (5, 1, a2)]) λ x16 => M.bind (F.r_change a0 x16) λ x17 => M.ret x17))
def F.r_Append.plan : Plan:=(ls 2 (seq (ls 1 (cond (ls 1 leaf) leaf)) (ls 1 (seq (ls 1 (cond (ls 1 leaf) leaf)) (ls 1 leaf)))))
theorem F.r_Append.lift : LiftOk Tryz.prog 44 (ap3 F.r_Append):=lift3 (g:=evFn Tryz.prog (tcons 56 (ap1 F.r_Used) (tcons 76 (ap3 F.r_at) (tcons 91 (ap2 F.r_change) tnil))) tnil 44 Tryz.f44 F.r_Append.plan) (evFn_sound (tcons_ok F.r_Used.lift (tcons_ok F.r_at.lift (tcons_ok F.r_change.lift tnil_ok))) tnil_ok Tryz.func44 (by kernel_rfl)) (λ x0 x1 x2 => by kernel_rfl)
noncomputable def F.d_Truncate (a0 a1 a2 : Value) : M Value:=M.bind (F.d_ready a0) λ x1 => bindO (binV .neq x1 (.int .i64 0)) λ x2 => condM x2 ( M.ret x1) ( M.bind (F.dd_parse a1) λ x3 => bindO (extV 0 x3) λ _ => bindO (extV 1 x3) λ x5 => bindO (notV x5) λ x6 => condM x6 ( M.ret (.int .i64 11)) ( bindO (binV .lss a2 (.int .i64 0)) λ x7 => condM x7 ( M.ret (.int .i64 1)) ( M.bind (F.d_find a0 a1 (.int .i64 2)) λ x8 => bindO (extV 0 x8) λ x9 => bindO (extV 1 x8) λ x10 => M.bind (newM 85 #[(.int .i64 0), (.string .empty), (.int .i64 0)]) λ x11 => M.bind (stM 3 x11 x9) λ _ => bindO (binV .neq x10 (.int .i64 0)) λ x13 => condM x13 ( M.ret x10) ( drewM <| bindO (nilChk a0) λ x14 => bindO (fieldA 6 x14) λ x15 => M.bind (rdM (ld1 x15)) λ x16 => bindO (fieldA 2 x11) λ x17 => M.bind (rdM (ld1 x17)) λ x18 => bindO (idxA 3 x16 x18) λ x19 => bindO (fieldA 1 x19) λ x20 => M.bind (rdM (ld1 x20)) λ x21 => bindO (lenS x21) λ x22 => bindO (binV .gtr a2 x22) λ x23 => condM x23 ( M.ret (.int .i64 16)) ( bindO (fieldA 2 x11) λ x24 => M.bind (rdM (ld1 x24)) λ x25 => bindO (buildV #[(.int .i64 0), (.int .i64 0), (.string .empty), (.int .i64 0), (.string .empty), (.string .empty), (.int .i64 0)] [(0, 1, (.int .i64 1)), (1, 1, x25), (3, 1, a2)]) λ x26 => M.bind (F.d_do a0 x26) λ x27 => M.ret x27)))))
def F.d_Truncate.plan : Plan:=(ls 1 (seq (ls 2 (cond (ls 1 leaf) leaf)) (seq (ls 2 (cond (ls 1 leaf) leaf)) (seq (ls 1 (cond (ls 1 leaf) leaf)) (ls 1 (seq (ls 1 (cond (ls 1 leaf) leaf)) (seq (ls 1 (cond (ls 1 leaf) leaf)) (ls 1 leaf))))))))
theorem F.d_Truncate.lift : LiftOk Tryz.prog 45 (ap3 F.d_Truncate):=lift3 (g:=evFn Tryz.prog (tcons 72 (ap3 F.d_find) (tcons 85 (ap1 F.d_ready) (tcons 86 (ap1 F.dd_parse) (tcons 90 (ap2 F.d_do) tnil)))) tnil 45 Tryz.f45 F.d_Truncate.plan) (evFn_sound (tcons_ok F.d_find.lift (tcons_ok F.d_ready.lift (tcons_ok F.dd_parse.lift (tcons_ok F.d_do.lift tnil_ok)))) tnil_ok Tryz.func45 (by kernel_rfl)) (λ x0 x1 x2 => by kernel_rfl)
noncomputable def F.r_Truncate (a0 a1 a2 : Value) : M Value:=M.bind (F.r_names a0 a1 (.bool true)) λ x1 => bindO (extV 0 x1) λ _ => bindO (extV 1 x1) λ x3 => bindO (binV .neq x3 (.int .i64 0)) λ x4 => condM x4 ( M.ret x3) ( bindO (binV .lss a2 (.int .i64 0)) λ x5 => condM x5 ( M.ret (.int .i64 1)) ( M.bind (F.r_at a0 a1 (.int .i64 2)) λ x6 => bindO (extV 0 x6) λ x7 => bindO (extV 1 x6) λ x8 => M.bind (newM 100 #[(.int .i64 0), (.string .empty), (.int .i64 0)]) λ x9 => M.bind (stM 3 x9 x7) λ _ => bindO (binV .neq x8 (.int .i64 0)) λ x11 => condM x11 ( M.ret x8) ( drewM <| bindO (nilChk a0) λ x12 => bindO (fieldA 5 x12) λ x13 => M.bind (rdM (ld1 x13)) λ x14 => bindO (fieldA 2 x9) λ x15 => M.bind (rdM (ld1 x15)) λ x16 => bindO (idxA 5 x14 x16) λ x17 => bindO (fieldA 1 x17) λ x18 => bindO (fieldA 0 x18) λ x19 => M.bind (rdM (ld1 x19)) λ x20 => bindO (lenS x20) λ x21 => bindO (binV .gtr a2 x21) λ x22 => condM x22 ( M.ret (.int .i64 16)) ( bindO (fieldA 2 x9) λ x23 => M.bind (rdM (ld1 x23)) λ x24 => bindO (buildV #[(.int .i64 0), (.int .i64 0), (.int .i64 0), (.string .empty), (.string .empty), (.string .empty)] [(0, 1, x24), (1, 1, (.int .i64 2)), (2, 1, a2)]) λ x25 => M.bind (F.r_change a0 x25) λ x26 => M.ret x26))))
def F.r_Truncate.plan : Plan:=(ls 2 (seq (ls 1 (cond (ls 1 leaf) leaf)) (seq (ls 1 (cond (ls 1 leaf) leaf)) (ls 1 (seq (ls 1 (cond (ls 1 leaf) leaf)) (seq (ls 1 (cond (ls 1 leaf) leaf)) (ls 1 leaf)))))))
theorem F.r_Truncate.lift : LiftOk Tryz.prog 46 (ap3 F.r_Truncate):=lift3 (g:=evFn Tryz.prog (tcons 76 (ap3 F.r_at) (tcons 87 (ap3 F.r_names) (tcons 91 (ap2 F.r_change) tnil))) tnil 46 Tryz.f46 F.r_Truncate.plan) (evFn_sound (tcons_ok F.r_at.lift (tcons_ok F.r_names.lift (tcons_ok F.r_change.lift tnil_ok))) tnil_ok Tryz.func46 (by kernel_rfl)) (λ x0 x1 x2 => by kernel_rfl)
noncomputable def F.d_Rename (a0 a1 a2 : Value) : M Value:=M.bind (F.d_ready a0) λ x1 => bindO (binV .neq x1 (.int .i64 0)) λ x2 => condM x2 ( M.ret x1) ( M.bind (F.dd_parse a1) λ x3 => bindO (extV 0 x3) λ x4 => bindO (extV 1 x3) λ x5 => M.bind (F.dd_parse a2) λ x6 => bindO (extV 0 x6) λ x7 => bindO (extV 1 x6) λ x8 => bindO (notV x5) λ x9 => M.bind (guardM x9 false (M.ret x8)) λ x10 => M.bind (guardM x9 false (optM (notV x10))) λ x11 => bindO (pickV x9 (.bool true) x11) λ x12 => M.bind (guardM x12 false (M.ret a1)) λ x13 => M.bind (guardM x12 false (optM (binV .eql x13 (.string (ByteArray.mk #[]))))) λ x14 => bindO (pickV x12 (.bool true) x14) λ x15 => M.bind (guardM x15 false (M.ret a2)) λ x16 => M.bind (guardM x15 false (optM (binV .eql x16 (.string (ByteArray.mk #[]))))) λ x17 => bindO (pickV x15 (.bool true) x17) λ x18 => condM x18 ( M.ret (.int .i64 11)) ( drewM <| bindO (lenL x4) λ x19 => bindO (binV .sub x19 (.int .i64 1)) λ x20 => bindO (sliceV 1 x4 none (some x20)) λ x21 => M.bind (F.dd_Path x21) λ x22 => bindO (lenL x7) λ x23 => bindO (binV .sub x23 (.int .i64 1)) λ x24 => bindO (sliceV 1 x7 none (some x24)) λ x25 => M.bind (F.dd_Path x25) λ x26 => bindO (binV .neq x22 x26) λ x27 => M.bind (guardM x27 false (M.ret x4)) λ x28 => M.bind (guardM x27 false (optM (lenL x28))) λ x29 => M.bind (guardM x27 false (M.ret x7)) λ x30 => M.bind (guardM x27 false (optM (lenL x30))) λ x31 => M.bind (guardM x27 false (optM (binV .neq x29 x31))) λ x32 => bindO (pickV x27 (.bool true) x32) λ x33 => condM x33 ( M.ret (.int .i64 18)) ( M.bind (F.d_walk a0 x4) λ x34 => bindO (extV 0 x34) λ x35 => bindO (extV 1 x34) λ x36 => M.bind (newM 85 #[(.int .i64 0), (.string .empty), (.int .i64 0)]) λ x37 => M.bind (stM 3 x37 x35) λ _ => bindO (binV .neq x36 (.int .i64 0)) λ x39 => condM x39 ( M.ret x36) ( bindO (fieldA 2 x37) λ x40 => M.bind (rdM (ld1 x40)) λ x41 => bindO (binV .lss x41 (.int .i64 0)) λ x42 => condM x42 ( M.ret (.int .i64 12)) ( M.bind (F.d_walk a0 x7) λ x43 => bindO (extV 0 x43) λ x44 => bindO (extV 1 x43) λ _ => M.bind (newM 85 #[(.int .i64 0), (.string .empty), (.int .i64 0)]) λ x46 => M.bind (stM 3 x46 x44) λ _ => drewM <| bindO (fieldA 2 x46) λ x48 => M.bind (rdM (ld1 x48)) λ x49 => bindO (binV .geq x49 (.int .i64 0)) λ x50 => M.bind (guardM x50 true (optM (fieldA 0 x46))) λ x51 => M.bind (guardM x50 true (rdM (ldA 2 x51))) λ x52 => M.bind (guardM x50 true (optM (fieldA 0 x37))) λ x53 => M.bind (guardM x50 true (rdM (ldA 2 x53))) λ x54 => M.bind (guardM x50 true (optM (eqV (.offs [(.int, 0), (.str, 1)]) x52 x54))) λ x55 => M.bind (guardM x50 true (M.ret x55)) λ x56 => M.bind (guardM x56 false (M.ret a0)) λ x57 => M.bind (guardM x56 false (optM (nilChk x57))) λ x58 => M.bind (guardM x56 false (optM (fieldA 6 x58))) λ x59 => M.bind (guardM x56 false (rdM (ld1 x59))) λ x60 => M.bind (guardM x56 false (optM (fieldA 2 x37))) λ x61 => M.bind (guardM x56 false (rdM (ld1 x61))) λ x62 => M.bind (guardM x56 false (optM (idxA 3 x60 x62))) λ x63 => M.bind (guardM x56 false (optM (fieldA 0 x63))) λ x64 => M.bind (guardM x56 false (rdM (ld1 x64))) λ x65 => M.bind (guardM x56 false (optM (binV .neq x65 (.int .i64 2)))) λ x66 => M.bind (guardM x50 true (optM (pickV x56 (.bool true) x66))) λ x67 => M.bind (guardM x50 true (M.ret x67)) λ x68 => M.bind (guardM x68 false (M.ret a0)) λ x69 => M.bind (guardM x68 false (optM (nilChk x69))) λ x70 => M.bind (guardM x68 false (optM (fieldA 6 x70))) λ x71 => M.bind (guardM x68 false (rdM (ld1 x71))) λ x72 => M.bind (guardM x68 false (optM (fieldA 2 x46))) λ x73 => M.bind (guardM x68 false (rdM (ld1 x73))) λ x74 => M.bind (guardM x68 false (optM (idxA 3 x72 x74))) λ x75 => M.bind (guardM x68 false (optM (fieldA 0 x75))) λ x76 => M.bind (guardM x68 false (rdM (ld1 x76))) λ x77 => M.bind (guardM x68 false (optM (binV .neq x77 (.int .i64 2)))) λ x78 => M.bind (guardM x50 true (optM (pickV x68 (.bool true) x78))) λ x79 => bindO (pickV x50 x79 (.bool false)) λ x80 => condM x80 ( M.ret (.int .i64 13)) ( bindO (fieldA 0 x37) λ x81 => bindO (fieldA 0 x81) λ x82 => M.bind (rdM (ld1 x82)) λ x83 => bindO (fieldA 0 x37) λ x84 => bindO (fieldA 1 x84) λ x85 => M.bind (rdM (ld1 x85)) λ x86 => bindO (fieldA 0 x46) λ x87 => bindO (fieldA 1 x87) λ x88 => M.bind (rdM (ld1 x88)) λ x89 => bindO (buildV #[(.int .i64 0), (.int .i64 0), (.string .empty), (.int .i64 0), (.string .empty), (.string .empty), (.int .i64 0)] [(0, 1, (.int .i64 4)), (1, 1, x83), (4, 1, x86), (5, 1, x89)]) λ x90 => M.bind (F.d_do a0 x90) λ x91 => M.ret x91))))))
def F.d_Rename.plan : Plan:=(ls 1 (seq (ls 2 (cond (ls 1 leaf) leaf)) (ls 2 (seq (ls 1 (cond (ls 1 leaf) leaf)) (seq (ls 1 (cond (ls 1 leaf) leaf)) (ls 1 (seq (ls 1 (cond (ls 1 leaf) leaf)) (seq (ls 1 (cond (ls 1 leaf) leaf)) (ls 1 (seq (ls 1 (cond (ls 1 leaf) leaf)) (ls 1 leaf)))))))))))
theorem F.d_Rename.lift : LiftOk Tryz.prog 47 (ap3 F.d_Rename):=lift3 (g:=evFn Tryz.prog (tcons 10 (ap1 F.dd_Path) (tcons 85 (ap1 F.d_ready) (tcons 86 (ap1 F.dd_parse) (tcons 90 (ap2 F.d_do) (tcons 92 (ap2 F.d_walk) tnil))))) tnil 47 Tryz.f47 F.d_Rename.plan) (evFn_sound (tcons_ok F.dd_Path.lift (tcons_ok F.d_ready.lift (tcons_ok F.dd_parse.lift (tcons_ok F.d_do.lift (tcons_ok F.d_walk.lift tnil_ok))))) tnil_ok Tryz.func47 (by kernel_rfl)) (λ x0 x1 x2 => by kernel_rfl)
noncomputable def F.rr_sameDir (a0 a1 : Value) : M Value:=bindO (lenL a0) λ x1 => bindO (lenL a1) λ x2 => bindO (binV .neq x1 x2) λ x3 => condM x3 ( M.ret (.bool false)) ( M.bind (loopM (λ l4 => bindO (binV .add (getL l4 0) (.int .i64 1)) λ x5 => bindO (lenL a0) λ x6 => bindO (binV .lss x5 x6) λ x7 => condM x7 ( drewM <| bindO (idxA 1 a0 (getL l4 0)) λ x8 => M.bind (rdM (ld1 x8)) λ x9 => bindO (idxA 1 a1 (getL l4 0)) λ x10 => M.bind (rdM (ld1 x10)) λ x11 => bindO (binV .neq x9 x11) λ x12 => condM x12 ( M.ret (Out.ret (.bool false))) ( bindO (binV .add (getL l4 0) (.int .i64 1)) λ x13 => M.ret (Out.norm [x13]))) ( M.ret (Out.exit 0 [(getL l4 0)]))) [(.int .i64 0)]) λ o15 => outK o15 (λ _ => M.fail) (λ k16 _ => bif Nat.beq k16 0 then ( M.ret (.bool true)) else M.fail) (λ r17 => M.ret r17))
def F.rr_sameDir.plan : Plan:=(ls 1 (seq (ls 1 (cond (ls 1 leaf) leaf)) (seq (ls 1 (body (loop [5] [4, 5, 11, 12, 13, 14, 15, 16, 17, 18, 19, 20, 21, 22, 23, 24, 25, 26] [0] (seq (ls 1 (cond leaf leaf)) (seq (body (ls 1 (cond (ls 1 leaf) leaf))) leaf))))) (ls 1 leaf))))
theorem F.rr_sameDir.lift : LiftOk Tryz.prog 93 (ap2 F.rr_sameDir):=lift2 (g:=evFn Tryz.prog tnil tnil 93 Tryz.f93 F.rr_sameDir.plan) (evFn_sound tnil_ok tnil_ok Tryz.func93 (by kernel_rfl)) (λ x0 x1 => by kernel_rfl)
noncomputable def F.r_Rename (a0 a1 a2 : Value) : M Value:=M.bind (F.r_names a0 a1 (.bool false)) λ x1 => bindO (extV 0 x1) λ x2 => bindO (extV 1 x1) λ x3 => bindO (binV .neq x3 (.int .i64 0)) λ x4 => condM x4 ( M.ret x3) ( M.bind (F.r_names a0 a2 (.bool false)) λ x5 => bindO (extV 0 x5) λ x6 => bindO (extV 1 x5) λ x7 => bindO (binV .neq x7 (.int .i64 0)) λ x8 => condM x8 ( M.ret x7) ( M.bind (F.rr_sameDir x2 x6) λ x9 => bindO (notV x9) λ x10 => condM x10 ( M.ret (.int .i64 18)) ( M.bind (F.r_spot a0 x2) λ x11 => bindO (extV 0 x11) λ x12 => bindO (extV 1 x11) λ x13 => M.bind (newM 100 #[(.int .i64 0), (.string .empty), (.int .i64 0)]) λ x14 => M.bind (stM 3 x14 x12) λ _ => bindO (binV .neq x13 (.int .i64 0)) λ x16 => condM x16 ( M.ret x13) ( bindO (fieldA 2 x14) λ x17 => M.bind (rdM (ld1 x17)) λ x18 => bindO (binV .lss x18 (.int .i64 0)) λ x19 => condM x19 ( M.ret (.int .i64 12)) ( M.bind (F.r_spot a0 x6) λ x20 => bindO (extV 0 x20) λ x21 => bindO (extV 1 x20) λ _ => M.bind (newM 100 #[(.int .i64 0), (.string .empty), (.int .i64 0)]) λ x23 => M.bind (stM 3 x23 x21) λ _ => M.bind ( bindO (fieldA 2 x23) λ x25 => M.bind (rdM (ld1 x25)) λ x26 => bindO (binV .geq x26 (.int .i64 0)) λ x27 => condM x27 ( drewM <| bindO (nilChk a0) λ x28 => bindO (fieldA 5 x28) λ x29 => M.bind (rdM (ld1 x29)) λ x30 => bindO (fieldA 2 x14) λ x31 => M.bind (rdM (ld1 x31)) λ x32 => bindO (idxA 5 x30 x32) λ x33 => bindO (fieldA 0 x33) λ x34 => M.bind (rdM (ld1 x34)) λ x35 => bindO (binV .eql x35 (.int .i64 2)) λ x36 => M.bind (guardM x36 true (M.ret a0)) λ x37 => M.bind (guardM x36 true (optM (nilChk x37))) λ x38 => M.bind (guardM x36 true (optM (fieldA 5 x38))) λ x39 => M.bind (guardM x36 true (rdM (ld1 x39))) λ x40 => M.bind (guardM x36 true (optM (fieldA 2 x23))) λ x41 => M.bind (guardM x36 true (rdM (ld1 x41))) λ x42 => M.bind (guardM x36 true (optM (idxA 5 x40 x42))) λ x43 => M.bind (guardM x36 true (optM (fieldA 0 x43))) λ x44 => M.bind (guardM x36 true (rdM (ld1 x44))) λ x45 => M.bind (guardM x36 true (optM (binV .eql x45 (.int .i64 2)))) λ x46 => bindO (pickV x36 x46 (.bool false)) λ x47 => M.bind (guardM x47 true (optM (fieldA 1 x14))) λ x48 => M.bind (guardM x47 true (rdM (ld1 x48))) λ x49 => M.bind (guardM x47 true (optM (fieldA 1 x23))) λ x50 => M.bind (guardM x47 true (rdM (ld1 x50))) λ x51 => M.bind (guardM x47 true (optM (binV .neq x49 x51))) λ x52 => bindO (pickV x47 x52 (.bool false)) λ x53 => bindO (notV x53) λ x54 => condM x54 ( M.ret (Out.ret (.int .i64 13))) ( M.ret (Out.norm []))) ( M.ret (Out.norm []))) λ o56 => outK o56 (λ _ => bindO (fieldA 0 x14) λ x59 => M.bind (rdM (ld1 x59)) λ x60 => bindO (fieldA 1 x14) λ x61 => M.bind (rdM (ld1 x61)) λ x62 => bindO (fieldA 1 x23) λ x63 => M.bind (rdM (ld1 x63)) λ x64 => bindO (buildV #[(.int .i64 0), (.int .i64 0), (.int .i64 0), (.string .empty), (.string .empty), (.string .empty)] [(0, 1, x60), (1, 1, (.int .i64 5)), (3, 1, x62), (4, 1, x64)]) λ x65 => M.bind (F.r_change a0 x65) λ x66 => M.ret x66) (λ _ _ => M.fail) (λ r58 => M.ret r58))))))
def F.r_Rename.plan : Plan:=(ls 2 (seq (ls 1 (cond (ls 1 leaf) leaf)) (ls 1 (seq (ls 1 (cond (ls 1 leaf) leaf)) (ls 1 (seq (ls 1 (cond (ls 1 leaf) leaf)) (ls 1 (seq (ls 1 (cond (ls 1 leaf) leaf)) (seq (ls 1 (cond (ls 1 leaf) leaf)) (ls 1 (fork [] [6, 16, 58, 59, 60, 61, 62, 63, 64, 65, 66, 67, 68, 69, 70, 71, 72, 73, 74, 75, 76, 77, 78, 79, 80, 81, 82, 83, 84, 85, 86, 87, 88, 89, 90, 91] [] (ls 1 (cond (ls 2 (cond (ls 1 leaf) leaf)) leaf)) (ls 1 leaf))))))))))))
theorem F.r_Rename.lift : LiftOk Tryz.prog 48 (ap3 F.r_Rename):=lift3 (g:=evFn Tryz.prog (tcons 87 (ap3 F.r_names) (tcons 91 (ap2 F.r_change) (tcons 93 (ap2 F.rr_sameDir) (tcons 94 (ap2 F.r_spot) tnil)))) tnil 48 Tryz.f48 F.r_Rename.plan) (evFn_sound (tcons_ok F.r_names.lift (tcons_ok F.r_change.lift (tcons_ok F.rr_sameDir.lift (tcons_ok F.r_spot.lift tnil_ok)))) tnil_ok Tryz.func48 (by kernel_rfl)) (λ x0 x1 x2 => by kernel_rfl)
noncomputable def F.d_Remove (a0 a1 : Value) : M Value:=M.bind (F.d_find a0 a1 (.int .i64 0)) λ x1 => bindO (extV 0 x1) λ x2 => bindO (extV 1 x1) λ x3 => M.bind (newM 85 #[(.int .i64 0), (.string .empty), (.int .i64 0)]) λ x4 => M.bind (stM 3 x4 x2) λ _ => bindO (binV .eql a1 (.string (ByteArray.mk #[]))) λ x6 => M.bind (guardM x6 true (M.ret x3)) λ x7 => M.bind (guardM x6 true (optM (binV .eql x7 (.int .i64 0)))) λ x8 => M.bind (guardM x6 true (M.ret x8)) λ x9 => M.bind (guardM x9 false (M.ret x3)) λ x10 => M.bind (guardM x9 false (optM (binV .eql x10 (.int .i64 12)))) λ x11 => M.bind (guardM x6 true (optM (pickV x9 (.bool true) x11))) λ x12 => bindO (pickV x6 x12 (.bool false)) λ x13 => condM x13 ( M.ret (.int .i64 11)) ( bindO (binV .neq x3 (.int .i64 0)) λ x14 => condM x14 ( M.ret x3) ( bindO (nilChk a0) λ x15 => bindO (fieldA 7 x15) λ x16 => M.bind (rdM (ld1 x16)) λ x17 => M.bind (rngM x17) λ x18 => M.bind (loopM (λ _ => M.bind (nxtM x18) λ x20 => bindO (extV 0 x20) λ x21 => condM x21 ( M.bind (rdM (entV x18)) λ x22 => bindO (extV 0 x22) λ x23 => M.bind (newM 83 #[(.int .i64 0), (.string .empty)]) λ x24 => M.bind (stM 2 x24 x23) λ _ => bindO (fieldA 0 x24) λ x26 => M.bind (rdM (ld1 x26)) λ x27 => bindO (fieldA 2 x4) λ x28 => M.bind (rdM (ld1 x28)) λ x29 => bindO (binV .eql x27 x29) λ x30 => condM x30 ( M.ret (Out.ret (.int .i64 17))) ( M.ret (Out.norm []))) ( M.ret (Out.exit 0 []))) []) λ o32 => outK o32 (λ _ => M.fail) (λ k33 _ => bif Nat.beq k33 0 then ( bindO (fieldA 0 x4) λ x35 => bindO (fieldA 0 x35) λ x36 => M.bind (rdM (ld1 x36)) λ x37 => bindO (fieldA 0 x4) λ x38 => bindO (fieldA 1 x38) λ x39 => M.bind (rdM (ld1 x39)) λ x40 => bindO (buildV #[(.int .i64 0), (.int .i64 0), (.string .empty), (.int .i64 0), (.string .empty), (.string .empty), (.int .i64 0)] [(0, 1, (.int .i64 3)), (1, 1, x37), (4, 1, x40)]) λ x41 => M.bind (F.d_do a0 x41) λ x42 => M.ret x42) else M.fail) (λ r34 => M.ret r34)))
def F.d_Remove.plan : Plan:=(ls 2 (seq (ls 1 (cond (ls 1 leaf) leaf)) (seq (ls 1 (cond (ls 1 leaf) leaf)) (seq (ls 1 (body (loop [] [4, 7, 32, 33, 34, 35, 36, 37, 38, 39, 40] [0] (ls 1 (seq (cond leaf leaf) (body (ls 2 (cond (ls 1 leaf) leaf)))))))) (ls 1 leaf)))))
theorem F.d_Remove.lift : LiftOk Tryz.prog 49 (ap2 F.d_Remove):=lift2 (g:=evFn Tryz.prog (tcons 72 (ap3 F.d_find) (tcons 90 (ap2 F.d_do) tnil)) tnil 49 Tryz.f49 F.d_Remove.plan) (evFn_sound (tcons_ok F.d_find.lift (tcons_ok F.d_do.lift tnil_ok)) tnil_ok Tryz.func49 (by kernel_rfl)) (λ x0 x1 => by kernel_rfl)
noncomputable def F.r_Remove (a0 a1 : Value) : M Value:=M.bind (F.r_names a0 a1 (.bool false)) λ x1 => bindO (extV 0 x1) λ _ => bindO (extV 1 x1) λ x3 => bindO (binV .neq x3 (.int .i64 0)) λ x4 => condM x4 ( M.ret x3) ( M.bind (F.r_at a0 a1 (.int .i64 0)) λ x5 => bindO (extV 0 x5) λ x6 => bindO (extV 1 x5) λ x7 => M.bind (newM 100 #[(.int .i64 0), (.string .empty), (.int .i64 0)]) λ x8 => M.bind (stM 3 x8 x6) λ _ => bindO (binV .neq x7 (.int .i64 0)) λ x10 => condM x10 ( M.ret x7) ( drewM <| bindO (nilChk a0) λ x11 => bindO (fieldA 5 x11) λ x12 => M.bind (rdM (ld1 x12)) λ x13 => bindO (fieldA 2 x8) λ x14 => M.bind (rdM (ld1 x14)) λ x15 => bindO (idxA 5 x13 x15) λ x16 => bindO (fieldA 1 x16) λ x17 => bindO (fieldA 1 x17) λ x18 => M.bind (rdM (ld1 x18)) λ x19 => bindO (lenL x19) λ x20 => bindO (binV .gtr x20 (.int .i64 0)) λ x21 => condM x21 ( M.ret (.int .i64 17)) ( bindO (fieldA 0 x8) λ x22 => M.bind (rdM (ld1 x22)) λ x23 => bindO (fieldA 1 x8) λ x24 => M.bind (rdM (ld1 x24)) λ x25 => bindO (buildV #[(.int .i64 0), (.int .i64 0), (.int .i64 0), (.string .empty), (.string .empty), (.string .empty)] [(0, 1, x23), (1, 1, (.int .i64 4)), (3, 1, x25)]) λ x26 => M.bind (F.r_change a0 x26) λ x27 => M.ret x27)))
def F.r_Remove.plan : Plan:=(ls 2 (seq (ls 1 (cond (ls 1 leaf) leaf)) (ls 1 (seq (ls 1 (cond (ls 1 leaf) leaf)) (seq (ls 1 (cond (ls 1 leaf) leaf)) (ls 1 leaf))))))
theorem F.r_Remove.lift : LiftOk Tryz.prog 50 (ap2 F.r_Remove):=lift2 (g:=evFn Tryz.prog (tcons 76 (ap3 F.r_at) (tcons 87 (ap3 F.r_names) (tcons 91 (ap2 F.r_change) tnil))) tnil 50 Tryz.f50 F.r_Remove.plan) (evFn_sound (tcons_ok F.r_at.lift (tcons_ok F.r_names.lift (tcons_ok F.r_change.lift tnil_ok))) tnil_ok Tryz.func50 (by kernel_rfl)) (λ x0 x1 => by kernel_rfl)
noncomputable def F.d_settle (a0 a1 : Value) : M Value:=M.bind (F.d_act a0) λ x1 => bindO (binV .neq x1 (.int .i64 0)) λ x2 => condM x2 ( M.ret x1) ( bindO (nilChk a0) λ x3 => bindO (fieldA 6 x3) λ x4 => M.bind (rdM (ld1 x4)) λ x5 => bindO (idxA 3 x5 a1) λ x6 => bindO (nilChk a0) λ x7 => bindO (fieldA 9 x7) λ x8 => M.bind (rdM (ld1 x8)) λ x9 => bindO (lenL x9) λ x10 => M.bind (loopM (λ l11 => bindO (binV .lss (getL l11 1) x10) λ x12 => condM x12 ( M.bind ( bindO (idxA 7 x9 (getL l11 1)) λ x13 => M.bind (rdM (ldA 7 x13)) λ x14 => M.bind (newM 141 #[(.int .i64 0), (.int .i64 0), (.string .empty), (.int .i64 0), (.string .empty), (.string .empty), (.int .i64 0)]) λ x15 => M.bind (stM 7 x15 x14) λ _ => bindO (fieldA 1 x15) λ x17 => M.bind (rdM (ld1 x17)) λ x18 => bindO (binV .neq x18 a1) λ x19 => condM x19 ( M.bind (rdM (ldA 7 x15)) λ x20 => M.bind (bslM 141 1 (Builtin.zeroCells #[(.int .i64 0), (.int .i64 0), (.string .empty), (.int .i64 0), (.string .empty), (.string .empty), (.int .i64 0)] 1) [(0, 7, x20)]) λ x21 => M.bind (appM 141 7 80 #[(.int .i64 0), (.int .i64 0), (.string .empty), (.int .i64 0), (.string .empty), (.string .empty), (.int .i64 0)] (getL l11 0) x21) λ x22 => M.ret (Out.norm [x22])) ( drewM <| M.bind (rdM (ldA 7 x15)) λ x23 => bindO (nilChk x6) λ x24 => bindO (fieldA 2 x24) λ x25 => M.bind (rdM (ld1 x25)) λ x26 => bindO (nilChk a0) λ x27 => bindO (fieldA 8 x27) λ x28 => M.bind (rdM (ld1 x28)) λ x29 => M.bind (F.dd_apply x23 x26 x29) λ x30 => bindO (nilChk x6) λ x31 => bindO (fieldA 2 x31) λ x32 => M.bind (stM 1 x32 x30) λ _ => M.ret (Out.norm [(getL l11 0)]))) λ o35 => outK o35 (λ l34 => bindO (binV .add (getL l11 1) (.int .i64 1)) λ x38 => M.ret (Out.norm [(getL l34 0), x38])) (λ _ _ => M.fail) (λ r37 => M.ret (Out.ret r37))) ( M.ret (Out.exit 0 [(getL l11 0), (getL l11 1)]))) [(.slice none 0 0), (.int .i64 0)]) λ o41 => outK o41 (λ _ => M.fail) (λ k42 l40 => bif Nat.beq k42 0 then ( bindO (nilChk a0) λ x44 => bindO (fieldA 9 x44) λ x45 => M.bind (stM 1 x45 (getL l40 0)) λ _ => M.ret (.int .i64 0)) else M.fail) (λ r43 => M.ret r43))
def F.d_settle.plan : Plan:=(ls 1 (seq (ls 2 (cond (ls 1 leaf) leaf)) (ls 2 (seq (ls 1 (body (loop [7, 26] [7, 9, 26, 27, 28, 29, 30, 31, 32, 33, 34, 35, 36, 37, 38, 39, 40, 41, 42, 43, 44, 45, 46, 47, 48, 49, 50, 51] [0] (ls 1 (seq (cond leaf leaf) (fork [7] [7, 9, 28, 29, 30, 31, 32, 33, 34, 35, 36, 37, 38, 39, 40, 41, 42, 43, 44, 45, 46, 47, 48, 49, 50] [] (body (ls 1 (seq (ls 1 (cond (ls 1 leaf) leaf)) leaf))) leaf)))))) (ls 2 leaf)))))
theorem F.d_settle.lift : LiftOk Tryz.prog 95 (ap2 F.d_settle):=lift2 (g:=evFn Tryz.prog (tcons 99 (ap3 F.dd_apply) (tcons 114 (ap1 F.d_act) tnil)) tnil 95 Tryz.f95 F.d_settle.plan) (evFn_sound (tcons_ok F.dd_apply.lift (tcons_ok F.d_act.lift tnil_ok)) tnil_ok Tryz.func95 (by kernel_rfl)) (λ x0 x1 => by kernel_rfl)
noncomputable def F.d_Sync (a0 a1 : Value) : M Value:=M.bind (F.d_find a0 a1 (.int .i64 2)) λ x1 => bindO (extV 0 x1) λ x2 => bindO (extV 1 x1) λ x3 => M.bind (newM 85 #[(.int .i64 0), (.string .empty), (.int .i64 0)]) λ x4 => M.bind (stM 3 x4 x2) λ _ => bindO (binV .neq x3 (.int .i64 0)) λ x6 => condM x6 ( M.ret x3) ( bindO (fieldA 2 x4) λ x7 => M.bind (rdM (ld1 x7)) λ x8 => M.bind (F.d_settle a0 x8) λ x9 => M.ret x9)
def F.d_Sync.plan : Plan:=(ls 2 (seq (ls 1 (cond (ls 1 leaf) leaf)) (ls 1 leaf)))
theorem F.d_Sync.lift : LiftOk Tryz.prog 51 (ap2 F.d_Sync):=lift2 (g:=evFn Tryz.prog (tcons 72 (ap3 F.d_find) (tcons 95 (ap2 F.d_settle) tnil)) tnil 51 Tryz.f51 F.d_Sync.plan) (evFn_sound (tcons_ok F.d_find.lift (tcons_ok F.d_settle.lift tnil_ok)) tnil_ok Tryz.func51 (by kernel_rfl)) (λ x0 x1 => by kernel_rfl)
noncomputable def F.r_safe (a0 a1 : Value) : M Value:=M.bind (F.r_act a0) λ x1 => bindO (binV .neq x1 (.int .i64 0)) λ x2 => condM x2 ( M.ret x1) ( M.bind (loopM (λ l3 => bindO (nilChk a0) λ x4 => bindO (fieldA 6 x4) λ x5 => M.bind (rdM (ld1 x5)) λ x6 => bindO (lenL x6) λ x7 => bindO (binV .lss (getL l3 1) x7) λ x8 => condM x8 ( M.bind ( bindO (nilChk a0) λ x9 => bindO (fieldA 6 x9) λ x10 => M.bind (rdM (ld1 x10)) λ x11 => bindO (idxA 6 x11 (getL l3 1)) λ x12 => M.bind (rdM (ldA 6 x12)) λ x13 => M.bind (newM 144 #[(.int .i64 0), (.int .i64 0), (.int .i64 0), (.string .empty), (.string .empty), (.string .empty)]) λ x14 => M.bind (stM 6 x14 x13) λ _ => bindO (fieldA 0 x14) λ x16 => M.bind (rdM (ld1 x16)) λ x17 => bindO (binV .eql x17 a1) λ x18 => condM x18 ( drewM <| getM λ _ => bindO (nilChk a0) λ x20 => bindO (fieldA 5 x20) λ x21 => M.bind (rdM (ld1 x21)) λ x22 => bindO (nilChk a0) λ x23 => bindO (fieldA 5 x23) λ x24 => M.bind (rdM (ld1 x24)) λ x25 => bindO (idxA 5 x25 a1) λ x26 => bindO (fieldA 3 x26) λ x27 => M.bind (rdM (ldA 2 x27)) λ x28 => M.bind (rdM (ldA 6 x14)) λ x29 => M.bind (F.rr_done x28 x29) λ x30 => getM λ W31 => bindO (idxA 5 x22 a1) λ x32 => bindO (fieldA 3 x32) λ x33 => M.bind (stM 2 x33 x30) λ _ => getM λ _ => reqM (ld1 x21 W31 = some x22) <| M.ret (Out.norm [(getL l3 0)])) ( M.bind (rdM (ldA 6 x14)) λ x36 => M.bind (bslM 144 1 (Builtin.zeroCells #[(.int .i64 0), (.int .i64 0), (.int .i64 0), (.string .empty), (.string .empty), (.string .empty)] 1) [(0, 6, x36)]) λ x37 => M.bind (appM 144 6 72 #[(.int .i64 0), (.int .i64 0), (.int .i64 0), (.string .empty), (.string .empty), (.string .empty)] (getL l3 0) x37) λ x38 => M.ret (Out.norm [x38]))) λ o40 => outK o40 (λ l39 => bindO (binV .add (getL l3 1) (.int .i64 1)) λ x43 => M.ret (Out.norm [(getL l39 0), x43])) (λ _ _ => M.fail) (λ r42 => M.ret (Out.ret r42))) ( M.ret (Out.exit 0 [(getL l3 0), (getL l3 1)]))) [(.slice none 0 0), (.int .i64 0)]) λ o46 => outK o46 (λ _ => M.fail) (λ k47 l45 => bif Nat.beq k47 0 then ( bindO (nilChk a0) λ x49 => bindO (fieldA 6 x49) λ x50 => M.bind (stM 1 x50 (getL l45 0)) λ _ => M.ret (.int .i64 0)) else M.fail) (λ r48 => M.ret r48))
def F.r_safe.plan : Plan:=(ls 2 (seq (ls 1 (cond (ls 1 leaf) leaf)) (ls 1 (seq (ls 1 (body (loop [6, 7] [6, 7, 8, 14, 15, 16, 17, 18, 19, 20, 21, 22, 23, 24, 25, 26, 27, 28, 29, 30, 31, 32, 33, 34, 35, 36, 37, 38, 39, 40, 41, 42, 43, 44, 45, 46, 47, 48, 49, 50, 51, 52, 53, 54] [0] (seq (ls 1 (cond leaf leaf)) (fork [6] [6, 8, 23, 24, 25, 26, 27, 28, 29, 30, 31, 32, 33, 34, 35, 36, 37, 38, 39, 40, 41, 42, 43, 44, 45, 46, 47, 48, 49, 50, 51, 52, 53, 54] [] (body (ls 2 (cond leaf leaf))) leaf))))) (ls 2 leaf)))))
theorem F.r_safe.lift : LiftOk Tryz.prog 96 (ap2 F.r_safe):=lift2 (g:=evFn Tryz.prog (tcons 102 (ap2 F.rr_done) (tcons 115 (ap1 F.r_act) tnil)) tnil 96 Tryz.f96 F.r_safe.plan) (evFn_sound (tcons_ok F.rr_done.lift (tcons_ok F.r_act.lift tnil_ok)) tnil_ok Tryz.func96 (by kernel_rfl)) (λ x0 x1 => by kernel_rfl)
noncomputable def F.r_Sync (a0 a1 : Value) : M Value:=M.bind (F.r_at a0 a1 (.int .i64 2)) λ x1 => bindO (extV 0 x1) λ x2 => bindO (extV 1 x1) λ x3 => M.bind (newM 100 #[(.int .i64 0), (.string .empty), (.int .i64 0)]) λ x4 => M.bind (stM 3 x4 x2) λ _ => bindO (binV .neq x3 (.int .i64 0)) λ x6 => condM x6 ( M.ret x3) ( bindO (fieldA 2 x4) λ x7 => M.bind (rdM (ld1 x7)) λ x8 => M.bind (F.r_safe a0 x8) λ x9 => M.ret x9)
def F.r_Sync.plan : Plan:=(ls 2 (seq (ls 1 (cond (ls 1 leaf) leaf)) (ls 1 leaf)))
theorem F.r_Sync.lift : LiftOk Tryz.prog 52 (ap2 F.r_Sync):=lift2 (g:=evFn Tryz.prog (tcons 76 (ap3 F.r_at) (tcons 96 (ap2 F.r_safe) tnil)) tnil 52 Tryz.f52 F.r_Sync.plan) (evFn_sound (tcons_ok F.r_at.lift (tcons_ok F.r_safe.lift tnil_ok)) tnil_ok Tryz.func52 (by kernel_rfl)) (λ x0 x1 => by kernel_rfl)
noncomputable def F.d_SyncDir (a0 a1 : Value) : M Value:=M.bind (F.d_find a0 a1 (.int .i64 1)) λ x1 => bindO (extV 0 x1) λ x2 => bindO (extV 1 x1) λ x3 => M.bind (newM 85 #[(.int .i64 0), (.string .empty), (.int .i64 0)]) λ x4 => M.bind (stM 3 x4 x2) λ _ => bindO (binV .neq x3 (.int .i64 0)) λ x6 => condM x6 ( M.ret x3) ( bindO (fieldA 2 x4) λ x7 => M.bind (rdM (ld1 x7)) λ x8 => M.bind (F.d_settle a0 x8) λ x9 => M.ret x9)
def F.d_SyncDir.plan : Plan:=(ls 2 (seq (ls 1 (cond (ls 1 leaf) leaf)) (ls 1 leaf)))
theorem F.d_SyncDir.lift : LiftOk Tryz.prog 53 (ap2 F.d_SyncDir):=lift2 (g:=evFn Tryz.prog (tcons 72 (ap3 F.d_find) (tcons 95 (ap2 F.d_settle) tnil)) tnil 53 Tryz.f53 F.d_SyncDir.plan) (evFn_sound (tcons_ok F.d_find.lift (tcons_ok F.d_settle.lift tnil_ok)) tnil_ok Tryz.func53 (by kernel_rfl)) (λ x0 x1 => by kernel_rfl)
noncomputable def F.r_SyncDir (a0 a1 : Value) : M Value:=M.bind (F.r_at a0 a1 (.int .i64 1)) λ x1 => bindO (extV 0 x1) λ x2 => bindO (extV 1 x1) λ x3 => M.bind (newM 100 #[(.int .i64 0), (.string .empty), (.int .i64 0)]) λ x4 => M.bind (stM 3 x4 x2) λ _ => bindO (binV .neq x3 (.int .i64 0)) λ x6 => condM x6 ( M.ret x3) ( bindO (fieldA 2 x4) λ x7 => M.bind (rdM (ld1 x7)) λ x8 => M.bind (F.r_safe a0 x8) λ x9 => M.ret x9)
def F.r_SyncDir.plan : Plan:=(ls 2 (seq (ls 1 (cond (ls 1 leaf) leaf)) (ls 1 leaf)))
theorem F.r_SyncDir.lift : LiftOk Tryz.prog 54 (ap2 F.r_SyncDir):=lift2 (g:=evFn Tryz.prog (tcons 76 (ap3 F.r_at) (tcons 96 (ap2 F.r_safe) tnil)) tnil 54 Tryz.f54 F.r_SyncDir.plan) (evFn_sound (tcons_ok F.r_at.lift (tcons_ok F.r_safe.lift tnil_ok)) tnil_ok Tryz.func54 (by kernel_rfl)) (λ x0 x1 => by kernel_rfl)
noncomputable def F.b_writes (a0 a1 : Value) : M Value:=M.bind (newM 35 (Value.cells a1)) λ x1 => drewM <| bindO (fieldA 1 x1) λ x2 => M.bind (rdM (ld1 x2)) λ x3 => M.bind (F.l_place x3) λ x4 => bindO (nilChk a0) λ x5 => bindO (fieldA 0 x5) λ x6 => bindO (idxR 2 1 x6 x4) λ x7 => M.bind (rdM (ld1 x7)) λ x8 => drewM <| bindO (fieldA 1 x1) λ x9 => M.bind (rdM (ld1 x9)) λ x10 => M.bind (F.l_place x10) λ x11 => bindO (nilChk a0) λ x12 => bindO (fieldA 2 x12) λ x13 => bindO (idxR 2 1 x13 x11) λ x14 => M.bind (rdM (ld1 x14)) λ x15 => M.bind ( bindO (fieldA 0 x1) λ x16 => M.bind (rdM (ld1 x16)) λ x17 => bindO (binV .eql x17 (.int .i64 1)) λ x18 => condM x18 ( bindO (fieldA 4 x1) λ x19 => M.bind (rdM (ld1 x19)) λ x20 => M.bind (F.d_Mkdir x8 x20) λ x21 => bindO (fieldA 4 x1) λ x22 => M.bind (rdM (ld1 x22)) λ x23 => M.bind (F.r_Mkdir x15 x23) λ x24 => M.ret (Out.norm [x21, x24])) ( bindO (binV .eql x17 (.int .i64 2)) λ x25 => condM x25 ( bindO (fieldA 4 x1) λ x26 => M.bind (rdM (ld1 x26)) λ x27 => M.bind (F.d_Create x8 x27) λ x28 => bindO (fieldA 4 x1) λ x29 => M.bind (rdM (ld1 x29)) λ x30 => M.bind (F.r_Create x15 x30) λ x31 => M.ret (Out.norm [x28, x31])) ( bindO (binV .eql x17 (.int .i64 3)) λ x32 => condM x32 ( bindO (fieldA 4 x1) λ x33 => M.bind (rdM (ld1 x33)) λ x34 => bindO (fieldA 5 x1) λ x35 => M.bind (rdM (ld1 x35)) λ x36 => M.bind (F.d_Append x8 x34 x36) λ x37 => bindO (fieldA 4 x1) λ x38 => M.bind (rdM (ld1 x38)) λ x39 => bindO (fieldA 5 x1) λ x40 => M.bind (rdM (ld1 x40)) λ x41 => M.bind (F.r_Append x15 x39 x41) λ x42 => M.ret (Out.norm [x37, x42])) ( bindO (binV .eql x17 (.int .i64 4)) λ x43 => condM x43 ( bindO (fieldA 4 x1) λ x44 => M.bind (rdM (ld1 x44)) λ x45 => bindO (fieldA 2 x1) λ x46 => M.bind (rdM (ld1 x46)) λ x47 => M.bind (F.d_Truncate x8 x45 x47) λ x48 => bindO (fieldA 4 x1) λ x49 => M.bind (rdM (ld1 x49)) λ x50 => bindO (fieldA 2 x1) λ x51 => M.bind (rdM (ld1 x51)) λ x52 => M.bind (F.r_Truncate x15 x50 x52) λ x53 => M.ret (Out.norm [x48, x53])) ( bindO (binV .eql x17 (.int .i64 5)) λ x54 => condM x54 ( bindO (fieldA 4 x1) λ x55 => M.bind (rdM (ld1 x55)) λ x56 => bindO (fieldA 5 x1) λ x57 => M.bind (rdM (ld1 x57)) λ x58 => M.bind (F.d_Rename x8 x56 x58) λ x59 => bindO (fieldA 4 x1) λ x60 => M.bind (rdM (ld1 x60)) λ x61 => bindO (fieldA 5 x1) λ x62 => M.bind (rdM (ld1 x62)) λ x63 => M.bind (F.r_Rename x15 x61 x63) λ x64 => M.ret (Out.norm [x59, x64])) ( bindO (binV .eql x17 (.int .i64 6)) λ x65 => condM x65 ( bindO (fieldA 4 x1) λ x66 => M.bind (rdM (ld1 x66)) λ x67 => M.bind (F.d_Remove x8 x67) λ x68 => bindO (fieldA 4 x1) λ x69 => M.bind (rdM (ld1 x69)) λ x70 => M.bind (F.r_Remove x15 x70) λ x71 => M.ret (Out.norm [x68, x71])) ( bindO (binV .eql x17 (.int .i64 7)) λ x72 => condM x72 ( bindO (fieldA 4 x1) λ x73 => M.bind (rdM (ld1 x73)) λ x74 => M.bind (F.d_Sync x8 x74) λ x75 => bindO (fieldA 4 x1) λ x76 => M.bind (rdM (ld1 x76)) λ x77 => M.bind (F.r_Sync x15 x77) λ x78 => M.ret (Out.norm [x75, x78])) ( bindO (binV .eql x17 (.int .i64 8)) λ x79 => condM x79 ( bindO (fieldA 4 x1) λ x80 => M.bind (rdM (ld1 x80)) λ x81 => M.bind (F.d_SyncDir x8 x81) λ x82 => bindO (fieldA 4 x1) λ x83 => M.bind (rdM (ld1 x83)) λ x84 => M.bind (F.r_SyncDir x15 x84) λ x85 => M.ret (Out.norm [x82, x85])) ( M.ret (Out.norm [(.int .i64 0), (.int .i64 0)])))))))))) λ o87 => outK o87 (λ l86 => M.bind (F.l_num (getL l86 0)) λ x90 => bindO (binV .eql x90 (getL l86 1)) λ x91 => M.ret x91) (λ _ _ => M.fail) (λ r89 => M.ret r89)
def F.b_writes.plan : Plan:=(ls 5 (fork [7, 8] [7, 8, 25, 26, 27, 28, 29, 30, 31, 32, 33, 34, 35, 36, 37, 38, 39, 40, 41, 42, 43, 44, 45, 46, 47, 48, 49, 50, 51, 52, 53, 54, 55, 56, 57, 58, 59, 60, 61, 62, 63, 64, 65, 66, 67, 68, 69, 70, 71, 72, 73, 74, 75, 76, 77, 78, 79, 80, 81, 82, 83, 84, 85, 86, 87, 88, 89, 90, 91, 92, 93, 94, 95, 96, 97, 98, 99, 100, 101, 102, 103, 104, 105, 106, 107, 108, 109, 110, 111, 112, 113, 114, 115, 116, 117, 118] [] (ls 1 (body (ls 1 (cond (ls 1 leaf) (ls 1 (cond (ls 1 leaf) (ls 1 (cond (ls 1 leaf) (ls 1 (cond (ls 1 leaf) (ls 1 (cond (ls 1 leaf) (ls 1 (cond (ls 1 leaf) (ls 1 (cond (ls 1 leaf) (ls 1 (cond (ls 1 leaf) leaf)))))))))))))))))) (ls 1 leaf)))
theorem F.b_writes.lift : LiftOk Tryz.prog 14 (ap2 F.b_writes):=lift2 (g:=evFn Tryz.prog (tcons 20 (ap1 F.l_place) (tcons 23 (ap1 F.l_num) (tcons 39 (ap2 F.d_Mkdir) (tcons 40 (ap2 F.r_Mkdir) (tcons 41 (ap2 F.d_Create) (tcons 42 (ap2 F.r_Create) (tcons 43 (ap3 F.d_Append) (tcons 44 (ap3 F.r_Append) (tcons 45 (ap3 F.d_Truncate) (tcons 46 (ap3 F.r_Truncate) (tcons 47 (ap3 F.d_Rename) (tcons 48 (ap3 F.r_Rename) (tcons 49 (ap2 F.d_Remove) (tcons 50 (ap2 F.r_Remove) (tcons 51 (ap2 F.d_Sync) (tcons 52 (ap2 F.r_Sync) (tcons 53 (ap2 F.d_SyncDir) (tcons 54 (ap2 F.r_SyncDir) tnil)))))))))))))))))) tnil 14 Tryz.f14 F.b_writes.plan) (evFn_sound (tcons_ok F.l_place.lift (tcons_ok F.l_num.lift (tcons_ok F.d_Mkdir.lift (tcons_ok F.r_Mkdir.lift (tcons_ok F.d_Create.lift (tcons_ok F.r_Create.lift (tcons_ok F.d_Append.lift (tcons_ok F.r_Append.lift (tcons_ok F.d_Truncate.lift (tcons_ok F.r_Truncate.lift (tcons_ok F.d_Rename.lift (tcons_ok F.r_Rename.lift (tcons_ok F.d_Remove.lift (tcons_ok F.r_Remove.lift (tcons_ok F.d_Sync.lift (tcons_ok F.r_Sync.lift (tcons_ok F.d_SyncDir.lift (tcons_ok F.r_SyncDir.lift tnil_ok)))))))))))))))))) tnil_ok Tryz.func14 (by kernel_rfl)) (λ x0 x1 => by kernel_rfl)
noncomputable def F.b_begins (a0 a1 : Value) : M Value:=M.bind (F.b_fresh a0 (.int .i64 0) a1) λ x1 => bindO (notV x1) λ x2 => condM x2 ( M.ret (.bool false)) ( M.bind ( bindO (nilChk a0) λ x3 => bindO (fieldA 2 x3) λ x4 => bindO (idxR 2 1 x4 (.int .i64 0)) λ x5 => M.bind (rdM (ld1 x5)) λ x6 => bindO (eqV (.one .ptr) x6 (.pointer none)) λ x7 => condM x7 ( M.bind (F.b_fresh a0 (.int .i64 0) (.int .i64 1000)) λ x8 => bindO (notV x8) λ x9 => condM x9 ( M.ret (Out.ret (.bool false))) ( M.ret (Out.norm []))) ( M.ret (Out.norm []))) λ o11 => outK o11 (λ _ => M.bind (F.b_fresh a0 (.int .i64 1) a1) λ x14 => M.ret x14) (λ _ _ => M.fail) (λ r13 => M.ret r13))
def F.b_begins.plan : Plan:=(ls 2 (seq (ls 1 (cond (ls 1 leaf) leaf)) (fork [] [4, 5, 11, 12, 13, 14, 15, 16, 17, 18, 19, 20] [] (ls 1 (cond (ls 2 (cond (ls 1 leaf) leaf)) leaf)) (ls 1 leaf))))
theorem F.b_begins.lift : LiftOk Tryz.prog 15 (ap2 F.b_begins):=lift2 (g:=evFn Tryz.prog (tcons 12 (ap3 F.b_fresh) tnil) tnil 15 Tryz.f15 F.b_begins.plan) (evFn_sound (tcons_ok F.b_fresh.lift tnil_ok) tnil_ok Tryz.func15 (by kernel_rfl)) (λ x0 x1 => by kernel_rfl)
noncomputable def F.d_Capacity (a0 : Value) : M Value:=bindO (eqV (.one .ptr) a0 (.pointer none)) λ x1 => condM x1 ( M.ret (.int .i64 0)) ( bindO (nilChk a0) λ x2 => bindO (fieldA 0 x2) λ x3 => M.bind (rdM (ld1 x3)) λ x4 => M.ret x4)
def F.d_Capacity.plan : Plan:=(ls 1 (seq (ls 1 (cond (ls 1 leaf) leaf)) (ls 1 leaf)))
theorem F.d_Capacity.lift : LiftOk Tryz.prog 57 (ap1 F.d_Capacity):=lift1 (g:=evFn Tryz.prog tnil tnil 57 Tryz.f57 F.d_Capacity.plan) (evFn_sound tnil_ok tnil_ok Tryz.func57 (by kernel_rfl)) (λ x0 => by kernel_rfl)
noncomputable def F.r_Capacity (a0 : Value) : M Value:=bindO (eqV (.one .ptr) a0 (.pointer none)) λ x1 => condM x1 ( M.ret (.int .i64 0)) ( bindO (nilChk a0) λ x2 => bindO (fieldA 0 x2) λ x3 => M.bind (rdM (ld1 x3)) λ x4 => M.ret x4)
def F.r_Capacity.plan : Plan:=(ls 1 (seq (ls 1 (cond (ls 1 leaf) leaf)) (ls 1 leaf)))
theorem F.r_Capacity.lift : LiftOk Tryz.prog 58 (ap1 F.r_Capacity):=lift1 (g:=evFn Tryz.prog tnil tnil 58 Tryz.f58 F.r_Capacity.plan) (evFn_sound tnil_ok tnil_ok Tryz.func58 (by kernel_rfl)) (λ x0 => by kernel_rfl)
noncomputable def F.d_Acts (a0 : Value) : M Value:=bindO (eqV (.one .ptr) a0 (.pointer none)) λ x1 => condM x1 ( M.ret (.int .i64 0)) ( bindO (nilChk a0) λ x2 => bindO (fieldA 1 x2) λ x3 => M.bind (rdM (ld1 x3)) λ x4 => M.ret x4)
def F.d_Acts.plan : Plan:=(ls 1 (seq (ls 1 (cond (ls 1 leaf) leaf)) (ls 1 leaf)))
theorem F.d_Acts.lift : LiftOk Tryz.prog 59 (ap1 F.d_Acts):=lift1 (g:=evFn Tryz.prog tnil tnil 59 Tryz.f59 F.d_Acts.plan) (evFn_sound tnil_ok tnil_ok Tryz.func59 (by kernel_rfl)) (λ x0 => by kernel_rfl)
noncomputable def F.r_Acts (a0 : Value) : M Value:=bindO (eqV (.one .ptr) a0 (.pointer none)) λ x1 => condM x1 ( M.ret (.int .i64 0)) ( bindO (nilChk a0) λ x2 => bindO (fieldA 1 x2) λ x3 => M.bind (rdM (ld1 x3)) λ x4 => M.ret x4)
def F.r_Acts.plan : Plan:=(ls 1 (seq (ls 1 (cond (ls 1 leaf) leaf)) (ls 1 leaf)))
theorem F.r_Acts.lift : LiftOk Tryz.prog 60 (ap1 F.r_Acts):=lift1 (g:=evFn Tryz.prog tnil tnil 60 Tryz.f60 F.r_Acts.plan) (evFn_sound tnil_ok tnil_ok Tryz.func60 (by kernel_rfl)) (λ x0 => by kernel_rfl)
noncomputable def F.d_Reads (a0 : Value) : M Value:=bindO (eqV (.one .ptr) a0 (.pointer none)) λ x1 => condM x1 ( M.ret (.int .i64 0)) ( bindO (nilChk a0) λ x2 => bindO (fieldA 2 x2) λ x3 => M.bind (rdM (ld1 x3)) λ x4 => M.ret x4)
def F.d_Reads.plan : Plan:=(ls 1 (seq (ls 1 (cond (ls 1 leaf) leaf)) (ls 1 leaf)))
theorem F.d_Reads.lift : LiftOk Tryz.prog 61 (ap1 F.d_Reads):=lift1 (g:=evFn Tryz.prog tnil tnil 61 Tryz.f61 F.d_Reads.plan) (evFn_sound tnil_ok tnil_ok Tryz.func61 (by kernel_rfl)) (λ x0 => by kernel_rfl)
noncomputable def F.r_Reads (a0 : Value) : M Value:=bindO (eqV (.one .ptr) a0 (.pointer none)) λ x1 => condM x1 ( M.ret (.int .i64 0)) ( bindO (nilChk a0) λ x2 => bindO (fieldA 2 x2) λ x3 => M.bind (rdM (ld1 x3)) λ x4 => M.ret x4)
def F.r_Reads.plan : Plan:=(ls 1 (seq (ls 1 (cond (ls 1 leaf) leaf)) (ls 1 leaf)))
theorem F.r_Reads.lift : LiftOk Tryz.prog 62 (ap1 F.r_Reads):=lift1 (g:=evFn Tryz.prog tnil tnil 62 Tryz.f62 F.r_Reads.plan) (evFn_sound tnil_ok tnil_ok Tryz.func62 (by kernel_rfl)) (λ x0 => by kernel_rfl)
noncomputable def F.d_Pending (a0 : Value) : M Value:=bindO (eqV (.one .ptr) a0 (.pointer none)) λ x1 => condM x1 ( M.ret (.int .i64 0)) ( bindO (nilChk a0) λ x2 => bindO (fieldA 9 x2) λ x3 => M.bind (rdM (ld1 x3)) λ x4 => bindO (lenL x4) λ x5 => M.ret x5)
def F.d_Pending.plan : Plan:=(ls 1 (seq (ls 1 (cond (ls 1 leaf) leaf)) (ls 1 leaf)))
theorem F.d_Pending.lift : LiftOk Tryz.prog 63 (ap1 F.d_Pending):=lift1 (g:=evFn Tryz.prog tnil tnil 63 Tryz.f63 F.d_Pending.plan) (evFn_sound tnil_ok tnil_ok Tryz.func63 (by kernel_rfl)) (λ x0 => by kernel_rfl)
noncomputable def F.r_Pending (a0 : Value) : M Value:=bindO (eqV (.one .ptr) a0 (.pointer none)) λ x1 => condM x1 ( M.ret (.int .i64 0)) ( bindO (nilChk a0) λ x2 => bindO (fieldA 6 x2) λ x3 => M.bind (rdM (ld1 x3)) λ x4 => bindO (lenL x4) λ x5 => M.ret x5)
def F.r_Pending.plan : Plan:=(ls 1 (seq (ls 1 (cond (ls 1 leaf) leaf)) (ls 1 leaf)))
theorem F.r_Pending.lift : LiftOk Tryz.prog 64 (ap1 F.r_Pending):=lift1 (g:=evFn Tryz.prog tnil tnil 64 Tryz.f64 F.r_Pending.plan) (evFn_sound tnil_ok tnil_ok Tryz.func64 (by kernel_rfl)) (λ x0 => by kernel_rfl)
noncomputable def F.d_Down (a0 : Value) : M Value:=bindO (neV (.one .ptr) a0 (.pointer none)) λ x1 => M.bind (guardM x1 true (M.ret a0)) λ x2 => M.bind (guardM x1 true (optM (nilChk x2))) λ x3 => M.bind (guardM x1 true (optM (fieldA 5 x3))) λ x4 => M.bind (guardM x1 true (rdM (ld1 x4))) λ x5 => bindO (pickV x1 x5 (.bool false)) λ x6 => M.ret x6
def F.d_Down.plan : Plan:=(ls 2 leaf)
theorem F.d_Down.lift : LiftOk Tryz.prog 65 (ap1 F.d_Down):=lift1 (g:=evFn Tryz.prog tnil tnil 65 Tryz.f65 F.d_Down.plan) (evFn_sound tnil_ok tnil_ok Tryz.func65 (by kernel_rfl)) (λ x0 => by kernel_rfl)
noncomputable def F.r_Down (a0 : Value) : M Value:=bindO (eqV (.one .ptr) a0 (.pointer none)) λ x1 => condM x1 ( M.ret (.bool false)) ( bindO (nilChk a0) λ x2 => bindO (fieldA 4 x2) λ x3 => M.bind (rdM (ld1 x3)) λ x4 => M.ret x4)
def F.r_Down.plan : Plan:=(ls 1 (seq (ls 1 (cond (ls 1 leaf) leaf)) (ls 1 leaf)))
theorem F.r_Down.lift : LiftOk Tryz.prog 66 (ap1 F.r_Down):=lift1 (g:=evFn Tryz.prog tnil tnil 66 Tryz.f66 F.r_Down.plan) (evFn_sound tnil_ok tnil_ok Tryz.func66 (by kernel_rfl)) (λ x0 => by kernel_rfl)
noncomputable def F.b_counts (a0 a1 : Value) : M Value:=M.bind (newM 35 (Value.cells a1)) λ x1 => drewM <| bindO (fieldA 1 x1) λ x2 => M.bind (rdM (ld1 x2)) λ x3 => M.bind (F.l_place x3) λ x4 => bindO (nilChk a0) λ x5 => bindO (fieldA 0 x5) λ x6 => bindO (idxR 2 1 x6 x4) λ x7 => M.bind (rdM (ld1 x7)) λ x8 => drewM <| bindO (fieldA 1 x1) λ x9 => M.bind (rdM (ld1 x9)) λ x10 => M.bind (F.l_place x10) λ x11 => bindO (nilChk a0) λ x12 => bindO (fieldA 2 x12) λ x13 => bindO (idxR 2 1 x13 x11) λ x14 => M.bind (rdM (ld1 x14)) λ x15 => bindO (fieldA 0 x1) λ x16 => M.bind (rdM (ld1 x16)) λ x17 => bindO (binV .eql x17 (.int .i64 14)) λ x18 => condM x18 ( M.bind (F.d_Used x8) λ x19 => M.bind (F.r_Used x15) λ x20 => bindO (binV .eql x19 x20) λ x21 => M.ret x21) ( bindO (binV .eql x17 (.int .i64 15)) λ x22 => condM x22 ( M.bind (F.d_Capacity x8) λ x23 => M.bind (F.r_Capacity x15) λ x24 => bindO (binV .eql x23 x24) λ x25 => M.ret x25) ( bindO (binV .eql x17 (.int .i64 16)) λ x26 => condM x26 ( M.bind (F.d_Acts x8) λ x27 => M.bind (F.r_Acts x15) λ x28 => bindO (binV .eql x27 x28) λ x29 => M.ret x29) ( bindO (binV .eql x17 (.int .i64 17)) λ x30 => condM x30 ( M.bind (F.d_Reads x8) λ x31 => M.bind (F.r_Reads x15) λ x32 => bindO (binV .eql x31 x32) λ x33 => M.ret x33) ( bindO (binV .eql x17 (.int .i64 18)) λ x34 => condM x34 ( M.bind (F.d_Pending x8) λ x35 => M.bind (F.r_Pending x15) λ x36 => bindO (binV .eql x35 x36) λ x37 => M.ret x37) ( M.bind (F.d_Down x8) λ x38 => M.bind (F.r_Down x15) λ x39 => bindO (eqV (.one .bool) x38 x39) λ x40 => M.ret x40)))))
def F.b_counts.plan : Plan:=(ls 3 (seq (ls 1 (body (ls 1 (cond (ls 1 leaf) (ls 1 (cond (ls 1 leaf) (ls 1 (cond (ls 1 leaf) (ls 1 (cond (ls 1 leaf) (ls 1 (cond (ls 1 leaf) leaf)))))))))))) (ls 1 leaf)))
theorem F.b_counts.lift : LiftOk Tryz.prog 17 (ap2 F.b_counts):=lift2 (g:=evFn Tryz.prog (tcons 20 (ap1 F.l_place) (tcons 55 (ap1 F.d_Used) (tcons 56 (ap1 F.r_Used) (tcons 57 (ap1 F.d_Capacity) (tcons 58 (ap1 F.r_Capacity) (tcons 59 (ap1 F.d_Acts) (tcons 60 (ap1 F.r_Acts) (tcons 61 (ap1 F.d_Reads) (tcons 62 (ap1 F.r_Reads) (tcons 63 (ap1 F.d_Pending) (tcons 64 (ap1 F.r_Pending) (tcons 65 (ap1 F.d_Down) (tcons 66 (ap1 F.r_Down) tnil))))))))))))) tnil 17 Tryz.f17 F.b_counts.plan) (evFn_sound (tcons_ok F.l_place.lift (tcons_ok F.d_Used.lift (tcons_ok F.r_Used.lift (tcons_ok F.d_Capacity.lift (tcons_ok F.r_Capacity.lift (tcons_ok F.d_Acts.lift (tcons_ok F.r_Acts.lift (tcons_ok F.d_Reads.lift (tcons_ok F.r_Reads.lift (tcons_ok F.d_Pending.lift (tcons_ok F.r_Pending.lift (tcons_ok F.d_Down.lift (tcons_ok F.r_Down.lift tnil_ok))))))))))))) tnil_ok Tryz.func17 (by kernel_rfl)) (λ x0 x1 => by kernel_rfl)
noncomputable def F.d_Arm (a0 a1 : Value) : M Value:=M.bind (F.d_ready a0) λ x1 => bindO (binV .neq x1 (.int .i64 0)) λ x2 => condM x2 ( M.ret x1) ( bindO (binV .geq a1 (.int .i64 0)) λ x3 => bindO (nilChk a0) λ x4 => bindO (fieldA 3 x4) λ x5 => M.bind (stM 1 x5 x3) λ _ => bindO (nilChk a0) λ x7 => bindO (fieldA 4 x7) λ x8 => M.bind (stM 1 x8 a1) λ _ => M.ret (.int .i64 0))
def F.d_Arm.plan : Plan:=(ls 1 (seq (ls 2 (cond (ls 1 leaf) leaf)) (ls 3 leaf)))
theorem F.d_Arm.lift : LiftOk Tryz.prog 67 (ap2 F.d_Arm):=lift2 (g:=evFn Tryz.prog (tcons 85 (ap1 F.d_ready) tnil) tnil 67 Tryz.f67 F.d_Arm.plan) (evFn_sound (tcons_ok F.d_ready.lift tnil_ok) tnil_ok Tryz.func67 (by kernel_rfl)) (λ x0 x1 => by kernel_rfl)
noncomputable def F.r_Arm (a0 a1 : Value) : M Value:=bindO (eqV (.one .ptr) a0 (.pointer none)) λ x1 => condM x1 ( M.ret (.int .i64 2)) ( bindO (nilChk a0) λ x2 => bindO (fieldA 4 x2) λ x3 => M.bind (rdM (ld1 x3)) λ x4 => condM x4 ( M.ret (.int .i64 10)) ( bindO (nilChk a0) λ x5 => bindO (fieldA 3 x5) λ x6 => M.bind (stM 1 x6 a1) λ _ => M.bind ( bindO (binV .lss a1 (.int .i64 0)) λ x8 => condM x8 ( bindO (nilChk a0) λ x9 => bindO (fieldA 3 x9) λ x10 => M.bind (stM 1 x10 (.int .i64 (-1))) λ _ => M.ret (Out.norm [])) ( M.ret (Out.norm []))) λ o13 => outK o13 (λ _ => M.ret (.int .i64 0)) (λ _ _ => M.fail) (λ r15 => M.ret r15)))
def F.r_Arm.plan : Plan:=(ls 1 (seq (ls 1 (cond (ls 1 leaf) leaf)) (seq (ls 1 (cond (ls 1 leaf) leaf)) (ls 1 (fork [] [15, 16, 17, 18, 19] [] (ls 1 (cond leaf leaf)) (ls 1 leaf))))))
theorem F.r_Arm.lift : LiftOk Tryz.prog 68 (ap2 F.r_Arm):=lift2 (g:=evFn Tryz.prog tnil tnil 68 Tryz.f68 F.r_Arm.plan) (evFn_sound tnil_ok tnil_ok Tryz.func68 (by kernel_rfl)) (λ x0 x1 => by kernel_rfl)
noncomputable def F.dd_change (a0 : Value) : M Value:=bindO (eqV (.one .sl) a0 (.slice none 0 0)) λ x1 => condM x1 ( M.ret (.slice none 0 0)) ( M.bind (bslM 141 0 (Builtin.zeroCells #[(.int .i64 0), (.int .i64 0), (.string .empty), (.int .i64 0), (.string .empty), (.string .empty), (.int .i64 0)] 0) []) λ x2 => M.bind (appM 141 7 80 #[(.int .i64 0), (.int .i64 0), (.string .empty), (.int .i64 0), (.string .empty), (.string .empty), (.int .i64 0)] x2 a0) λ x3 => M.ret x3)
def F.dd_change.plan : Plan:=(ls 1 (seq (ls 1 (cond (ls 1 leaf) leaf)) (ls 1 leaf)))
theorem F.dd_change.lift : LiftOk Tryz.prog 98 (ap1 F.dd_change):=lift1 (g:=evFn Tryz.prog tnil tnil 98 Tryz.f98 F.dd_change.plan) (evFn_sound tnil_ok tnil_ok Tryz.func98 (by kernel_rfl)) (λ x0 => by kernel_rfl)
noncomputable def F.d_restart (a0 : Value) : M Value:=bindO (nilChk a0) λ x1 => bindO (fieldA 8 x1) λ x2 => M.bind (rdM (ld1 x2)) λ x3 => bindO (nilChk a0) λ x4 => bindO (fieldA 9 x4) λ x5 => M.bind (stM 1 x5 (.slice none 0 0)) λ _ => bindO (nilChk a0) λ x7 => bindO (fieldA 3 x7) λ x8 => M.bind (stM 1 x8 (.bool false)) λ _ => bindO (nilChk a0) λ x10 => bindO (fieldA 5 x10) λ x11 => M.bind (stM 1 x11 (.bool false)) λ _ => M.bind (mkmM) λ x13 => M.bind (mkmM) λ x14 => bindO (nilChk a0) λ x15 => bindO (fieldA 7 x15) λ x16 => M.bind (stM 1 x16 x13) λ _ => bindO (nilChk a0) λ x18 => bindO (fieldA 8 x18) λ x19 => M.bind (stM 1 x19 x14) λ _ => M.bind (bslM 3 1 (Builtin.zeroCells #[(.int .i64 0)] 1) [(0, 1, (.int .i64 0))]) λ x21 => M.bind (loopM (λ l22 => bindO (lenL (getL l22 0)) λ x23 => bindO (binV .gtr x23 (.int .i64 0)) λ x24 => condM x24 ( bindO (idxA 1 (getL l22 0) (.int .i64 0)) λ x25 => M.bind (rdM (ld1 x25)) λ x26 => bindO (sliceV 1 (getL l22 0) (some (.int .i64 1)) none) λ x27 => M.bind (rngM x3) λ x28 => M.bind (loopM (λ l29 => M.bind (nxtM x28) λ x30 => bindO (extV 0 x30) λ x31 => condM x31 ( M.bind (rdM (entV x28)) λ x32 => bindO (extV 0 x32) λ x33 => bindO (extV 1 x32) λ x34 => M.bind (newM 83 #[(.int .i64 0), (.string .empty)]) λ x35 => M.bind (stM 2 x35 x33) λ _ => bindO (fieldA 0 x35) λ x37 => M.bind (rdM (ld1 x37)) λ x38 => bindO (binV .neq x38 x26) λ x39 => condM x39 ( M.ret (Out.norm [(getL l29 0)])) ( drewM <| getM λ _ => bindO (nilChk a0) λ x41 => bindO (fieldA 7 x41) λ x42 => M.bind (rdM (ld1 x42)) λ x43 => M.bind (rdM (ldA 2 x35)) λ x44 => bindO (nilChk a0) λ x45 => bindO (fieldA 8 x45) λ x46 => M.bind (rdM (ld1 x46)) λ x47 => M.bind (rdM (ldA 2 x35)) λ x48 => M.bind (mentM Tryz.prog 83 (.offs [(.int, 0), (.str, 1)]) (.int .i64 0) x43 x44) λ x49 => getM λ W50 => bindO (extV 1 x49) λ x51 => M.bind (estM x43 x51 x34) λ _ => getM λ W53 => M.bind (mentM Tryz.prog 83 (.offs [(.int, 0), (.str, 1)]) (.int .i64 0) x47 x48) λ x54 => getM λ _ => bindO (extV 1 x54) λ x56 => M.bind (estM x47 x56 x34) λ _ => getM λ _ => reqM (ldA 2 x35 W50 = some x48) <| reqM (ldA 2 x35 W53 = some x48) <| drewM <| bindO (nilChk a0) λ x59 => bindO (fieldA 6 x59) λ x60 => M.bind (rdM (ld1 x60)) λ x61 => bindO (nilChk a0) λ x62 => bindO (fieldA 6 x62) λ x63 => M.bind (rdM (ld1 x63)) λ x64 => bindO (idxA 3 x64 x34) λ x65 => bindO (fieldA 2 x65) λ x66 => M.bind (rdM (ld1 x66)) λ x67 => bindO (idxA 3 x61 x34) λ x68 => bindO (fieldA 1 x68) λ x69 => M.bind (stM 1 x69 x67) λ _ => bindO (nilChk a0) λ x71 => bindO (fieldA 6 x71) λ x72 => M.bind (rdM (ld1 x72)) λ x73 => bindO (idxA 3 x73 x34) λ x74 => bindO (fieldA 0 x74) λ x75 => M.bind (rdM (ld1 x75)) λ x76 => bindO (binV .eql x76 (.int .i64 1)) λ x77 => condM x77 ( M.bind (bslM 3 1 (Builtin.zeroCells #[(.int .i64 0)] 1) [(0, 1, x34)]) λ x78 => M.bind (appM 3 1 8 #[(.int .i64 0)] (getL l29 0) x78) λ x79 => M.ret (Out.norm [x79])) ( M.ret (Out.norm [(getL l29 0)])))) ( M.ret (Out.exit 2 [(getL l29 0)]))) [x27]) λ o81 => outK o81 (λ _ => M.fail) (λ k82 l80 => bif Nat.beq k82 2 then ( M.ret (Out.norm [(getL l80 0)])) else M.fail) (λ r83 => M.ret (Out.ret r83))) ( M.ret (Out.exit 0 [(getL l22 0)]))) [x21]) λ o85 => outK o85 (λ _ => M.fail) (λ k86 _ => bif Nat.beq k86 0 then ( M.ret (Value.tuple #[])) else M.fail) (λ r87 => M.ret r87)
def F.d_restart.plan : Plan:=(ls 4 (body (loop [3] [3, 4, 5, 6, 29, 30, 31, 32, 33, 34, 35, 36, 37, 38, 39, 40, 41, 42, 43, 44, 45, 46, 47, 48, 49, 50, 51, 52, 53, 54, 55, 56, 57, 58, 59, 60, 61, 62, 63, 64, 65, 66, 67, 68, 69, 70, 71, 72, 73, 74, 75, 76, 77, 78, 79, 80, 81, 82, 83, 84, 85, 86, 87, 88, 89, 90, 91] [0] (seq (ls 1 (cond leaf leaf)) (body (ls 3 (body (loop [3] [3, 5, 6, 39, 40, 41, 42, 43, 44, 45, 46, 47, 48, 49, 50, 51, 52, 53, 54, 55, 56, 57, 58, 59, 60, 61, 62, 63, 64, 65, 66, 67, 68, 69, 70, 71, 72, 73, 74, 75, 76, 77, 78, 79, 80, 81, 82, 83, 84, 85, 86, 87, 88, 89, 90, 91] [2] (ls 1 (seq (cond leaf leaf) (body (ls 1 (seq (ls 1 (cond leaf leaf)) (ls 3 (cond leaf leaf)))))))))))))))
theorem F.d_restart.lift : LiftOk Tryz.prog 100 (ap1 F.d_restart):=lift1 (g:=evFn Tryz.prog tnil tnil 100 Tryz.f100 F.d_restart.plan) (evFn_sound tnil_ok tnil_ok Tryz.func100 (by kernel_rfl)) (λ x0 => by kernel_rfl)
noncomputable def F.d_Crash (a0 a1 a2 : Value) : M Value:=bindO (eqV (.one .ptr) a0 (.pointer none)) λ x1 => condM x1 ( M.ret (.int .i64 0)) ( bindO (nilChk a0) λ x2 => bindO (fieldA 9 x2) λ x3 => M.bind (rdM (ld1 x3)) λ x4 => bindO (lenL x4) λ x5 => M.bind (optM (minV a1 x5)) λ x6 => M.bind (optM (maxV (.int .i64 0) x6)) λ x7 => drewM <| bindO (nilChk a0) λ x8 => bindO (fieldA 9 x8) λ x9 => M.bind (rdM (ld1 x9)) λ x10 => bindO (sliceV 7 x10 none (some x7)) λ x11 => bindO (nilChk a0) λ x12 => bindO (fieldA 9 x12) λ x13 => M.bind (rdM (ld1 x13)) λ x14 => bindO (lenL x14) λ x15 => bindO (binV .sub x15 x7) λ x16 => M.bind ( bindO (binV .gtr x16 (.int .i64 0)) λ x17 => M.bind (guardM x17 true (M.ret a0)) λ x18 => M.bind (guardM x17 true (optM (nilChk x18))) λ x19 => M.bind (guardM x17 true (optM (fieldA 9 x19))) λ x20 => M.bind (guardM x17 true (rdM (ld1 x20))) λ x21 => M.bind (guardM x17 true (M.ret x7)) λ x22 => M.bind (guardM x17 true (optM (idxA 7 x21 x22))) λ x23 => M.bind (guardM x17 true (optM (fieldA 0 x23))) λ x24 => M.bind (guardM x17 true (rdM (ld1 x24))) λ x25 => M.bind (guardM x17 true (optM (binV .eql x25 (.int .i64 0)))) λ x26 => bindO (pickV x17 x26 (.bool false)) λ x27 => condM x27 ( bindO (nilChk a0) λ x28 => bindO (fieldA 9 x28) λ x29 => M.bind (rdM (ld1 x29)) λ x30 => bindO (idxA 7 x30 x7) λ x31 => M.bind (rdM (ldA 7 x31)) λ x32 => M.bind (newM 141 #[(.int .i64 0), (.int .i64 0), (.string .empty), (.int .i64 0), (.string .empty), (.string .empty), (.int .i64 0)]) λ x33 => M.bind (stM 7 x33 x32) λ _ => bindO (fieldA 2 x33) λ x35 => M.bind (rdM (ld1 x35)) λ x36 => bindO (fieldA 2 x33) λ x37 => M.bind (rdM (ld1 x37)) λ x38 => bindO (lenS x38) λ x39 => M.bind (optM (minV a2 x39)) λ x40 => M.bind (optM (maxV (.int .i64 0) x40)) λ x41 => bindO (sliceS x36 none (some x41)) λ x42 => bindO (fieldA 2 x33) λ x43 => M.bind (stM 1 x43 x42) λ _ => M.bind (altM (ordO Tryz.prog (regOps Tryz.f69 8) 69 8) [ ([1, 3, 4], getM λ W46 => M.bind (F.dd_change x11) λ x47 => getM λ _ => M.bind (rdM (ldA 7 x33)) λ x49 => M.bind (bslM 141 1 (Builtin.zeroCells #[(.int .i64 0), (.int .i64 0), (.string .empty), (.int .i64 0), (.string .empty), (.string .empty), (.int .i64 0)] 1) [(0, 7, x49)]) λ x50 => getM λ _ => M.bind (appM 141 7 80 #[(.int .i64 0), (.int .i64 0), (.string .empty), (.int .i64 0), (.string .empty), (.string .empty), (.int .i64 0)] x47 x50) λ x52 => getM λ _ => reqM (ldA 7 x33 W46 = some x49) <| M.ret [x52]), ([3, 1, 4], M.bind (rdM (ldA 7 x33)) λ x54 => M.bind (bslM 141 1 (Builtin.zeroCells #[(.int .i64 0), (.int .i64 0), (.string .empty), (.int .i64 0), (.string .empty), (.string .empty), (.int .i64 0)] 1) [(0, 7, x54)]) λ x55 => M.bind (F.dd_change x11) λ x56 => M.bind (appM 141 7 80 #[(.int .i64 0), (.int .i64 0), (.string .empty), (.int .i64 0), (.string .empty), (.string .empty), (.int .i64 0)] x56 x55) λ x57 => M.ret [x57])]) λ l45 => M.ret (Out.norm [(getL l45 0)])) ( M.ret (Out.norm [x11]))) λ o59 => outK o59 (λ l58 => bindO (lenL (getL l58 0)) λ x62 => M.bind (loopM (λ l63 => bindO (binV .lss (getL l63 0) x62) λ x64 => condM x64 ( bindO (idxA 7 (getL l58 0) (getL l63 0)) λ x65 => M.bind (rdM (ldA 7 x65)) λ x66 => M.bind (newM 141 #[(.int .i64 0), (.int .i64 0), (.string .empty), (.int .i64 0), (.string .empty), (.string .empty), (.int .i64 0)]) λ x67 => M.bind (stM 7 x67 x66) λ _ => drewM <| bindO (nilChk a0) λ x69 => bindO (fieldA 6 x69) λ x70 => M.bind (rdM (ld1 x70)) λ x71 => bindO (fieldA 1 x67) λ x72 => M.bind (rdM (ld1 x72)) λ x73 => bindO (idxA 3 x71 x73) λ x74 => drewM <| M.bind (rdM (ldA 7 x67)) λ x75 => bindO (nilChk x74) λ x76 => bindO (fieldA 2 x76) λ x77 => M.bind (rdM (ld1 x77)) λ x78 => bindO (nilChk a0) λ x79 => bindO (fieldA 8 x79) λ x80 => M.bind (rdM (ld1 x80)) λ x81 => M.bind (F.dd_apply x75 x78 x81) λ x82 => bindO (nilChk x74) λ x83 => bindO (fieldA 2 x83) λ x84 => M.bind (stM 1 x84 x82) λ _ => bindO (binV .add (getL l63 0) (.int .i64 1)) λ x86 => M.ret (Out.norm [x86])) ( M.ret (Out.exit 0 [(getL l63 0)]))) [(.int .i64 0)]) λ o88 => outK o88 (λ _ => M.fail) (λ k89 _ => bif Nat.beq k89 0 then ( M.bind (F.d_restart a0) λ _ => M.ret x16) else M.fail) (λ r90 => M.ret r90)) (λ _ _ => M.fail) (λ r61 => M.ret r61))
def F.d_Crash.plan : Plan:=(ls 1 (seq (ls 1 (cond (ls 1 leaf) leaf)) (ls 2 (fork [7] [7, 9, 36, 37, 38, 39, 40, 41, 42, 43, 44, 45, 46, 47, 48, 49, 50, 51, 52, 53, 54, 55, 56, 57, 58, 59, 60, 61, 62, 63, 64, 65, 66, 67, 68, 69, 70] [] (ls 1 (cond (ls 2 (alts [7] [7, 66, 67, 68, 69, 70] [[0, 1, 2, 3, 4, 5], [0, 2, 3, 1, 4, 5]])) leaf)) (seq (ls 1 (body (loop [73] [11, 12, 73, 74, 75, 76, 77, 78, 79, 80, 81, 82, 83, 84, 85, 86, 87, 88, 89, 90, 91, 92, 93, 94, 95, 96, 97] [0] (ls 1 (seq (cond leaf leaf) (seq (body (ls 2 leaf)) leaf)))))) (ls 2 leaf))))))
theorem F.d_Crash.lift : LiftOk Tryz.prog 69 (ap3 F.d_Crash):=lift3 (g:=evFn Tryz.prog (tcons 98 (ap1 F.dd_change) (tcons 99 (ap3 F.dd_apply) (tcons 100 (ap1 F.d_restart) tnil))) tnil 69 Tryz.f69 F.d_Crash.plan) (evFn_sound (tcons_ok F.dd_change.lift (tcons_ok F.dd_apply.lift (tcons_ok F.d_restart.lift tnil_ok))) tnil_ok Tryz.func69 (by kernel_rfl)) (λ x0 x1 x2 => by kernel_rfl)
noncomputable def F.rr_within (a0 a1 : Value) : M Value:=bindO (binV .lss a0 (.int .i64 0)) λ x1 => condM x1 ( M.ret (.int .i64 0)) ( bindO (binV .gtr a0 a1) λ x2 => condM x2 ( M.ret a1) ( M.ret a0))
def F.rr_within.plan : Plan:=(ls 1 (seq (ls 1 (cond (ls 1 leaf) leaf)) (seq (ls 1 (cond (ls 1 leaf) leaf)) (ls 1 leaf))))
theorem F.rr_within.lift : LiftOk Tryz.prog 101 (ap2 F.rr_within):=lift2 (g:=evFn Tryz.prog tnil tnil 101 Tryz.f101 F.rr_within.plan) (evFn_sound tnil_ok tnil_ok Tryz.func101 (by kernel_rfl)) (λ x0 x1 => by kernel_rfl)
noncomputable def F.r_Crash (a0 a1 a2 : Value) : M Value:=bindO (eqV (.one .ptr) a0 (.pointer none)) λ x1 => condM x1 ( M.ret (.int .i64 0)) ( bindO (nilChk a0) λ x2 => bindO (fieldA 6 x2) λ x3 => M.bind (rdM (ld1 x3)) λ x4 => bindO (lenL x4) λ x5 => M.bind (F.rr_within a1 x5) λ x6 => M.bind (loopM (λ l7 => bindO (binV .lss (getL l7 0) x6) λ x8 => condM x8 ( bindO (nilChk a0) λ x9 => bindO (fieldA 6 x9) λ x10 => M.bind (rdM (ld1 x10)) λ x11 => bindO (idxA 6 x11 (getL l7 0)) λ x12 => M.bind (rdM (ldA 6 x12)) λ x13 => M.bind (newM 144 #[(.int .i64 0), (.int .i64 0), (.int .i64 0), (.string .empty), (.string .empty), (.string .empty)]) λ x14 => M.bind (stM 6 x14 x13) λ _ => drewM <| getM λ _ => bindO (nilChk a0) λ x17 => bindO (fieldA 5 x17) λ x18 => M.bind (rdM (ld1 x18)) λ x19 => bindO (fieldA 0 x14) λ x20 => M.bind (rdM (ld1 x20)) λ x21 => bindO (nilChk a0) λ x22 => bindO (fieldA 5 x22) λ x23 => M.bind (rdM (ld1 x23)) λ x24 => bindO (fieldA 0 x14) λ x25 => M.bind (rdM (ld1 x25)) λ x26 => bindO (idxA 5 x24 x26) λ x27 => bindO (fieldA 3 x27) λ x28 => M.bind (rdM (ldA 2 x28)) λ x29 => M.bind (rdM (ldA 6 x14)) λ x30 => M.bind (F.rr_done x29 x30) λ x31 => getM λ W32 => bindO (idxA 5 x19 x21) λ x33 => bindO (fieldA 3 x33) λ x34 => M.bind (stM 2 x34 x31) λ _ => getM λ _ => reqM (ld1 x18 W32 = some x19) <| reqM (ld1 x20 W32 = some x21) <| bindO (binV .add (getL l7 0) (.int .i64 1)) λ x37 => M.ret (Out.norm [x37])) ( M.ret (Out.exit 0 [(getL l7 0)]))) [(.int .i64 0)]) λ o39 => outK o39 (λ _ => M.fail) (λ k40 _ => bif Nat.beq k40 0 then ( M.bind ( bindO (binV .lss x6 x5) λ x42 => M.bind (guardM x42 true (M.ret a0)) λ x43 => M.bind (guardM x42 true (optM (nilChk x43))) λ x44 => M.bind (guardM x42 true (optM (fieldA 6 x44))) λ x45 => M.bind (guardM x42 true (rdM (ld1 x45))) λ x46 => M.bind (guardM x42 true (M.ret x6)) λ x47 => M.bind (guardM x42 true (optM (idxA 6 x46 x47))) λ x48 => M.bind (guardM x42 true (optM (fieldA 1 x48))) λ x49 => M.bind (guardM x42 true (rdM (ld1 x49))) λ x50 => M.bind (guardM x42 true (optM (binV .eql x50 (.int .i64 1)))) λ x51 => bindO (pickV x42 x51 (.bool false)) λ x52 => condM x52 ( bindO (nilChk a0) λ x53 => bindO (fieldA 6 x53) λ x54 => M.bind (rdM (ld1 x54)) λ x55 => bindO (idxA 6 x55 x6) λ x56 => M.bind (rdM (ldA 6 x56)) λ x57 => M.bind (newM 144 #[(.int .i64 0), (.int .i64 0), (.int .i64 0), (.string .empty), (.string .empty), (.string .empty)]) λ x58 => M.bind (stM 6 x58 x57) λ _ => bindO (fieldA 5 x58) λ x60 => M.bind (rdM (ld1 x60)) λ x61 => bindO (lenS x61) λ x62 => M.bind (F.rr_within a2 x62) λ x63 => bindO (fieldA 5 x58) λ x64 => M.bind (rdM (ld1 x64)) λ x65 => bindO (sliceS x65 none (some x63)) λ x66 => bindO (fieldA 5 x58) λ x67 => M.bind (stM 1 x67 x66) λ _ => drewM <| getM λ _ => bindO (nilChk a0) λ x70 => bindO (fieldA 5 x70) λ x71 => M.bind (rdM (ld1 x71)) λ x72 => bindO (fieldA 0 x58) λ x73 => M.bind (rdM (ld1 x73)) λ x74 => bindO (nilChk a0) λ x75 => bindO (fieldA 5 x75) λ x76 => M.bind (rdM (ld1 x76)) λ x77 => bindO (fieldA 0 x58) λ x78 => M.bind (rdM (ld1 x78)) λ x79 => bindO (idxA 5 x77 x79) λ x80 => bindO (fieldA 3 x80) λ x81 => M.bind (rdM (ldA 2 x81)) λ x82 => M.bind (rdM (ldA 6 x58)) λ x83 => M.bind (F.rr_done x82 x83) λ x84 => getM λ W85 => bindO (idxA 5 x72 x74) λ x86 => bindO (fieldA 3 x86) λ x87 => M.bind (stM 2 x87 x84) λ _ => getM λ _ => reqM (ld1 x71 W85 = some x72) <| reqM (ld1 x73 W85 = some x74) <| M.ret (Out.norm [])) ( M.ret (Out.norm []))) λ o91 => outK o91 (λ _ => M.bind (loopM (λ l94 => bindO (nilChk a0) λ x95 => bindO (fieldA 5 x95) λ x96 => M.bind (rdM (ld1 x96)) λ x97 => bindO (lenL x97) λ x98 => bindO (binV .lss (getL l94 0) x98) λ x99 => condM x99 ( drewM <| bindO (nilChk a0) λ x100 => bindO (fieldA 5 x100) λ x101 => M.bind (rdM (ld1 x101)) λ x102 => bindO (nilChk a0) λ x103 => bindO (fieldA 5 x103) λ x104 => M.bind (rdM (ld1 x104)) λ x105 => bindO (idxA 5 x105 (getL l94 0)) λ x106 => bindO (fieldA 3 x106) λ x107 => M.bind (rdM (ldA 2 x107)) λ x108 => bindO (idxA 5 x102 (getL l94 0)) λ x109 => bindO (fieldA 1 x109) λ x110 => M.bind (stM 2 x110 x108) λ _ => bindO (binV .add (getL l94 0) (.int .i64 1)) λ x112 => M.ret (Out.norm [x112])) ( M.ret (Out.exit 2 [(getL l94 0)]))) [(.int .i64 0)]) λ o114 => outK o114 (λ _ => M.fail) (λ k115 _ => bif Nat.beq k115 2 then ( bindO (nilChk a0) λ x117 => bindO (fieldA 6 x117) λ x118 => M.bind (stM 1 x118 (.slice none 0 0)) λ _ => bindO (nilChk a0) λ x120 => bindO (fieldA 3 x120) λ x121 => M.bind (stM 1 x121 (.int .i64 (-1))) λ _ => bindO (nilChk a0) λ x123 => bindO (fieldA 4 x123) λ x124 => M.bind (stM 1 x124 (.bool false)) λ _ => bindO (binV .sub x5 x6) λ x126 => M.ret x126) else M.fail) (λ r116 => M.ret r116)) (λ _ _ => M.fail) (λ r93 => M.ret r93)) else M.fail) (λ r41 => M.ret r41))
def F.r_Crash.plan : Plan:=(ls 1 (seq (ls 1 (cond (ls 1 leaf) leaf)) (ls 2 (seq (ls 1 (body (loop [9] [9, 10, 24, 25, 26, 27, 28, 29, 30, 31, 32, 33, 34, 35, 36, 37, 38, 39, 40, 41, 42, 43, 44, 45, 46, 47, 48, 49, 50, 51, 52, 53, 54] [0] (seq (ls 1 (cond leaf leaf)) (seq (body (ls 1 leaf)) leaf))))) (fork [] [11, 12, 55, 56, 57, 58, 59, 60, 61, 62, 63, 64, 65, 66, 67, 68, 69, 70, 71, 72, 73, 74, 75, 76, 77, 78, 79, 80, 81, 82, 83, 84, 85, 86, 87, 88, 89, 90, 91, 92, 93, 94, 95, 96, 97, 98, 99, 100, 101, 102, 103, 104] [] (ls 1 (cond (ls 3 leaf) leaf)) (seq (ls 1 (body (loop [13] [13, 105, 106, 107, 108, 109, 110, 111, 112, 113, 114, 115, 116, 117, 118, 119, 120, 121, 122, 123, 124, 125, 126, 127, 128] [2] (seq (ls 1 (cond leaf leaf)) (seq (body leaf) leaf))))) (ls 4 leaf)))))))
theorem F.r_Crash.lift : LiftOk Tryz.prog 70 (ap3 F.r_Crash):=lift3 (g:=evFn Tryz.prog (tcons 101 (ap2 F.rr_within) (tcons 102 (ap2 F.rr_done) tnil)) tnil 70 Tryz.f70 F.r_Crash.plan) (evFn_sound (tcons_ok F.rr_within.lift (tcons_ok F.rr_done.lift tnil_ok)) tnil_ok Tryz.func70 (by kernel_rfl)) (λ x0 x1 x2 => by kernel_rfl)
end Go.Proofs.YtojnickeblbgoaaGreatDoor
namespace Go.Lift
def inB (v : Value) (b : Nat) : Prop:=match v with
 | .slice (some a) _ _ => a.block = b
 | .pointer (some a) => a.block = b
 | _ => False
@[simp] theorem inB_nil (n c b : Nat) : inB (.slice none n c) b ↔ False:=Iff.rfl
@[simp] theorem inB_slice (a : Addr) (n c b : Nat) : inB (.slice (some a) n c) b ↔ a.block = b:=Iff.rfl
@[simp] theorem inB_ptr (a : Addr) (b : Nat) : inB (.pointer (some a)) b ↔ a.block = b:=Iff.rfl
@[simp] theorem inB_nilptr (b : Nat) : inB (.pointer none) b ↔ False:=Iff.rfl
def Sl (k : Nat) (w : World) (v : Value) (els : List (List Value)) : Prop :=
 (∀ e ∈ els, e.length = k) /\ ∃ a c, v = .slice a els.length c /\ els.length <= c /\
  (c = 0 ∨ ∃ b o l, a = some ⟨b, o, none⟩ /\ bk w b = some l /\ o + c * k <= l.length /\ (l.drop o).take (els.length * k) = els.flatten)
def SlW (k : Nat) (w : World) (v : Value) (els : List (List Value)) : Prop:=Sl k w v els /\ ∀ b, inB v b -> capV v ≠ some (.int .i64 0) -> wr w b = true
section
variable {k : Nat} {w w' : World} {v x : Value} {els fls : List (List Value)}
theorem Sl.nil (k : Nat) (w : World) : Sl k w (.slice none 0 0) []:=⟨by simp, none, 0, rfl, Nat.le_refl _, .inl rfl⟩
theorem SlW.nil (k : Nat) (w : World) : SlW k w (.slice none 0 0) []:=⟨Sl.nil k w, λ _ h => h.elim⟩
theorem Sl.lenL (h : Sl k w v els) : lenL v = some (.int .i64 els.length):=by obtain ⟨_, a, c, rfl, _⟩:=h; rfl
theorem Sl.lenN (h : Sl k w v els) : lenN v = some els.length:=by obtain ⟨_, a, c, rfl, _⟩:=h; rfl
theorem Sl.isCell (h : Sl k w v els) : isCell v = true:=by obtain ⟨_, a, c, rfl, _⟩:=h; rfl
theorem Sl.congr (h : Sl k w v els) (hb : ∀ b l, inB v b -> bk w b = some l -> bk w' b = some l) : Sl k w' v els:=by
 obtain ⟨h1, a, c, rfl, h2, h3⟩:=h
 refine ⟨h1, a, c, rfl, h2, ?_⟩
 rcases h3 with h3 | ⟨b, o, l, rfl, h4, h5⟩
 ·exact .inl h3
 ·exact .inr ⟨b, o, l, rfl, hb b l rfl h4, h5⟩
theorem Sl.fr {F : Nat -> Prop} (h : Sl k w v els) (f : Fr F w w') (hd : ∀ b, inB v b -> ¬ F b) : Sl k w' v els:=h.congr λ b _ hb hl => f.bk_some hl (hd b hb)
theorem Sl.fr0 (h : Sl k w v els) (f : Fr (λ _ => False) w w') : Sl k w' v els:=h.fr f λ _ _ => id
theorem SlW.fr {F : Nat -> Prop} (h : SlW k w v els) (f : Fr F w w') (hd : ∀ b, inB v b -> ¬ F b) : SlW k w' v els:=by
 refine ⟨h.1.fr f hd, λ b hb hc => ?_⟩
 have hw:=h.2 b hb hc
 obtain ⟨⟨_, a, c, rfl, _, h3⟩, _⟩:=h
 rcases h3 with h3 | ⟨b', o, l, rfl, h4, _⟩
 ·subst h3; simp at hc
 ·simp only [inB_slice] at hb
  subst hb
  rw [f.wr (bk_lt h4) (hd _ rfl)]
  exact hw
theorem Fr.new {w1 w2 : World} {F : Nat -> Prop} (h : Fr (λ _ => False) w w1) (h' : Fr F w1 w2) (hF : ∀ b, F b -> w.heap.size <= b) : Fr (λ _ => False) w w2 :=
 h.trans h' λ b hb hf => Nat.lt_irrefl _ (Nat.lt_of_lt_of_le hb (hF b hf))
theorem Sl.lt (h : Sl k w v els) (hn : 0 < els.length) {b : Nat} (hb : inB v b) : b < w.heap.size:=by
 obtain ⟨_, a, c, rfl, h2, h3⟩:=h
 rcases h3 with h3 | ⟨b', o, l, rfl, h4, _⟩
 ·omega
 ·simp only [inB_slice] at hb; subst hb; exact bk_lt h4
theorem flat_drop : ∀ {els : List (List Value)} (n : Nat), (∀ e ∈ els, e.length = k) -> els.flatten.drop (n * k) = (els.drop n).flatten
 | [], n, _ => by simp
 | x :: els, 0, _ => by simp
 | x :: els, n + 1, hk => by
  have hx:=hk x (by simp)
  have ih:=flat_drop (els:=els) n λ e he => hk e (by simp [he])
  simp only [List.flatten_cons, List.drop_succ_cons]
  rw [show (n + 1) * k = x.length + n * k by rw [hx, Nat.add_mul]; omega, <- List.drop_drop, List.drop_left]
  exact ih
theorem flat_get {e : List Value} {els : List (List Value)} {i : Nat} (hk : ∀ e ∈ els, e.length = k) (h : els[i]? = some e) : (els.flatten.drop (i * k)).take k = e:=by
 obtain ⟨hi, rfl⟩:=List.getElem?_eq_some_iff.1 h
 rw [flat_drop i hk, List.drop_eq_getElem_cons hi, List.flatten_cons]
 have:=hk els[i] (List.getElem_mem hi)
 rw [<- this, List.take_left]
theorem flat_len : ∀ {els : List (List Value)}, (∀ e ∈ els, e.length = k) -> els.flatten.length = els.length * k
 | [], _ => by simp
 | x :: els, hk => by
  have hx:=hk x (by simp)
  have ih:=flat_len (els:=els) λ e he => hk e (by simp [he])
  simp only [List.flatten_cons, List.length_append, ih, hx, List.length_cons, Nat.add_mul]
  omega
theorem Sl.rd (h : Sl k w v els) (_hk : k ≠ 0) {i : Nat} {e : List Value} (he : els[i]? = some e) (kd : IntKind) :
  ∃ b o l, idxA k v (.int kd i) = some (.pointer (some ⟨b, o, none⟩)) /\ bk w b = some l /\ o + k <= l.length /\ (l.drop o).take k = e /\ inB v b:=by
 obtain ⟨h1, a, c, rfl, h2, h3⟩:=h
 have hi : i < els.length:=(List.getElem?_eq_some_iff.1 he).1
 rcases h3 with h3 | ⟨b, o, l, rfl, h4, h5, h6⟩
 ·omega
 ·have hle : (i + 1) * k <= els.length * k:=Nat.mul_le_mul_right _ hi
  have hle2 : els.length * k <= c * k:=Nat.mul_le_mul_right _ h2
  rw [Nat.add_mul] at hle
  refine ⟨b, o + i * k, l, ?_, h4, by omega, ?_, rfl⟩
  ·have hi' : (i : Int) < els.length:=by omega
   simp [idxA, Addr.add_lit, hi]
  ·have:=flat_get h1 he
   rw [<- h6, List.drop_take, List.drop_drop, List.take_take] at this
   rw [<- this]
   congr 1
   omega
theorem take_get {l e : List Value} {o n j : Nat} (h : (l.drop o).take n = e) (hj : j < n) : l[o + j]? = e[j]?:=by
 subst h
 rw [List.getElem?_take]
 rw [if_pos hj, List.getElem?_drop]
theorem take_get0 {l e : List Value} {o n : Nat} (h : (l.drop o).take n = e) (hj : 0 < n) : l[o]? = e[0]?:=take_get (j:=0) h hj
theorem Sl.rd1 (h : Sl 1 w v els) {i : Nat} {y : Value} (he : els[i]? = some [y]) (kd : IntKind) :
  ∃ p, idxA 1 v (.int kd i) = some p /\ ld1 p w = some y:=by
 obtain ⟨b, o, l, h1, h2, h3, h4, _⟩:=h.rd (by decide) he kd
 refine ⟨_, h1, ?_⟩
 rw [ld1_ptr, h2]
 have:=take_get0 h4 (by decide)
 simpa using this
theorem Sl.rdA (h : Sl k w v els) (hk : k ≠ 0) {i : Nat} {e : List Value} (he : els[i]? = some e) (kd : IntKind) :
  ∃ p, idxA k v (.int kd i) = some p /\ ldA k p w = some (.agg e.toArray):=by
 obtain ⟨b, o, l, h1, h2, h3, h4, _⟩:=h.rd hk he kd
 exact ⟨_, h1, by rw [ldA_bk h2 h3, h4]⟩
theorem Sl.rdF (h : Sl k w v els) {i : Nat} {e : List Value} (he : els[i]? = some e) (kd : IntKind) :
  ∃ p, idxA k v (.int kd i) = some p /\ ∀ j, j < k -> ∃ q, fieldA j p = some q /\ ld1 q w = e[j]?:=by
 by_cases hk : k = 0
 ·subst hk
  obtain ⟨h1, a, c, rfl, h2, h3⟩:=h
  have hi : i < els.length:=(List.getElem?_eq_some_iff.1 he).1
  rcases h3 with h3 | ⟨b, o, l, rfl, h4, h5, h6⟩
  ·omega
  ·exact ⟨.pointer (some ⟨b, o, none⟩), by simp [idxA, Addr.add_lit, hi], λ j hj => absurd hj (Nat.not_lt_zero _)⟩
 ·obtain ⟨b, o, l, h1, h2, h3, h4, _⟩:=h.rd hk he kd
  exact ⟨_, h1, λ j hj => ⟨_, fieldA_ptr j b o, by rw [ld1_ptr, h2]; exact take_get h4 hj⟩⟩
theorem Sl.drop (h : Sl k w v els) {n : Nat} (hn : n <= els.length) (kd : IntKind) : ∃ v', sliceV k v (some (.int kd n)) none = some v' /\ Sl k w v' (els.drop n) /\ ∀ b, inB v' b -> inB v b:=by
 obtain ⟨h1, a, c, rfl, h2, h3⟩:=h
 have e : sliceV k (.slice a els.length c) (some (.int kd n)) none = some (.slice (if c = n then a else a.map (·.add (n * k))) (els.length - n) (c - n)):=by
  simp [sliceV, highV, lowV, boundV, hn]
 refine ⟨_, e, ⟨λ x hx => h1 x (List.mem_of_mem_drop hx), (if c = n then a else a.map (·.add (n * k))), c - n, ?_, by rw [List.length_drop]; omega, ?_⟩, ?_⟩
 ·rw [List.length_drop]
 ·by_cases hc : c = n
  ·exact .inl (by omega)
  ·rcases h3 with h3 | ⟨b, o, l, rfl, h4, h5, h6⟩
   ·exact .inl (by omega)
   ·have hm : c * k = n * k + (c - n) * k:=by rw [<- Nat.add_mul]; congr 1; omega
    refine .inr ⟨b, o + n * k, l, by rw [if_neg hc]; simp [Addr.add_lit], h4, by omega, ?_⟩
    have hfl:=flat_drop n h1
    rw [<- hfl, <- h6, List.drop_take, List.drop_drop, List.length_drop]
    congr 1
    rw [Nat.sub_mul]
 ·intro b hb
  cases a with
  | none => simp at hb
  | some a =>
   by_cases hc : c = n
   ·simpa [hc] using hb
   ·simp only [hc, if_false, Option.map_some] at hb
    simp only [inB_slice] at hb ⊢
    rw [<- hb]
    unfold Addr.add
    split <;> rfl
theorem setL_eq : ∀ (vs l : List Value) (o : Nat), o + vs.length <= l.length -> setL l o vs = l.take o ++ vs ++ l.drop (o + vs.length)
 | [], l, o, _ => by simp
 | v :: vs, l, o, h => by
  simp only [List.length_cons] at h
  rw [setL_cons, setL_eq vs (l.set o v) (o + 1) (by simp; omega)]
  have ho : o < l.length:=by omega
  have h1 : (l.set o v).take (o + 1) = l.take o ++ [v]:=by
   rw [List.take_succ_eq_append_getElem (by simpa using ho), List.take_set_of_le (Nat.le_refl _)]
   simp
  have h2 : (l.set o v).drop (o + 1 + vs.length) = l.drop (o + (v :: vs).length):=by
   rw [List.drop_set_of_lt (by omega)]
   simp only [List.length_cons]
   congr 1
   omega
  rw [h1, h2]
  simp
theorem drop_take_setL {vs l : List Value} {o p n : Nat} (h : p + vs.length <= l.length) (ho : o + n = p) : (((setL l p vs).drop o).take (n + vs.length)) = ((l.drop o).take n) ++ vs:=by
 rw [setL_eq vs l p h]
 subst ho
 have h1 : (l.take (o + n)).length = o + n:=by rw [List.length_take]; omega
 rw [List.append_assoc, List.drop_append_of_le_length (by omega), List.drop_take]
 have h2 : ((l.drop o).take (o + n - o)).length = n:=by rw [List.length_take, List.length_drop]; omega
 rw [show o + n - o = n by omega] at h2 ⊢
 rw [List.take_append, h2, List.take_of_length_le (by omega)]
 rw [show n + vs.length - n = vs.length by omega, List.take_left]
theorem ldN_sl {x' : Option Addr} {c : Nat} (h : Sl k w (.slice x' els.length c) els) : firstN w k els.length (.slice x' els.length c) = some els.flatten:=by
 obtain ⟨h1, a, c', e, h2, h3⟩:=h
 cases e
 have hfl:=flat_len h1
 cases x' with
 | none =>
  rcases h3 with h3 | ⟨b, o, l, h4, _⟩
  ·have : els = []:=List.eq_nil_of_length_eq_zero (by omega)
   subst this; rfl
  ·cases h4
 | some a =>
  simp only [firstN]
  rcases h3 with h3 | ⟨b, o, l, h4, h5, h6, h7⟩
  ·have : els = []:=List.eq_nil_of_length_eq_zero (by omega)
   subst this; simp [ldN]
  ·cases h4
   have : els.length * k <= c * k:=Nat.mul_le_mul_right _ h2
   rw [ldN_bk h5 (by omega), h7]
theorem Run_appM {bytes e : Nat} {zero : Array Value} {s : Value} {Q : Value -> World -> Prop} (hs : SlW k w s els) (hx : Sl k w x fls) (hk : k ≠ 0) (hz : zero.size = k) (hb : bytes ≠ 0)
  (hc : ∀ e ∈ fls, e.all isCell = true) (small : (els.length + fls.length + (els.length + fls.length) / 4 + 192) * bytes <= 281474976710656)
  (q : ∀ r w', SlW k w' r (els ++ fls) -> Fr (inB s) w w' -> (∀ b, inB r b -> inB s b ∨ (w.heap.size <= b /\ b < w'.heap.size)) -> Q r w') : Run (appM e k bytes zero s x) w Q:=by
 have hs':=hs.1
 obtain ⟨⟨h1, a, c, rfl, h2, h3⟩, hw⟩:=hs
 have hxl:=hx.lenN
 have hx1:=hx.1
 have hfl:=flat_len h1
 have hfx:=flat_len hx1
 have hall : ∀ e ∈ els ++ fls, e.length = k:=λ e he => (List.mem_append.1 he).elim (h1 e) (hx1 e)
 have hcf : fls.flatten.all isCell = true:=by
  rw [List.all_eq_true]
  intro y hy
  obtain ⟨e, he, hye⟩:=List.mem_flatten.1 hy
  exact List.all_eq_true.1 (hc e he) y hye
 have hnew : firstN w k fls.length x = some fls.flatten:=by
  have hx':=hx
  obtain ⟨_, a', c', rfl, _⟩:=hx'
  exact ldN_sl hx
 unfold Run appM
 simp only [hxl]
 by_cases hroom : els.length + fls.length <= c
 ·rw [if_pos hroom]
  simp only [hnew]
  cases a with
  | none =>
   rcases h3 with h3 | ⟨b, o, l, h4, _⟩
   ·have he : els = []:=List.eq_nil_of_length_eq_zero (by omega)
    have hf : fls = []:=List.eq_nil_of_length_eq_zero (by omega)
    subst he; subst hf; subst h3
    exact ⟨_, _, rfl, q _ _ (SlW.nil k w) (Fr.refl _ _) (by simp)⟩
   ·cases h4
  | some a =>
   simp only []
   by_cases hf : fls.flatten = []
   ·have hf0 : fls = []:=by
     apply List.eq_nil_of_length_eq_zero
     rw [hf] at hfx
     simp only [List.length_nil] at hfx
     rcases Nat.mul_eq_zero.1 hfx.symm with h | h
     ·exact h
     ·exact absurd h hk
    subst hf0
    simp only [List.flatten_nil, stN, if_true]
    refine ⟨_, _, rfl, q _ _ ?_ (Fr.refl _ _) (λ b hb => .inl hb)⟩
    simp only [List.append_nil, List.length_nil, Nat.add_zero]
    exact ⟨hs', hw⟩
   ·rcases h3 with h3 | ⟨b, o, l, h4, h5, h6, h7⟩
    ·have hf : fls = []:=List.eq_nil_of_length_eq_zero (by omega)
     subst hf; simp at hf
    ·cases h4
     have hf1 : fls.length ≠ 0:=λ h0 => hf (by rw [List.eq_nil_of_length_eq_zero h0]; rfl)
     have hwb:=hw b rfl (by simp; omega)
     have hcc : (els.length + fls.length) * k <= c * k:=Nat.mul_le_mul_right _ hroom
     rw [Nat.add_mul] at hcc
     simp only [Addr.add_lit, stN]
     rw [if_neg hf]
     simp only [h5]
     rw [if_pos ⟨⟨by omega, hcf⟩, hwb⟩]
     refine ⟨_, _, rfl, q _ _ ⟨⟨hall, _, c, by rw [List.length_append], by rw [List.length_append]; omega, .inr ⟨b, o, setL l (o + els.length * k) fls.flatten, rfl, by rw [bk_sto_eq, h5]; rfl, by rw [length_setL]; omega, ?_⟩⟩, ?_⟩ ?_ (λ b hb => .inl hb)⟩
     ·rw [List.length_append, Nat.add_mul, <- hfx, drop_take_setL (by omega) rfl, h7, List.flatten_append]
     ·intro b' hb' _
      simp only [inB_slice] at hb'
      subst hb'
      simpa using hwb
     ·exact (Fr.refl _ _).sto (.inl rfl) _ _
 ·rw [if_neg hroom]
  have hg : Builtin.nextslicecap (els.length + fls.length) c * bytes <= 2 ^ 48:=growslice_fits_wide (by omega) small
  rw [if_neg (not_or.2 ⟨hb, Nat.not_lt.2 hg⟩)]
  simp only [ldN_sl hs', hnew]
  refine ⟨_, _, rfl, q _ _ ⟨⟨hall, some ⟨w.heap.size, 0, none⟩, _, by rw [List.length_append], ?_, .inr ⟨w.heap.size, 0, _, rfl, bk_alloc_at rfl _ _, ?_, ?_⟩⟩, ?_⟩ ((Fr.refl _ _).drew.alloc _) (λ b hb => .inr ?_)⟩
  ·rw [List.length_append]; simp only [Question.cut]; omega
  ·have hge : els.length + fls.length <= (Question.appendCap (els.length + fls.length) c e).cut (w.tape w.drawn (.appendCap (els.length + fls.length) c e)):=by simp only [Question.cut]; omega
   generalize (Question.appendCap (els.length + fls.length) c e).cut (w.tape w.drawn (.appendCap (els.length + fls.length) c e)) = C at hge
   simp only [Array.toList_append, List.length_append, Array.length_toList, size_zeroCells, hz, hfl, hfx]
   rw [<- Nat.add_mul, <- Nat.add_mul]
   rw [show els.length + fls.length + (C - (els.length + fls.length)) = C by omega]
   omega
  ·simp only [Array.toList_append, List.drop_zero]
   rw [List.length_append, Nat.add_mul, <- hfl, <- hfx, List.flatten_append, <- List.length_append, List.take_left]
  ·intro b' hb' _
   simp only [inB_slice] at hb'
   subst hb'
   exact wr_alloc_at (by simp) _ _
  ·simp only [inB_slice] at hb
   subst hb
   simp
theorem setL_right : ∀ (vs A B : List Value) (j : Nat), setL (A ++ B) (A.length + j) vs = A ++ setL B j vs
 | [], A, B, j => rfl
 | v :: vs, A, B, j => by
  rw [setL_cons, setL_cons, List.set_append_right _ _ (by omega), show A.length + j - A.length = j by omega, show A.length + j + 1 = A.length + (j + 1) by omega]
  exact setL_right vs A (B.set j v) (j + 1)
theorem setL_left : ∀ (vs A B : List Value) (j : Nat), j + vs.length <= A.length -> setL (A ++ B) j vs = setL A j vs ++ B
 | [], A, B, j, _ => rfl
 | v :: vs, A, B, j, h => by
  simp only [List.length_cons] at h
  rw [setL_cons, setL_cons, List.set_append_left _ _ (by omega)]
  exact setL_left vs (A.set j v) B (j + 1) (by simp; omega)
theorem setL_flat {i j : Nat} {e : List Value} {vs : List Value} (hk : ∀ e ∈ els, e.length = k) (he : els[i]? = some e) (hj : j + vs.length <= k) :
  setL els.flatten (i * k + j) vs = (els.set i (setL e j vs)).flatten:=by
 obtain ⟨hi, rfl⟩:=List.getElem?_eq_some_iff.1 he
 have hl:=hk _ (List.getElem_mem hi)
 have h1 : els = els.take i ++ (els[i] :: els.drop (i + 1)):=by rw [List.getElem_cons_drop, List.take_append_drop]
 have h2 : els.set i (setL els[i] j vs) = els.take i ++ (setL els[i] j vs :: els.drop (i + 1)):=by
  rw [List.set_eq_take_append_cons_drop, if_pos hi]
 have h3 : (els.take i).flatten.length = i * k:=by
  rw [flat_len λ e he => hk e (List.mem_of_mem_take he), List.length_take]
  congr 1; omega
 rw [h2]
 conv => lhs; rw [h1]
 simp only [List.flatten_append, List.flatten_cons]
 rw [<- h3, setL_right, setL_left _ _ _ _ (by omega)]
theorem SlW.put (h : SlW k w v els) {i : Nat} {e : List Value} (he : els[i]? = some e) (kd : IntKind) :
  ∃ b o, idxA k v (.int kd i) = some (.pointer (some ⟨b, o, none⟩)) /\ inB v b /\ b < w.heap.size /\ okAt w b o k /\
   ∀ j vs, j + vs.length <= k -> okAt w b (o + j) vs.length /\ SlW k (sto w b (o + j) vs) v (els.set i (setL e j vs)):=by
 obtain ⟨⟨h1, a, c, rfl, h2, h3⟩, hw⟩:=h
 obtain ⟨hi, hei⟩:=List.getElem?_eq_some_iff.1 he
 rcases h3 with h3 | ⟨b, o, l, rfl, h4, h5, h6⟩
 ·omega
 ·have hle : (i + 1) * k <= els.length * k:=Nat.mul_le_mul_right _ hi
  have hle2 : els.length * k <= c * k:=Nat.mul_le_mul_right _ h2
  rw [Nat.add_mul] at hle
  have hwb : wr w b = true:=hw b rfl (by simp; omega)
  refine ⟨b, o + i * k, ?_, rfl, bk_lt h4, ⟨⟨l, h4, by omega⟩, hwb⟩, λ j vs hj => ⟨⟨⟨l, h4, by omega⟩, hwb⟩, ⟨⟨?_, some ⟨b, o, none⟩, c, ?_, ?_, .inr ⟨b, o, setL l (o + i * k + j) vs, rfl, by rw [bk_sto_eq, h4]; rfl, by rw [length_setL]; exact h5, ?_⟩⟩, ?_⟩⟩⟩
  ·have hi' : (i : Int) < els.length:=by omega
   simp [idxA, Addr.add_lit, hi]
  ·intro x hx
   rcases List.mem_or_eq_of_mem_set hx with hx | rfl
   ·exact h1 x hx
   ·rw [length_setL]; exact h1 e (hei ▸ List.getElem_mem hi)
  ·rw [List.length_set]
  ·rw [List.length_set]; exact h2
  ·have hfl:=flat_len h1
   rw [List.length_set, <- setL_flat h1 he hj]
   have hl : l = l.take o ++ (els.flatten ++ l.drop (o + els.length * k)):=by
    rw [<- h6, <- List.drop_drop, List.take_append_drop, List.take_append_drop]
   have ho : (l.take o).length = o:=by rw [List.length_take]; omega
   have e1 : setL l (o + i * k + j) vs = l.take o ++ (setL els.flatten (i * k + j) vs ++ l.drop (o + els.length * k)):=by
    conv => lhs; rw [hl]
    rw [show o + i * k + j = (l.take o).length + (i * k + j) by omega, setL_right, setL_left _ _ _ _ (by omega)]
   have e2 : ∀ X : List Value, (l.take o ++ X).drop o = X:=λ X => by
    have:=List.drop_left (l₁:=l.take o) (l₂:=X)
    rwa [ho] at this
   rw [e1, e2, List.take_append_of_le_length (by rw [length_setL]; omega), List.take_of_length_le (by rw [length_setL]; omega)]
  ·intro b' hb' _
   simp only [inB_slice] at hb'
   subst hb'
   simpa using hwb
theorem heap_alloc_at {w : World} {n : Nat} (h : n = w.heap.size) (o : Obj) : (w.alloc o).heap[n]? = some o:=by
 subst h
 show (w.heap.push _)[w.heap.size]? = _
 simp
theorem Run_sbM {e : TypeId} {s : ByteArray} {Q : Value -> World -> Prop}
  (q : ∀ r w', SlW 1 w' r (s.data.toList.map λ b => [.int .u8 b.toNat]) -> Fr (λ _ => False) w w' -> (∀ b, inB r b -> w.heap.size <= b /\ b < w'.heap.size) -> Q r w') :
  Run (sbM e (.string s)) w Q:=by
 unfold Run
 simp only [sbM]
 have hge : s.size <= (Question.appendCap s.size 0 e).cut (w.tape w.drawn (.appendCap s.size 0 e)):=by simp only [Question.cut]; omega
 generalize (Question.appendCap s.size 0 e).cut (w.tape w.drawn (.appendCap s.size 0 e)) = C at hge
 have hs : s.data.size = s.size:=rfl
 have hs' : s.data.toList.length = s.size:=rfl
 have hget:=heap_alloc_at (w:=w.drew) (n:=w.heap.size) rfl (.cells ((s.data.map λ b => Value.int .u8 b.toNat) ++ Array.replicate (C - s.size) (.int .u8 0)) e (C, C + 1))
 refine ⟨_, _, rfl, q _ _ ⟨⟨?_, some ⟨w.heap.size, 0, none⟩, C, ?_, ?_, .inr ⟨_, _, _, rfl, (by unfold bk; rw [hget]), ?_, ?_⟩⟩, ?_⟩ ((Fr.refl _ _).drew.alloc _) (λ b hb => ?_)⟩
 ·intro x hx
  obtain ⟨y, _, rfl⟩:=List.mem_map.1 hx
  rfl
 ·rw [List.length_map, hs']
 ·rw [List.length_map, hs']; exact hge
 ·simp [hs]; omega
 ·have : (List.map (λ b : UInt8 => [Value.int .u8 b.toNat]) s.data.toList).flatten = s.data.toList.map λ b => Value.int .u8 b.toNat:=by
   induction s.data.toList with
   | nil => rfl
   | cons x l ih => simp [ih]
  rw [this]
  simp only [Array.toList_append, Array.toList_map, List.drop_zero, List.length_map, Nat.mul_one]
  rw [List.take_append_of_le_length (by simp), List.take_of_length_le (by simp)]
 ·intro b hb _
  simp only [inB_slice] at hb
  subst hb
  unfold wr
  rw [hget]
  simp [hs]
  omega
 ·simp only [inB_slice] at hb
  subst hb
  simp
theorem Run_new {t : TypeId} {cs : Array Value} {Q : Value -> World -> Prop}
  (q : ∀ b w', bk w' b = some cs.toList -> wr w' b = true -> Fr (λ _ => False) w w' -> w.heap.size <= b -> Q (.pointer (some ⟨b, 0, none⟩)) w') : Run (newM t cs) w Q :=
 Run_newM.2 (q _ _ (bk_alloc_at rfl _ _) (wr_alloc_at rfl _ _) ((Fr.refl _ _).alloc _) (Nat.le_refl _))
theorem Run_newSt {t : TypeId} {zs cs : Array Value} {n : Nat} {K : Value -> Value -> World -> Prop} (hz : zs.size = n) (hn : cs.size = n) (hc : cs.toList.all isCell = true)
  (q : ∀ b w', bk w' b = some cs.toList -> wr w' b = true -> Fr (λ _ => False) w w' -> w.heap.size <= b -> K (.pointer (some ⟨b, 0, none⟩)) undef w') :
  Run (newM t zs) w λ a w1 => Run (stM n a (.agg cs)) w1 λ u w2 => K a u w2:=by
 refine Run_new λ b w' h1 h2 h3 h4 => ?_
 have hok : okAt w' b 0 n:=⟨⟨_, h1, by simp [hz]⟩, h2⟩
 rw [Run_stA ⟨hok, hn, hc⟩]
 have hb : bk (sto w' b 0 cs.toList) b = some cs.toList:=by
  rw [bk_sto_eq, h1]
  simp only [Option.map_some]
  rw [setL_eq _ _ _ (by simp [hz, hn])]
  simp [hz, hn]
 exact q _ _ hb (by simpa using h2) (h3.sto (.inr h4) _ _) h4
def partsL (k off : Nat) : List Value -> List (Nat × Nat × Value)
 | [] => []
 | v :: vs => (off, k, v) :: partsL k (off + k) vs
theorem foldl_set : ∀ (l : List Value) (off j : Nat) (cs : Array Value), off + j + l.length <= cs.size ->
  ((l.zipIdx j).foldl (λ cs (x : Value × Nat) => cs.setIfInBounds (off + x.2) x.1) cs).toList = setL cs.toList (off + j) l
 | [], off, j, cs, _ => rfl
 | v :: l, off, j, cs, h => by
  simp only [List.length_cons] at h
  simp only [List.zipIdx_cons, List.foldl_cons, setL_cons]
  rw [foldl_set l off (j + 1) _ (by simp; omega)]
  simp [Nat.add_assoc]
theorem fillV_parts : ∀ (vs : List Value) (off : Nat) (cs : Array Value), (∀ v ∈ vs, v.cells.size = k) -> off + vs.length * k <= cs.size ->
  fillV cs (partsL k off vs) = some (setL cs.toList off (vs.map λ v => v.cells.toList).flatten).toArray
 | [], off, cs, _, _ => by simp [partsL]
 | v :: vs, off, cs, hv, h => by
  have hk:=hv v (by simp)
  simp only [List.length_cons, Nat.add_mul] at h
  simp only [partsL, fillV, hk]
  rw [if_neg (by simp; omega)]
  have hcs : (v.cells.zipIdx.foldl (λ cs (x : Value × Nat) => cs.setIfInBounds (off + x.2) x.1) cs).toList = setL cs.toList off v.cells.toList:=by
   rw [<- Array.foldl_toList, Array.toList_zipIdx]
   have:=foldl_set v.cells.toList off 0 cs (by simp [hk]; omega)
   simpa using this
  have hsz : (v.cells.zipIdx.foldl (λ cs (x : Value × Nat) => cs.setIfInBounds (off + x.2) x.1) cs).size = cs.size:=by
   rw [<- Array.length_toList, hcs, length_setL, Array.length_toList]
  have ih:=fillV_parts vs (off + k) _ (λ x hx => hv x (by simp [hx])) (by rw [hsz]; omega)
  refine ih.trans ?_
  rw [hcs]
  simp only [List.map_cons, List.flatten_cons]
  have happ : ∀ (a b l : List Value) (o : Nat), setL (setL l o a) (o + a.length) b = setL l o (a ++ b):=by
   intro a
   induction a with
   | nil => intro b l o; simp
   | cons x a ih => intro b l o; simp only [setL_cons, List.cons_append, List.length_cons]; rw [<- ih, show o + 1 + a.length = o + (a.length + 1) by omega]
  rw [<- happ, Array.length_toList, hk]
theorem Run_bsl {e n : Nat} {zero : Array Value} {parts : List (Nat × Nat × Value)} {vs : List Value} {Q : Value -> World -> Prop} (hp : parts = partsL k 0 vs) (hv : ∀ v ∈ vs, v.cells.size = k) (hn : vs.length = n) (hz : zero.size = n * k)
  (q : ∀ r w', SlW k w' r (vs.map λ v => v.cells.toList) -> Fr (λ _ => False) w w' -> (∀ b, inB r b -> b = w.heap.size /\ b < w'.heap.size) -> Q r w') : Run (bslM e n zero parts) w Q:=by
 subst hp
 have hfl : (vs.map λ v => v.cells.toList).flatten.length = n * k:=by
  rw [flat_len (k:=k)]
  ·simp [hn]
  ·intro x hx
   obtain ⟨v, hv', rfl⟩:=List.mem_map.1 hx
   simp [hv v hv']
 have hf:=fillV_parts (k:=k) vs 0 zero hv (by rw [hz, hn]; omega)
 refine ⟨_, _, by unfold bslM; rw [hf], q _ _ ⟨⟨?_, some ⟨w.heap.size, 0, none⟩, n, by simp [hn], by simp [hn], .inr ⟨_, _, _, rfl, bk_alloc_at rfl _ _, ?_, ?_⟩⟩, ?_⟩ ((Fr.refl _ _).alloc _) λ b hb => ?_⟩
 ·intro x hx
  obtain ⟨v, hv', rfl⟩:=List.mem_map.1 hx
  simp [hv v hv']
 ·simp [length_setL, hz]
 ·rw [setL_eq _ _ _ (by simp only [hfl, Array.length_toList, hz]; omega)]
  simp only [List.take_zero, List.nil_append, List.drop_zero, List.length_map, hn]
  rw [<- hfl, List.take_left]
 ·intro b hb _
  simp only [inB_slice] at hb
  subst hb
  exact wr_alloc_at rfl _ _
 ·simp only [inB_slice] at hb
  subst hb
  simp
theorem Run_app1 {e e' bytes : Nat} {zero : Array Value} {s y : Value} {K : World -> Value -> World -> Prop} (hes : y.cells.size = k) (hs : SlW k w s els) (hk : k ≠ 0) (hz : zero.size = k) (hb : bytes ≠ 0)
  (hc : y.cells.toList.all isCell = true) (small : (els.length + 1 + (els.length + 1) / 4 + 192) * bytes <= 281474976710656)
  (q : ∀ r w', SlW k w' r (els ++ [y.cells.toList]) -> Fr (inB s) w w' -> (∀ b, inB r b -> inB s b ∨ (w.heap.size <= b /\ b < w'.heap.size)) -> ∀ w1, Fr (λ _ => False) w w1 -> K w1 r w') :
  Run (bslM e' 1 (Builtin.zeroCells zero 1) [(0, k, y)]) w λ a w1 => Run (appM e k bytes zero s a) w1 λ r w' => K w1 r w':=by
 have hf : fillV (Builtin.zeroCells zero 1) [(0, k, y)] = some y.cells:=by
  have:=fillV_parts (k:=k) [y] 0 (Builtin.zeroCells zero 1) (by simpa using hes) (by simp [size_zeroCells, hz])
  rw [show [(0, k, y)] = partsL k 0 [y] from rfl, this, setL_eq _ _ _ (by simp [size_zeroCells, hz, hes])]
  simp [hes]
  rw [List.drop_of_length_le (by simp [size_zeroCells, hz])]
  simp
 generalize y.cells = es at *
 have fr : Fr (λ _ => False) w (w.alloc (.cells es e')):=(Fr.refl _ _).alloc _
 refine ⟨_, _, by unfold bslM; rw [hf], ?_⟩
 have hx : Sl k (w.alloc (.cells es e')) (.slice (some ⟨w.heap.size, 0, none⟩) 1 1) [es.toList] :=
  ⟨by simp [hes], _, 1, rfl, Nat.le_refl _, .inr ⟨_, _, _, rfl, bk_alloc_at rfl _ _, by simp [hes], by simp [<- hes, List.take_of_length_le]⟩⟩
 refine Run_appM (hs.fr fr λ _ _ => id) hx hk hz hb (λ e he => by obtain rfl:=List.mem_singleton.1 he; exact hc) (by simpa using small) λ r w' h1 h2 h3 => q r w' h1 (fr.mono (λ _ h => h.elim) |>.trans h2 λ _ _ h => h) (λ b hb => ?_) _ fr
 rcases h3 b hb with h | h
 ·exact .inl h
 ·have:=fr.size; exact .inr ⟨by simp at h; omega, h.2⟩
theorem Run_for {step : List Value -> M Out} {Q : Out -> World -> Prop} {l : List Value} (n : Nat) (I : Nat -> List Value -> World -> Prop) (h : I 0 l w)
  (round : ∀ i l w, i < n -> I i l w -> Run (step l) w λ o w' => match o with | .norm l' => I (i + 1) l' w' | o => Q o w')
  (last : ∀ l w, I n l w -> Run (step l) w λ o w' => match o with | .norm _ => False | o => Q o w') : Run (loopM step l) w Q:=by
 have key : ∀ d i l w, i + d = n -> I i l w -> ∃ m r w', iterM step m l w = some (r, w') /\ Q r w':=by
  intro d
  induction d with
  | zero =>
   intro i l w hi hI
   have hi' : i = n:=by omega
   subst hi'
   obtain ⟨o, w1, e, q⟩:=last l w hI
   cases o with
   | norm l' => exact q.elim
   | exit id l' => exact ⟨1, .exit id l', w1, by simp only [iterM, M.bind, e]; rfl, q⟩
   | ret v => exact ⟨1, .ret v, w1, by simp only [iterM, M.bind, e]; rfl, q⟩
  | succ d ih =>
   intro i l w hi hI
   obtain ⟨o, w1, e, q⟩:=round i l w (by omega) hI
   cases o with
   | norm l' =>
    obtain ⟨m, r, w', hm, hq⟩:=ih (i + 1) l' w1 (by omega) q
    exact ⟨m + 1, r, w', by simp only [iterM, M.bind, e]; exact hm, hq⟩
   | exit id l' => exact ⟨1, .exit id l', w1, by simp only [iterM, M.bind, e]; rfl, q⟩
   | ret v => exact ⟨1, .ret v, w1, by simp only [iterM, M.bind, e]; rfl, q⟩
 obtain ⟨m, r, w', hm, hq⟩:=key n 0 l w (by omega) h
 exact ⟨r, w', loopM_some.2 ⟨m, hm⟩, hq⟩
end
end Go.Lift
namespace Go.Lift
set_option linter.unusedSectionVars false
set_option linter.unusedSimpArgs false
section
variable {K V : Type} [DecidableEq K] {P : Program} {kt : TypeId} {sh : EqSh} {kv : K -> Value} {vv : V -> Value} {w w' : World}
structure KeyOk (P : Program) (kt : TypeId) (sh : EqSh) (kv : K -> Value) : Prop where
 eq : ∀ a b, eqlV sh (kv a) (kv b) = some (decide (a = b))
 ok : ∀ a, keyOK P kt (kv a) = true
 bits : ∀ a, Instr.sameBits 10000 (kv a) (kv a) = true
structure MapAt (kv : K -> Value) (vv : V -> Value) (w : World) (b : Nat) (l : List (K × V)) : Prop where
 ex : ∃ (es : List MapEntry) (c : Nat), w.heap[b]? = some (.map es.toArray c) /\ es.map (λ e => (e.key, e.val)) = l.map (λ p => (kv p.1, vv p.2)) /\ (l.map (·.1)).Nodup /\ (∀ e ∈ es, e.born < c) /\ (es.map (·.born)).Nodup
theorem MapAt.nodup {b : Nat} {l : List (K × V)} (h : MapAt kv vv w b l) : (l.map (·.1)).Nodup:=by
 obtain ⟨es, c, _, _, h, _⟩:=h
 exact h
theorem MapAt.lt {b : Nat} {l : List (K × V)} (h : MapAt kv vv w b l) : b < w.heap.size:=by
 obtain ⟨es, c, h, _⟩:=h
 exact (Array.getElem?_eq_some_iff.1 h).1
theorem MapAt.fr {F : Nat -> Prop} {b : Nat} {l : List (K × V)} (h : MapAt kv vv w b l) (f : Fr F w w') (hd : ¬ F b) : MapAt kv vv w' b l:=by
 have hl:=h.lt
 obtain ⟨es, c, h1, h2⟩:=h
 exact ⟨es, c, by rw [f.block b hl hd]; exact h1, h2⟩
def getK (a : K) : List (K × V) -> Option V
 | [] => none
 | p :: l => if a = p.1 then some p.2 else getK a l
def putK (a : K) (v : V) : List (K × V) -> List (K × V)
 | [] => [(a, v)]
 | p :: l => if a = p.1 then (a, v) :: l else p :: putK a v l
def delK (a : K) : List (K × V) -> List (K × V)
 | [] => []
 | p :: l => if a = p.1 then l else p :: delK a l
theorem getK_none {a : K} : ∀ {l : List (K × V)}, getK a l = none ↔ ∀ p ∈ l, a ≠ p.1
 | [] => by simp [getK]
 | p :: l => by
  have ih:=getK_none (a:=a) (l:=l)
  by_cases h : a = p.1
  ·simp [getK, h]
  ·simp only [getK, h, if_false, ih, List.forall_mem_cons]
   simp [h]
theorem getK_mem {a : K} {v : V} : ∀ {l : List (K × V)}, getK a l = some v -> (a, v) ∈ l
 | [], h => by simp [getK] at h
 | p :: l, h => by
  by_cases hp : a = p.1
  ·simp only [getK, hp, if_true, Option.some.injEq] at h
   subst h; subst hp
   simp
  ·simp only [getK, hp, if_false] at h
   exact List.mem_cons_of_mem _ (getK_mem h)
theorem getK_of_mem {a : K} {v : V} : ∀ {l : List (K × V)}, (l.map (·.1)).Nodup -> (a, v) ∈ l -> getK a l = some v
 | [], _, h => by simp at h
 | p :: l, hn, h => by
  simp only [List.map_cons, List.nodup_cons] at hn
  rcases List.mem_cons.1 h with rfl | h
  ·simp [getK]
  ·have : ¬ a = p.1:=λ he => hn.1 (List.mem_map.2 ⟨(a, v), h, he⟩)
   simp only [getK, this, if_false]
   exact getK_of_mem hn.2 h
theorem keys_putK {a : K} {v : V} : ∀ {l : List (K × V)} {x : K}, x ∈ (putK a v l).map (·.1) ↔ x = a ∨ x ∈ l.map (·.1)
 | [], x => by simp [putK]
 | p :: l, x => by
  by_cases h : a = p.1
  ·simp [putK, h]
  ·have ih:=keys_putK (a:=a) (v:=v) (l:=l) (x:=x)
   simp only [putK, h, if_false, List.map_cons, List.mem_cons, ih]
   constructor
   ·rintro (h | h | h) <;> simp [h]
   ·rintro (h | h | h) <;> simp [h]
theorem nodup_putK {a : K} {v : V} : ∀ {l : List (K × V)}, (l.map (·.1)).Nodup -> ((putK a v l).map (·.1)).Nodup
 | [], _ => by simp [putK]
 | p :: l, h => by
  by_cases hp : a = p.1
  ·simpa [putK, hp] using h
  ·simp only [List.map_cons, List.nodup_cons] at h
   simp only [putK, hp, if_false, List.map_cons, List.nodup_cons, keys_putK]
   exact ⟨λ hx => hx.elim (λ he => hp he.symm) h.1, nodup_putK h.2⟩
theorem sub_delK {a : K} : ∀ {l : List (K × V)}, (delK a l).Sublist l
 | [] => by simp [delK]
 | p :: l => by
  by_cases hp : a = p.1
  ·simp [delK, hp]
  ·simp only [delK, hp, if_false]
   exact sub_delK.cons_cons p
theorem nodup_delK {a : K} {l : List (K × V)} (h : (l.map (·.1)).Nodup) : ((delK a l).map (·.1)).Nodup:=(sub_delK.map _).nodup h
theorem getK_putK {a x : K} {v : V} : ∀ {l : List (K × V)}, getK x (putK a v l) = if x = a then some v else getK x l
 | [] => by by_cases h : x = a <;> simp [putK, getK, h]
 | p :: l => by
  by_cases hp : a = p.1
  ·by_cases h : x = a
   ·simp [putK, getK, hp, h]
   ·have : ¬ x = p.1:=by rw [<- hp]; exact h
    simp only [putK, hp, if_true, getK, this, if_false]
  ·have ih:=getK_putK (a:=a) (x:=x) (v:=v) (l:=l)
   simp only [putK, hp, if_false, getK, ih]
   by_cases h : x = p.1
   ·have : ¬ x = a:=by rw [h]; exact λ he => hp he.symm
    simp [h, this]
    intro he
    exact absurd he.symm hp
   ·simp [h]
theorem getK_delK {a x : K} : ∀ {l : List (K × V)}, (l.map (·.1)).Nodup -> getK x (delK a l) = if x = a then none else getK x l
 | [], _ => by simp [delK, getK]
 | p :: l, hn => by
  simp only [List.map_cons, List.nodup_cons] at hn
  by_cases hp : a = p.1
  ·by_cases h : x = a
   ·simp only [delK, hp, if_true, getK]
    rw [<- hp]
    simp only [h, if_true]
    exact getK_none.2 λ q hq he => hn.1 (List.mem_map.2 ⟨q, hq, by rw [<- he, hp]⟩)
   ·have : ¬ x = p.1:=by rw [<- hp]; exact h
    simp only [delK, hp, if_true, getK, this, if_false]
  ·have ih:=getK_delK (a:=a) (x:=x) (l:=l) hn.2
   simp only [delK, hp, if_false, getK, ih]
   by_cases h : x = p.1
   ·have : ¬ x = a:=by rw [h]; exact λ he => hp he.symm
    simp [h, this]
    intro he
    exact absurd he.symm hp
   ·simp [h]
theorem findE_run (ko : KeyOk P kt sh kv) (a : K) : ∀ {es : List MapEntry} {l : List (K × V)} (i : Nat), es.map (λ e => (e.key, e.val)) = l.map (λ p => (kv p.1, vv p.2)) ->
  (∃ j v, findE sh (kv a) es i = some (some (i + j, vv v)) /\ getK a l = some v /\ j < l.length /\ l[j]? = some (a, v) /\ (∀ x, putK a x l = l.set j (a, x)) /\ delK a l = l.eraseIdx j) ∨ (findE sh (kv a) es i = some none /\ getK a l = none /\ (∀ x, putK a x l = l ++ [(a, x)]) /\ delK a l = l)
 | [], [], i, _ => .inr ⟨rfl, rfl, λ _ => rfl, rfl⟩
 | e :: es, [], i, h => by simp at h
 | [], p :: l, i, h => by simp at h
 | e :: es, p :: l, i, h => by
  simp only [List.map_cons, List.cons.injEq, Prod.mk.injEq] at h
  obtain ⟨⟨h1, h2⟩, h3⟩:=h
  have he:=ko.eq a p.1
  rw [<- h1] at he
  by_cases hp : a = p.1
  ·rw [decide_eq_true hp] at he
   refine .inl ⟨0, p.2, ?_, by simp [getK, hp], by simp, ?_, λ x => ?_, ?_⟩
   ·simp only [findE, he]; rw [h2]; rfl
   ·simp only [List.getElem?_cons_zero, Option.some.injEq]; rw [hp]
   ·simp [putK, hp]
   ·simp [delK, hp]
  ·rw [decide_eq_false hp] at he
   rcases findE_run ko a (i + 1) h3 with ⟨j, v, g1, g2, g3, g4, g5, g6⟩ | ⟨g1, g2, g3, g4⟩
   ·refine .inl ⟨j + 1, v, ?_, ?_, ?_, ?_, λ x => ?_, ?_⟩
    ·simp only [findE, he]; rw [g1]; congr 3; omega
    ·simp only [getK, hp, if_false]; exact g2
    ·simp; exact g3
    ·simpa using g4
    ·simp [putK, hp, g5 x]
    ·simp [delK, hp, g6]
   ·refine .inr ⟨?_, ?_, λ x => ?_, ?_⟩
    ·simp only [findE, he]; exact g1
    ·simp only [getK, hp, if_false]; exact g2
    ·simp [putK, hp, g3]
    ·simp [delK, hp, g4]
theorem MapAt.look (ko : KeyOk P kt sh kv) {b : Nat} {l : List (K × V)} (h : MapAt kv vv w b l) (a : K) (zero : Value) (ok : Bool) : lookV P kt sh zero ok (.map (some b)) (kv a) w = some (if ok then .tuple #[((getK a l).map vv).getD zero, .bool (getK a l).isSome] else ((getK a l).map vv).getD zero):=by
 obtain ⟨es, c, h1, h2, _⟩:=h
 have hm : mp w b = some (es, c):=by unfold mp; rw [h1]
 unfold lookV
 simp only [hm, ko.ok, cond_true]
 rcases findE_run ko a 0 h2 with ⟨j, v, g1, g2, _⟩ | ⟨g1, g2, _⟩
 ·rw [g1, g2]; rfl
 ·rw [g1, g2]; rfl
theorem heap_stMp {b : Nat} {es : List MapEntry} {c : Nat} (hb : b < w.heap.size) : (stMp w b es c).heap[b]? = some (.map es.toArray c):=by
 simp [stMp, hb]
theorem Fr.stMp {F : Nat -> Prop} {w1 : World} (h : Fr F w w1) {b : Nat} (hb : F b ∨ w.heap.size <= b) (es : List MapEntry) (c : Nat) : Fr F w (Go.Lift.stMp w1 b es c):=by
 refine ⟨h.os, h.tape, h.output, by have:=h.size; simp [Go.Lift.stMp]; omega, λ b' hb' hf => ?_⟩
 have hne : b ≠ b':=by rintro rfl; rcases hb with hb | hb; exact hf hb; omega
 simp only [Go.Lift.stMp, Array.getElem?_setIfInBounds]
 rw [if_neg hne]
 exact h.block b' hb' hf
theorem sub_born {es es' : List MapEntry} (h : es'.Sublist es) {c : Nat} (h1 : ∀ e ∈ es, e.born < c) (h2 : (es.map (·.born)).Nodup) : (∀ e ∈ es', e.born < c) /\ (es'.map (·.born)).Nodup:=⟨λ e he => h1 e (h.mem he), (h.map _).nodup h2⟩
theorem Run_updM (ko : KeyOk P kt sh kv) {b : Nat} {l : List (K × V)} (h : MapAt kv vv w b l) (a : K) (v : V) {Q : Value -> World -> Prop} (q : ∀ w', MapAt kv vv w' b (putK a v l) -> Fr (λ c => c = b) w w' -> w'.heap.size = w.heap.size -> Q undef w') : Run (updM P kt sh (.map (some b)) (kv a) (vv v)) w Q:=by
 have hb:=h.lt
 obtain ⟨es, c, h1, h2, h3, h4, h5⟩:=h
 have hm : mp w b = some (es, c):=by unfold mp; rw [h1]
 unfold Run updM
 simp only [hm, ko.ok, cond_true]
 rcases findE_run ko a 0 h2 with ⟨j, x, g1, g2, g3, g4, g5, g6⟩ | ⟨g1, g2, g3, g4⟩
 ·rw [g1]
  simp only [Nat.zero_add]
  have hlen : es.length = l.length:=by simpa using congrArg List.length h2
  have hej : ∃ e, es[j]? = some e /\ e.key = kv a:=by
   have hj : j < es.length:=by omega
   refine ⟨es[j], List.getElem?_eq_getElem hj, ?_⟩
   have:=congrArg (λ z => z[j]?) h2
   simp only [List.getElem?_map, g4, List.getElem?_eq_getElem hj, Option.map_some, Option.some.injEq, Prod.mk.injEq] at this
   exact this.1
  obtain ⟨e, he, hk⟩:=hej
  rw [he]
  simp only [hk, ko.bits, cond_true]
  refine ⟨_, _, rfl, q _ ⟨_, c, heap_stMp hb, ?_, nodup_putK h3, ?_, ?_⟩ ((Fr.refl (λ c => c = b) w).stMp (.inl rfl) _ _) (by simp [stMp])⟩
  ·rw [g5 v, List.map_set, h2, List.map_set]
  ·intro y hy
   rcases List.mem_or_eq_of_mem_set hy with hy | rfl
   ·exact h4 y hy
   ·exact h4 e (List.mem_of_getElem? he)
  ·rw [List.map_set]
   have : (es.map (·.born))[j]? = some e.born:=by simp [he]
   have hs : (es.map (·.born)).set j e.born = es.map (·.born):=by
    apply List.ext_getElem?
    intro i
    by_cases hi : j = i
    ·subst hi
     rw [List.getElem?_set_self (by simp; omega), this]
    ·rw [List.getElem?_set_ne hi]
   show ((es.map (·.born)).set j e.born).Nodup
   rw [hs]
   exact h5
 ·rw [g1]
  refine ⟨_, _, rfl, q _ ⟨_, c + 1, heap_stMp hb, ?_, nodup_putK h3, ?_, ?_⟩ ((Fr.refl (λ c => c = b) w).stMp (.inl rfl) _ _) (by simp [stMp])⟩
  ·rw [g3 v]; simp [h2]
  ·intro y hy
   rcases List.mem_append.1 hy with hy | hy
   ·have:=h4 y hy; omega
   ·simp at hy; subst hy; simp
  ·rw [List.map_append, List.nodup_append]
   refine ⟨h5, by simp, λ x hx y hy => ?_⟩
   simp at hy
   obtain ⟨e, he, rfl⟩:=List.mem_map.1 hx
   have:=h4 e he
   omega
theorem map_eraseIdx' {α β : Type} (f : α -> β) : ∀ (l : List α) (j : Nat), (l.eraseIdx j).map f = (l.map f).eraseIdx j
 | [], j => by simp
 | x :: l, 0 => rfl
 | x :: l, j + 1 => by simp [map_eraseIdx' f l j]
theorem Run_delM (ko : KeyOk P kt sh kv) {b : Nat} {l : List (K × V)} (h : MapAt kv vv w b l) (a : K) {Q : Value -> World -> Prop} (q : ∀ w', MapAt kv vv w' b (delK a l) -> Fr (λ c => c = b) w w' -> w'.heap.size = w.heap.size -> Q (.tuple #[]) w') : Run (delM P kt sh (.map (some b)) (kv a)) w Q:=by
 have hb:=h.lt
 obtain ⟨es, c, h1, h2, h3, h4, h5⟩:=h
 have hm : mp w b = some (es, c):=by unfold mp; rw [h1]
 unfold Run delM
 simp only [hm, ko.ok, cond_true]
 rcases findE_run ko a 0 h2 with ⟨j, x, g1, g2, g3, g4, g5, g6⟩ | ⟨g1, g2, g3, g4⟩
 ·rw [g1]
  simp only [Nat.zero_add]
  obtain ⟨p1, p2⟩:=sub_born (List.eraseIdx_sublist es j) h4 h5
  refine ⟨_, _, rfl, q _ ⟨_, c, heap_stMp hb, ?_, nodup_delK h3, p1, p2⟩ ((Fr.refl (λ c => c = b) w).stMp (.inl rfl) _ _) (by simp [stMp])⟩
  rw [g6, map_eraseIdx', h2, map_eraseIdx']
 ·rw [g1]
  refine ⟨_, _, rfl, q _ ⟨_, c, heap_stMp hb, by rw [g4]; exact h2, by rw [g4]; exact h3, h4, h5⟩ ((Fr.refl (λ c => c = b) w).stMp (.inl rfl) _ _) (by simp [stMp])⟩
theorem Run_mkmM {Q : Value -> World -> Prop} (q : ∀ w' b, MapAt kv vv w' b [] -> Fr (λ _ => False) w w' -> w.heap.size <= b -> Q (.map (some b)) w') : Run mkmM w Q:=by
 refine ⟨_, _, rfl, q _ _ ⟨[], 0, ?_, rfl, by simp, by simp, by simp⟩ ((Fr.refl _ _).alloc _) (Nat.le_refl _)⟩
 show (w.heap.push _)[w.heap.size]? = _
 simp
structure ItAt (kv : K -> Value) (vv : V -> Value) (w : World) (r b : Nat) (l : List (K × V)) (js : List Nat) : Prop where
 ne : r ≠ b
 nd : js.Nodup
 lt : ∀ j ∈ js, j < l.length
 ex : ∃ (es : List MapEntry) (c : Nat), w.heap[b]? = some (.map es.toArray c) /\ w.heap[r]? = some (.mapIter (some b) c (js.filterMap λ j => es[j]?.map (·.born)).toArray c) /\ es.map (λ e => (e.key, e.val)) = l.map (λ p => (kv p.1, vv p.2)) /\ (l.map (·.1)).Nodup /\ (∀ e ∈ es, e.born < c) /\ (es.map (·.born)).Nodup
theorem ItAt.map {r b : Nat} {l : List (K × V)} {js : List Nat} (h : ItAt kv vv w r b l js) : MapAt kv vv w b l:=by
 obtain ⟨_, _, _, es, c, h1, _, h2, h3, h4, h5⟩:=h
 exact ⟨es, c, h1, h2, h3, h4, h5⟩
theorem ItAt.fr {F : Nat -> Prop} {r b : Nat} {l : List (K × V)} {js : List Nat} (h : ItAt kv vv w r b l js) (f : Fr F w w') (hb : ¬ F b) (hr : ¬ F r) : ItAt kv vv w' r b l js:=by
 obtain ⟨ne, nd, lt, es, c, h1, h2, h3⟩:=h
 exact ⟨ne, nd, lt, es, c, by rw [f.block b (Array.getElem?_eq_some_iff.1 h1).1 hb]; exact h1, by rw [f.block r (Array.getElem?_eq_some_iff.1 h2).1 hr]; exact h2, h3⟩
theorem Run_rngM {b : Nat} {l : List (K × V)} (h : MapAt kv vv w b l) {Q : Value -> World -> Prop} (q : ∀ w' r, ItAt kv vv w' r b l [] -> Fr (λ _ => False) w w' -> w.heap.size <= r -> Q (.pointer (some ⟨r, 0, none⟩)) w') : Run (rngM (.map (some b))) w Q:=by
 have hb:=h.lt
 obtain ⟨es, c, h1, h2, h3, h4, h5⟩:=h
 unfold Run rngM
 simp only [h1]
 refine ⟨_, _, rfl, q _ _ ⟨by omega, by simp, by simp, es, c, ?_, ?_, h2, h3, h4, h5⟩ ((Fr.refl _ _).alloc _) (Nat.le_refl _)⟩
 ·show (w.heap.push _)[b]? = _
  rw [Array.getElem?_push, if_neg (by omega)]
  exact h1
 ·show (w.heap.push _)[w.heap.size]? = _
  simp
theorem nodup_inj : ∀ {l : List Nat} {i j x : Nat}, l.Nodup -> l[i]? = some x -> l[j]? = some x -> i = j
 | [], i, j, x, _, h, _ => by simp at h
 | y :: l, 0, 0, x, _, _, _ => rfl
 | y :: l, 0, j + 1, x, hn, h, h' => by
  simp only [List.getElem?_cons_zero, Option.some.injEq] at h
  simp only [List.getElem?_cons_succ] at h'
  subst h
  exact absurd (List.mem_of_getElem? h') (List.nodup_cons.1 hn).1
 | y :: l, i + 1, 0, x, hn, h, h' => by
  simp only [List.getElem?_cons_zero, Option.some.injEq] at h'
  simp only [List.getElem?_cons_succ] at h
  subst h'
  exact absurd (List.mem_of_getElem? h) (List.nodup_cons.1 hn).1
 | y :: l, i + 1, j + 1, x, hn, h, h' => by
  simp only [List.getElem?_cons_succ] at h h'
  rw [nodup_inj (List.nodup_cons.1 hn).2 h h']
theorem nextQ_lt {n : Nat} (h : 0 < n) : (nextQ n w).1 < n:=by
 unfold nextQ
 split
 ·simpa using h
 ·exact Nat.mod_lt _ h
theorem nextQ_fr {n : Nat} : Fr (λ _ => False) w (nextQ n w).2:=by
 unfold nextQ
 split
 ·exact Fr.refl _ _
 ·exact (Fr.refl _ _).drew
theorem Run_nxtM {r b : Nat} {l : List (K × V)} {js : List Nat} (h : ItAt kv vv w r b l js) {Q : Value -> World -> Prop}
  (more : ∀ j p, l[j]? = some p -> j ∉ js -> ∀ w', ItAt kv vv w' r b l (js ++ [j]) -> Fr (λ c => c = r) w w' -> w'.heap.size = w.heap.size -> Q (.tuple #[.bool true, kv p.1, vv p.2]) w')
  (over : js.Perm (List.range l.length) -> ∀ w', ItAt kv vv w' r b l js -> Fr (λ _ => False) w w' -> w'.heap.size = w.heap.size -> Q (.tuple #[.bool false]) w') : Run (nxtM (.pointer (some ⟨r, 0, none⟩))) w Q:=by
 have hh:=h
 obtain ⟨ne, nd, lt, es, c, h1, h2, h3, h4, h5, h6⟩:=h
 have hlen : es.length = l.length:=by simpa using congrArg List.length h3
 obtain ⟨seen, hseen⟩ : ∃ seen : List Nat, seen = js.filterMap λ j => es[j]?.map (·.born):=⟨_, rfl⟩
 rw [<- hseen] at h2
 have hs : ∀ x, x ∈ seen ↔ ∃ j ∈ js, ∃ e, es[j]? = some e /\ e.born = x:=by
  intro x
  rw [hseen]
  simp only [List.mem_filterMap, Option.map_eq_some_iff]
 have hinj : ∀ (i j : Nat) (e e' : MapEntry), es[i]? = some e -> es[j]? = some e' -> e.born = e'.born -> i = j:=by
  intro i j e e' hi hj he
  have a1 : (es.map (·.born))[i]? = some e.born:=by simp [hi]
  have a2 : (es.map (·.born))[j]? = some e.born:=by simp [hj, he]
  exact nodup_inj h6 a1 a2
 obtain ⟨left, hleft⟩ : ∃ left : Array MapEntry, left = es.toArray.filter λ e => !seen.toArray.contains e.born:=⟨_, rfl⟩
 have hmem : ∀ e, e ∈ left ↔ e ∈ es /\ e.born ∉ seen:=by
  intro e
  rw [hleft]
  simp
 have hold : left.filter (·.born < c) = left:=by
  rw [Array.filter_eq_self]
  intro e he
  simpa using h5 e ((hmem e).1 he).1
 have hnew : left.filter (·.born >= c) = #[]:=by
  rw [Array.filter_eq_empty_iff]
  intro e he
  have:=h5 e ((hmem e).1 he).1
  simp; omega
 have hN : nextC es.toArray c seen.toArray = (if left.isEmpty then #[none] else #[]) ++ left.map some:=by
  unfold nextC
  simp only [<- hleft, hold, hnew, Array.append_empty]
 have hguard : (!seen.toArray.isEmpty && !es.toArray.isEmpty && es.toArray.all (·.born >= c)) = false:=by
  cases hes : es with
  | nil => simp
  | cons e es' =>
   have : e.born < c:=h5 e (by rw [hes]; simp)
   simp
   intro _
   omega
 unfold Run nxtM
 simp only [h2, h1, hguard]
 rw [if_neg (by simp)]
 by_cases hem : left = #[]
 ·have hN' : nextC es.toArray c seen.toArray = #[none]:=by rw [hN, hem]; simp
  have hq : (nextQ 1 w) = (0, w):=rfl
  simp only [hN', List.size_toArray, List.length_cons, List.length_nil, Nat.zero_add]
  rw [hq]
  refine ⟨_, _, rfl, over ?_ _ hh (Fr.refl _ _) rfl⟩
  rw [List.perm_ext_iff_of_nodup nd List.nodup_range]
  intro j
  rw [List.mem_range]
  refine ⟨lt j, λ hj => ?_⟩
  have hj' : j < es.length:=by omega
  by_cases hjs : j ∈ js
  ·exact hjs
  ·have : es[j] ∈ left:=(hmem _).2 ⟨List.getElem_mem hj', λ hx => by
    obtain ⟨i, hi, e, he, heq⟩:=(hs _).1 hx
    have:=hinj i j e es[j] he (List.getElem?_eq_getElem hj') heq
    exact hjs (this ▸ hi)⟩
   rw [hem] at this
   simp at this
 ·have hemp : left.isEmpty = false:=by simpa using hem
  have hN' : nextC es.toArray c seen.toArray = left.map some:=by rw [hN, hemp]; simp
  have hpos : 0 < left.size:=by
   rcases Nat.eq_zero_or_pos left.size with h | h
   ·exact absurd (Array.eq_empty_of_size_eq_zero h) hem
   ·exact h
  simp only [hN', Array.size_map]
  have hq:=nextQ_lt (w:=w) hpos
  have hfr:=nextQ_fr (w:=w) (n:=left.size)
  have hhp:=nextQ_heap left.size w
  generalize nextQ left.size w = q at hq hfr hhp
  have hge : (left.map some)[q.1]? = some (some left[q.1]):=by simp [hq]
  rw [hge]
  have he:=(hmem left[q.1]).1 (Array.getElem_mem hq)
  generalize left[q.1] = e at he
  obtain ⟨he1, he2⟩:=he
  obtain ⟨j, hj⟩:=List.getElem?_of_mem he1
  have hjl:=(List.getElem?_eq_some_iff.1 hj).1
  have hjs : j ∉ js:=λ hjs => he2 ((hs _).2 ⟨j, hjs, e, hj, rfl⟩)
  have hp : ∃ p, l[j]? = some p /\ e.key = kv p.1 /\ e.val = vv p.2:=by
   refine ⟨l[j]'(by omega), List.getElem?_eq_getElem _, ?_⟩
   have:=congrArg (λ z => z[j]?) h3
   simp only [List.getElem?_map, hj, List.getElem?_eq_getElem (show j < l.length by omega), Option.map_some, Option.some.injEq, Prod.mk.injEq] at this
   exact this
  obtain ⟨p, hp1, hp2, hp3⟩:=hp
  have hrl:=(Array.getElem?_eq_some_iff.1 h2).1
  refine ⟨_, _, rfl, ?_⟩
  rw [hp2, hp3]
  refine more j p hp1 hjs _ ⟨ne, ?_, ?_, es, c, ?_, ?_, h3, h4, h5, h6⟩ ⟨hfr.os, hfr.tape, hfr.output, ?_, ?_⟩ ?_
  ·rw [List.nodup_append]
   exact ⟨nd, by simp, λ a ha b hb hab => by simp at hb; subst hb; exact hjs (hab ▸ ha)⟩
  ·intro i hi
   rcases List.mem_append.1 hi with hi | hi
   ·exact lt i hi
   ·simp at hi; subst hi; omega
  ·show (q.2.heap.setIfInBounds r _)[b]? = _
   rw [hhp, Array.getElem?_setIfInBounds, if_neg ne]
   exact h1
  ·show (q.2.heap.setIfInBounds r _)[r]? = _
   rw [hhp, Array.getElem?_setIfInBounds, if_pos rfl, if_pos hrl, hseen]
   simp [List.filterMap_append, hj]
  ·show _ <= (q.2.heap.setIfInBounds r _).size
   rw [hhp]; simp
  ·intro b' hb' hf
   show (q.2.heap.setIfInBounds r _)[b']? = _
   rw [hhp, Array.getElem?_setIfInBounds, if_neg λ h => hf h.symm]
  ·show (q.2.heap.setIfInBounds r _).size = _
   rw [hhp]; simp
theorem range_all {α : Type} : ∀ (l : List α), (List.range l.length).filterMap (λ j => l[j]?) = l
 | [] => by simp
 | x :: l => by
  have ih:=range_all l
  rw [List.length_cons, List.range_succ_eq_map, List.filterMap_cons]
  simp only [List.getElem?_cons_zero, List.filterMap_map]
  congr 1
theorem perm_all {α : Type} {l : List α} {js : List Nat} (h : js.Perm (List.range l.length)) : (js.filterMap λ j => l[j]?).Perm l:=by
 have h1:=h.filterMap λ j => l[j]?
 have h2:=range_all l
 rwa [h2] at h1
theorem nodup_lt_len : ∀ {n : Nat} {js : List Nat}, js.Nodup -> (∀ j ∈ js, j < n) -> js.length <= n
 | 0, js, _, hl => by
  cases js with
  | nil => simp
  | cons j js => exact absurd (hl j (by simp)) (Nat.not_lt_zero _)
 | n + 1, js, hn, hl => by
  by_cases hm : n ∈ js
  ·have h1:=nodup_lt_len (n:=n) (js:=js.erase n) (hn.erase n) λ j hj => by
    have:=(hn.mem_erase_iff).1 hj
    have:=hl j this.2
    omega
   have h2:=List.length_erase_of_mem hm
   omega
  ·have h1:=nodup_lt_len (n:=n) (js:=js) hn λ j hj => by
    have:=hl j hj
    have : j ≠ n:=λ h => hm (h ▸ hj)
    omega
   omega
theorem Run_range {r b : Nat} {l : List (K × V)} {step : List Value -> M Out} {k : List Value -> Value -> M Out} {Q : Out -> World -> Prop} {ls : List Value} (hstep : ∀ x, step x = M.bind (nxtM (.pointer (some ⟨r, 0, none⟩))) (k x))
  (I : List Nat -> List Value -> World -> Prop) (hI : I [] ls w) (h : ItAt kv vv w r b l [])
  (more : ∀ js j p x w w', l[j]? = some p -> j ∉ js -> I js x w -> ItAt kv vv w' r b l (js ++ [j]) -> Fr (λ c => c = r) w w' -> w'.heap.size = w.heap.size ->
   Run (k x (.tuple #[.bool true, kv p.1, vv p.2])) w' λ o w'' => match o with | .norm x' => I (js ++ [j]) x' w'' /\ ItAt kv vv w'' r b l (js ++ [j]) | o => Q o w'')
  (over : ∀ js x w w', js.Perm (List.range l.length) -> I js x w -> ItAt kv vv w' r b l js -> Fr (λ _ => False) w w' -> w'.heap.size = w.heap.size ->
   Run (k x (.tuple #[.bool false])) w' λ o w'' => match o with | .norm _ => False | o => Q o w'') : Run (loopM step ls) w Q:=by
 refine Run_for l.length (λ i x w => ∃ js, js.length = i /\ I js x w /\ ItAt kv vv w r b l js) ⟨[], rfl, hI, h⟩ ?_ ?_
 ·rintro i x w1 hi ⟨js, hjs, hI, h⟩
  rw [hstep, Run_bind]
  refine Run_nxtM h (λ j p hp hj w2 h2 f2 s2 => ?_) λ hperm w2 h2 f2 s2 => ?_
  ·refine (more js j p x w1 w2 hp hj hI h2 f2 s2).mono λ o w3 ho => ?_
   cases o with
   | norm x' => exact ⟨_, by simp [hjs], ho.1, ho.2⟩
   | exit a b => exact ho
   | ret v => exact ho
  ·have:=hperm.length_eq
   rw [List.length_range] at this
   omega
 ·rintro x w1 ⟨js, hjs, hI, h⟩
  rw [hstep, Run_bind]
  refine Run_nxtM h (λ j p hp hj w2 h2 f2 s2 => ?_) λ hperm w2 h2 f2 s2 => ?_
  ·have:=nodup_lt_len h2.nd h2.lt
   simp at this
   omega
  ·refine (over js x w1 w2 hperm hI h2 f2 s2).mono λ o w3 ho => ?_
   cases o with
   | norm x' => exact ho
   | exit a b => exact ho
   | ret v => exact ho
theorem ItAt.entry {r b : Nat} {l : List (K × V)} {js : List Nat} {j : Nat} {p : K × V} (h : ItAt kv vv w r b l (js ++ [j])) (hp : l[j]? = some p) : entV (.pointer (some ⟨r, 0, none⟩)) w = some (.tuple #[kv p.1, vv p.2]):=by
 obtain ⟨ne, nd, lt, es, c, h1, h2, h3, h4, h5, h6⟩:=h
 have hlen : es.length = l.length:=by simpa using congrArg List.length h3
 have hjl:=(List.getElem?_eq_some_iff.1 hp).1
 have hej : es[j]? = some (es[j]'(by omega)):=List.getElem?_eq_getElem _
 generalize es[j]'(by omega) = e at hej
 have hkv:=congrArg (λ z => z[j]?) h3
 simp only [List.getElem?_map, hej, hp, Option.map_some, Option.some.injEq, Prod.mk.injEq] at hkv
 unfold entV
 simp only [h2]
 have hback : (js ++ [j]).filterMap (λ j => es[j]?.map (·.born)) = js.filterMap (λ j => es[j]?.map (·.born)) ++ [e.born]:=by
  simp [List.filterMap_append, hej]
 rw [hback]
 have hb : (js.filterMap (λ j => es[j]?.map (·.born)) ++ [e.born]).toArray.back? = some e.born:=by simp
 simp only [hb, h1]
 rw [if_neg (by simp)]
 have hfind : es.toArray.find? (λ x => x.born == e.born) = some e:=by
  rw [List.find?_toArray]
  rw [List.find?_eq_some_iff_getElem]
  refine ⟨by simp, j, by omega, ?_, ?_⟩
  ·have:=(List.getElem?_eq_some_iff.1 hej).2
   exact this
  ·intro i hi
   simp only [Bool.not_eq_true', beq_eq_false_iff_ne]
   intro heq
   have a1 : (es.map (·.born))[i]? = some e.born:=by
    rw [List.getElem?_map, List.getElem?_eq_getElem (by omega)]
    simp [heq]
   have a2 : (es.map (·.born))[j]? = some e.born:=by simp [hej]
   have:=nodup_inj h6 a1 a2
   omega
 rw [hfind]
 simp only [hkv.1, hkv.2]
theorem modify_last {α : Type} (f : α -> α) : ∀ (es : List α) (x : α), (es ++ [x]).modify es.length f = es ++ [f x]
 | [], x => rfl
 | e :: es, x => by simpa using modify_last f es x
structure HalfMap (kv : K -> Value) (vv : V -> Value) (w : World) (b : Nat) (l : List (K × V)) (a : K) (c : Nat) : Prop where
 ex : ∃ (es : List MapEntry) (z : Value), w.heap[b]? = some (.map (es ++ [({ key:=kv a, val:=z, born:=c } : MapEntry)]).toArray (c + 1)) /\ es.map (λ e => (e.key, e.val)) = l.map (λ p => (kv p.1, vv p.2)) /\ (l.map (·.1)).Nodup /\ getK a l = none /\ (∀ e ∈ es, e.born < c) /\ (es.map (·.born)).Nodup
theorem HalfMap.fr {F : Nat -> Prop} {b c : Nat} {l : List (K × V)} {a : K} (h : HalfMap kv vv w b l a c) (f : Fr F w w') (hd : ¬ F b) : HalfMap kv vv w' b l a c:=by
 obtain ⟨es, z, h1, h2⟩:=h
 exact ⟨es, z, by rw [f.block b (Array.getElem?_eq_some_iff.1 h1).1 hd]; exact h1, h2⟩
theorem Run_mentM (ko : KeyOk P kt sh kv) {b : Nat} {l : List (K × V)} (h : MapAt kv vv w b l) {a : K} (hno : getK a l = none) {z : Value} {Q : Value -> World -> Prop} (q : ∀ w' c, HalfMap kv vv w' b l a c -> Fr (λ c => c = b) w w' -> w'.heap.size = w.heap.size -> Q (.tuple #[z, .int .i64 (c : Nat)]) w') : Run (mentM P kt sh z (.map (some b)) (kv a)) w Q:=by
 have hb:=h.lt
 obtain ⟨es, c, h1, h2, h3, h4, h5⟩:=h
 have hm : mp w b = some (es, c):=by unfold mp; rw [h1]
 unfold Run mentM
 simp only [hm, ko.ok, cond_true]
 rcases findE_run ko a 0 h2 with ⟨j, x, g1, g2, _⟩ | ⟨g1, g2, g3, g4⟩
 ·rw [g2] at hno; cases hno
 ·rw [g1]
  exact ⟨_, _, rfl, q _ c ⟨es, z, heap_stMp hb, h2, h3, hno, h4, h5⟩ ((Fr.refl (λ c => c = b) w).stMp (.inl rfl) _ _) (by simp [stMp])⟩
theorem Run_estM {b c : Nat} {l : List (K × V)} {a : K} (h : HalfMap kv vv w b l a c) (v : V) {Q : Value -> World -> Prop} (q : ∀ w', MapAt kv vv w' b (l ++ [(a, v)]) -> Fr (λ c => c = b) w w' -> w'.heap.size = w.heap.size -> Q undef w') : Run (estM (.map (some b)) (.int .i64 (c : Nat)) (vv v)) w Q:=by
 obtain ⟨es, z, h1, h2, h3, hno, h4, h5⟩:=h
 have hb:=(Array.getElem?_eq_some_iff.1 h1).1
 have hm : mp w b = some (es ++ [({ key:=kv a, val:=z, born:=c } : MapEntry)], c + 1):=by unfold mp; rw [h1]
 have hf : (es ++ [({ key:=kv a, val:=z, born:=c } : MapEntry)]).findIdx? (λ e => (e.born : Int) == (c : Int)) = some es.length:=by
  rw [List.findIdx?_append]
  have : es.findIdx? (λ e => (e.born : Int) == (c : Int)) = none:=by
   rw [List.findIdx?_eq_none_iff]
   intro e he
   have:=h4 e he
   simp
   omega
  rw [this]
  simp
 unfold Run estM
 simp only [hm, hf]
 have hmod : (es ++ [({ key:=kv a, val:=z, born:=c } : MapEntry)]).modify es.length (λ e => { e with val:=vv v }) = es ++ [{ key:=kv a, val:=vv v, born:=c }]:=by
  exact modify_last _ es _
 refine ⟨_, _, rfl, q _ ⟨es ++ [{ key:=kv a, val:=vv v, born:=c }], c + 1, ?_, ?_, ?_, ?_, ?_⟩ ((Fr.refl (λ c => c = b) w).stMp (.inl rfl) _ _) (by simp [stMp])⟩
 ·rw [hmod]; exact heap_stMp hb
 ·simp [h2]
 ·rw [List.map_append, List.nodup_append]
  refine ⟨h3, by simp, λ x hx y hy => ?_⟩
  simp at hy
  obtain ⟨p, hp, rfl⟩:=List.mem_map.1 hx
  have:=getK_none.1 hno p hp
  rw [hy]
  exact Ne.symm this
 ·intro e he
  rcases List.mem_append.1 he with he | he
  ·have:=h4 e he; omega
  ·simp at he; subst he; simp
 ·rw [List.map_append, List.nodup_append]
  refine ⟨h5, by simp, λ x hx y hy => ?_⟩
  simp at hy
  obtain ⟨e, he, rfl⟩:=List.mem_map.1 hx
  have:=h4 e he
  omega
end
end Go.Lift
namespace Go.Proofs.YtojnickeblbgoaaGreatDoor
open Go.Lift
set_option linter.unusedSimpArgs false
set_option maxHeartbeats 2000000
def New (w w' : World) (v : Value) : Prop:=∀ b, inB v b -> w.heap.size <= b /\ b < w'.heap.size
theorem wrap_succ {n : Nat} (h : n + 1 < 9223372036854775808) : IntKind.i64.wrap ((n : Int) + 1) = ((n + 1 : Nat) : Int):=by simp [IntKind.wrap, IntKind.bits, IntKind.signed]; omega
theorem wrap_int {n : Int} (h1 : -9223372036854775808 <= n) (h2 : n <= 9223372036854775807) : IntKind.i64.wrap n = n:=by simp [IntKind.wrap, IntKind.bits, IntKind.signed]; omega
theorem ba_list (a : ByteArray) : a.toList = a.data.toList:=ByteArray.toList_eq a
theorem ba_ext {a b : ByteArray} (h : a.data.toList = b.data.toList) : a = b:=by
 rcases a with ⟨⟨a⟩⟩
 rcases b with ⟨⟨b⟩⟩
 simp at h
 subst h
 rfl
theorem ba_eq (a b : ByteArray) : (a.toList == b.toList) = decide (a = b):=by
 rw [ba_list, ba_list]
 by_cases h : a = b
 ·subst h; simp
 ·rw [decide_eq_false h]
  rw [beq_eq_false_iff_ne]
  exact λ h' => h (ba_ext h')
def okB (c : Nat) : Bool:=(decide (97 <= c) && decide (c <= 122)) || (decide (48 <= c) && decide (c <= 57)) || c == 45 || c == 95 || c == 46
def E0 : ByteArray:=ByteArray.mk #[]
def dotS : ByteArray:=ByteArray.mk #[46]
def dotsS : ByteArray:=ByteArray.mk #[46, 46]
def nameF (s : ByteArray) : Bool:=!(decide (s = E0)) && decide (s.size <= 40) && !(decide (s = dotS)) && !(decide (s = dotsS)) && s.data.toList.all λ c => okB c.toNat
theorem nameOK_run (w : World) (s : ByteArray) : Run (F.dd_nameOK (.string s)) w λ r w' => r = .bool (nameF s) /\ Fr (λ _ => False) w w':=by
 unfold F.dd_nameOK
 have e1 : ByteArray.mk #[] = E0:=rfl
 have e2 : ByteArray.mk #[46] = dotS:=rfl
 have e3 : ByteArray.mk #[46, 46] = dotsS:=rfl
 rw [e1, e2, e3]
 by_cases h1 : s = E0
 ·have : nameF s = false:=by simp [nameF, h1]
  simp [h1, ba_eq]
  rw [h1] at this
  exact ⟨this.symm, Fr.refl _ _⟩
 by_cases h2 : (40 : Int) < s.size
 ·have : nameF s = false:=by
   have : ¬ s.size <= 40:=by omega
   simp [nameF, this]
  simp [h1, h2, ba_eq, this, Fr.refl]
 by_cases h3 : s = dotS
 ·have : nameF s = false:=by simp [nameF, h3]
  have h4 : ¬ dotS = E0:=λ h => h1 (h3.trans h)
  subst h3
  simp [h4, h2, ba_eq, this, Fr.refl]
 by_cases h4 : s = dotsS
 ·have : nameF s = false:=by simp [nameF, h4]
  have h5 : ¬ dotsS = E0:=λ h => h1 (h4.trans h)
  have h6 : ¬ dotsS = dotS:=λ h => h3 (h4.trans h)
  subst h4
  simp [h5, h6, h2, ba_eq, this, Fr.refl]
 simp [h1, h2, h3, h4, ba_eq]
 have h40 : s.size <= 40:=by omega
 refine Run_sbM λ r w' hr fr _ => ?_
 have hlen:=hr.1.lenL
 have hsz : s.data.toList.length = s.size:=rfl
 simp [hlen]
 refine Run_for s.size (λ i l w'' => l = [.int .i64 i] /\ w'' = w' /\ ∀ j (c : UInt8), j < i -> s.data[j]? = some c -> okB c.toNat = true) ⟨rfl, rfl, λ j c hj => absurd hj (Nat.not_lt_zero _)⟩ ?_ ?_
 ·rintro i l w'' hi ⟨rfl, rfl, ih⟩
  have hc : s.data[i]? = some (s.data[i]'hi):=Array.getElem?_eq_getElem hi
  generalize s.data[i]'hi = c at hc
  obtain ⟨p, e1, e2⟩:=hr.1.rd1 (i:=i) (y:=.int .u8 c.toNat) (by simp [hc]) .i64
  have hw:=wrap_succ (n:=i) (by omega)
  have hi' : (i : Int) < s.size:=by omega
  simp [hi, hi', e1, e2, hw]
  have step : okB c.toNat = true -> ∀ (j : Nat) (c : UInt8), j < i + 1 -> s.data[j]? = some c -> okB c.toNat = true:=by
   intro h j c' hj hc'
   by_cases hji : j < i
   ·exact ih j c' hji hc'
   ·obtain rfl : j = i:=by omega
    rw [hc] at hc'; cases hc'
    exact h
  have bad : okB c.toNat = false -> nameF s = false:=λ h => by
   have : s.data.toList.all (λ c => okB c.toNat) = false:=by
    rw [List.all_eq_false]
    exact ⟨c, by simpa using Array.mem_of_getElem? hc, by simp [h]⟩
   simp only [nameF, this, Bool.and_false]
  repeat' ((first | refine Run_guard (λ h => ?_) (λ h => ?_) | refine Run_cond (λ h => ?_) (λ h => ?_)) <;> have h':=h <;> simp only [decide_eq_true_eq, decide_eq_false_iff_not, beq_iff_eq, beq_eq_false_iff_ne, ne_eq, Bool.not_eq_true', Bool.not_eq_false'] at h' <;> simp [*])
  all_goals try first
   | exact bad (by simp [okB]; omega)
   | exact step (by simp [okB]; omega)
   | (exfalso; omega)
 ·rintro l w'' ⟨rfl, rfl, ih⟩
  have hall : s.data.toList.all (λ c => okB c.toNat) = true:=by
   rw [List.all_eq_true]
   intro c hc
   obtain ⟨j, hj⟩:=Array.getElem?_of_mem (show c ∈ s.data by simpa using hc)
   exact ih j c (Array.getElem?_eq_some_iff.1 hj).1 hj
  have : nameF s = true:=by simp only [nameF, hall]; simp [h1, h3, h4, h40]
  simp [this]
  exact fr
def slash : ByteArray:=ByteArray.mk #[47]
def partsF (s : ByteArray) : List ByteArray:=Lib.splitB slash 0 (Lib.countB s slash) s
def parseF (s : ByteArray) : Option (List ByteArray):=if s = E0 then some [] else if 8 <= Lib.countByte s.data.toList 47 then none else if (partsF s).all nameF then some (partsF s) else none
theorem parse_run {w : World} {m : Int} (s : ByteArray) (hs : s.size < 4294967281) (hm : bk w 0 = some [.int .i64 m]) :
  Run (F.dd_parse (.string s)) w λ r w' => ∃ v, r = .tuple #[v, .bool (parseF s).isSome] /\ Fr (λ _ => False) w w' /\ ∀ names, parseF s = some names -> Sl 1 w' v (names.map λ x => [.string x]) /\ New w w' v:=by
 unfold F.dd_parse
 have e1 : ByteArray.mk #[] = E0:=rfl
 rw [e1]
 by_cases h1 : s = E0
 ·subst h1
  have : parseF E0 = some []:=by simp [parseF]
  simp [ba_eq, this]
  exact ⟨Fr.refl _ _, Sl.nil _ _, λ c hc => hc.elim⟩
 simp only [binV_str, strBin_eql, ba_eq, h1, decide_false, Run_bindO_some, Run_condM_false, Run_bind]
 have hcount : Run (F.strings_Count (.string s) (.string (ByteArray.mk #[47]))) w λ r w' => r = .int .i64 (Lib.countByte s.data.toList 47 : Nat) /\ w' = w:=⟨_, _, rfl, rfl, rfl⟩
 refine hcount.mono ?_
 rintro _ w0 ⟨rfl, hw0⟩
 rw [hw0]
 clear hw0 w0
 by_cases h2 : 8 <= Lib.countByte s.data.toList 47
 ·have : parseF s = none:=by simp [parseF, h1, h2]
  have h2' : (8 : Int) <= (Lib.countByte s.data.toList 47 : Nat):=by omega
  simp [h2', this, Fr.refl]
 have h2' : ¬ ((Lib.countByte s.data.toList 47 : Nat) : Int) >= 8:=by omega
 simp only [binV_int, intBin_geq, h2', decide_false, Run_bindO_some, Run_condM_false, Run_bind]
 have hsl : ByteArray.mk #[47] = slash:=rfl
 rw [hsl]
 have hcell : w.cell? ⟨0, 0, none⟩ = some (.int .i64 m):=by
  obtain ⟨c, e, k, hb, hl⟩:=bk_cells hm
  unfold World.cell?
  rw [hb]
  have : c.toList = [.int .i64 m]:=hl.symm ▸ rfl
  simp
  rw [<- Array.getElem?_toList, this]
  rfl
 have h47 : (1 : Nat) <= slash.size:=by decide
 have hlen : (partsF s).length = Lib.countB s slash + 1:=Lib.splitB_all slash h47 0 _ s rfl
 have hle:=Lib.countB_le slash h47 s.size s (Nat.le_refl _)
 have hsplit : Run (F.strings_Split (.string s) (.string slash)) w λ r w' => r = .slice (some ⟨w.heap.size, 0, none⟩) (Lib.countB s slash + 1) (Lib.countB s slash + 1) /\ w' = w.alloc (.cells ((partsF s).map Value.string).toArray 9):=by
  refine ⟨_, _, ?_, rfl, rfl⟩
  unfold F.strings_Split
  simp only
  rw [if_pos ⟨hs, h47, m, hcell⟩]
  rfl
 refine hsplit.mono ?_
 rintro _ w1 ⟨rfl, hw1⟩
 have f1 : Fr (λ _ => False) w w1:=by rw [hw1]; exact (Fr.refl _ _).alloc _
 have hv : Sl 1 w1 (.slice (some ⟨w.heap.size, 0, none⟩) (Lib.countB s slash + 1) (Lib.countB s slash + 1)) ((partsF s).map λ x => [.string x]):=by
  refine ⟨by simp, some ⟨w.heap.size, 0, none⟩, Lib.countB s slash + 1, by rw [List.length_map, hlen], by rw [List.length_map, hlen]; exact Nat.le_refl _, .inr ⟨w.heap.size, 0, (partsF s).map Value.string, rfl, ?_, by simp [hlen], ?_⟩⟩
  ·rw [hw1]
   have:=bk_alloc_at (w:=w) rfl ((partsF s).map Value.string).toArray 9
   simpa using this
  ·have : ∀ l : List ByteArray, (l.map λ x => [Value.string x]).flatten = l.map Value.string:=by
    intro l
    induction l with
    | nil => rfl
    | cons x l ih => simp [ih]
   rw [this, List.drop_zero, List.length_map, Nat.mul_one, List.take_of_length_le (by simp)]
 have hnew : New w w1 (.slice (some ⟨w.heap.size, 0, none⟩) (Lib.countB s slash + 1) (Lib.countB s slash + 1)):=by
  intro b hb
  simp only [inB_slice] at hb
  subst hb
  rw [hw1]
  simp
 clear hw1 hsplit
 generalize Value.slice (some ⟨w.heap.size, 0, none⟩) (Lib.countB s slash + 1) (Lib.countB s slash + 1) = v at hv hnew
 have hvl:=hv.lenL
 rw [List.length_map] at hvl
 simp only [hvl, Run_bindO_some, Run_bind]
 refine Run_for (partsF s).length (λ i l w' => l = [.int .i64 i] /\ Fr (λ _ => False) w1 w' /\ ∀ j x, j < i -> (partsF s)[j]? = some x -> nameF x = true) ⟨rfl, Fr.refl _ _, λ j x hj => absurd hj (Nat.not_lt_zero _)⟩ ?_ ?_
 ·rintro i l w2 hi ⟨rfl, f2, ih⟩
  have ei : (partsF s)[i]? = some (partsF s)[i]:=List.getElem?_eq_getElem hi
  generalize (partsF s)[i] = x at ei
  obtain ⟨p, p1, p2⟩:=(hv.fr0 f2).rd1 (i:=i) (y:=.string x) (by simp [ei]) .i64
  have wi:=wrap_succ (n:=i) (by omega)
  have hi' : (i : Int) < (partsF s).length:=by omega
  simp [hi, hi', p1, p2]
  refine (nameOK_run w2 x).mono ?_
  rintro _ w3 ⟨rfl, f3⟩
  have f13 : Fr (λ _ => False) w1 w3:=f2.trans f3 λ _ _ => id
  cases hx : nameF x with
  | false =>
   have : parseF s = none:=by
    have : (partsF s).all nameF = false:=by
     rw [List.all_eq_false]
     exact ⟨x, List.mem_of_getElem? ei, by simp [hx]⟩
    simp [parseF, h1, h2, this]
   simp [this]
   exact f1.trans f13 λ _ _ => id
  | true =>
   simp [wi]
   refine ⟨f13, λ j y hj hy => ?_⟩
   by_cases hji : j < i
   ·exact ih j y hji hy
   ·obtain rfl : j = i:=by omega
    rw [ei] at hy; cases hy
    exact hx
 ·rintro l w2 ⟨rfl, f2, ih⟩
  have hall : (partsF s).all nameF = true:=by
   rw [List.all_eq_true]
   intro x hx
   obtain ⟨j, hj⟩:=List.getElem?_of_mem hx
   exact ih j x (List.getElem?_eq_some_iff.1 hj).1 hj
  have : parseF s = some (partsF s):=by simp only [parseF, h1, if_false, h2, hall, if_true]
  simp [this]
  exact ⟨f1.trans f2 λ _ _ => id, hv.fr0 f2, λ b hb => ⟨(hnew b hb).1, Nat.lt_of_lt_of_le (hnew b hb).2 f2.size⟩⟩
abbrev Slt:=Int × ByteArray
def slv (s : Slt) : Value:=.agg #[.int .i64 s.1, .string s.2]
def idv (n : Int) : Value:=.int .i64 n
abbrev shS : EqSh:=EqSh.offs [(EqK.int, 0), (EqK.str, 1)]
theorem slv_ok (a : Int) (s : ByteArray) : keyOK Tryz.prog 83 (.agg #[.int .i64 a, .string s]) = true:=by kernel_rfl
theorem keyS : KeyOk Tryz.prog 83 shS slv where
 eq:=λ a b => by
  obtain ⟨a1, a2⟩:=a
  obtain ⟨b1, b2⟩:=b
  simp [slv, ba_eq]
 ok:=λ a => slv_ok a.1 a.2
 bits:=λ a => by simp [slv, Instr.sameBits, ba_beq]
abbrev Ptr (b : Nat) : Value:=.pointer (some ⟨b, 0, none⟩)
structure Nd where
 kind : Int
 seen : ByteArray
 kept : ByteArray
structure Chg where
 what : Int
 node : Int
 data : ByteArray
 size : Int
 src : ByteArray
 dst : ByteArray
 target : Int
structure Dk where
 cap : Int
 acts : Int
 reads : Int
 armed : Bool
 left : Int
 down : Bool
 nodes : List Nd
 seen : Slt -> Option Int
 kept : Slt -> Option Int
 pending : List Chg
def Nd.cells (n : Nd) : List Value:=[.int .i64 n.kind, .string n.seen, .string n.kept]
def Chg.cells (c : Chg) : List Value:=[.int .i64 c.what, .int .i64 c.node, .string c.data, .int .i64 c.size, .string c.src, .string c.dst, .int .i64 c.target]
def Chg.val (c : Chg) : Value:=.agg c.cells.toArray
structure DV where
 nv : Value
 pv : Value
 bs : Nat
 bk : Nat
 ls : List (Slt × Int)
 lk : List (Slt × Int)
def Dk.cells (d : Dk) (v : DV) : List Value:=[.int .i64 d.cap, .int .i64 d.acts, .int .i64 d.reads, .bool d.armed, .int .i64 d.left, .bool d.down, v.nv, .map (some v.bs), .map (some v.bk), v.pv]
def Eqm (l : List (Slt × Int)) (m : Slt -> Option Int) : Prop:=∀ k, getK k l = m k
structure DA (w : World) (b : Nat) (d : Dk) (v : DV) (tag : Nat -> Nat) : Prop where
 blk : Go.Lift.bk w b = some (d.cells v)
 wr : Go.Lift.wr w b = true
 nodes : SlW 3 w v.nv (d.nodes.map Nd.cells)
 seen : MapAt slv idv w v.bs v.ls
 seenE : Eqm v.ls d.seen
 kept : MapAt slv idv w v.bk v.lk
 keptE : Eqm v.lk d.kept
 pend : SlW 7 w v.pv (d.pending.map Chg.cells)
 tb : tag b = 1
 ts : tag v.bs = 2
 tk : tag v.bk = 3
 tn : ∀ c, inB v.nv c -> tag c = 4
 tp : ∀ c, inB v.pv c -> tag c = 5
 t0 : tag 0 = 0
 ml : ∃ m : Int, Go.Lift.bk w 0 = some [.int .i64 m]
 bound : ∀ c, tag c ≠ 0 -> c < w.heap.size
section
variable {w w' : World} {b : Nat} {d : Dk} {v : DV} {tag : Nat -> Nat}
theorem DA.fr {F : Nat -> Prop} (h : DA w b d v tag) (f : Fr F w w') (hF : ∀ c, F c -> tag c = 0 /\ c ≠ 0) : DA w' b d v tag:=by
 have s:=f.size
 obtain ⟨m, hm⟩:=h.ml
 have nb : ∀ c, tag c ≠ 0 -> ¬ F c:=λ c hc hf => hc (hF c hf).1
 have b1 : ¬ F b:=nb b (by rw [h.tb]; decide)
 exact ⟨f.bk_some h.blk b1, by rw [f.wr (bk_lt h.blk) b1]; exact h.wr, h.nodes.fr f λ c hc => nb c (by rw [h.tn c hc]; decide), h.seen.fr f (nb _ (by rw [h.ts]; decide)), h.seenE, h.kept.fr f (nb _ (by rw [h.tk]; decide)), h.keptE,
  h.pend.fr f λ c hc => nb c (by rw [h.tp c hc]; decide), h.tb, h.ts, h.tk, h.tn, h.tp, h.t0, ⟨m, f.bk_some hm λ hf => (hF 0 hf).2 rfl⟩, λ c hc => Nat.lt_of_lt_of_le (h.bound c hc) s⟩
theorem DA.fr0 (h : DA w b d v tag) (f : Fr (λ _ => False) w w') : DA w' b d v tag:=h.fr f λ _ h => h.elim
theorem DA.put (h : DA w b d v tag) {i : Nat} {x : Value} {d' : Dk} (hc : (d.cells v).set i x = d'.cells v) (h1 : d'.nodes = d.nodes) (h2 : d'.seen = d.seen) (h3 : d'.kept = d.kept) (h4 : d'.pending = d.pending) : DA (sto w b i [x]) b d' v tag:=by
 have f : Fr (λ c => c = b) w (sto w b i [x]):=(Fr.refl (λ c => c = b) w).sto (.inl rfl) _ _
 have nb : ∀ c, tag c ≠ 1 -> ¬ c = b:=λ c hc he => hc (by rw [he]; exact h.tb)
 obtain ⟨m, hm⟩:=h.ml
 refine ⟨?_, by rw [wr_sto]; exact h.wr, ?_, h.seen.fr f (nb _ (by rw [h.ts]; decide)), by rw [h2]; exact h.seenE, h.kept.fr f (nb _ (by rw [h.tk]; decide)), by rw [h3]; exact h.keptE, ?_, h.tb, h.ts, h.tk, h.tn, h.tp, h.t0, ⟨m, f.bk_some hm (nb 0 (by rw [h.t0]; decide))⟩, λ c hc => by rw [size_sto]; exact h.bound c hc⟩
 ·rw [bk_sto_eq, h.blk]
  simp [hc]
 ·rw [h1]; exact h.nodes.fr f λ c hc => nb c (by rw [h.tn c hc]; decide)
 ·rw [h4]; exact h.pend.fr f λ c hc => nb c (by rw [h.tp c hc]; decide)
def Dk.actF (d : Dk) : Int × Dk:=if d.armed then if d.left = 0 then (10, { d with down:=true }) else (0, { d with left:=IntKind.i64.wrap (d.left - 1), acts:=IntKind.i64.wrap (d.acts + 1) }) else (0, { d with acts:=IntKind.i64.wrap (d.acts + 1) })
theorem actF_same (d : Dk) : d.actF.2.nodes = d.nodes /\ d.actF.2.seen = d.seen /\ d.actF.2.kept = d.kept /\ d.actF.2.pending = d.pending:=by
 unfold Dk.actF
 split
 ·split <;> exact ⟨rfl, rfl, rfl, rfl⟩
 ·exact ⟨rfl, rfl, rfl, rfl⟩
theorem ready_run (h : DA w b d v tag) {Q : Value -> World -> Prop} (q : Q (.int .i64 (if d.down then 10 else 0)) w) : Run (F.d_ready (Ptr b)) w Q:=by
 unfold F.d_ready
 have hb:=h.blk
 cases hd : d.down
 ·rw [hd] at q
  simpa [hb, Dk.cells, hd] using q
 ·rw [hd] at q
  simpa [hb, Dk.cells, hd] using q
theorem act_run (h : DA w b d v tag) : Run (F.d_act (Ptr b)) w λ r w' => r = .int .i64 d.actF.1 /\ DA w' b d.actF.2 v tag /\ Fr (λ c => c = b) w w':=by
 unfold F.d_act
 have hb:=h.blk
 have hw:=h.wr
 cases ha : d.armed
 ·have e : d.actF = (0, { d with acts:=IntKind.i64.wrap (d.acts + 1) }):=by simp [Dk.actF, ha]
  simp [hb, hw, Dk.cells, ha, e]
  exact ⟨h.put (by simp [Dk.cells, ha]) rfl rfl rfl rfl, (Fr.refl (λ c => c = b) w).sto (.inl rfl) _ _⟩
 ·by_cases hl : d.left = 0
  ·have e : d.actF = (10, { d with down:=true }):=by simp [Dk.actF, ha, hl]
   simp [hb, hw, Dk.cells, ha, hl, e]
   exact ⟨h.put (by simp [Dk.cells, ha]; exact hl) rfl rfl rfl rfl, (Fr.refl (λ c => c = b) w).sto (.inl rfl) _ _⟩
  ·have e : d.actF = (0, { d with left:=IntKind.i64.wrap (d.left - 1), acts:=IntKind.i64.wrap (d.acts + 1) }):=by simp [Dk.actF, ha, hl]
   have h1 : DA (sto w b 4 [.int .i64 (IntKind.i64.wrap (d.left - 1))]) b { d with left:=IntKind.i64.wrap (d.left - 1) } v tag:=h.put rfl rfl rfl rfl rfl
   simp [hb, hw, Dk.cells, ha, hl, e]
   exact ⟨h1.put (by simp [Dk.cells, ha]) rfl rfl rfl rfl, ((Fr.refl (λ c => c = b) w).sto (.inl rfl) _ _).sto (.inl rfl) _ _⟩
def fput (m : Slt -> Option Int) (k : Slt) (v : Int) : Slt -> Option Int:=λ x => if x = k then some v else m x
def fdel (m : Slt -> Option Int) (k : Slt) : Slt -> Option Int:=λ x => if x = k then none else m x
def applyF (c : Chg) (data : ByteArray) (m : Slt -> Option Int) : ByteArray × (Slt -> Option Int) :=
 if c.what = 0 then (data ++ c.data, m)
 else if c.what = 1 then (data.extract 0 c.size.toNat, m)
 else if c.what = 2 then (data, fput m (c.node, c.src) c.target)
 else if c.what = 3 then (data, fdel m (c.node, c.src))
 else if c.what = 4 then (data, fput (fdel m (c.node, c.src)) (c.node, c.dst) ((m (c.node, c.src)).getD 0))
 else (data, m)
def Chg.fits (c : Chg) (data : ByteArray) : Prop:=(c.what = 0 -> data.size + c.data.size <= 4611686018427387904) /\ (c.what = 1 -> 0 <= c.size /\ c.size <= data.size)
theorem apply_run {bm : Nat} {l : List (Slt × Int)} {m : Slt -> Option Int} {data : ByteArray} {c : Chg} (hm : MapAt slv idv w bm l) (hl : Eqm l m) (hf : c.fits data) :
  Run (F.dd_apply c.val (.string data) (.map (some bm))) w λ r w' => r = .string (applyF c data m).1 /\ (∃ l', MapAt slv idv w' bm l' /\ Eqm l' (applyF c data m).2) /\ Fr (λ c => c = bm) w w':=by
 unfold F.dd_apply
 simp only [Run_bind]
 refine Run_new λ e w1 he _ f1 hele => ?_
 have he1 : bk w1 e = some c.cells:=he
 have hm1:=hm.fr f1 id
 have g1 : Fr (λ c => c = bm) w w1:=f1.mono λ _ h => h.elim
 have hlt:=hm.lt
 have heb : e ≠ bm:=by omega
 by_cases k0 : c.what = 0
 ·have hs:=hf.1 k0
  have hmax : IntKind.i64.max = 9223372036854775807:=by decide
  have hadd : strBin .add data c.data = some (.string (data ++ c.data)):=by
   simp only [strBin]
   rw [if_neg (by rw [hmax]; omega)]
  simp [he1, Chg.cells, k0, hadd, applyF]
  exact ⟨⟨l, hm1, hl⟩, g1⟩
 by_cases k1 : c.what = 1
 ·obtain ⟨h1, h2⟩:=hf.2 k1
  obtain ⟨n, hn⟩ : ∃ n : Nat, c.size = n:=⟨c.size.toNat, by omega⟩
  have hsl : sliceS (.string data) none (some (.int .i64 c.size)) = some (.string (data.extract 0 c.size.toNat)):=by
   rw [hn]
   have : n <= data.size:=by omega
   simp [sliceS, highV, lowV, boundV, this]
  simp [he1, Chg.cells, k0, k1, hsl, applyF]
  exact ⟨⟨l, hm1, hl⟩, g1⟩
 by_cases k2 : c.what = 2
 ·simp [he1, Chg.cells, k0, k1, k2, buildV, fillV]
  refine Run_updM (kv:=slv) (vv:=idv) keyS hm1 (c.node, c.src) c.target λ w2 hm2 f2 _ => ?_
  simp [applyF, k0, k1, k2]
  exact ⟨⟨_, hm2, λ k => by rw [getK_putK]; simp only [fput, hl k]⟩, g1.trans f2 λ _ _ h => h⟩
 by_cases k3 : c.what = 3
 ·simp [he1, Chg.cells, k0, k1, k2, k3, buildV, fillV]
  refine Run_delM (kv:=slv) (vv:=idv) keyS hm1 (c.node, c.src) λ w2 hm2 f2 _ => ?_
  simp [applyF, k0, k1, k2, k3]
  exact ⟨⟨_, hm2, λ k => by rw [getK_delK hm.nodup]; simp only [fdel, hl k]⟩, g1.trans f2 λ _ _ h => h⟩
 by_cases k4 : c.what = 4
 ·have hlook:=hm1.look keyS (c.node, c.src) (.int .i64 0) false
  simp [he1, Chg.cells, k0, k1, k2, k3, k4, buildV, fillV]
  refine ⟨_, hlook, ?_⟩
  refine Run_delM (kv:=slv) (vv:=idv) keyS hm1 (c.node, c.src) λ w2 hm2 f2 _ => ?_
  have he2 : bk w2 e = some c.cells:=f2.bk_some he1 heb
  simp [he2, Chg.cells]
  have hv : ((getK (c.node, c.src) l).map idv).getD (.int .i64 0) = idv ((m (c.node, c.src)).getD 0):=by
   rw [hl (c.node, c.src)]
   cases m (c.node, c.src) <;> rfl
  simp [hv]
  refine Run_updM (kv:=slv) (vv:=idv) keyS hm2 (c.node, c.dst) ((m (c.node, c.src)).getD 0) λ w3 hm3 f3 _ => ?_
  simp [applyF, k0, k1, k2, k3, k4]
  exact ⟨⟨_, hm3, λ k => by rw [getK_putK, getK_delK hm.nodup]; simp only [fput, fdel, hl k]⟩, (g1.trans f2 λ _ _ h => h).trans f3 λ _ _ h => h⟩
 ·simp [he1, Chg.cells, k0, k1, k2, k3, k4, applyF]
  exact ⟨⟨l, hm1, hl⟩, g1⟩
end
end Go.Proofs.YtojnickeblbgoaaGreatDoor
namespace Go.Proofs.YtojnickeblbgoaaGreatDoor
set_option linter.unusedVariables false
open Go.Lift
set_option linter.unusedSimpArgs false
set_option maxHeartbeats 2000000
def DDid (w w' : World) (b : Nat) (tag : Nat -> Nat) (d' : Dk) : Prop:=Fr (λ c => tag c ≠ 0) w w' /\ ∃ v' tag', DA w' b d' v' tag' /\ ∀ c, tag' c ≠ 0 -> tag c ≠ 0 ∨ w.heap.size <= c
section
variable {w w' w'' : World} {b : Nat} {d d' : Dk} {v : DV} {tag : Nat -> Nat}
theorem DA.did (h : DA w' b d' v tag) (f : Fr (λ c => tag c ≠ 0) w w') : DDid w w' b tag d':=⟨f, v, tag, h, λ _ h => .inl h⟩
theorem DDid.pre (f : Fr (λ _ => False) w w') (h : DDid w' w'' b tag d') : DDid w w'' b tag d':=by
 obtain ⟨f', v', tag', h1, h2⟩:=h
 have s:=f.size
 exact ⟨(f.mono λ _ h => h.elim).trans f' λ _ _ h => h, v', tag', h1, λ c hc => (h2 c hc).imp id λ h => by omega⟩
theorem DDid.post (h : DDid w w' b tag d') (f : Fr (λ _ => False) w' w'') : DDid w w'' b tag d':=by
 obtain ⟨f', v', tag', h1, h2⟩:=h
 exact ⟨f'.trans f λ _ _ h => h.elim, v', tag', h1.fr0 f, h2⟩
theorem DDid.trans {tag' : Nat -> Nat} {d'' : Dk} (hb : ∀ c, tag c ≠ 0 -> c < w.heap.size) (f : Fr (λ c => tag c ≠ 0) w w') (ht : ∀ c, tag' c ≠ 0 -> tag c ≠ 0 ∨ w.heap.size <= c) (h : DDid w' w'' b tag' d'') : DDid w w'' b tag d'':=by
 obtain ⟨f', v'', tag'', h1, h2⟩:=h
 have s:=f.size
 exact ⟨f.trans f' λ c hc h => (ht c h).elim id λ h' => by omega, v'', tag'', h1, λ c hc => (h2 c hc).elim (ht c) λ h => .inr (by omega)⟩
theorem DA.newPend (h : DA w b d v tag) (f0 : Fr (inB v.pv) w w') {r : Value} {l : List Chg} (hr : SlW 7 w' r (l.map Chg.cells)) (hin : ∀ c, inB r c -> inB v.pv c ∨ (w.heap.size <= c /\ c < w'.heap.size)) :
  Go.Lift.bk w' b = some (d.cells v) /\ Go.Lift.wr w' b = true /\ ∃ tag', DA (sto w' b 9 [r]) b { d with pending:=l } { v with pv:=r } tag' /\ Fr (λ c => tag c ≠ 0) w (sto w' b 9 [r]) /\ ∀ c, tag' c ≠ 0 -> tag c ≠ 0 ∨ w.heap.size <= c:=by
 classical
 have s:=f0.size
 have told : ∀ c, inB v.pv c -> tag c = 5:=h.tp
 have nv : ∀ c, tag c ≠ 5 -> ¬ inB v.pv c:=λ c hc hi => hc (told c hi)
 have hb:=h.blk
 have hb' : Go.Lift.bk w' b = some (d.cells v):=f0.bk_some hb (nv b (by rw [h.tb]; decide))
 have hw' : Go.Lift.wr w' b = true:=by rw [f0.wr (bk_lt hb) (nv b (by rw [h.tb]; decide))]; exact h.wr
 have f : Fr (λ c => inB v.pv c ∨ c = b) w (sto w' b 9 [r]):=by
  refine Fr.sto (b:=b) (f0.mono λ c hc => ?_) (.inl ?_) _ _
  ·exact Or.inl hc
  ·exact Or.inr rfl
 have nb : ∀ c, tag c ≠ 1 -> tag c ≠ 5 -> ¬ (inB v.pv c ∨ c = b):=λ c h1 h4 hc => hc.elim (nv c h4) λ he => h1 (by rw [he]; exact h.tb)
 obtain ⟨m, hm⟩:=h.ml
 have hpos:=bk_lt hm
 have nr : ∀ c, tag c ≠ 0 -> tag c ≠ 5 -> ¬ inB r c:=λ c h0 h5 hi => by
  rcases hin c hi with h' | h'
  ·exact nv c h5 h'
  ·have:=h.bound c h0; omega
 have hrb : ∀ c, inB r c -> ¬ c = b:=λ c hc he => nr b (by rw [h.tb]; decide) (by rw [h.tb]; decide) (he ▸ hc)
 have hr':=hr.fr ((Fr.refl (λ c => c = b) w').sto (.inl rfl) 9 [r]) hrb
 obtain ⟨tag', tpos, tneg, tboth⟩ : ∃ tag' : Nat -> Nat, (∀ c, inB r c -> tag' c = 5) /\ (∀ c, tag c ≠ 0 -> tag c ≠ 5 -> tag' c = tag c) /\ (∀ c, ¬ inB r c -> tag' c = tag c) :=
  ⟨λ c => if inB r c then 5 else tag c, λ c hc => if_pos hc, λ c h0 h5 => if_neg (nr c h0 h5), λ c hc => if_neg hc⟩
 refine ⟨hb', hw', tag', ⟨?_, by rw [wr_sto]; exact hw', h.nodes.fr f λ c hc => nb c (by rw [h.tn c hc]; decide) (by rw [h.tn c hc]; decide), h.seen.fr f (nb _ (by rw [h.ts]; decide) (by rw [h.ts]; decide)), h.seenE, h.kept.fr f (nb _ (by rw [h.tk]; decide) (by rw [h.tk]; decide)), h.keptE, hr', ?_, ?_, ?_, λ c hc => by rw [tneg c (by rw [h.tn c hc]; decide) (by rw [h.tn c hc]; decide)]; exact h.tn c hc, λ c hc => tpos c hc, ?_, ⟨m, f.bk_some hm (nb 0 (by rw [h.t0]; decide) (by rw [h.t0]; decide))⟩, ?_⟩, f.mono ?_, ?_⟩
 ·rw [bk_sto_eq, hb']
  simp [Dk.cells]
 ·rw [tneg b (by rw [h.tb]; decide) (by rw [h.tb]; decide)]; exact h.tb
 ·rw [tneg _ (by rw [h.ts]; decide) (by rw [h.ts]; decide)]; exact h.ts
 ·rw [tneg _ (by rw [h.tk]; decide) (by rw [h.tk]; decide)]; exact h.tk
 ·rw [tboth 0 λ hi => ?_]
  ·exact h.t0
  ·rcases hin 0 hi with h' | h'
   ·have:=told 0 h'; rw [h.t0] at this; cases this
   ·omega
 ·intro c hc
  rw [size_sto]
  by_cases hi : inB r c
  ·rcases hin c hi with h' | h'
   ·have:=h.bound c (by rw [told c h']; decide); omega
   ·exact h'.2
  ·rw [tboth c hi] at hc
   have:=h.bound c hc; omega
 ·rintro c (hc | hc)
  ·rw [told c hc]; decide
  ·rw [hc, h.tb]; decide
 ·intro c hc
  by_cases hi : inB r c
  ·rcases hin c hi with h' | h'
   ·exact .inl (by rw [told c h']; decide)
   ·exact .inr h'.1
  ·rw [tboth c hi] at hc; exact .inl hc
theorem DA.newPendG (h : DA w b d v tag) (f0 : Fr (inB v.pv) w w') {r : Value} {l : List Chg} (hr : SlW 7 w' r (l.map Chg.cells)) (hin : ∀ c, inB r c -> inB v.pv c ∨ (tag c = 0 /\ c < w'.heap.size /\ c ≠ 0)) :
  Go.Lift.bk w' b = some (d.cells v) /\ Go.Lift.wr w' b = true /\ ∃ tag', DA (sto w' b 9 [r]) b { d with pending:=l } { v with pv:=r } tag' /\ Fr (λ c => tag c ≠ 0) w (sto w' b 9 [r]) /\ ∀ c, tag' c ≠ 0 -> tag c ≠ 0 ∨ inB r c:=by
 classical
 have s:=f0.size
 have told : ∀ c, inB v.pv c -> tag c = 5:=h.tp
 have nv : ∀ c, tag c ≠ 5 -> ¬ inB v.pv c:=λ c hc hi => hc (told c hi)
 have hb:=h.blk
 have hb' : Go.Lift.bk w' b = some (d.cells v):=f0.bk_some hb (nv b (by rw [h.tb]; decide))
 have hw' : Go.Lift.wr w' b = true:=by rw [f0.wr (bk_lt hb) (nv b (by rw [h.tb]; decide))]; exact h.wr
 have f : Fr (λ c => inB v.pv c ∨ c = b) w (sto w' b 9 [r]):=by
  refine Fr.sto (b:=b) (f0.mono λ c hc => ?_) (.inl ?_) _ _
  ·exact Or.inl hc
  ·exact Or.inr rfl
 have nb : ∀ c, tag c ≠ 1 -> tag c ≠ 5 -> ¬ (inB v.pv c ∨ c = b):=λ c h1 h4 hc => hc.elim (nv c h4) λ he => h1 (by rw [he]; exact h.tb)
 obtain ⟨m, hm⟩:=h.ml
 have hpos:=bk_lt hm
 have nr : ∀ c, tag c ≠ 0 -> tag c ≠ 5 -> ¬ inB r c:=λ c h0 h5 hi => by
  rcases hin c hi with h' | h'
  ·exact nv c h5 h'
  ·exact h0 h'.1
 have hrb : ∀ c, inB r c -> ¬ c = b:=λ c hc he => nr b (by rw [h.tb]; decide) (by rw [h.tb]; decide) (he ▸ hc)
 have hr':=hr.fr ((Fr.refl (λ c => c = b) w').sto (.inl rfl) 9 [r]) hrb
 obtain ⟨tag', tpos, tneg, tboth⟩ : ∃ tag' : Nat -> Nat, (∀ c, inB r c -> tag' c = 5) /\ (∀ c, tag c ≠ 0 -> tag c ≠ 5 -> tag' c = tag c) /\ (∀ c, ¬ inB r c -> tag' c = tag c) :=
  ⟨λ c => if inB r c then 5 else tag c, λ c hc => if_pos hc, λ c h0 h5 => if_neg (nr c h0 h5), λ c hc => if_neg hc⟩
 refine ⟨hb', hw', tag', ⟨?_, by rw [wr_sto]; exact hw', h.nodes.fr f λ c hc => nb c (by rw [h.tn c hc]; decide) (by rw [h.tn c hc]; decide), h.seen.fr f (nb _ (by rw [h.ts]; decide) (by rw [h.ts]; decide)), h.seenE, h.kept.fr f (nb _ (by rw [h.tk]; decide) (by rw [h.tk]; decide)), h.keptE, hr', ?_, ?_, ?_, λ c hc => by rw [tneg c (by rw [h.tn c hc]; decide) (by rw [h.tn c hc]; decide)]; exact h.tn c hc, λ c hc => tpos c hc, ?_, ⟨m, f.bk_some hm (nb 0 (by rw [h.t0]; decide) (by rw [h.t0]; decide))⟩, ?_⟩, f.mono ?_, ?_⟩
 ·rw [bk_sto_eq, hb']
  simp [Dk.cells]
 ·rw [tneg b (by rw [h.tb]; decide) (by rw [h.tb]; decide)]; exact h.tb
 ·rw [tneg _ (by rw [h.ts]; decide) (by rw [h.ts]; decide)]; exact h.ts
 ·rw [tneg _ (by rw [h.tk]; decide) (by rw [h.tk]; decide)]; exact h.tk
 ·rw [tboth 0 λ hi => ?_]
  ·exact h.t0
  ·rcases hin 0 hi with h' | h'
   ·have:=told 0 h'; rw [h.t0] at this; cases this
   ·exact h'.2.2 rfl
 ·intro c hc
  rw [size_sto]
  by_cases hi : inB r c
  ·rcases hin c hi with h' | h'
   ·have:=h.bound c (by rw [told c h']; decide); omega
   ·exact h'.2.1
  ·rw [tboth c hi] at hc
   have:=h.bound c hc; omega
 ·rintro c (hc | hc)
  ·rw [told c hc]; decide
  ·rw [hc, h.tb]; decide
 ·intro c hc
  by_cases hi : inB r c
  ·exact .inr hi
  ·rw [tboth c hi] at hc; exact .inl hc
theorem DA.newNodes (h : DA w b d v tag) (f0 : Fr (inB v.nv) w w') {r : Value} {l : List Nd} (hr : SlW 3 w' r (l.map Nd.cells)) (hin : ∀ c, inB r c -> inB v.nv c ∨ (w.heap.size <= c /\ c < w'.heap.size)) :
  Go.Lift.bk w' b = some (d.cells v) /\ Go.Lift.wr w' b = true /\ ∃ tag', DA (sto w' b 6 [r]) b { d with nodes:=l } { v with nv:=r } tag' /\ Fr (λ c => tag c ≠ 0) w (sto w' b 6 [r]) /\ ∀ c, tag' c ≠ 0 -> tag c ≠ 0 ∨ w.heap.size <= c:=by
 classical
 have s:=f0.size
 have told : ∀ c, inB v.nv c -> tag c = 4:=h.tn
 have nv : ∀ c, tag c ≠ 4 -> ¬ inB v.nv c:=λ c hc hi => hc (told c hi)
 have hb:=h.blk
 have hb' : Go.Lift.bk w' b = some (d.cells v):=f0.bk_some hb (nv b (by rw [h.tb]; decide))
 have hw' : Go.Lift.wr w' b = true:=by rw [f0.wr (bk_lt hb) (nv b (by rw [h.tb]; decide))]; exact h.wr
 have f : Fr (λ c => inB v.nv c ∨ c = b) w (sto w' b 6 [r]):=by
  refine Fr.sto (b:=b) (f0.mono λ c hc => ?_) (.inl ?_) _ _
  ·exact Or.inl hc
  ·exact Or.inr rfl
 have nb : ∀ c, tag c ≠ 1 -> tag c ≠ 4 -> ¬ (inB v.nv c ∨ c = b):=λ c h1 h4 hc => hc.elim (nv c h4) λ he => h1 (by rw [he]; exact h.tb)
 obtain ⟨m, hm⟩:=h.ml
 have hpos:=bk_lt hm
 have nr : ∀ c, tag c ≠ 0 -> tag c ≠ 4 -> ¬ inB r c:=λ c h0 h5 hi => by
  rcases hin c hi with h' | h'
  ·exact nv c h5 h'
  ·have:=h.bound c h0; omega
 have hrb : ∀ c, inB r c -> ¬ c = b:=λ c hc he => nr b (by rw [h.tb]; decide) (by rw [h.tb]; decide) (he ▸ hc)
 have hr':=hr.fr ((Fr.refl (λ c => c = b) w').sto (.inl rfl) 6 [r]) hrb
 obtain ⟨tag', tpos, tneg, tboth⟩ : ∃ tag' : Nat -> Nat, (∀ c, inB r c -> tag' c = 4) /\ (∀ c, tag c ≠ 0 -> tag c ≠ 4 -> tag' c = tag c) /\ (∀ c, ¬ inB r c -> tag' c = tag c) :=
  ⟨λ c => if inB r c then 4 else tag c, λ c hc => if_pos hc, λ c h0 h5 => if_neg (nr c h0 h5), λ c hc => if_neg hc⟩
 refine ⟨hb', hw', tag', ⟨?_, by rw [wr_sto]; exact hw', hr', h.seen.fr f (nb _ (by rw [h.ts]; decide) (by rw [h.ts]; decide)), h.seenE, h.kept.fr f (nb _ (by rw [h.tk]; decide) (by rw [h.tk]; decide)), h.keptE, h.pend.fr f λ c hc => nb c (by rw [h.tp c hc]; decide) (by rw [h.tp c hc]; decide), ?_, ?_, ?_, λ c hc => tpos c hc, λ c hc => by rw [tneg c (by rw [h.tp c hc]; decide) (by rw [h.tp c hc]; decide)]; exact h.tp c hc, ?_, ⟨m, f.bk_some hm (nb 0 (by rw [h.t0]; decide) (by rw [h.t0]; decide))⟩, ?_⟩, f.mono ?_, ?_⟩
 ·rw [bk_sto_eq, hb']
  simp [Dk.cells]
 ·rw [tneg b (by rw [h.tb]; decide) (by rw [h.tb]; decide)]; exact h.tb
 ·rw [tneg _ (by rw [h.ts]; decide) (by rw [h.ts]; decide)]; exact h.ts
 ·rw [tneg _ (by rw [h.tk]; decide) (by rw [h.tk]; decide)]; exact h.tk
 ·rw [tboth 0 λ hi => ?_]
  ·exact h.t0
  ·rcases hin 0 hi with h' | h'
   ·have:=told 0 h'; rw [h.t0] at this; cases this
   ·omega
 ·intro c hc
  rw [size_sto]
  by_cases hi : inB r c
  ·rcases hin c hi with h' | h'
   ·have:=h.bound c (by rw [told c h']; decide); omega
   ·exact h'.2
  ·rw [tboth c hi] at hc
   have:=h.bound c hc; omega
 ·rintro c (hc | hc)
  ·rw [told c hc]; decide
  ·rw [hc, h.tb]; decide
 ·intro c hc
  by_cases hi : inB r c
  ·rcases hin c hi with h' | h'
   ·exact .inl (by rw [told c h']; decide)
   ·exact .inr h'.1
  ·rw [tboth c hi] at hc; exact .inl hc
theorem DA.setNode (h : DA w b d v tag) {i : Nat} {nd : Nd} (hi : d.nodes[i]? = some nd) :
  ∃ b0 o l, idxA 3 v.nv (.int .i64 i) = some (.pointer (some ⟨b0, o, none⟩)) /\ tag b0 = 4 /\ bk w b0 = some l /\ l[o]? = some (.int .i64 nd.kind) /\ l[o + 1]? = some (.string nd.seen) /\ l[o + 2]? = some (.string nd.kept) /\
   ∀ w1 d1 v1, DA w1 b d1 v1 tag -> v1.nv = v.nv -> d1.nodes = d.nodes ->
    (∀ s, okAt w1 b0 (o + 1) 1 /\ DA (sto w1 b0 (o + 1) [.string s]) b { d1 with nodes:=d.nodes.set i { nd with seen:=s } } v1 tag) /\ (∀ s, okAt w1 b0 (o + 2) 1 /\ DA (sto w1 b0 (o + 2) [.string s]) b { d1 with nodes:=d.nodes.set i { nd with kept:=s } } v1 tag):=by
 have he : (d.nodes.map Nd.cells)[i]? = some nd.cells:=by simp [hi]
 obtain ⟨b0, o, l, i1, i2, i3, i4, i5⟩:=h.nodes.1.rd (by decide) he .i64
 have t4:=h.tn b0 i5
 refine ⟨b0, o, l, i1, t4, i2, take_get0 i4 (by decide), take_get (j:=1) i4 (by decide), take_get (j:=2) i4 (by decide), ?_⟩
 intro w1 d1 v1 h1 hv hd
 have he1 : (d1.nodes.map Nd.cells)[i]? = some nd.cells:=by rw [hd]; exact he
 obtain ⟨b1, o1, j1, j2, j3, j4, j5⟩:=h1.nodes.put he1 .i64
 rw [hv, i1] at j1
 cases j1
 have key : ∀ (j : Nat) (s : ByteArray) (nd' : Nd), j < 3 -> setL nd.cells j [.string s] = nd'.cells -> okAt w1 b0 (o + j) 1 /\ DA (sto w1 b0 (o + j) [.string s]) b { d1 with nodes:=d.nodes.set i nd' } v1 tag:=by
  intro j s nd' hj hset
  obtain ⟨q1, q2⟩:=j5 j [.string s] (by simp; omega)
  have f : Fr (λ c => c = b0) w1 (sto w1 b0 (o + j) [.string s]):=(Fr.refl (λ c => c = b0) w1).sto (.inl rfl) _ _
  have nb : ∀ c, tag c ≠ 4 -> ¬ c = b0:=λ c hc he => hc (by rw [he]; exact t4)
  obtain ⟨m, hm⟩:=h1.ml
  refine ⟨q1, f.bk_some h1.blk (nb b (by rw [h1.tb]; decide)), by rw [wr_sto]; exact h1.wr, ?_, h1.seen.fr f (nb _ (by rw [h1.ts]; decide)), h1.seenE, h1.kept.fr f (nb _ (by rw [h1.tk]; decide)), h1.keptE, h1.pend.fr f λ c hc => nb c (by rw [h1.tp c hc]; decide), h1.tb, h1.ts, h1.tk, h1.tn, h1.tp, h1.t0, ⟨m, f.bk_some hm (nb 0 (by rw [h1.t0]; decide))⟩, λ c hc => by rw [size_sto]; exact h1.bound c hc⟩
  rw [hset, hd] at q2
  try simp only
  rw [List.map_set]
  exact q2
 exact ⟨λ s => key 1 s { nd with seen:=s } (by decide) rfl, λ s => key 2 s { nd with kept:=s } (by decide) rfl⟩
theorem DA.seenSet (h : DA w b d v tag) (f : Fr (λ c => c = v.bs) w w') {ls : List (Slt × Int)} {m : Slt -> Option Int} (hm : MapAt slv idv w' v.bs ls) (he : Eqm ls m) : DA w' b { d with seen:=m } { v with ls:=ls } tag:=by
 have nb : ∀ c, tag c ≠ 2 -> ¬ c = v.bs:=λ c hc he => hc (by rw [he]; exact h.ts)
 obtain ⟨n, hn⟩:=h.ml
 have s:=f.size
 have hb:=nb b (by rw [h.tb]; decide)
 exact ⟨f.bk_some h.blk hb, by rw [f.wr (bk_lt h.blk) hb]; exact h.wr, h.nodes.fr f λ c hc => nb c (by rw [h.tn c hc]; decide), hm, he, h.kept.fr f (nb _ (by rw [h.tk]; decide)), h.keptE, h.pend.fr f λ c hc => nb c (by rw [h.tp c hc]; decide), h.tb, h.ts, h.tk, h.tn, h.tp, h.t0, ⟨n, f.bk_some hn (nb 0 (by rw [h.t0]; decide))⟩, λ c hc => Nat.lt_of_lt_of_le (h.bound c hc) s⟩
theorem DA.keptSet (h : DA w b d v tag) (f : Fr (λ c => c = v.bk) w w') {ls : List (Slt × Int)} {m : Slt -> Option Int} (hm : MapAt slv idv w' v.bk ls) (he : Eqm ls m) : DA w' b { d with kept:=m } { v with lk:=ls } tag:=by
 have nb : ∀ c, tag c ≠ 3 -> ¬ c = v.bk:=λ c hc he => hc (by rw [he]; exact h.tk)
 obtain ⟨n, hn⟩:=h.ml
 have s:=f.size
 have hb:=nb b (by rw [h.tb]; decide)
 exact ⟨f.bk_some h.blk hb, by rw [f.wr (bk_lt h.blk) hb]; exact h.wr, h.nodes.fr f λ c hc => nb c (by rw [h.tn c hc]; decide), h.seen.fr f (nb _ (by rw [h.ts]; decide)), h.seenE, hm, he, h.pend.fr f λ c hc => nb c (by rw [h.tp c hc]; decide), h.tb, h.ts, h.tk, h.tn, h.tp, h.t0, ⟨n, f.bk_some hn (nb 0 (by rw [h.t0]; decide))⟩, λ c hc => Nat.lt_of_lt_of_le (h.bound c hc) s⟩
def doF (d : Dk) (c : Chg) (i : Nat) (nd : Nd) : Int × Dk:=if d.actF.1 ≠ 0 then d.actF else (0, { d.actF.2 with nodes:=d.nodes.set i { nd with seen:=(applyF c nd.seen d.seen).1 }, seen:=(applyF c nd.seen d.seen).2, pending:=d.pending ++ [c] })
theorem Chg.all (c : Chg) : c.cells.all isCell = true:=by simp [Chg.cells]
theorem do_run (h : DA w b d v tag) (c : Chg) {i : Nat} {nd : Nd} (hi : d.nodes[i]? = some nd) (hn : c.node = i) (hf : c.fits nd.seen) (hp : d.pending.length <= 16777216) :
  Run (F.d_do (Ptr b) c.val) w λ r w' => r = .int .i64 (doF d c i nd).1 /\ DDid w w' b tag (doF d c i nd).2:=by
 unfold F.d_do
 simp only [Run_bind]
 refine Run_new λ x w1 hx _ f1 hxle => ?_
 have hx1 : bk w1 x = some c.cells:=hx
 have h1:=h.fr0 f1
 refine (act_run h1).mono ?_
 rintro _ w2 ⟨rfl, h2, f2⟩
 obtain ⟨an, asn, ak, ap⟩:=actF_same d
 have tb:=h.tb
 have hxb : x ≠ b:=λ he => by
  have:=h.bound b (by rw [tb]; decide)
  omega
 have f12 : Fr (λ c => tag c ≠ 0) w w2:=(f1.mono λ _ h => h.elim).trans f2 λ c _ hc => by rw [hc, tb]; decide
 have hx2 : bk w2 x = some c.cells:=f2.bk_some hx1 hxb
 by_cases ha : d.actF.1 = 0
 ·have hi2 : d.actF.2.nodes[i]? = some nd:=by rw [an]; exact hi
  obtain ⟨b0, o, l, i1, t4, i2, l0, l1, l2, hset⟩:=h2.setNode hi2
  have hb2:=h2.blk
  have e7 : ∀ w3, bk w3 x = some c.cells -> ldA 7 (Ptr x) w3 = some c.val:=λ w3 h => by rw [ldA_bk h (by simp [Chg.cells])]; rfl
  have hx2d : bk w2.drew x = some c.cells:=hx2
  have e7d:=e7 w2.drew hx2d
  have hi2d : bk w2 b0 = some l:=i2
  simp [-ldA_ptr, ha, hb2, Dk.cells, hx2, Chg.cells, hn, i1, e7 w2 hx2, hi2d, l1]
  have fd : Fr (λ _ => False) w2 w2.drew.drew:=((Fr.refl (λ _ => False) w2).drew).drew
  have h2d:=h2.fr0 fd
  refine (apply_run (w:=w2.drew.drew) (data:=nd.seen) h2d.seen h2d.seenE hf).mono ?_
  rintro _ w3 ⟨rfl, ⟨ls', hm3, he3⟩, f3⟩
  rw [asn] at he3 ⊢
  obtain ⟨A, hA⟩ : ∃ A, A = applyF c nd.seen d.seen:=⟨_, rfl⟩
  rw [<- hA] at he3 ⊢
  have h3:=h2d.seenSet f3 hm3 he3
  obtain ⟨k1, h4⟩:=(hset w3 _ _ h3 rfl rfl).1 A.1
  rw [show (Value.string A.1).cells = #[Value.string A.1] from rfl]
  refine ⟨rfl, by simp, k1.1, k1.2, ?_⟩
  rw [show (#[Value.string A.1] : Array Value).toList = [Value.string A.1] from rfl]
  have s1:=f1.size
  have s2:=f2.size
  have s3:=f3.size
  have hb0 : b0 < w.heap.size:=h.bound b0 (by rw [t4]; decide)
  have hxs : x ≠ v.bs:=λ he => by
   have:=h.bound v.bs (by rw [h.ts]; decide)
   omega
  have hx3 : bk w3 x = some c.cells:=f3.bk_some (w:=w2.drew.drew) hx2 hxs
  have hx4 : bk (sto w3 b0 (o + 1) [.string A.1]) x = some c.cells:=by rw [bk_sto_ne (by omega)]; exact hx3
  have f34 : Fr (λ c => c = b0) w3 (sto w3 b0 (o + 1) [.string A.1]):=(Fr.refl (λ c => c = b0) w3).sto (.inl rfl) _ _
  have z4 : (sto w3 b0 (o + 1) [.string A.1]).heap.size = w3.heap.size:=size_sto _ _ _ _
  generalize sto w3 b0 (o + 1) [.string A.1] = w4 at *
  have hb4:=h4.blk
  have f04 : Fr (λ c => tag c ≠ 0) w w4:=((f12.trans fd λ _ _ h => h.elim).trans f3 λ c _ hc => by rw [hc, h.ts]; decide).trans f34 λ c _ hc => by rw [hc, t4]; decide
  have fd4 : Fr (λ _ => False) w4 w4.drew:=(Fr.refl (λ _ => False) w4).drew
  simp [-ldA_ptr, hb4, Dk.cells, e7 w4 hx4]
  refine Run_app1 (k:=7) (w:=w4.drew) (by simp [Chg.val, Chg.cells]) (h4.fr0 fd4).pend (by decide) rfl (by decide) (by simpa [Chg.val] using c.all) (by simp only [List.length_map, ap]; omega) λ r w5 hr f5 hin w6 f6 => ?_
  have z5 : w4.drew.heap.size = w4.heap.size:=rfl
  have s5:=f5.size
  have npv : ∀ c, inB v.pv c -> tag c = 5:=h.tp
  have h5 : bk w5 b = some _:=f5.bk_some (w:=w4.drew) hb4 λ hi => by have:=npv b hi; rw [tb] at this; cases this
  have hw5 : wr w5 b = true:=by
   rw [f5.wr (w:=w4.drew) (bk_lt (w:=w4.drew) hb4) λ hi => by have:=npv b hi; rw [tb] at this; cases this]
   exact h4.wr
  have h6 : bk w6 b = some _:=f6.bk_some (w:=w4.drew) hb4 id
  have hrc:=hr.1.isCell
  have hr' : SlW 7 w5 r ((d.pending ++ [c]).map Chg.cells):=by
   rw [ap] at hr
   simpa [Chg.val] using hr
  obtain ⟨g1, g2, tag', g3, g4, g5⟩:=(h4.fr0 fd4).newPend f5 hr' hin
  rw [cells_isCell hrc]
  refine ⟨rfl, by simp [hrc], ⟨_, h5, by simp [Dk.cells]⟩, hw5, by rw [h6]; rfl, ?_⟩
  have e : doF d c i nd = (0, { d.actF.2 with nodes:=d.nodes.set i { nd with seen:=A.1 }, seen:=A.2, pending:=d.pending ++ [c] }):=by simp [doF, ha, hA]
  rw [e]
  exact ⟨rfl, (f04.trans fd4 λ _ _ h => h.elim).trans g4 λ _ _ h => h, _, tag', by rw [an] at g3; exact g3, λ x hx => (g5 x hx).imp id λ h => by have:=f04.size; omega⟩
 ·have hne : ¬ d.actF.1 = 0:=ha
  simp [hne]
  have e : doF d c i nd = d.actF:=by simp [doF, hne]
  rw [e]
  exact ⟨rfl, h2.did f12⟩
end
end Go.Proofs.YtojnickeblbgoaaGreatDoor
namespace Go.Proofs.YtojnickeblbgoaaGreatDoor
open Go.Lift
set_option linter.unusedSimpArgs false
set_option maxHeartbeats 2000000
abbrev e0 : ByteArray:=ByteArray.empty
def Dk.nd (d : Dk) (i : Int) : Nd:=(d.nodes[i.toNat]?).getD ⟨0, e0, e0⟩
abbrev Spot:=Int × Slt × Int
def zspot (e : Int) : Spot:=(e, (0, e0), 0)
def spotV (s : Spot) : Value:=.agg #[.int .i64 s.2.1.1, .string s.2.1.2, .int .i64 s.2.2]
def Dk.walkGo (d : Dk) (a : Slt) (node : Int) : List ByteArray -> Spot
 | [] => (0, a, node)
 | n :: rest => if node < 0 then zspot 12 else if (d.nd node).kind ≠ 1 then zspot 14 else
  if (d.seen (node, n)).getD (-1) < 0 /\ rest ≠ [] then zspot 12 else d.walkGo (node, n) ((d.seen (node, n)).getD (-1)) rest
def Dk.walkF (d : Dk) (names : List ByteArray) : Spot:=d.walkGo (-1, e0) 0 names
structure Good (d : Dk) : Prop where
 seen : ∀ s k, d.seen s = some k -> k < d.nodes.length
 pos : 0 < d.nodes.length
section
variable {w w' w'' : World} {b : Nat} {d d' : Dk} {v : DV} {tag : Nat -> Nat}
theorem build_slot (a : Int) (s : ByteArray) : buildV #[.int .i64 0, .string ByteArray.empty] [(0, 1, .int .i64 a), (1, 1, .string s)] = some (.agg #[.int .i64 a, .string s]):=by simp [buildV, fillV]
theorem build_m1 : buildV #[.int .i64 0, .string ByteArray.empty] [(0, 1, .int .i64 (-1))] = some (.agg #[.int .i64 (-1), .string ByteArray.empty]):=by simp [buildV, fillV]
theorem build_root : buildV #[.int .i64 0, .string ByteArray.empty, .int .i64 0] [(0, 2, .agg #[.int .i64 (-1), .string ByteArray.empty]), (2, 1, .int .i64 0)] = some (.agg #[.int .i64 (-1), .string ByteArray.empty, .int .i64 0]):=by simp [buildV, fillV]
theorem build_z : buildV #[.int .i64 0, .string ByteArray.empty, .int .i64 0] [] = some (.agg #[.int .i64 0, .string ByteArray.empty, .int .i64 0]):=by simp [buildV]
theorem walk_run (h : DA w b d v tag) (g : Good d) {nv : Value} {names : List ByteArray} (hn : Sl 1 w nv (names.map λ x => [.string x])) (hl : names.length <= 4294967296) :
  Run (F.d_walk (Ptr b) nv) w λ r w' => r = .tuple #[spotV (d.walkF names), .int .i64 (d.walkF names).1] /\ Fr (λ _ => False) w w':=by
 unfold F.d_walk
 simp only [Run_bind]
 refine Run_new λ x1 w1 hx1 hw1 f1 hx1le => ?_
 simp [build_m1, build_root]
 refine Run_newSt (cs:=#[.int .i64 (-1), .string e0, .int .i64 0]) rfl rfl (by simp) λ x4 w2 hx4 hw4 f2 hx4le => ?_
 have hnl:=hn.lenL
 rw [List.length_map] at hnl
 simp [hnl]
 have s1:=f1.size
 have hx1lt:=bk_lt hx1
 have hx1' : bk w1 x1 = some [.int .i64 0, .string e0, .int .i64 0]:=hx1
 have hx12 : bk w2 x1 = some [.int .i64 0, .string e0, .int .i64 0]:=f2.bk_some hx1' id
 have hw12 : wr w2 x1 = true:=by rw [f2.wr hx1lt id]; exact hw1
 have f02 : Fr (λ _ => False) w w2:=f1.trans f2 λ _ _ => id
 have hne : x1 ≠ x4:=by omega
 have s2:=f2.size
 refine Run_for names.length (λ i l w' => l = [.int .i64 i] /\ Fr (λ c => c = x4) w2 w' /\ ∃ (a : Slt) (node : Int), bk w' x4 = some [.int .i64 a.1, .string a.2, .int .i64 node] /\ wr w' x4 = true /\ node < d.nodes.length /\ d.walkF names = d.walkGo a node (names.drop i)) ⟨rfl, Fr.refl _ _, (-1, e0), 0, hx4, hw4, by have:=g.pos; omega, rfl⟩ ?_ ?_
 ·rintro i l w3 hi ⟨rfl, f3, a, node, hx, hwx, hlt, hwk⟩
  have ei : names[i]? = some names[i]:=List.getElem?_eq_getElem hi
  have hdrop : names.drop i = names[i] :: names.drop (i + 1):=List.drop_eq_getElem_cons hi
  rw [hdrop] at hwk
  generalize names[i] = n at ei hwk
  have f03 : Fr (λ _ => False) w w3:=f02.new f3 λ c hc => by omega
  have h3:=h.fr0 f03
  have hb3:=h3.blk
  obtain ⟨p, p1, p2⟩:=(hn.fr0 f03).rd1 (i:=i) (y:=.string n) (by simp [ei]) .i64
  have hi' : (i : Int) < names.length:=by omega
  have wi:=wrap_succ (n:=i) (by omega)
  have hx13 : bk w3 x1 = some [.int .i64 0, .string e0, .int .i64 0]:=f3.bk_some hx12 hne
  have hw13 : wr w3 x1 = true:=by rw [f3.wr (bk_lt hx12) hne]; exact hw12
  have back : ∀ (w4 : World) (p q r : Value), bk w4 x1 = some [.int .i64 0, .string e0, .int .i64 0] -> ldA 3 (Ptr x1) (sto w4 x1 0 [p, q, r]) = some (.agg #[p, q, r]):=λ w4 p q r hh => by
   rw [ldA_bk (l:=[p, q, r]) (by rw [bk_sto_eq, hh]; rfl) (by simp)]; rfl
  simp only [Dk.walkGo] at hwk
  simp [-ldA_ptr, hi, hi', p1, p2, hx]
  by_cases k1 : node < 0
  ·rw [if_pos k1] at hwk
   simp [-ldA_ptr, k1, build_z, hx13, hw13]
   exact ⟨_, back w3 _ _ _ hx13, ⟨by rw [hwk]; rfl, by rw [hwk]; rfl⟩, f03.sto (.inr (by omega)) _ _⟩
  rw [if_neg k1] at hwk
  obtain ⟨j, hj⟩ : ∃ j : Nat, node = j:=⟨node.toNat, by omega⟩
  have hjl : j < d.nodes.length:=by omega
  have hjn : d.nodes[j]? = some d.nodes[j]:=List.getElem?_eq_getElem hjl
  generalize d.nodes[j] = nd at hjn
  have hnd : d.nd node = nd:=by simp [Dk.nd, hj, hjn]
  rw [hnd] at hwk
  obtain ⟨b0, o, l0, i1, t4, i2, q0, _, _, _⟩:=h3.setNode hjn
  have i1' : idxA 3 v.nv (.int .i64 node) = some (.pointer (some ⟨b0, o, none⟩)):=by rw [hj]; exact i1
  simp [-ldA_ptr, k1, hb3, hx, Dk.cells, i1', i2, q0]
  by_cases k2 : nd.kind = 1
  ·rw [if_neg (by simp [k2])] at hwk
   have hxb : x4 ≠ b:=λ he => by have:=h.bound b (by rw [h.tb]; decide); omega
   have hxs : x4 ≠ v.bs:=λ he => by have:=h.bound v.bs (by rw [h.ts]; decide); omega
   simp [-ldA_ptr, k2, hx, build_slot, hwx]
   have f34 : Fr (λ c => c = x4) w3 (sto w3.drew x4 0 [.int .i64 node, .string n]):=(Fr.refl (λ c => c = x4) w3).drew.sto (.inl rfl) _ _
   have hx5 : bk (sto w3.drew x4 0 [.int .i64 node, .string n]) x4 = some [.int .i64 node, .string n, .int .i64 node]:=by rw [bk_sto_eq, bk_drew, hx]; rfl
   have hw5 : wr (sto w3.drew x4 0 [.int .i64 node, .string n]) x4 = true:=by rw [wr_sto]; exact hwx
   have hb5 : bk (sto w3.drew x4 0 [.int .i64 node, .string n]) b = some (d.cells v):=by rw [bk_sto_ne (Ne.symm hxb)]; exact hb3
   have hm5 : MapAt slv idv (sto w3.drew x4 0 [.int .i64 node, .string n]) v.bs v.ls:=h3.seen.fr f34 λ he => hxs he.symm
   have hx15 : bk (sto w3.drew x4 0 [.int .i64 node, .string n]) x1 = some [.int .i64 0, .string e0, .int .i64 0]:=by rw [bk_sto_ne hne]; exact hx13
   have hw15 : wr (sto w3.drew x4 0 [.int .i64 node, .string n]) x1 = true:=by rw [wr_sto]; exact hw13
   have z5 : (sto w3.drew x4 0 [.int .i64 node, .string n]).heap.size = w3.heap.size:=size_sto _ _ _ _
   generalize sto w3.drew x4 0 [.int .i64 node, .string n] = w5 at *
   have fd : Fr (λ _ => False) w5 w5.drew:=(Fr.refl (λ _ => False) w5).drew
   have hlook:=(hm5.fr fd id).look keyS (node, n) (.int .i64 0) true
   have hl2 : ldA 2 (Ptr x4) w5 = some (slv (node, n)):=by rw [ldA_bk hx5 (by simp)]; rfl
   have hl2' : ldA 2 (Ptr x4) w5.drew = some (slv (node, n)):=hl2
   simp [-ldA_ptr, hb5, Dk.cells, hl2]
   rw [hlook]
   have hg : getK (node, n) v.ls = d.seen (node, n):=h.seenE (node, n)
   rw [hg]
   have f05 : Fr (λ _ => False) w w5.drew:=(f03.new f34 λ c hc => by omega).trans fd λ _ _ => id
   have hr2 : ∀ K : Int, Fr (λ c => c = x4) w2 (sto w5.drew x4 2 [.int .i64 K]):=λ K => ((f3.trans f34 λ _ _ h => h).trans fd λ _ _ h => h.elim).sto (.inl rfl) _ _
   have hx6 : ∀ K : Int, bk (sto w5.drew x4 2 [.int .i64 K]) x4 = some [.int .i64 node, .string n, .int .i64 K]:=λ K => by rw [bk_sto_eq, bk_drew, hx5]; rfl
   have hw6 : ∀ K : Int, wr (sto w5.drew x4 2 [.int .i64 K]) x4 = true:=λ K => by rw [wr_sto]; exact hw5
   have hx16 : ∀ K : Int, bk (sto w5.drew x4 2 [.int .i64 K]) x1 = some [.int .i64 0, .string e0, .int .i64 0]:=λ K => by rw [bk_sto_ne hne]; exact hx15
   have hw16 : ∀ K : Int, wr (sto w5.drew x4 2 [.int .i64 K]) x1 = true:=λ K => by rw [wr_sto]; exact hw15
   have hlenr : (names.drop (i + 1)).length = names.length - (i + 1):=List.length_drop
   have fin : ∀ K : Int, (d.seen (node, n)).getD (-1) = K -> (K < 0 -> i + 1 < names.length -> d.walkF names = zspot 12) /\ (¬ (K < 0 /\ i + 1 < names.length) -> d.walkF names = d.walkGo (node, n) K (names.drop (i + 1))):=by
    intro K hK
    rw [hK] at hwk
    refine ⟨λ h1 h2 => ?_, λ h1 => ?_⟩
    ·rw [hwk, if_pos ⟨h1, λ he => by rw [he] at hlenr; simp at hlenr; omega⟩]
    ·rw [hwk, if_neg λ hh => h1 ⟨hh.1, by
      have:=List.length_pos_iff.2 hh.2
      omega⟩]
   have hKlt : ∀ K : Int, (d.seen (node, n)).getD (-1) = K -> K < d.nodes.length:=by
    intro K hK
    cases hsn : d.seen (node, n) with
    | none => rw [hsn] at hK; simp at hK; omega
    | some k => rw [hsn] at hK; simp at hK; have:=g.seen _ _ hsn; omega
   cases hsn : d.seen (node, n) with
   | none =>
    obtain ⟨q1, q2⟩:=fin (-1) (by rw [hsn]; rfl)
    have q3:=hKlt (-1) (by rw [hsn]; rfl)
    simp [-ldA_ptr, hx5, hw5, hnl, wi]
    by_cases kr : i + 1 < names.length
    ·have hc : (i : Int) + 1 < names.length:=by omega
     simp [-ldA_ptr, hc, build_z, hx16 (-1), hw16 (-1)]
     exact ⟨_, back _ _ _ _ (hx16 (-1)), ⟨by rw [q1 (by decide) kr]; rfl, by rw [q1 (by decide) kr]; rfl⟩, (f05.sto (.inr (by omega)) _ _).sto (.inr (by omega)) _ _⟩
    ·have hc : ¬ (i : Int) + 1 < names.length:=by omega
     simp [hc]
     exact ⟨hr2 (-1), node, n, -1, ⟨_, hx5, rfl⟩, hw5, q3, q2 λ hh => kr hh.2⟩
   | some k =>
    obtain ⟨q1, q2⟩:=fin k (by rw [hsn]; rfl)
    have q3:=hKlt k (by rw [hsn]; rfl)
    simp [-ldA_ptr, idv, hx5, hw5, hnl, wi]
    by_cases kn : k < 0
    ·simp [-ldA_ptr, kn, hnl, wi]
     by_cases kr : i + 1 < names.length
     ·have hc : (i : Int) + 1 < names.length:=by omega
      simp [-ldA_ptr, hc, build_z, hx16 k, hw16 k]
      exact ⟨_, back _ _ _ _ (hx16 k), ⟨by rw [q1 kn kr]; rfl, by rw [q1 kn kr]; rfl⟩, (f05.sto (.inr (by omega)) _ _).sto (.inr (by omega)) _ _⟩
     ·have hc : ¬ (i : Int) + 1 < names.length:=by omega
      simp [hc]
      exact ⟨hr2 k, node, n, k, ⟨_, hx5, rfl⟩, hw5, q3, q2 λ hh => kr hh.2⟩
    ·simp [kn]
     exact ⟨hr2 k, node, n, k, ⟨_, hx5, rfl⟩, hw5, q3, q2 λ hh => kn hh.1⟩
  ·rw [if_pos k2] at hwk
   simp [-ldA_ptr, k2, build_z, hx13, hw13]
   exact ⟨_, back _ _ _ _ hx13, ⟨by rw [hwk]; rfl, by rw [hwk]; rfl⟩, (f03.drew).sto (.inr (by omega)) _ _⟩
 ·rintro l w3 ⟨rfl, f3, a, node, hx, hwx, hlt, hwk⟩
  have f03 : Fr (λ _ => False) w w3:=f02.new f3 λ c hc => by omega
  have hx13 : bk w3 x1 = some [.int .i64 0, .string e0, .int .i64 0]:=f3.bk_some hx12 hne
  have hw13 : wr w3 x1 = true:=by rw [f3.wr (bk_lt hx12) hne]; exact hw12
  have hld : ldA 3 (Ptr x4) w3 = some (spotV (0, a, node)):=by rw [ldA_bk hx (by simp)]; rfl
  have hback : ldA 3 (Ptr x1) (sto w3 x1 0 [.int .i64 a.1, .string a.2, .int .i64 node]) = some (spotV (0, a, node)):=by
   rw [ldA_bk (l:=[.int .i64 a.1, .string a.2, .int .i64 node]) (by rw [bk_sto_eq, hx13]; rfl) (by simp)]; rfl
  rw [List.drop_length] at hwk
  simp [-ldA_ptr, hld, spotV, hx13, hw13]
  exact ⟨by intro i hi; rcases i with _ | _ | _ | i <;> simp at hi ⊢ <;> omega, _, hback, ⟨by rw [hwk]; rfl, by rw [hwk]; rfl⟩, f03.sto (.inr (by omega)) _ _⟩
end
def Dk.findF (d : Dk) (path : ByteArray) (kind : Int) : Spot:=if d.down then zspot 10 else match parseF path with
 | none => zspot 11
 | some names => if (d.walkF names).1 ≠ 0 then zspot (d.walkF names).1 else if (d.walkF names).2.2 < 0 then zspot 12 else
  if kind ≠ 0 /\ (d.nd (d.walkF names).2.2).kind ≠ kind then zspot 14 else d.walkF names
theorem parse_len {s : ByteArray} {names : List ByteArray} (h : parseF s = some names) : names.length <= s.size + 1:=by
 unfold parseF at h
 split at h
 ·cases h; simp
 ·split at h
  ·cases h
  ·split at h
   ·cases h
    have h47 : (1 : Nat) <= slash.size:=by decide
    have hlen : (partsF s).length = Lib.countB s slash + 1:=Lib.splitB_all slash h47 0 _ s rfl
    have hle:=Lib.countB_le slash h47 s.size s (Nat.le_refl _)
    omega
   ·cases h
theorem walkGo_lt {d : Dk} (g : Good d) : ∀ (names : List ByteArray) (a : Slt) (node : Int), node < d.nodes.length -> (d.walkGo a node names).2.2 < d.nodes.length
 | [], a, node, h => h
 | n :: rest, a, node, h => by
  have hp:=g.pos
  unfold Dk.walkGo
  split
  ·show (0 : Int) < _; omega
  ·split
   ·show (0 : Int) < _; omega
   ·split
    ·show (0 : Int) < _; omega
    ·refine walkGo_lt g rest _ _ ?_
     cases hs : d.seen (node, n) with
     | none => simp; omega
     | some k => simpa using g.seen _ _ hs
theorem walk_lt {d : Dk} (g : Good d) (names : List ByteArray) : (d.walkF names).2.2 < d.nodes.length:=walkGo_lt g names _ _ (by have:=g.pos; omega)
theorem find_lt {d : Dk} (g : Good d) (path : ByteArray) (kind : Int) : (d.findF path kind).2.2 < d.nodes.length:=by
 have hp:=g.pos
 unfold Dk.findF
 split
 ·show (0 : Int) < _; omega
 ·split
  ·show (0 : Int) < _; omega
  ·rename_i names _
   split
   ·show (0 : Int) < _; omega
   ·split
    ·show (0 : Int) < _; omega
    ·split
     ·show (0 : Int) < _; omega
     ·exact walk_lt g names
theorem find_pos {d : Dk} {path : ByteArray} {kind : Int} (h : (d.findF path kind).1 = 0) : 0 <= (d.findF path kind).2.2 /\ d.down = false:=by
 unfold Dk.findF at h ⊢
 split at h
 ·cases h
 ·rename_i hd
  split at h
  ·cases h
  ·split at h
   ·rename_i h1
    exact absurd h h1
   ·split at h
    ·cases h
    ·split at h
     ·cases h
     ·rename_i h1 h2 h3
      simp only [if_neg h1, if_neg h2, if_neg h3, if_neg hd]
      exact ⟨by omega, by simpa using hd⟩
section
variable {w w' w'' : World} {b : Nat} {d d' : Dk} {v : DV} {tag : Nat -> Nat}
theorem back3 {x : Nat} {l : List Value} (hx : bk w x = some l) (hl : l.length = 3) (p q r : Value) : ldA 3 (Ptr x) (sto w x 0 [p, q, r]) = some (.agg #[p, q, r]):=by
 obtain ⟨a, b, c, rfl⟩ : ∃ a b c, l = [a, b, c]:=by
  match l, hl with
  | [a, b, c], _ => exact ⟨a, b, c, rfl⟩
 rw [ldA_bk (l:=[p, q, r]) (by rw [bk_sto_eq, hx]; rfl) (by simp)]; rfl
theorem find_run (h : DA w b d v tag) (g : Good d) {path : ByteArray} (hs : path.size < 4294967281) (kind : Int) :
  Run (F.d_find (Ptr b) (.string path) (.int .i64 kind)) w λ r w' => r = .tuple #[spotV (d.findF path kind), .int .i64 (d.findF path kind).1] /\ Fr (λ _ => False) w w':=by
 unfold F.d_find
 simp only [Run_bind]
 refine Run_new λ x1 w1 hx1 hw1 f1 hx1le => ?_
 have h1:=h.fr0 f1
 have hx1' : bk w1 x1 = some [.int .i64 0, .string e0, .int .i64 0]:=hx1
 have back : ∀ (w4 : World) (e : Int), Fr (λ _ => False) w1 w4 -> ldA 3 (Ptr x1) (sto w4 x1 0 [.int .i64 0, .string ByteArray.empty, .int .i64 0]) = some (spotV (zspot e)):=λ w4 e f => back3 (f.bk_some hx1' id) rfl _ _ _
 have wx : ∀ w4, Fr (λ _ => False) w1 w4 -> bk w4 x1 = some [.int .i64 0, .string e0, .int .i64 0] /\ wr w4 x1 = true:=λ w4 f => ⟨f.bk_some hx1' id, by rw [f.wr (bk_lt hx1') id]; exact hw1⟩
 refine ready_run h1 ?_
 obtain ⟨bx, wx0⟩:=wx w1 (Fr.refl _ _)
 cases hd : d.down with
 | true =>
  have e : d.findF path kind = zspot 10:=by simp [Dk.findF, hd]
  simp [-ldA_ptr, build_z, bx, wx0]
  rw [e]
  exact ⟨_, back w1 10 (Fr.refl _ _), ⟨rfl, rfl⟩, f1.sto (.inr hx1le) _ _⟩
 | false =>
  simp [-ldA_ptr]
  obtain ⟨m, hm⟩:=h1.ml
  refine (parse_run path hs hm).mono ?_
  rintro _ w2 ⟨nv, rfl, f2, hnames⟩
  have h2:=h1.fr0 f2
  obtain ⟨bx2, wx2⟩:=wx w2 f2
  cases hp : parseF path with
  | none =>
   have e : d.findF path kind = zspot 11:=by simp [Dk.findF, hd, hp]
   simp [-ldA_ptr, build_z, bx2, wx2]
   rw [e]
   exact ⟨_, back w2 11 f2, ⟨rfl, rfl⟩, (f1.trans f2 λ _ _ => id).sto (.inr hx1le) _ _⟩
  | some names =>
   obtain ⟨hsl, hnew⟩:=hnames names hp
   have hnl:=parse_len hp
   simp [-ldA_ptr]
   refine (walk_run h2 g hsl (by omega)).mono ?_
   rintro _ w3 ⟨rfl, f3⟩
   have h3:=h2.fr0 f3
   have hlt:=walk_lt g names
   have e : d.findF path kind = if (d.walkF names).1 ≠ 0 then zspot (d.walkF names).1 else if (d.walkF names).2.2 < 0 then zspot 12 else if kind ≠ 0 /\ (d.nd (d.walkF names).2.2).kind ≠ kind then zspot 14 else d.walkF names:=by
    simp [Dk.findF, hd, hp]
   rw [e]
   clear e
   generalize d.walkF names = s at *
   obtain ⟨e, ⟨a1, a2⟩, node⟩:=s
   simp only at hlt
   simp [-ldA_ptr, spotV]
   refine Run_newSt (cs:=#[.int .i64 a1, .string a2, .int .i64 node]) rfl rfl (by simp) λ x2 w4 hx2 hw2 f4 hx2le => ?_
   have f14 : Fr (λ _ => False) w1 w4:=(f2.trans f3 λ _ _ => id).trans f4 λ _ _ => id
   have f04 : Fr (λ _ => False) w w4:=f1.trans f14 λ _ _ => id
   obtain ⟨bx4, wx4⟩:=wx w4 f14
   have hx2' : bk w4 x2 = some [.int .i64 a1, .string a2, .int .i64 node]:=hx2
   have hl2 : ldA 3 (Ptr x2) w4 = some (.agg #[.int .i64 a1, .string a2, .int .i64 node]):=by rw [ldA_bk hx2' (by simp)]; rfl
   by_cases k1 : e = 0
   ·by_cases k2 : node < 0
    ·simp [-ldA_ptr, k1, hx2', k2, build_z, bx4, wx4]
     exact ⟨_, back w4 12 f14, ⟨rfl, rfl⟩, f04.sto (.inr hx1le) _ _⟩
    ·have h4:=h3.fr0 f4
     obtain ⟨j, hj⟩ : ∃ j : Nat, node = j:=⟨node.toNat, by omega⟩
     have hjl : j < d.nodes.length:=by omega
     have hjn : d.nodes[j]? = some d.nodes[j]:=List.getElem?_eq_getElem hjl
     generalize d.nodes[j] = nd at hjn
     have hnd : d.nd node = nd:=by simp [Dk.nd, hj, hjn]
     obtain ⟨b0, o, l0, i1, t4, i2, q0, _, _, _⟩:=h4.setNode hjn
     have i1' : idxA 3 v.nv (.int .i64 node) = some (.pointer (some ⟨b0, o, none⟩)):=by rw [hj]; exact i1
     have hb4:=h4.blk
     have hback : ∀ w5, Fr (λ _ => False) w1 w5 -> ldA 3 (Ptr x1) (sto w5 x1 0 [.int .i64 a1, .string a2, .int .i64 node]) = some (.agg #[.int .i64 a1, .string a2, .int .i64 node]):=λ w5 f => back3 (f.bk_some hx1' id) rfl _ _ _
     have hl2d : ldA 3 (Ptr x2) w4.drew = some (.agg #[.int .i64 a1, .string a2, .int .i64 node]):=hl2
     by_cases k3 : kind = 0
     ·simp [-ldA_ptr, k1, hx2', k2, k3, hl2, bx4, wx4]
      exact ⟨by intro i hi; rcases i with _ | _ | _ | i <;> simp at hi ⊢ <;> omega, _, hback _ (f14.drew), rfl, f04.drew.sto (.inr hx1le) _ _⟩
     ·by_cases k4 : nd.kind = kind
      ·simp [-ldA_ptr, k1, hx2', k2, k3, hl2, bx4, wx4, hb4, Dk.cells, i1', i2, q0, k4, hnd]
       exact ⟨by intro i hi; rcases i with _ | _ | _ | i <;> simp at hi ⊢ <;> omega, _, hback _ (f14.drew), rfl, f04.drew.sto (.inr hx1le) _ _⟩
      ·simp [-ldA_ptr, k1, hx2', k2, k3, hl2, bx4, wx4, hb4, Dk.cells, i1', i2, q0, k4, hnd, build_z]
       exact ⟨_, back _ 14 (f14.drew), ⟨rfl, rfl⟩, f04.drew.sto (.inr hx1le) _ _⟩
   ·simp [-ldA_ptr, k1, build_z, bx4, wx4]
    exact ⟨_, back w4 e f14, ⟨rfl, rfl⟩, f04.sto (.inr hx1le) _ _⟩
end
def Dk.kindF (d : Dk) (path : ByteArray) : Int × Int:=if (d.findF path 0).1 ≠ 0 then (0, (d.findF path 0).1) else ((d.nd (d.findF path 0).2.2).kind, 0)
def Dk.sizeF (d : Dk) (path : ByteArray) : Int × Int:=if (d.findF path 2).1 ≠ 0 then (0, (d.findF path 2).1) else ((d.nd (d.findF path 2).2.2).seen.size, 0)
def sumF (d : Dk) (l : List (Slt × Int)) : Nat:=(l.map λ p => (d.nd p.2).seen.size).sum
theorem wrap_wrap (a b : Int) : IntKind.i64.wrap (IntKind.i64.wrap a + b) = IntKind.i64.wrap (a + b):=by simp [IntKind.wrap, IntKind.bits, IntKind.signed]; omega
theorem sum_perm {l l' : List Nat} (h : l.Perm l') : l.sum = l'.sum:=by
 induction h with
 | nil => rfl
 | cons x _ ih => simp [ih]
 | swap x y l => simp; omega
 | trans _ _ ih1 ih2 => exact ih1.trans ih2
section
variable {w w' w'' : World} {b : Nat} {d d' : Dk} {v : DV} {tag : Nat -> Nat}
theorem spot_mem {a1 : Int} {a2 : ByteArray} {node : Int} {Q : Value -> Value -> World -> Prop} (q : ∀ x w', bk w' x = some [.int .i64 a1, .string a2, .int .i64 node] -> wr w' x = true -> Fr (λ _ => False) w w' -> w.heap.size <= x -> Q (Ptr x) undef w') :
  Run (newM 85 #[.int .i64 0, .string ByteArray.empty, .int .i64 0]) w λ a w1 => Run (stM 3 a (.agg #[.int .i64 a1, .string a2, .int .i64 node])) w1 λ u w2 => Q a u w2 :=
 Run_newSt (cs:=#[.int .i64 a1, .string a2, .int .i64 node]) rfl rfl (by simp) λ x w' h1 h2 h3 h4 => q x w' h1 h2 h3 h4
theorem kind_run (h : DA w b d v tag) (g : Good d) {path : ByteArray} (hs : path.size < 4294967281) :
  Run (F.d_Kind (Ptr b) (.string path)) w λ r w' => r = .tuple #[.int .i64 (d.kindF path).1, .int .i64 (d.kindF path).2] /\ Fr (λ _ => False) w w':=by
 unfold F.d_Kind
 simp only [Run_bind]
 refine (find_run h g hs 0).mono ?_
 rintro _ w1 ⟨rfl, f1⟩
 have hlt:=find_lt g path 0
 have hpos:=find_pos (d:=d) (path:=path) (kind:=0)
 unfold Dk.kindF
 generalize d.findF path 0 = s at *
 obtain ⟨e, ⟨a1, a2⟩, node⟩:=s
 simp only at hlt hpos
 simp [-ldA_ptr, spotV]
 refine spot_mem λ x w2 hx _ f2 _ => ?_
 have f02 : Fr (λ _ => False) w w2:=f1.trans f2 λ _ _ => id
 by_cases k1 : e = 0
 ·have h2:=h.fr0 f02
  have hnn:=(hpos k1).1
  obtain ⟨j, hj⟩ : ∃ j : Nat, node = j:=⟨node.toNat, by omega⟩
  have hjl : j < d.nodes.length:=by omega
  have hjn : d.nodes[j]? = some d.nodes[j]:=List.getElem?_eq_getElem hjl
  generalize d.nodes[j] = nd at hjn
  have hnd : d.nd node = nd:=by simp [Dk.nd, hj, hjn]
  obtain ⟨b0, o, l0, i1, t4, i2, q0, _, _, _⟩:=h2.setNode hjn
  have i1' : idxA 3 v.nv (.int .i64 node) = some (.pointer (some ⟨b0, o, none⟩)):=by rw [hj]; exact i1
  have hb2:=h2.blk
  simp [-ldA_ptr, k1, hx, hb2, Dk.cells, i1', i2, q0, hnd]
  exact f02.drew
 ·simp [-ldA_ptr, k1]
  exact f02
theorem size_run (h : DA w b d v tag) (g : Good d) {path : ByteArray} (hs : path.size < 4294967281) :
  Run (F.d_Size (Ptr b) (.string path)) w λ r w' => r = .tuple #[.int .i64 (d.sizeF path).1, .int .i64 (d.sizeF path).2] /\ Fr (λ _ => False) w w':=by
 unfold F.d_Size
 simp only [Run_bind]
 refine (find_run h g hs 2).mono ?_
 rintro _ w1 ⟨rfl, f1⟩
 have hlt:=find_lt g path 2
 have hpos:=find_pos (d:=d) (path:=path) (kind:=2)
 unfold Dk.sizeF
 generalize d.findF path 2 = s at *
 obtain ⟨e, ⟨a1, a2⟩, node⟩:=s
 simp only at hlt hpos
 simp [-ldA_ptr, spotV]
 refine spot_mem λ x w2 hx _ f2 _ => ?_
 have f02 : Fr (λ _ => False) w w2:=f1.trans f2 λ _ _ => id
 by_cases k1 : e = 0
 ·have h2:=h.fr0 f02
  have hnn:=(hpos k1).1
  obtain ⟨j, hj⟩ : ∃ j : Nat, node = j:=⟨node.toNat, by omega⟩
  have hjl : j < d.nodes.length:=by omega
  have hjn : d.nodes[j]? = some d.nodes[j]:=List.getElem?_eq_getElem hjl
  generalize d.nodes[j] = nd at hjn
  have hnd : d.nd node = nd:=by simp [Dk.nd, hj, hjn]
  obtain ⟨b0, o, l0, i1, t4, i2, _, q1, _, _⟩:=h2.setNode hjn
  have i1' : idxA 3 v.nv (.int .i64 node) = some (.pointer (some ⟨b0, o, none⟩)):=by rw [hj]; exact i1
  have hb2:=h2.blk
  simp [-ldA_ptr, k1, hx, hb2, Dk.cells, i1', i2, q1, hnd]
  exact f02.drew
 ·simp [-ldA_ptr, k1]
  exact f02
theorem used_run (h : DA w b d v tag) (g : Good d) (hpos : ∀ s k, d.seen s = some k -> 0 <= k) :
  Run (F.d_Used (Ptr b)) w λ r w' => r = .int .i64 (IntKind.i64.wrap (sumF d v.ls)) /\ Fr (λ _ => False) w w':=by
 unfold F.d_Used
 have hb:=h.blk
 simp [-ldA_ptr, hb, Dk.cells]
 refine Run_rngM h.seen λ w1 r hit f1 hr => ?_
 have hin : ∀ p ∈ v.ls, ∃ j : Nat, p.2 = j /\ j < d.nodes.length:=λ p hp => by
  have h1:=getK_of_mem h.seen.nodup (show (p.1, p.2) ∈ v.ls from hp)
  rw [h.seenE p.1] at h1
  have h2:=g.seen _ _ h1
  have h3:=hpos _ _ h1
  exact ⟨p.2.toNat, by omega, by omega⟩
 refine Run_range (k:=λ _ _ => _) (λ x => rfl) (λ js x w' => x = [.int .i64 (IntKind.i64.wrap (sumF d (js.filterMap λ j => v.ls[j]?)))] /\ Fr (λ c => c = r) w1 w') ⟨by simp [sumF]; rfl, Fr.refl _ _⟩ hit ?_ ?_
 ·rintro js j p x w2 w3 hp hj ⟨rfl, f2⟩ hit3 f3 _
  have f13 : Fr (λ c => c = r) w1 w3:=f2.trans f3 λ _ _ h => h
  have f03 : Fr (λ _ => False) w w3:=f1.new f13 λ c hc => by omega
  have h3:=h.fr0 f03
  have he:=hit3.entry hp
  obtain ⟨i, hi, hil⟩:=hin p (List.mem_of_getElem? hp)
  have hjn : d.nodes[i]? = some d.nodes[i]:=List.getElem?_eq_getElem hil
  generalize d.nodes[i] = nd at hjn
  have hnd : d.nd p.2 = nd:=by simp [Dk.nd, hi, hjn]
  obtain ⟨b0, o, l0, i1, t4, i2, _, q1, _, _⟩:=h3.setNode hjn
  have i1' : idxA 3 v.nv (idv p.2) = some (.pointer (some ⟨b0, o, none⟩)):=by rw [hi]; exact i1
  have hb3:=h3.blk
  simp [-ldA_ptr, he, hb3, Dk.cells, i1', i2, q1]
  refine ⟨⟨?_, f13⟩, hit3⟩
  rw [wrap_wrap]
  congr 1
  simp [sumF, List.filterMap_append, hp, hnd]
 ·rintro js x w2 w3 hperm ⟨rfl, f2⟩ hit3 f3 _
  have f03 : Fr (λ _ => False) w w3:=(f1.new f2 λ c hc => by omega).trans f3 λ _ _ => id
  simp
  refine ⟨?_, f03⟩
  congr 2
  exact sum_perm ((perm_all hperm).map _)
theorem arm_run (h : DA w b d v tag) (k : Int) :
  Run (F.d_Arm (Ptr b) (.int .i64 k)) w λ r w' => (d.down = true /\ r = .int .i64 10 /\ w' = w) ∨ (d.down = false /\ r = .int .i64 0 /\ DDid w w' b tag { d with armed:=decide (0 <= k), left:=k }):=by
 unfold F.d_Arm
 simp only [Run_bind]
 refine ready_run h ?_
 have hb:=h.blk
 have hw:=h.wr
 cases hd : d.down with
 | true => simp
 | false =>
  have h1 : DA (sto w b 3 [.bool (decide (0 <= k))]) b { d with armed:=decide (0 <= k) } v tag:=h.put (by simp [Dk.cells]) rfl rfl rfl rfl
  simp [hb, hw, Dk.cells]
  have t:=(h1.put (i:=4) (x:=.int .i64 k) (d':={ d with armed:=decide (0 <= k), left:=k }) (by simp [Dk.cells]) rfl rfl rfl rfl).did (((Fr.refl (λ c => tag c ≠ 0) w).sto (b:=b) (.inl (by rw [h.tb]; decide)) _ _).sto (b:=b) (.inl (by rw [h.tb]; decide)) _ _)
  rw [hd] at t
  exact t
end
end Go.Proofs.YtojnickeblbgoaaGreatDoor
namespace Go.Proofs.YtojnickeblbgoaaGreatDoor
set_option linter.unusedVariables false
open Go.Lift
set_option linter.unusedSimpArgs false
set_option maxHeartbeats 2000000
def appendF (d : Dk) (path data : ByteArray) (U : Nat) : Int × Dk:=if (d.findF path 2).1 ≠ 0 then ((d.findF path 2).1, d) else if d.cap < (U : Int) + data.size then (15, d) else
 doF d ⟨0, (d.findF path 2).2.2, data, 0, e0, e0, 0⟩ (d.findF path 2).2.2.toNat (d.nd (d.findF path 2).2.2)
def Dk.addNode (d : Dk) (kind : Int) : Dk:={ d with nodes:=d.nodes ++ [⟨kind, e0, e0⟩] }
def createF (d : Dk) (path : ByteArray) (kind : Int) : Int × Dk:=if d.down then (10, d) else match parseF path with
 | none => (11, d)
 | some names => if (d.walkF names).1 ≠ 0 then ((d.walkF names).1, d) else if 0 <= (d.walkF names).2.2 then (13, d) else
  doF (d.addNode kind) ⟨2, (d.walkF names).2.1.1, e0, 0, (d.walkF names).2.1.2, e0, d.nodes.length⟩ (d.walkF names).2.1.1.toNat (d.nd (d.walkF names).2.1.1)
theorem walkGo_dir {d : Dk} (g : Good d) : ∀ (names : List ByteArray) (a : Slt) (node : Int), node < d.nodes.length -> (names ≠ [] ∨ (0 <= a.1 /\ a.1 < d.nodes.length)) -> (d.walkGo a node names).1 = 0 -> 0 <= (d.walkGo a node names).2.1.1 /\ (d.walkGo a node names).2.1.1 < d.nodes.length
 | [], a, node, _, h, _ => h.elim (λ h => absurd rfl h) id
 | n :: rest, a, node, hl, _, h => by
  unfold Dk.walkGo at h ⊢
  by_cases h1 : node < 0
  ·rw [if_pos h1] at h; cases h
  rw [if_neg h1] at h ⊢
  by_cases h2 : (d.nd node).kind ≠ 1
  ·rw [if_pos h2] at h; cases h
  rw [if_neg h2] at h ⊢
  by_cases h3 : (d.seen (node, n)).getD (-1) < 0 /\ rest ≠ []
  ·rw [if_pos h3] at h; cases h
  rw [if_neg h3] at h ⊢
  refine walkGo_dir g rest _ _ ?_ (.inr ⟨by simp only; omega, hl⟩) h
  cases hs : d.seen (node, n) with
  | none => simp; omega
  | some k => simpa using g.seen _ _ hs
theorem walk_dir {d : Dk} (g : Good d) {names : List ByteArray} (hn : names ≠ []) (h : (d.walkF names).1 = 0) : 0 <= (d.walkF names).2.1.1 /\ (d.walkF names).2.1.1 < d.nodes.length:=walkGo_dir g names _ _ (by have:=g.pos; omega) (.inl hn) h
section
variable {w w' w'' : World} {b : Nat} {d d' : Dk} {v : DV} {tag : Nat -> Nat}
theorem build_chg (a n : Int) (x : ByteArray) (s : ByteArray) (t : Int) : buildV #[.int .i64 0, .int .i64 0, .string ByteArray.empty, .int .i64 0, .string ByteArray.empty, .string ByteArray.empty, .int .i64 0] [(0, 1, .int .i64 a), (1, 1, .int .i64 n), (2, 1, .string x)] = some (Chg.val ⟨a, n, x, 0, e0, e0, 0⟩):=by simp [buildV, fillV, Chg.val, Chg.cells]
theorem build_link (a n : Int) (s : ByteArray) (t : Int) : buildV #[.int .i64 0, .int .i64 0, .string ByteArray.empty, .int .i64 0, .string ByteArray.empty, .string ByteArray.empty, .int .i64 0] [(0, 1, .int .i64 a), (1, 1, .int .i64 n), (4, 1, .string s), (6, 1, .int .i64 t)] = some (Chg.val ⟨a, n, e0, 0, s, e0, t⟩):=by simp [buildV, fillV, Chg.val, Chg.cells]
theorem build_node (k : Int) : buildV #[.int .i64 0, .string ByteArray.empty, .string ByteArray.empty] [(0, 1, .int .i64 k)] = some (.agg #[.int .i64 k, .string ByteArray.empty, .string ByteArray.empty]):=by simp [buildV, fillV]
theorem append_run (h : DA w b d v tag) (g : Good d) (hp : ∀ s k, d.seen s = some k -> 0 <= k) {path data : ByteArray} (hs : path.size < 4294967281) (hd : data.size <= 2305843009213693952) (hU : ∀ ls, (ls.map (·.1)).Nodup -> Eqm ls d.seen -> sumF d ls <= 2305843009213693952) (hn : ∀ nd ∈ d.nodes, nd.seen.size <= 2305843009213693952) (hpl : d.pending.length <= 16777216) :
  Run (F.d_Append (Ptr b) (.string path) (.string data)) w λ r w' => ∃ ls, (ls.map (·.1)).Nodup /\ Eqm ls d.seen /\ r = .int .i64 (appendF d path data (sumF d ls)).1 /\ DDid w w' b tag (appendF d path data (sumF d ls)).2:=by
 unfold F.d_Append
 simp only [Run_bind]
 refine (find_run h g hs 2).mono ?_
 rintro _ w1 ⟨rfl, f1⟩
 have hlt:=find_lt g path 2
 have hpos:=find_pos (d:=d) (path:=path) (kind:=2)
 unfold appendF
 generalize d.findF path 2 = s at *
 obtain ⟨e, ⟨a1, a2⟩, node⟩:=s
 simp only at hlt hpos
 simp [-ldA_ptr, spotV]
 refine spot_mem λ x w2 hx _ f2 hxle => ?_
 have f02 : Fr (λ _ => False) w w2:=f1.trans f2 λ _ _ => id
 have hUv:=hU v.ls h.seen.nodup h.seenE
 by_cases k1 : e = 0
 ·have h2:=h.fr0 f02
  have hnn:=(hpos k1).1
  obtain ⟨j, hj⟩ : ∃ j : Nat, node = j:=⟨node.toNat, by omega⟩
  have hjl : j < d.nodes.length:=by omega
  have hjn : d.nodes[j]? = some d.nodes[j]:=List.getElem?_eq_getElem hjl
  generalize d.nodes[j] = nd at hjn
  have hnd : d.nd node = nd:=by simp [Dk.nd, hj, hjn]
  have hnds:=hn nd (List.mem_of_getElem? hjn)
  simp [-ldA_ptr, k1]
  have fd : Fr (λ _ => False) w2 w2.drew:=(Fr.refl (λ _ => False) w2).drew
  refine (used_run (h2.fr0 fd) g hp).mono ?_
  rintro _ w3 ⟨rfl, f3⟩
  have h3:=(h2.fr0 fd).fr0 f3
  have hb3:=h3.blk
  have hb2:=h2.blk
  have f03 : Fr (λ _ => False) w w3:=(f02.trans fd λ _ _ => id).trans f3 λ _ _ => id
  have hx3 : bk w3 x = some [.int .i64 a1, .string a2, .int .i64 node]:=f3.bk_some (w:=w2.drew) hx id
  have e1 : IntKind.i64.wrap (sumF d v.ls : Nat) = (sumF d v.ls : Nat):=wrap_int (by omega) (by omega)
  have e2 : IntKind.i64.wrap (((sumF d v.ls : Nat) : Int) + data.size) = ((sumF d v.ls : Nat) : Int) + data.size:=wrap_int (by omega) (by omega)
  by_cases k2 : d.cap < ((sumF d v.ls : Nat) : Int) + data.size
  ·simp [-ldA_ptr, hb3, hb2, Dk.cells, e1, e2, k2]
   exact ⟨v.ls, h.seen.nodup, h.seenE, by simp [k2], by simp only [k2, if_true]; exact (h3.did (f03.mono λ _ h => h.elim))⟩
  ·simp [-ldA_ptr, hb3, hb2, Dk.cells, e1, e2, k2, hx3]
   rw [build_chg 0 node data e0 0]
   simp only [Run_bindO_some, Run_bind, Run_ret]
   refine (do_run h3 ⟨0, node, data, 0, e0, e0, 0⟩ hjn hj ⟨λ _ => by simp only; omega, λ h => by simp at h⟩ hpl).mono ?_
   rintro _ w4 ⟨rfl, h4⟩
   refine ⟨v.ls, h.seen.nodup, h.seenE, ?_, ?_⟩
   ·rw [if_neg k2, hnd, show node.toNat = j by omega]
   ·rw [if_neg k2, hnd, show node.toNat = j by omega]; exact h4.pre f03
 ·simp [-ldA_ptr, k1]
  exact ⟨v.ls, h.seen.nodup, h.seenE, (h.fr0 f02).did (f02.mono λ _ h => h.elim)⟩
theorem create_run (h : DA w b d v tag) (g : Good d) {path : ByteArray} (hs : path.size < 4294967281) (kind : Int) (hpl : d.pending.length <= 16777216) (hnl : d.nodes.length <= 16777216) :
  Run (F.d_add (Ptr b) (.string path) (.int .i64 kind)) w λ r w' => r = .int .i64 (createF d path kind).1 /\ DDid w w' b tag (createF d path kind).2:=by
 unfold F.d_add
 simp only [Run_bind]
 refine ready_run h ?_
 unfold createF
 by_cases hd : d.down = true
 ·simp [hd]
  exact h.did (Fr.refl _ _)
 ·simp [-ldA_ptr, hd]
  obtain ⟨m, hm⟩:=h.ml
  refine (parse_run path hs hm).mono ?_
  rintro _ w2 ⟨nv, rfl, f2, hnames⟩
  have h2:=h.fr0 f2
  cases hp : parseF path with
  | none =>
   simp
   exact h2.did (f2.mono λ _ h => h.elim)
  | some names =>
   obtain ⟨hsl, hnew⟩:=hnames names hp
   have hnl':=parse_len hp
   simp [-ldA_ptr]
   refine (walk_run h2 g hsl (by omega)).mono ?_
   rintro _ w3 ⟨rfl, f3⟩
   have h3:=h2.fr0 f3
   have f03 : Fr (λ _ => False) w w3:=f2.trans f3 λ _ _ => id
   have hne : (d.walkF names).1 = 0 -> ¬ 0 <= (d.walkF names).2.2 -> 0 <= (d.walkF names).2.1.1 /\ (d.walkF names).2.1.1 < d.nodes.length:=λ h1 h2 => by
    refine walk_dir g (λ he => ?_) h1
    rw [he] at h2
    exact h2 (show (0 : Int) <= 0 by omega)
   generalize d.walkF names = s at *
   obtain ⟨e, ⟨a1, a2⟩, node⟩:=s
   simp only at hne
   simp [-ldA_ptr, spotV]
   refine spot_mem λ x w4 hx _ f4 hxle => ?_
   have h4:=h3.fr0 f4
   have f04 : Fr (λ _ => False) w w4:=f03.trans f4 λ _ _ => id
   by_cases k1 : e = 0
   ·by_cases k2 : 0 <= node
    ·simp [-ldA_ptr, k1, k2, hx]
     exact h4.did (f04.mono λ _ h => h.elim)
    ·obtain ⟨n1, n2⟩:=hne k1 k2
     obtain ⟨j, hj⟩ : ∃ j : Nat, a1 = j:=⟨a1.toNat, by omega⟩
     have hjl : j < d.nodes.length:=by omega
     have hjn : d.nodes[j]? = some d.nodes[j]:=List.getElem?_eq_getElem hjl
     generalize d.nodes[j] = nd at hjn
     have hnd : d.nd a1 = nd:=by simp [Dk.nd, hj, hjn]
     have hb4:=h4.blk
     simp [-ldA_ptr, k1, k2, hx, hb4, Dk.cells, build_node]
     refine Run_app1 (k:=3) (by simp) h4.nodes (by decide) rfl (by decide) (by simp) (by simp only [List.length_map]; omega) λ r w5 hr f5 hin w6 f6 => ?_
     have hr' : SlW 3 w5 r ((d.nodes ++ [(⟨kind, e0, e0⟩ : Nd)]).map Nd.cells):=by simpa [Nd.cells] using hr
     obtain ⟨g1, g2, tag', g3, g4, g5⟩:=h4.newNodes f5 hr' hin
     have hrc:=hr.1.isCell
     have s03:=f03.size
     have hx5 : x ≠ b:=λ he => by have:=h.bound b (by rw [h.tb]; decide); omega
     have hxn : ¬ inB v.nv x:=λ hi => by have:=h.bound x (by rw [h.tn x hi]; decide); omega
     have hx7 : bk (sto w5 b 6 [r]) x = some [.int .i64 a1, .string a2, .int .i64 node]:=by rw [bk_sto_ne hx5]; exact f5.bk_some hx hxn
     have hlr:=hr'.1.lenL
     rw [List.length_map, List.length_append] at hlr
     have e3 : IntKind.i64.wrap (((d.nodes.length + 1 : Nat) : Int) - 1) = d.nodes.length:=by
      rw [show ((d.nodes.length + 1 : Nat) : Int) - 1 = d.nodes.length by omega]
      exact wrap_int (by omega) (by omega)
     rw [cells_isCell hrc, show (#[r] : Array Value).toList = [r] from rfl]
     refine ⟨rfl, by simp [hrc], ⟨_, g1, by simp [Dk.cells]⟩, g2, ?_⟩
     have hb7:=g3.blk
     refine ⟨_, by rw [hx7]; rfl, _, by rw [hx7]; rfl, _, by rw [g1]; rfl, ?_⟩
     simp only [hlr, Run_bindO_some, binV_int, intBin_sub, List.length_cons, List.length_nil, Nat.zero_add, e3, build_link, Run_bind, Run_ret]
     have fd : Fr (λ _ => False) (sto w5 b 6 [r]) (sto w5 b 6 [r]).drew:=(Fr.refl (λ _ => False) _).drew
     have hjn' : (d.nodes ++ [(⟨kind, e0, e0⟩ : Nd)])[j]? = some nd:=by rw [List.getElem?_append_left hjl]; exact hjn
     refine (do_run (g3.fr0 fd) ⟨2, a1, e0, 0, a2, e0, d.nodes.length⟩ (i:=j) (nd:=nd) hjn' hj ⟨λ h => by simp at h, λ h => by simp at h⟩ hpl).mono ?_
     rintro _ w8 ⟨rfl, h8⟩
     have f07 : Fr (λ c => tag c ≠ 0) w (sto w5 b 6 [r]).drew:=((f04.mono λ _ h => h.elim).trans g4 λ _ _ h => h).drew
     rw [hnd, show a1.toNat = j by omega]
     exact ⟨rfl, DDid.trans h.bound f07 (λ c hc => (g5 c hc).imp id λ h => by have:=f04.size; omega) h8⟩
   ·simp [-ldA_ptr, k1]
    exact h4.did (f04.mono λ _ h => h.elim)
end
end Go.Proofs.YtojnickeblbgoaaGreatDoor
namespace Go.Proofs.YtojnickeblbgoaaGreatDoor
open Go.Lift
set_option linter.unusedSimpArgs false
set_option maxHeartbeats 2000000
abbrev Acc:=ByteArray × (Slt -> Option Int)
def settleStep (i : Int) (acc : Acc) (c : Chg) : Acc:=if c.node = i then applyF c acc.1 acc.2 else acc
def foldOk (i : Int) : Acc -> List Chg -> Prop
 | _, [] => True
 | acc, c :: r => (c.node = i -> c.fits acc.1) /\ foldOk i (settleStep i acc c) r
theorem foldOk_at {i : Int} : ∀ {l : List Chg} {acc : Acc} {k : Nat} {c : Chg}, foldOk i acc l -> l[k]? = some c -> c.node = i -> c.fits ((l.take k).foldl (settleStep i) acc).1
 | [], acc, k, c, _, h, _ => by simp at h
 | x :: l, acc, 0, c, h, hk, hc => by
  simp only [List.getElem?_cons_zero, Option.some.injEq] at hk
  subst hk
  exact h.1 hc
 | x :: l, acc, k + 1, c, h, hk, hc => by
  simp only [List.getElem?_cons_succ] at hk
  exact foldOk_at (l:=l) h.2 hk hc
def restOf (i : Int) (l : List Chg) : List Chg:=l.filter λ c => decide (c.node ≠ i)
def settleF (d : Dk) (i : Nat) (nd : Nd) : Int × Dk:=if d.actF.1 ≠ 0 then d.actF else (0, { d.actF.2 with
 nodes:=d.nodes.set i { nd with kept:=(d.pending.foldl (settleStep i) (nd.kept, d.kept)).1 }, kept:=(d.pending.foldl (settleStep i) (nd.kept, d.kept)).2, pending:=restOf i d.pending })
theorem ld7 {w : World} {x : Nat} {c : Chg} (h : bk w x = some c.cells) : ldA 7 (Ptr x) w = some c.val:=by rw [ldA_bk h (by simp [Chg.cells])]; rfl
section
variable {w w' w'' : World} {b : Nat} {d d' : Dk} {v : DV} {tag : Nat -> Nat}
theorem settle_run (h : DA w b d v tag) {i : Nat} {nd : Nd} (hi : d.nodes[i]? = some nd) (hok : foldOk i (nd.kept, d.kept) d.pending) (hpl : d.pending.length <= 16777216) :
  Run (F.d_settle (Ptr b) (.int .i64 i)) w λ r w' => r = .int .i64 (settleF d i nd).1 /\ DDid w w' b tag (settleF d i nd).2:=by
 unfold F.d_settle
 simp only [Run_bind]
 refine (act_run h).mono ?_
 rintro _ w2 ⟨rfl, h2, f2⟩
 obtain ⟨an, asn, ak, ap⟩:=actF_same d
 have f2' : Fr (λ c => tag c ≠ 0) w w2:=f2.mono λ c hc => by rw [hc, h.tb]; decide
 by_cases ha : d.actF.1 = 0
 ·have hi2 : d.actF.2.nodes[i]? = some nd:=by rw [an]; exact hi
  obtain ⟨b0, o, l0, i1, t4, _⟩:=h2.setNode hi2
  have hb2:=h2.blk
  have hpv:=h2.pend.1.lenL
  rw [List.length_map, ap] at hpv
  simp [-ldA_ptr, ha, hb2, Dk.cells, i1, hpv]
  have hacc : DA w2 b { d.actF.2 with nodes:=d.nodes.set i { nd with kept:=nd.kept }, kept:=d.kept } { v with lk:=v.lk } tag:=by
   have e : d.nodes.set i { nd with kept:=nd.kept } = d.actF.2.nodes:=by
    rw [an]
    apply List.ext_getElem?
    intro j
    by_cases hj : i = j
    ·subst hj
     rw [List.getElem?_set_self (List.getElem?_eq_some_iff.1 hi).1, hi]
    ·rw [List.getElem?_set_ne hj]
   rw [e, <- ak]
   exact h2
  refine Run_for d.pending.length (λ k s w' => ∃ rest lk, s = [rest, .int .i64 k] /\ DA w' b { d.actF.2 with nodes:=d.nodes.set i { nd with kept:=((d.pending.take k).foldl (settleStep i) (nd.kept, d.kept)).1 }, kept:=((d.pending.take k).foldl (settleStep i) (nd.kept, d.kept)).2 } { v with lk:=lk } tag /\
   SlW 7 w' rest ((restOf i (d.pending.take k)).map Chg.cells) /\ (∀ c, inB rest c -> w.heap.size <= c /\ c < w'.heap.size) /\ Fr (λ c => tag c ≠ 0) w w') ⟨_, v.lk, rfl, hacc, SlW.nil _ _, λ c hc => hc.elim, f2'⟩ ?_ ?_
  ·rintro k s w3 hk ⟨rest, lk, rfl, h3, hrest, hnew, f3⟩
   have ek : d.pending[k]? = some d.pending[k]:=List.getElem?_eq_getElem hk
   have etake : d.pending.take (k + 1) = d.pending.take k ++ [d.pending[k]]:=by rw [List.take_add_one, ek]; rfl
   rw [etake]
   generalize d.pending[k] = c at ek
   have hk' : (k : Int) < d.pending.length:=by omega
   have wk:=wrap_succ (n:=k) (by omega)
   obtain ⟨q, q1, q2⟩:=h3.pend.1.rdA (i:=k) (e:=c.cells) (by decide) (by simp [ap, ek]) .i64
   have q1' : idxA 7 v.pv (.int .i64 k) = some q:=q1
   have q2' : ldA 7 q w3 = some c.val:=q2
   simp only [getL_zero, getL_succ, binV_int, intBin_lss, hk', decide_true, Run_bindO_some, Run_condM_true, Run_bind, q1', Run_rdM, q2', Option.some.injEq, exists_eq_left']
   refine Run_newSt (cs:=c.cells.toArray) rfl rfl (by simpa using c.all) λ x w4 hx hxw f4 hxle => ?_
   have hx4 : bk w4 x = some c.cells:=by simpa using hx
   have h4:=h3.fr0 f4
   have hrest4:=hrest.fr f4 λ _ _ => id
   have s3:=f3.size
   have s4:=f4.size
   have f04 : Fr (λ c => tag c ≠ 0) w w4:=f3.trans f4 λ _ _ h => h.elim
   have hfold : (d.pending.take k ++ [c]).foldl (settleStep i) (nd.kept, d.kept) = settleStep i ((d.pending.take k).foldl (settleStep i) (nd.kept, d.kept)) c:=by rw [List.foldl_append]; rfl
   have hrestF : restOf i (d.pending.take k ++ [c]) = restOf i (d.pending.take k) ++ restOf i [c]:=by simp [restOf]
   rw [hfold, hrestF]
   have hfit:=foldOk_at hok ek
   generalize (d.pending.take k).foldl (settleStep i) (nd.kept, d.kept) = acc at *
   have e7:=ld7 hx4
   by_cases kc : c.node = i
   ·have e1 : settleStep i acc c = applyF c acc.1 acc.2:=by simp [settleStep, kc]
    have e2 : restOf i [c] = []:=by simp [restOf, kc]
    rw [e1, e2, List.append_nil]
    have hi4 : (d.nodes.set i { nd with kept:=acc.1 })[i]? = some { nd with kept:=acc.1 }:=List.getElem?_set_self (List.getElem?_eq_some_iff.1 hi).1
    obtain ⟨b1, o1, l1, j1, t41, j2, _, _, j5, hset⟩:=h4.setNode hi4
    have j1' : idxA 3 v.nv (.int .i64 i) = some (.pointer (some ⟨b1, o1, none⟩)):=j1
    rw [i1] at j1'
    cases j1'
    have hb4:=h4.blk
    have fd : Fr (λ _ => False) w4 w4.drew:=(Fr.refl (λ _ => False) w4).drew
    have h4d:=h4.fr0 fd
    simp [-ldA_ptr, hx4, Chg.cells, kc, e7, j2, j5, hb4, Dk.cells]
    refine (apply_run (w:=w4.drew) (data:=acc.1) h4d.kept h4d.keptE (hfit kc)).mono ?_
    rintro _ w5 ⟨rfl, ⟨lk', hm5, he5⟩, f5⟩
    have h5:=h4d.keptSet f5 hm5 he5
    obtain ⟨A, hA⟩ : ∃ A, A = applyF c acc.1 acc.2:=⟨_, rfl⟩
    simp only at h5
    rw [<- hA] at h5 ⊢
    obtain ⟨k1, h6⟩:=(hset w5 _ _ h5 rfl rfl).2 A.1
    rw [List.set_set] at h6
    rw [show (Value.string A.1).cells = #[Value.string A.1] from rfl]
    refine ⟨rfl, by simp, k1.1, k1.2, ?_⟩
    rw [show (#[Value.string A.1] : Array Value).toList = [Value.string A.1] from rfl]
    have f45 : Fr (λ c => tag c ≠ 0) w4 (sto w5 b0 (o + 2) [.string A.1]):=((fd.mono λ _ h => h.elim).trans f5 λ c _ hc => by rw [hc, h.tk]; decide).sto (b:=b0) (.inl (by rw [t4]; decide)) _ _
    have s45:=f45.size
    have s45':=s45
    rw [size_sto] at s45'
    have nb : ∀ c, inB rest c -> ¬ tag c ≠ 0:=λ c hc h0 => by have:=hnew c hc; have:=h.bound c h0; omega
    exact ⟨rest, ⟨rfl, by rw [wk]; omega⟩, ⟨lk', h6⟩, hrest4.fr f45 nb, λ c hc => ⟨(hnew c hc).1, by have:=(hnew c hc).2; omega⟩, f04.trans f45 λ _ _ h => h⟩
   ·have e1 : settleStep i acc c = acc:=by simp [settleStep, kc]
    have e2 : restOf i [c] = [c]:=by simp [restOf, kc]
    rw [e1, e2]
    simp [-ldA_ptr, hx4, Chg.cells, kc, e7]
    refine Run_app1 (k:=7) (by simp [Chg.val, Chg.cells]) hrest4 (by decide) rfl (by decide) (by simpa [Chg.val] using c.all) (by
     have : (restOf i (d.pending.take k)).length <= d.pending.length:=by
      have h1:=List.length_filter_le (λ c => decide (c.node ≠ (i : Int))) (d.pending.take k)
      have h2:=List.length_take_le k d.pending
      simp only [restOf]
      omega
     simp only [List.length_map]
     omega) λ r w5 hr f5 hin w6 f6 => ?_
    have s5:=f5.size
    have f5' : Fr (λ _ => False) w w5 ∨ True:=.inr trivial
    have h5:=h4.fr f5 λ c hc => by
     have h1:=hnew c hc
     refine ⟨?_, ?_⟩
     ·by_cases h0 : tag c = 0
      ·exact h0
      ·have:=h.bound c h0; omega
     ·obtain ⟨m, hm⟩:=h.ml
      have:=bk_lt hm
      omega
    refine ⟨r, ⟨rfl, by rw [wk]; omega⟩, ⟨lk, h5⟩, by simpa [Chg.val, Chg.cells] using hr, λ c hc => ?_, f04.trans f5 λ c hc h1 => ?_⟩
    ·rcases hin c hc with h' | h'
     ·have:=hnew c h'; omega
     ·omega
    ·have:=hnew c h1; omega
  ·rintro s w3 ⟨rest, lk, rfl, h3, hrest, hnew, f3⟩
   rw [List.take_length] at h3 hrest
   simp
   have hpos : 0 < w.heap.size:=by obtain ⟨m, hm⟩:=h.ml; exact bk_lt hm
   obtain ⟨g1, g2, tag', g3, g4, g5⟩:=h3.newPendG (Fr.refl _ w3) hrest λ c hc => .inr ⟨by
    have h1:=hnew c hc
    by_cases h0 : tag c = 0
    ·exact h0
    ·have:=h.bound c h0; omega, (hnew c hc).2, by have:=hnew c hc; omega⟩
   have hrc:=hrest.1.isCell
   rw [cells_isCell hrc, show (#[rest] : Array Value).toList = [rest] from rfl]
   refine ⟨rfl, by simp [hrc], ⟨_, g1, by simp [Dk.cells]⟩, g2, ?_⟩
   have e : settleF d i nd = (0, { d.actF.2 with nodes:=d.nodes.set i { nd with kept:=(d.pending.foldl (settleStep i) (nd.kept, d.kept)).1 }, kept:=(d.pending.foldl (settleStep i) (nd.kept, d.kept)).2, pending:=restOf i d.pending }):=by simp [settleF, ha]
   rw [e]
   exact ⟨rfl, f3.trans g4 λ _ _ h => h, _, tag', g3, λ c hc => (g5 c hc).imp id λ h => (hnew c h).1⟩
 ·simp [ha]
  have e : settleF d i nd = d.actF:=by simp [settleF, ha]
  rw [e]
  exact ⟨rfl, h2.did f2'⟩
end
end Go.Proofs.YtojnickeblbgoaaGreatDoor
namespace Go.Lift
section
variable {k : Nat} {w w' : World} {v x : Value} {els fls : List (List Value)}
theorem flat_take : ∀ {els : List (List Value)} (n : Nat), (∀ e ∈ els, e.length = k) -> els.flatten.take (n * k) = (els.take n).flatten
 | [], n, _ => by simp
 | e :: els, 0, _ => by simp
 | e :: els, n + 1, h => by
  have he : e.length = k:=h e (by simp)
  have ih:=flat_take n λ x hx => h x (List.mem_cons_of_mem _ hx)
  simp only [List.flatten_cons, List.take_succ_cons, List.flatten_cons]
  rw [List.take_append, he, List.take_of_length_le (by rw [he, Nat.add_mul]; omega), show (n + 1) * k - k = n * k by rw [Nat.add_mul]; omega, ih]
theorem Sl.take (h : Sl k w v els) {n : Nat} (hn : n <= els.length) (kd : IntKind) : ∃ v', sliceV k v none (some (.int kd n)) = some v' /\ Sl k w v' (els.take n) /\ ∀ b, inB v' b -> inB v b:=by
 obtain ⟨h1, a, c, rfl, h2, h3⟩:=h
 have hnc : n <= c:=by omega
 have e : sliceV k (.slice a els.length c) none (some (.int kd n)) = some (.slice (if c = 0 then a else a.map (·.add (0 * k))) n c):=by
  simp [sliceV, highV, lowV, boundV, hnc]
 have hlt : (els.take n).length = n:=by rw [List.length_take]; omega
 refine ⟨_, e, ⟨λ x hx => h1 x (List.mem_of_mem_take hx), (if c = 0 then a else a.map (·.add (0 * k))), c, by rw [hlt], by rw [hlt]; omega, ?_⟩, ?_⟩
 ·by_cases hc : c = 0
  ·exact .inl hc
  ·rcases h3 with h3 | ⟨b, o, l, rfl, h4, h5, h6⟩
   ·exact .inl h3
   ·refine .inr ⟨b, o, l, by rw [if_neg hc]; simp [Addr.add_lit], h4, h5, ?_⟩
    rw [hlt]
    have hfl:=flat_take n h1
    rw [<- hfl, <- h6, List.take_take]
    congr 1
    have : n * k <= els.length * k:=Nat.mul_le_mul_right _ hn
    omega
 ·intro b hb
  cases a with
  | none => simp at hb
  | some a =>
   by_cases hc : c = 0
   ·simpa [hc] using hb
   ·simp only [hc, if_false, Option.map_some] at hb
    simp only [inB_slice] at hb ⊢
    rw [<- hb]
    unfold Addr.add
    split <;> rfl
theorem SlW.drop (h : SlW k w v els) {n : Nat} (hn : n <= els.length) (kd : IntKind) : ∃ v', sliceV k v (some (.int kd n)) none = some v' /\ SlW k w v' (els.drop n) /\ ∀ b, inB v' b -> inB v b:=by
 obtain ⟨v', e1, e2, e3⟩:=h.1.drop hn kd
 refine ⟨v', e1, ⟨e2, λ b hb hc => h.2 b (e3 b hb) λ hz => hc ?_⟩, e3⟩
 obtain ⟨⟨h1, a, c, rfl, h2, h3⟩, _⟩:=h
 simp [capV] at hz
 subst hz
 obtain ⟨_, a', c', rfl, _, _⟩:=e2
 simp [sliceV, highV, lowV, boundV, hn] at e1
 simp [capV]
 omega
theorem Sl.pre {a : Option Addr} {n m c : Nat} (h : Sl k w (.slice a m c) els) (hn : n <= m) : Sl k w (.slice a n c) (els.take n):=by
 obtain ⟨h1, a', c', he, h2, h3⟩:=h
 cases he
 have hlt : (els.take n).length = n:=by rw [List.length_take]; omega
 refine ⟨λ x hx => h1 x (List.mem_of_mem_take hx), a, c, by rw [hlt], by rw [hlt]; omega, ?_⟩
 rcases h3 with h3 | ⟨b, o, l, rfl, h4, h5, h6⟩
 ·exact .inl h3
 ·refine .inr ⟨b, o, l, rfl, h4, h5, ?_⟩
  rw [hlt]
  have hfl:=flat_take n h1
  rw [<- hfl, <- h6, List.take_take]
  congr 1
  have : n * k <= els.length * k:=Nat.mul_le_mul_right _ hn
  omega
end
end Go.Lift
namespace Go.Proofs.YtojnickeblbgoaaGreatDoor
open Go.Lift
set_option linter.unusedSimpArgs false
set_option maxHeartbeats 4000000
@[simp] theorem cells_map (a : Option Nat) : (Value.map a).cells = #[.map a]:=rfl
def Renewed (d : Dk) (N : List Nd) (L : List (Slt × Int)) : Prop:=N.length = d.nodes.length /\ (∀ (i : Nat) nd, d.nodes[i]? = some nd -> N[i]? = some nd ∨ N[i]? = some { nd with seen:=nd.kept }) /\ ∀ p ∈ L, ∀ nd, d.nodes[p.2.toNat]? = some nd -> N[p.2.toNat]? = some { nd with seen:=nd.kept }
section
variable {w w' w'' : World} {b : Nat} {d d' : Dk} {v : DV} {tag : Nat -> Nat}
theorem Renewed.step {N : List Nd} {L : List (Slt × Int)} (h : Renewed d N L) {p : Slt × Int} {i : Nat} (hi : p.2 = i) {nd nd0 : Nd} (hd : d.nodes[i]? = some nd0) (hn : N[i]? = some nd) : Renewed d (N.set i { nd with seen:=nd.kept }) (L ++ [p]):=by
 obtain ⟨h1, h2, h3⟩:=h
 have hil:=(List.getElem?_eq_some_iff.1 hn).1
 have e : { nd with seen:=nd.kept } = ({ nd0 with seen:=nd0.kept } : Nd):=by
  rcases h2 i nd0 hd with h | h
  ·rw [hn] at h; cases h; rfl
  ·rw [hn] at h; cases h; rfl
 refine ⟨by simp [h1], λ j x hx => ?_, λ q hq x hx => ?_⟩
 ·by_cases hj : i = j
  ·subst hj
   rw [hd] at hx; cases hx
   rw [List.getElem?_set_self hil, e]
   exact .inr rfl
  ·rw [List.getElem?_set_ne hj]; exact h2 j x hx
 ·by_cases hj : i = q.2.toNat
  ·rw [<- hj] at hx ⊢
   rw [hd] at hx; cases hx
   rw [List.getElem?_set_self hil, e]
  ·rw [List.getElem?_set_ne hj]
   rcases List.mem_append.1 hq with hq | hq
   ·exact h3 q hq x hx
   ·simp at hq
    subst hq
    exact absurd (by omega) hj
end
def clampN (k : Int) (n : Nat) : Nat:=if (n : Int) < k then n else k.toNat
theorem clamp_le (k : Int) (n : Nat) : clampN k n <= n:=by unfold clampN; split <;> omega
theorem clamp_run (k : Int) (n : Nat) {Q : Value -> World -> Prop} {w : World} (q : Q (.int .i64 (clampN k n)) w) : Run (optM (minV (.int .i64 k) (.int .i64 n))) w λ x w1 => Run (optM (maxV (.int .i64 0) x)) w1 Q:=by
 have e : ∀ z : Int, z = (if (n : Int) < k then (n : Int) else k) -> (if z > 0 then z else 0) = (clampN k n : Nat):=by
  intro z hz
  subst hz
  unfold clampN
  split <;> split <;> omega
 simp only [minV, maxV, Run_optM_some]
 rw [e _ rfl]
 exact q
def crashL (P : List Chg) (keep torn : Int) : List Chg:=P.take (clampN keep P.length) ++ (match P[clampN keep P.length]? with
 | some c => if c.what = 0 then [{ c with data:=c.data.extract 0 (clampN torn c.data.size) }] else []
 | none => [])
abbrev CSt:=List Nd × (Slt -> Option Int)
def ndAt (l : List Nd) (i : Int) : Nd:=(l[i.toNat]?).getD ⟨0, e0, e0⟩
def cStep (st : CSt) (c : Chg) : CSt:=(st.1.set c.node.toNat { ndAt st.1 c.node with kept:=(applyF c (ndAt st.1 c.node).kept st.2).1 }, (applyF c (ndAt st.1 c.node).kept st.2).2)
def crashOk : CSt -> List Chg -> Prop
 | _, [] => True
 | st, c :: r => (0 <= c.node /\ c.node < st.1.length /\ c.fits (ndAt st.1 c.node).kept) /\ crashOk (cStep st c) r
theorem crashOk_at : ∀ {l : List Chg} {st : CSt} {k : Nat} {c : Chg}, crashOk st l -> l[k]? = some c -> 0 <= c.node /\ c.node < ((l.take k).foldl cStep st).1.length /\ c.fits (ndAt ((l.take k).foldl cStep st).1 c.node).kept
 | [], st, k, c, _, h => by simp at h
 | x :: l, st, 0, c, h, hk => by
  simp only [List.getElem?_cons_zero, Option.some.injEq] at hk
  subst hk
  exact h.1
 | x :: l, st, k + 1, c, h, hk => by
  simp only [List.getElem?_cons_succ] at hk
  exact crashOk_at (l:=l) h.2 hk
section
variable {w w' w'' : World} {b : Nat} {d d' : Dk} {v : DV} {tag : Nat -> Nat}
theorem clone_run {x : Value} {l : List Chg} (hx : Sl 7 w x (l.map Chg.cells)) (hl : l.length <= 16777216) : Run (F.dd_change x) w λ r w' => SlW 7 w' r (l.map Chg.cells) /\ New w w' r /\ Fr (λ _ => False) w w':=by
 unfold F.dd_change
 have hx':=hx
 obtain ⟨h1, a, c, rfl, h2, h3⟩:=hx'
 simp only [List.length_map] at hx
 cases a with
 | none =>
  have hl0 : l = []:=by
   rcases h3 with h3 | ⟨b, o, y, h4, _⟩
   ·apply List.eq_nil_of_length_eq_zero
    simp at h2
    omega
   ·cases h4
  subst hl0
  simp
  exact ⟨SlW.nil _ _, λ c hc => hc.elim, Fr.refl _ _⟩
 | some a =>
  simp
  refine Run_bsl (k:=7) (n:=0) (vs:=[]) rfl (by simp) rfl (by simp [size_zeroCells]) λ r w1 hr f1 hrn => ?_
  have hr0 : SlW 7 w1 r []:=hr
  refine Run_appM (fls:=l.map Chg.cells) hr0 (hx.fr0 f1) (by decide) rfl (by decide) (λ e he => by
   obtain ⟨y, _, rfl⟩:=List.mem_map.1 he
   exact y.all) (by simp; omega) λ r2 w2 hr2 f2 hin => ?_
  have s1:=f1.size
  have s2:=f2.size
  refine ⟨by simpa using hr2, λ c hc => ?_, f1.new f2 λ c hc => by have:=hrn c hc; omega⟩
  rcases hin c hc with h' | h'
  ·have:=hrn c h'; omega
  ·omega
theorem crash_loop (h : DA w b d v tag) {x : Value} {L : List Chg} (hx : Sl 7 w x (L.map Chg.cells)) (hxt : ∀ c, inB x c -> tag c ≠ 3 /\ tag c ≠ 4) (hLl : L.length <= 16777216) (hok : crashOk (d.nodes, d.kept) L) {Q : Out -> World -> Prop} {step : List Value -> M Out}
  (hstep : ∀ l, step l = (
    bindO (binV BinOp.lss (getL l 0) (Value.int IntKind.i64 (L.length : Nat))) λ x64 =>
    condM x64 (
     bindO (idxA 7 x (getL l 0)) λ x65 =>
     M.bind (rdM (ldA 7 x65)) λ x66 =>
     M.bind (newM 141 #[(Value.int IntKind.i64 0), (Value.int IntKind.i64 0), (Value.string ByteArray.empty), (Value.int IntKind.i64 0), (Value.string ByteArray.empty), (Value.string ByteArray.empty), (Value.int IntKind.i64 0)]) λ x67 =>
     M.bind (stM 7 x67 x66) λ _ =>
     drewM <|
     bindO (nilChk (Ptr b)) λ x69 =>
     bindO (fieldA 6 x69) λ x70 =>
     M.bind (rdM (ld1 x70)) λ x71 =>
     bindO (fieldA 1 x67) λ x72 =>
     M.bind (rdM (ld1 x72)) λ x73 =>
     bindO (idxA 3 x71 x73) λ x74 =>
     drewM <|
     M.bind (rdM (ldA 7 x67)) λ x75 =>
     bindO (nilChk x74) λ x76 =>
     bindO (fieldA 2 x76) λ x77 =>
     M.bind (rdM (ld1 x77)) λ x78 =>
     bindO (nilChk (Ptr b)) λ x79 =>
     bindO (fieldA 8 x79) λ x80 =>
     M.bind (rdM (ld1 x80)) λ x81 =>
     M.bind (F.dd_apply x75 x78 x81) λ x82 =>
     bindO (nilChk x74) λ x83 =>
     bindO (fieldA 2 x83) λ x84 =>
     M.bind (stM 1 x84 x82) λ _ =>
     bindO (binV BinOp.add (getL l 0) (Value.int IntKind.i64 1)) λ x86 =>
     M.ret (Out.norm [x86])) (
     M.ret (Out.exit 0 [(getL l 0)]))))
  (q : ∀ w' v', DA w' b { d with nodes:=(L.foldl cStep (d.nodes, d.kept)).1, kept:=(L.foldl cStep (d.nodes, d.kept)).2 } v' tag -> Fr (λ c => tag c ≠ 0) w w' -> Q (.exit 0 [.int .i64 (L.length : Nat)]) w') : Run (loopM step [.int .i64 0]) w Q:=by
 refine Run_for L.length (λ k s w' => s = [.int .i64 k] /\ ∃ lk, DA w' b { d with nodes:=((L.take k).foldl cStep (d.nodes, d.kept)).1, kept:=((L.take k).foldl cStep (d.nodes, d.kept)).2 } { v with lk:=lk } tag /\ Fr (λ c => tag c = 3 ∨ tag c = 4) w w') ⟨rfl, v.lk, h, Fr.refl _ _⟩ ?_ ?_
 ·rintro k s w3 hk ⟨rfl, lk, h3, f3⟩
  rw [hstep]
  have ek : L[k]? = some L[k]:=List.getElem?_eq_getElem hk
  have etake : L.take (k + 1) = L.take k ++ [L[k]]:=by rw [List.take_add_one, ek]; rfl
  rw [etake]
  generalize L[k] = c at ek
  have hk' : (k : Int) < L.length:=by omega
  have wk:=wrap_succ (n:=k) (by omega)
  have hx3:=hx.fr f3 λ c hc => by have:=hxt c hc; omega
  obtain ⟨q, q1, q2⟩:=hx3.rdA (i:=k) (e:=c.cells) (by decide) (by simp [ek]) .i64
  have q2' : ldA 7 q w3 = some c.val:=q2
  simp only [getL_zero, getL_succ, binV_int, intBin_lss, hk', decide_true, Run_bindO_some, Run_condM_true, Run_bind, q1, Run_rdM, q2', Option.some.injEq, exists_eq_left']
  refine Run_newSt (cs:=c.cells.toArray) rfl rfl (by simpa using c.all) λ y w4 hy hyw f4 hyle => ?_
  have hy4 : bk w4 y = some c.cells:=by simpa using hy
  have h4:=h3.fr0 f4
  have s3:=f3.size
  have s4:=f4.size
  have hfold : (L.take k ++ [c]).foldl cStep (d.nodes, d.kept) = cStep ((L.take k).foldl cStep (d.nodes, d.kept)) c:=by rw [List.foldl_append]; rfl
  rw [hfold]
  obtain ⟨hn0, hn1, hfit⟩:=crashOk_at hok ek
  generalize (L.take k).foldl cStep (d.nodes, d.kept) = st at *
  obtain ⟨i, hi⟩ : ∃ i : Nat, c.node = i:=⟨c.node.toNat, by omega⟩
  have hin : c.node.toNat = i:=by omega
  have hil : i < st.1.length:=by omega
  have hnd : st.1[i]? = some (ndAt st.1 c.node):=by simp [ndAt, hin, hil]
  have hcs : cStep st c = (st.1.set i { ndAt st.1 c.node with kept:=(applyF c (ndAt st.1 c.node).kept st.2).1 }, (applyF c (ndAt st.1 c.node).kept st.2).2):=by simp [cStep, hin]
  rw [hcs]
  generalize ndAt st.1 c.node = nd at *
  obtain ⟨b0, o, l0, i1, t4, i2, _, _, i5, hset⟩:=h4.setNode hnd
  have hb4:=h4.blk
  have e7:=ld7 hy4
  have fd : Fr (λ _ => False) w4 w4.drew.drew:=(Fr.refl (λ _ => False) w4).drew.drew
  have h4d:=h4.fr0 fd
  simp [-ldA_ptr, hy4, Chg.cells, hi, i1, e7, i2, i5, hb4, Dk.cells]
  refine (apply_run (w:=w4.drew.drew) (data:=nd.kept) h4d.kept h4d.keptE hfit).mono ?_
  rintro _ w5 ⟨rfl, ⟨lk', hm5, he5⟩, f5⟩
  have h5:=h4d.keptSet f5 hm5 he5
  obtain ⟨A, hA⟩ : ∃ A, A = applyF c nd.kept st.2:=⟨_, rfl⟩
  simp only at h5
  rw [<- hA] at h5 ⊢
  obtain ⟨y1, h6⟩:=(hset w5 _ _ h5 rfl rfl).2 A.1
  rw [show (Value.string A.1).cells = #[Value.string A.1] from rfl]
  refine ⟨rfl, by simp, y1.1, y1.2, ?_⟩
  rw [show (#[Value.string A.1] : Array Value).toList = [Value.string A.1] from rfl]
  have f46 : Fr (λ c => tag c = 3 ∨ tag c = 4) w4 (sto w5 b0 (o + 2) [.string A.1]):=((fd.mono λ _ h => h.elim).trans f5 λ c _ hc => by rw [hc]; exact .inl h.tk).sto (b:=b0) (.inl (.inr t4)) _ _
  exact ⟨by rw [wk]; omega, ⟨lk', h6⟩, (f3.trans f4 λ _ _ h => h.elim).trans f46 λ _ _ h => h⟩
 ·rintro s w3 ⟨rfl, lk, h3, f3⟩
  rw [hstep]
  rw [List.take_length] at h3
  simp
  exact q w3 _ h3 (f3.mono λ c hc => by omega)
end
def syncF (d : Dk) (path : ByteArray) (kind : Int) : Int × Dk:=if (d.findF path kind).1 ≠ 0 then ((d.findF path kind).1, d) else settleF d (d.findF path kind).2.2.toNat (d.nd (d.findF path kind).2.2)
def removeF (d : Dk) (path : ByteArray) : Int × Dk:=if (d.findF path 0).1 ≠ 0 then ((d.findF path 0).1, d) else
 doF d ⟨3, (d.findF path 0).2.1.1, e0, 0, (d.findF path 0).2.1.2, e0, 0⟩ (d.findF path 0).2.1.1.toNat (d.nd (d.findF path 0).2.1.1)
theorem find_dir {d : Dk} (g : Good d) {path : ByteArray} {kind : Int} (hp : path ≠ E0) (h : (d.findF path kind).1 = 0) : 0 <= (d.findF path kind).2.1.1 /\ (d.findF path kind).2.1.1 < d.nodes.length:=by
 unfold Dk.findF at h ⊢
 split at h
 ·cases h
 ·rename_i hd
  split at h
  ·cases h
  ·rename_i names hn
   split at h
   ·rename_i h1; exact absurd h h1
   ·split at h
    ·cases h
    ·split at h
     ·cases h
     ·rename_i h1 h2 h3
      simp only [hn, if_neg h1, if_neg h2, if_neg h3, if_neg hd]
      refine walk_dir g (λ he => ?_) (by simpa using h1)
      subst he
      unfold parseF at hn
      rw [if_neg hp] at hn
      split at hn
      ·cases hn
      ·split at hn
       ·simp only [Option.some.injEq] at hn
        have h47 : (1 : Nat) <= slash.size:=by decide
        have hlen : (partsF path).length = Lib.countB path slash + 1:=Lib.splitB_all slash h47 0 _ path rfl
        rw [hn] at hlen
        simp at hlen
       ·cases hn
section
variable {w w' w'' : World} {b : Nat} {d d' : Dk} {v : DV} {tag : Nat -> Nat}
theorem sync_run (h : DA w b d v tag) (g : Good d) {path : ByteArray} (hs : path.size < 4294967281) (hok : ∀ (i : Nat) nd, d.nodes[i]? = some nd -> foldOk i (nd.kept, d.kept) d.pending) (hpl : d.pending.length <= 16777216) :
  Run (F.d_Sync (Ptr b) (.string path)) w λ r w' => r = .int .i64 (syncF d path 2).1 /\ DDid w w' b tag (syncF d path 2).2:=by
 unfold F.d_Sync
 simp only [Run_bind]
 refine (find_run h g hs 2).mono ?_
 rintro _ w1 ⟨rfl, f1⟩
 have hlt:=find_lt g path 2
 have hpos:=find_pos (d:=d) (path:=path) (kind:=2)
 unfold syncF
 generalize d.findF path 2 = s at *
 obtain ⟨e, ⟨a1, a2⟩, node⟩:=s
 simp only at hlt hpos
 simp [-ldA_ptr, spotV]
 refine spot_mem λ x w2 hx _ f2 _ => ?_
 have f02 : Fr (λ _ => False) w w2:=f1.trans f2 λ _ _ => id
 have h2:=h.fr0 f02
 by_cases k1 : e = 0
 ·have hnn:=(hpos k1).1
  obtain ⟨j, hj⟩ : ∃ j : Nat, node = j:=⟨node.toNat, by omega⟩
  have hjl : j < d.nodes.length:=by omega
  have hjn : d.nodes[j]? = some d.nodes[j]:=List.getElem?_eq_getElem hjl
  generalize d.nodes[j] = nd at hjn
  have hnd : d.nd node = nd:=by simp [Dk.nd, hj, hjn]
  simp [-ldA_ptr, k1, hx]
  rw [hnd, show node.toNat = j by omega, hj]
  refine (settle_run h2 hjn (hok j nd hjn) hpl).mono ?_
  rintro r w3 ⟨rfl, h3⟩
  exact ⟨rfl, h3.pre f02⟩
 ·simp [-ldA_ptr, k1]
  exact h2.did (f02.mono λ _ h => h.elim)
theorem syncdir_run (h : DA w b d v tag) (g : Good d) {path : ByteArray} (hs : path.size < 4294967281) (hok : ∀ (i : Nat) nd, d.nodes[i]? = some nd -> foldOk i (nd.kept, d.kept) d.pending) (hpl : d.pending.length <= 16777216) :
  Run (F.d_SyncDir (Ptr b) (.string path)) w λ r w' => r = .int .i64 (syncF d path 1).1 /\ DDid w w' b tag (syncF d path 1).2:=by
 unfold F.d_SyncDir
 simp only [Run_bind]
 refine (find_run h g hs 1).mono ?_
 rintro _ w1 ⟨rfl, f1⟩
 have hlt:=find_lt g path 1
 have hpos:=find_pos (d:=d) (path:=path) (kind:=1)
 unfold syncF
 generalize d.findF path 1 = s at *
 obtain ⟨e, ⟨a1, a2⟩, node⟩:=s
 simp only at hlt hpos
 simp [-ldA_ptr, spotV]
 refine spot_mem λ x w2 hx _ f2 _ => ?_
 have f02 : Fr (λ _ => False) w w2:=f1.trans f2 λ _ _ => id
 have h2:=h.fr0 f02
 by_cases k1 : e = 0
 ·have hnn:=(hpos k1).1
  obtain ⟨j, hj⟩ : ∃ j : Nat, node = j:=⟨node.toNat, by omega⟩
  have hjl : j < d.nodes.length:=by omega
  have hjn : d.nodes[j]? = some d.nodes[j]:=List.getElem?_eq_getElem hjl
  generalize d.nodes[j] = nd at hjn
  have hnd : d.nd node = nd:=by simp [Dk.nd, hj, hjn]
  simp [-ldA_ptr, k1, hx]
  rw [hnd, show node.toNat = j by omega, hj]
  refine (settle_run h2 hjn (hok j nd hjn) hpl).mono ?_
  rintro r w3 ⟨rfl, h3⟩
  exact ⟨rfl, h3.pre f02⟩
 ·simp [-ldA_ptr, k1]
  exact h2.did (f02.mono λ _ h => h.elim)
theorem build_gone (a n : Int) (s : ByteArray) : buildV #[.int .i64 0, .int .i64 0, .string ByteArray.empty, .int .i64 0, .string ByteArray.empty, .string ByteArray.empty, .int .i64 0] [(0, 1, .int .i64 a), (1, 1, .int .i64 n), (4, 1, .string s)] = some (Chg.val ⟨a, n, e0, 0, s, e0, 0⟩):=by simp [buildV, fillV, Chg.val, Chg.cells]
theorem build_move (a n : Int) (s t : ByteArray) : buildV #[.int .i64 0, .int .i64 0, .string ByteArray.empty, .int .i64 0, .string ByteArray.empty, .string ByteArray.empty, .int .i64 0] [(0, 1, .int .i64 a), (1, 1, .int .i64 n), (4, 1, .string s), (5, 1, .string t)] = some (Chg.val ⟨a, n, e0, 0, s, t, 0⟩):=by simp [buildV, fillV, Chg.val, Chg.cells]
end
end Go.Proofs.YtojnickeblbgoaaGreatDoor
