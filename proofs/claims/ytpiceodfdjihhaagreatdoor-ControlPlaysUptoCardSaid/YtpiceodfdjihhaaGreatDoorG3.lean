/-
  THE FUNCTIONAL FORMS of the functions of this seat's translation, and that each function comes to its form: printed by a program of the prover's own (lift.py).
-/
import Derived.Test.YtpiceodfdjihhaaGreatDoorG2
namespace Go.Proofs.YtpiceodfdjihhaaGreatDoor
open Go.Lift Go.Lift.Plan
/-- (*granary/granaryref15.Control).Revive -/
noncomputable def F.granaryref15_Control_Revive (a0 : Value) : M Value :=
  bindO (eqV (EqSh.one EqK.ptr) a0 (Value.pointer none)) fun x1 =>
  condM x1 (
    M.ret (Value.tuple #[(Value.slice none 0 0), (Value.int IntKind.i64 2)])) (
    bindO (nilChk a0) fun x2 =>
    bindO (fieldA 26 x2) fun x3 =>
    M.bind (rdM (ld1 x3)) fun x4 =>
    bindO (binV BinOp.eql x4 (Value.int IntKind.i64 0)) fun x5 =>
    condM x5 (
      M.ret (Value.tuple #[(Value.slice none 0 0), (Value.int IntKind.i64 151)])) (
      bindO (nilChk a0) fun x6 =>
      bindO (fieldA 26 x6) fun x7 =>
      M.bind (rdM (ld1 x7)) fun x8 =>
      bindO (binV BinOp.eql x8 (Value.int IntKind.i64 4)) fun x9 =>
      condM x9 (
        M.bind (F.granaryref15_Control_begin a0 (Value.int IntKind.i64 4)) fun _ =>
        M.bind (F.granaryref15_Control_end a0 (Value.int IntKind.i64 3)) fun x11 =>
        M.ret (Value.tuple #[x11, (Value.int IntKind.i64 0)])) (
        M.bind (F.granaryref15_Control_begin a0 (Value.int IntKind.i64 3)) fun x12 =>
        M.ret (Value.tuple #[x12, (Value.int IntKind.i64 0)]))))
def F.granaryref15_Control_Revive.plan : Plan := (seq leaf (seq (seq leaf (cond (seq leaf leaf) leaf)) (seq (seq leaf (cond (seq leaf leaf) leaf)) (seq (seq leaf (cond (seq leaf (seq leaf leaf)) leaf)) (seq leaf leaf)))))
theorem F.granaryref15_Control_Revive.lift : LiftOk Tryz.prog 36 (ap1 F.granaryref15_Control_Revive) :=
  lift1 (g := evFn Tryz.prog (tcons 59 (ap2 F.granaryref15_Control_begin) (tcons 63 (ap2 F.granaryref15_Control_end) tnil)) tnil 36 Tryz.f36 F.granaryref15_Control_Revive.plan) (evFn_sound (tcons_ok F.granaryref15_Control_begin.lift (tcons_ok F.granaryref15_Control_end.lift tnil_ok)) tnil_ok Tryz.func36 (by kernel_rfl)) (fun x0 => by kernel_rfl)

/-- (*granary/granarylaw15.World).calls -/
noncomputable def F.granarylaw15_World_calls (a0 a1 a2 : Value) : M Value :=
  M.bind (newM 40 (Value.cells a1)) fun x1 =>
  bindO (fieldA 0 x1) fun x2 =>
  M.bind (rdM (ld1 x2)) fun x3 =>
  bindO (binV BinOp.eql x3 (Value.int IntKind.i64 1)) fun x4 =>
  condM x4 (
    drewM <|
    bindO (nilChk a0) fun x5 =>
    bindO (fieldA 23 x5) fun x6 =>
    M.bind (rdM (ld1 x6)) fun x7 =>
    bindO (fieldA 1 x1) fun x8 =>
    M.bind (rdM (ld1 x8)) fun x9 =>
    bindO (fieldA 2 x1) fun x10 =>
    M.bind (rdM (ld1 x10)) fun x11 =>
    M.bind (F.control_Control_Begin x7 x9 x11) fun x12 =>
    bindO (extV 0 x12) fun x13 =>
    bindO (extV 1 x12) fun x14 =>
    drewM <|
    bindO (nilChk a0) fun x15 =>
    bindO (fieldA 24 x15) fun x16 =>
    M.bind (rdM (ld1 x16)) fun x17 =>
    bindO (fieldA 1 x1) fun x18 =>
    M.bind (rdM (ld1 x18)) fun x19 =>
    bindO (fieldA 2 x1) fun x20 =>
    M.bind (rdM (ld1 x20)) fun x21 =>
    M.bind (F.granaryref15_Control_Begin x17 x19 x21) fun x22 =>
    bindO (extV 0 x22) fun x23 =>
    bindO (extV 1 x22) fun x24 =>
    M.bind (F.granarylaw15_World_out a0 x13 x14 x23 x24 a2) fun x25 =>
    M.ret x25) (
    bindO (binV BinOp.eql x3 (Value.int IntKind.i64 2)) fun x26 =>
    condM x26 (
      drewM <|
      bindO (nilChk a0) fun x27 =>
      bindO (fieldA 23 x27) fun x28 =>
      M.bind (rdM (ld1 x28)) fun x29 =>
      bindO (fieldA 3 x1) fun x30 =>
      M.bind (rdM (ldA 11 x30)) fun x31 =>
      M.bind (F.control_Control_Take x29 x31) fun x32 =>
      bindO (extV 0 x32) fun x33 =>
      bindO (extV 1 x32) fun x34 =>
      drewM <|
      bindO (nilChk a0) fun x35 =>
      bindO (fieldA 24 x35) fun x36 =>
      M.bind (rdM (ld1 x36)) fun x37 =>
      bindO (fieldA 3 x1) fun x38 =>
      M.bind (rdM (ldA 11 x38)) fun x39 =>
      M.bind (F.granaryref15_Control_Take x37 x39) fun x40 =>
      bindO (extV 0 x40) fun x41 =>
      bindO (extV 1 x40) fun x42 =>
      M.bind (F.granarylaw15_World_out a0 x33 x34 x41 x42 a2) fun x43 =>
      M.ret x43) (
      bindO (binV BinOp.eql x3 (Value.int IntKind.i64 8)) fun x44 =>
      condM x44 (
        bindO (nilChk a0) fun x45 =>
        bindO (fieldA 25 x45) fun x46 =>
        M.bind (rdM (ld1 x46)) fun x47 =>
        bindO (lenL x47) fun x48 =>
        bindO (binV BinOp.eql x48 (Value.int IntKind.i64 0)) fun x49 =>
        condM x49 (
          M.ret (Value.bool true)) (
          M.bind (altM (ordO Tryz.prog (regOps Tryz.f9 13) 9 13) [
            ([11, 16, 17, 18],
              getM fun W51 =>
              bindO (nilChk a0) fun x52 =>
              bindO (fieldA 25 x52) fun x53 =>
              M.bind (rdM (ld1 x53)) fun x54 =>
              bindO (fieldA 1 x1) fun x55 =>
              M.bind (rdM (ld1 x55)) fun x56 =>
              bindO (nilChk a0) fun x57 =>
              bindO (fieldA 25 x57) fun x58 =>
              M.bind (rdM (ld1 x58)) fun x59 =>
              bindO (lenL x59) fun x60 =>
              M.bind (F.granarylaw15_mod x56 x60) fun x61 =>
              getM fun W62 =>
              bindO (idxA 11 x54 x61) fun x63 =>
              M.bind (rdM (ldA 11 x63)) fun x64 =>
              bindO (fieldA 2 x1) fun x65 =>
              M.bind (rdM (ld1 x65)) fun x66 =>
              M.bind (F.granarylaw15_Answer x64 x66) fun x67 =>
              getM fun _ =>
              M.bind (newM 38 #[(Value.int IntKind.i64 0), (Value.int IntKind.i64 0), (Value.int IntKind.i64 0), (Value.int IntKind.i64 0), (Value.int IntKind.i64 0), (Value.int IntKind.i64 0), (Value.int IntKind.i64 0), (Value.int IntKind.i64 0), (Value.int IntKind.i64 0), (Value.string ByteArray.empty), (Value.string ByteArray.empty)]) fun x69 =>
              getM fun _ =>
              M.bind (stM 11 x69 x67) fun _ =>
              getM fun _ =>
              reqM (ld1 x53 W62 = some x54) <|
              reqM (ld1 x65 W51 = some x66) <|
              M.ret [x69]),
            ([11, 17, 16, 18],
              getM fun W73 =>
              bindO (nilChk a0) fun x74 =>
              bindO (fieldA 25 x74) fun x75 =>
              M.bind (rdM (ld1 x75)) fun x76 =>
              bindO (fieldA 1 x1) fun x77 =>
              M.bind (rdM (ld1 x77)) fun x78 =>
              bindO (nilChk a0) fun x79 =>
              bindO (fieldA 25 x79) fun x80 =>
              M.bind (rdM (ld1 x80)) fun x81 =>
              bindO (lenL x81) fun x82 =>
              M.bind (F.granarylaw15_mod x78 x82) fun x83 =>
              getM fun W84 =>
              bindO (idxA 11 x76 x83) fun x85 =>
              M.bind (rdM (ldA 11 x85)) fun x86 =>
              bindO (fieldA 2 x1) fun x87 =>
              M.bind (rdM (ld1 x87)) fun x88 =>
              M.bind (newM 38 #[(Value.int IntKind.i64 0), (Value.int IntKind.i64 0), (Value.int IntKind.i64 0), (Value.int IntKind.i64 0), (Value.int IntKind.i64 0), (Value.int IntKind.i64 0), (Value.int IntKind.i64 0), (Value.int IntKind.i64 0), (Value.int IntKind.i64 0), (Value.string ByteArray.empty), (Value.string ByteArray.empty)]) fun x89 =>
              getM fun W90 =>
              M.bind (F.granarylaw15_Answer x86 x88) fun x91 =>
              getM fun _ =>
              M.bind (stM 11 x89 x91) fun _ =>
              getM fun _ =>
              reqM (ld1 x75 W84 = some x76) <|
              reqM (ld1 x75 W90 = some x76) <|
              reqM (ldA 11 x85 W90 = some x86) <|
              reqM (ld1 x87 W73 = some x88) <|
              reqM (ld1 x87 W90 = some x88) <|
              M.ret [x89]),
            ([17, 11, 16, 18],
              getM fun _ =>
              bindO (nilChk a0) fun x96 =>
              bindO (fieldA 25 x96) fun x97 =>
              M.bind (rdM (ld1 x97)) fun x98 =>
              bindO (fieldA 1 x1) fun x99 =>
              M.bind (rdM (ld1 x99)) fun x100 =>
              bindO (nilChk a0) fun x101 =>
              bindO (fieldA 25 x101) fun x102 =>
              M.bind (rdM (ld1 x102)) fun x103 =>
              bindO (lenL x103) fun x104 =>
              bindO (fieldA 2 x1) fun x105 =>
              M.bind (rdM (ld1 x105)) fun x106 =>
              M.bind (newM 38 #[(Value.int IntKind.i64 0), (Value.int IntKind.i64 0), (Value.int IntKind.i64 0), (Value.int IntKind.i64 0), (Value.int IntKind.i64 0), (Value.int IntKind.i64 0), (Value.int IntKind.i64 0), (Value.int IntKind.i64 0), (Value.int IntKind.i64 0), (Value.string ByteArray.empty), (Value.string ByteArray.empty)]) fun x107 =>
              getM fun W108 =>
              M.bind (F.granarylaw15_mod x100 x104) fun x109 =>
              getM fun W110 =>
              bindO (idxA 11 x98 x109) fun x111 =>
              M.bind (rdM (ldA 11 x111)) fun x112 =>
              M.bind (F.granarylaw15_Answer x112 x106) fun x113 =>
              getM fun _ =>
              M.bind (stM 11 x107 x113) fun _ =>
              getM fun _ =>
              reqM (ld1 x97 W108 = some x98) <|
              reqM (ld1 x97 W110 = some x98) <|
              reqM (ld1 x99 W108 = some x100) <|
              reqM (ld1 x102 W108 = some x103) <|
              reqM (ld1 x105 W108 = some x106) <|
              reqM (ld1 x105 W110 = some x106) <|
              M.ret [x107])]) fun l50 =>
          drewM <|
          bindO (nilChk a0) fun x117 =>
          bindO (fieldA 23 x117) fun x118 =>
          M.bind (rdM (ld1 x118)) fun x119 =>
          M.bind (rdM (ldA 11 (getL l50 0))) fun x120 =>
          M.bind (F.control_Control_Take x119 x120) fun x121 =>
          bindO (extV 0 x121) fun x122 =>
          bindO (extV 1 x121) fun x123 =>
          drewM <|
          bindO (nilChk a0) fun x124 =>
          bindO (fieldA 24 x124) fun x125 =>
          M.bind (rdM (ld1 x125)) fun x126 =>
          M.bind (rdM (ldA 11 (getL l50 0))) fun x127 =>
          M.bind (F.granaryref15_Control_Take x126 x127) fun x128 =>
          bindO (extV 0 x128) fun x129 =>
          bindO (extV 1 x128) fun x130 =>
          M.bind (F.granarylaw15_World_out a0 x122 x123 x129 x130 a2) fun x131 =>
          M.ret x131)) (
        bindO (binV BinOp.eql x3 (Value.int IntKind.i64 3)) fun x132 =>
        condM x132 (
          bindO (nilChk a0) fun x133 =>
          bindO (fieldA 23 x133) fun x134 =>
          M.bind (rdM (ld1 x134)) fun x135 =>
          M.bind (F.control_Control_Tick x135) fun x136 =>
          bindO (extV 0 x136) fun x137 =>
          bindO (extV 1 x136) fun x138 =>
          bindO (nilChk a0) fun x139 =>
          bindO (fieldA 24 x139) fun x140 =>
          M.bind (rdM (ld1 x140)) fun x141 =>
          M.bind (F.granaryref15_Control_Tick x141) fun x142 =>
          bindO (extV 0 x142) fun x143 =>
          bindO (extV 1 x142) fun x144 =>
          M.bind (F.granarylaw15_World_out a0 x137 x138 x143 x144 a2) fun x145 =>
          M.ret x145) (
          bindO (binV BinOp.eql x3 (Value.int IntKind.i64 9)) fun x146 =>
          condM x146 (
            bindO (fieldA 3 x1) fun x147 =>
            bindO (fieldA 5 x147) fun x148 =>
            M.bind (rdM (ld1 x148)) fun x149 =>
            M.bind (F.granarylaw15_mod x149 (Value.int IntKind.i64 2)) fun x150 =>
            bindO (binV BinOp.eql x150 (Value.int IntKind.i64 1)) fun x151 =>
            bindO (nilChk a0) fun x152 =>
            bindO (fieldA 0 x152) fun x153 =>
            M.bind (rdM (ldA 23 x153)) fun x154 =>
            M.bind (F.granarylaw6_Hand x154) fun x155 =>
            drewM <|
            bindO (nilChk x155) fun x156 =>
            bindO (fieldA 0 x156) fun x157 =>
            M.bind (rdM (ldA 23 x157)) fun x158 =>
            bindO (fieldA 1 x1) fun x159 =>
            M.bind (rdM (ld1 x159)) fun x160 =>
            bindO (fieldA 3 x1) fun x161 =>
            bindO (fieldA 0 x161) fun x162 =>
            M.bind (rdM (ld1 x162)) fun x163 =>
            bindO (fieldA 2 x1) fun x164 =>
            M.bind (rdM (ld1 x164)) fun x165 =>
            M.bind (F.control_Resume x158 x160 x163 x165 x151) fun x166 =>
            bindO (extV 0 x166) fun x167 =>
            bindO (extV 1 x166) fun x168 =>
            bindO (extV 2 x166) fun x169 =>
            M.bind (F.granarylaw6_Handed_Left x155) fun x170 =>
            bindO (notV x170) fun x171 =>
            condM x171 (
              M.ret (Value.bool false)) (
              M.bind (F.granarylaw6_Handed_Spoil x155) fun _ =>
              drewM <|
              bindO (nilChk a0) fun x173 =>
              bindO (fieldA 0 x173) fun x174 =>
              M.bind (rdM (ldA 23 x174)) fun x175 =>
              bindO (fieldA 1 x1) fun x176 =>
              M.bind (rdM (ld1 x176)) fun x177 =>
              bindO (fieldA 3 x1) fun x178 =>
              bindO (fieldA 0 x178) fun x179 =>
              M.bind (rdM (ld1 x179)) fun x180 =>
              bindO (fieldA 2 x1) fun x181 =>
              M.bind (rdM (ld1 x181)) fun x182 =>
              M.bind (F.granaryref15_Resume x175 x177 x180 x182 x151) fun x183 =>
              bindO (extV 0 x183) fun x184 =>
              bindO (extV 1 x183) fun x185 =>
              bindO (extV 2 x183) fun x186 =>
              bindO (nilChk a0) fun x187 =>
              bindO (fieldA 23 x187) fun x188 =>
              M.bind (stM 1 x188 x167) fun _ =>
              bindO (nilChk a0) fun x190 =>
              bindO (fieldA 24 x190) fun x191 =>
              M.bind (stM 1 x191 x184) fun _ =>
              M.bind (F.granarylaw15_World_out a0 x168 x169 x185 x186 a2) fun x193 =>
              M.bind (guardM x193 true (M.ret x167)) fun x194 =>
              M.bind (guardM x193 true (optM (eqV (EqSh.one EqK.ptr) x194 (Value.pointer none)))) fun x195 =>
              M.bind (guardM x193 true (M.ret x186)) fun x196 =>
              M.bind (guardM x193 true (optM (binV BinOp.neq x196 (Value.int IntKind.i64 0)))) fun x197 =>
              M.bind (guardM x193 true (optM (eqV (EqSh.one EqK.bool) x195 x197))) fun x198 =>
              bindO (pickV x193 x198 (Value.bool false)) fun x199 =>
              M.ret x199)) (
            bindO (binV BinOp.eql x3 (Value.int IntKind.i64 4)) fun x200 =>
            condM x200 (
              bindO (nilChk a0) fun x201 =>
              bindO (fieldA 23 x201) fun x202 =>
              M.bind (rdM (ld1 x202)) fun x203 =>
              M.bind (F.control_Control_Stop x203) fun x204 =>
              bindO (extV 0 x204) fun x205 =>
              bindO (extV 1 x204) fun x206 =>
              bindO (nilChk a0) fun x207 =>
              bindO (fieldA 24 x207) fun x208 =>
              M.bind (rdM (ld1 x208)) fun x209 =>
              M.bind (F.granaryref15_Control_Stop x209) fun x210 =>
              bindO (extV 0 x210) fun x211 =>
              bindO (extV 1 x210) fun x212 =>
              M.bind (F.granarylaw15_World_out a0 x205 x206 x211 x212 a2) fun x213 =>
              M.ret x213) (
              bindO (binV BinOp.eql x3 (Value.int IntKind.i64 5)) fun x214 =>
              condM x214 (
                bindO (nilChk a0) fun x215 =>
                bindO (fieldA 23 x215) fun x216 =>
                M.bind (rdM (ld1 x216)) fun x217 =>
                M.bind (F.control_Control_Revive x217) fun x218 =>
                bindO (extV 0 x218) fun x219 =>
                bindO (extV 1 x218) fun x220 =>
                bindO (nilChk a0) fun x221 =>
                bindO (fieldA 24 x221) fun x222 =>
                M.bind (rdM (ld1 x222)) fun x223 =>
                M.bind (F.granaryref15_Control_Revive x223) fun x224 =>
                bindO (extV 0 x224) fun x225 =>
                bindO (extV 1 x224) fun x226 =>
                M.bind (F.granarylaw15_World_out a0 x219 x220 x225 x226 a2) fun x227 =>
                M.ret x227) (
                M.ret (Value.bool true))))))))
def F.granarylaw15_World_calls.plan : Plan := (seq leaf (seq (seq leaf (body (seq leaf (cond (seq leaf (seq leaf (seq leaf leaf))) (seq leaf (cond (seq leaf (seq leaf (seq leaf leaf))) (seq leaf (cond (seq (seq leaf (cond (seq leaf leaf) leaf)) (seq (alts [15] [15, 112, 113, 114, 115, 116, 117, 118, 119, 120, 121, 122, 123, 124, 125, 126, 127, 128] [[0, 1, 2, 3, 4, 5, 6, 7, 8, 9, 10, 11, 12, 13, 14, 15, 16, 17, 18], [0, 1, 2, 3, 4, 5, 6, 7, 8, 9, 10, 11, 12, 13, 14, 15, 17, 16, 18], [0, 1, 2, 3, 4, 5, 6, 7, 8, 9, 10, 14, 15, 17, 11, 12, 13, 16, 18]]) (seq leaf (seq leaf (seq leaf leaf))))) (seq leaf (cond (seq leaf (seq leaf (seq leaf leaf))) (seq leaf (cond (seq leaf (seq leaf (seq leaf (seq (seq leaf (cond (seq leaf leaf) leaf)) (seq leaf (seq leaf (seq leaf (seq leaf (seq leaf leaf))))))))) (seq leaf (cond (seq leaf (seq leaf (seq leaf leaf))) (seq leaf (cond (seq leaf (seq leaf (seq leaf leaf))) leaf)))))))))))))))) (seq leaf leaf)))
theorem F.granarylaw15_World_calls.lift : LiftOk Tryz.prog 9 (ap3 F.granarylaw15_World_calls) :=
  lift3 (g := evFn Tryz.prog (tcons 16 (ap2 F.granarylaw15_mod) (tcons 17 (ap1 F.granarylaw6_Hand) (tcons 19 (ap1 F.granarylaw6_Handed_Left) (tcons 20 (ap1 F.granarylaw6_Handed_Spoil) (tcons 23 (ap3 F.control_Control_Begin) (tcons 24 (ap3 F.granaryref15_Control_Begin) (tcons 25 (ap6 F.granarylaw15_World_out) (tcons 26 (ap2 F.control_Control_Take) (tcons 27 (ap2 F.granaryref15_Control_Take) (tcons 28 (ap2 F.granarylaw15_Answer) (tcons 29 (ap1 F.control_Control_Tick) (tcons 30 (ap1 F.granaryref15_Control_Tick) (tcons 31 (ap5 F.control_Resume) (tcons 32 (ap5 F.granaryref15_Resume) (tcons 33 (ap1 F.control_Control_Stop) (tcons 34 (ap1 F.granaryref15_Control_Stop) (tcons 35 (ap1 F.control_Control_Revive) (tcons 36 (ap1 F.granaryref15_Control_Revive) tnil)))))))))))))))))) tnil 9 Tryz.f9 F.granarylaw15_World_calls.plan) (evFn_sound (tcons_ok F.granarylaw15_mod.lift (tcons_ok F.granarylaw6_Hand.lift (tcons_ok F.granarylaw6_Handed_Left.lift (tcons_ok F.granarylaw6_Handed_Spoil.lift (tcons_ok F.control_Control_Begin.lift (tcons_ok F.granaryref15_Control_Begin.lift (tcons_ok F.granarylaw15_World_out.lift (tcons_ok F.control_Control_Take.lift (tcons_ok F.granaryref15_Control_Take.lift (tcons_ok F.granarylaw15_Answer.lift (tcons_ok F.control_Control_Tick.lift (tcons_ok F.granaryref15_Control_Tick.lift (tcons_ok F.control_Resume.lift (tcons_ok F.granaryref15_Resume.lift (tcons_ok F.control_Control_Stop.lift (tcons_ok F.granaryref15_Control_Stop.lift (tcons_ok F.control_Control_Revive.lift (tcons_ok F.granaryref15_Control_Revive.lift tnil_ok)))))))))))))))))) tnil_ok Tryz.func9 (by kernel_rfl)) (fun x0 x1 x2 => by kernel_rfl)

/-- (*granary/control.Control).Busy -/
noncomputable def F.control_Control_Busy (a0 : Value) : M Value :=
  bindO (neV (EqSh.one EqK.ptr) a0 (Value.pointer none)) fun x1 =>
  M.bind (guardM x1 true (M.ret a0)) fun x2 =>
  M.bind (guardM x1 true (optM (nilChk x2))) fun x3 =>
  M.bind (guardM x1 true (optM (fieldA 7 x3))) fun x4 =>
  M.bind (guardM x1 true (rdM (ld1 x4))) fun x5 =>
  M.bind (guardM x1 true (optM (neV (EqSh.one EqK.ifn) x5 Value.nilIface))) fun x6 =>
  bindO (pickV x1 x6 (Value.bool false)) fun x7 =>
  M.ret x7
def F.control_Control_Busy.plan : Plan := (seq leaf (seq leaf leaf))
theorem F.control_Control_Busy.lift : LiftOk Tryz.prog 37 (ap1 F.control_Control_Busy) :=
  lift1 (g := evFn Tryz.prog tnil tnil 37 Tryz.f37 F.control_Control_Busy.plan) (evFn_sound tnil_ok tnil_ok Tryz.func37 (by kernel_rfl)) (fun x0 => by kernel_rfl)

/-- (*granary/granaryref15.Control).Busy -/
noncomputable def F.granaryref15_Control_Busy (a0 : Value) : M Value :=
  bindO (neV (EqSh.one EqK.ptr) a0 (Value.pointer none)) fun x1 =>
  M.bind (guardM x1 true (M.ret a0)) fun x2 =>
  M.bind (guardM x1 true (optM (nilChk x2))) fun x3 =>
  M.bind (guardM x1 true (optM (fieldA 26 x3))) fun x4 =>
  M.bind (guardM x1 true (rdM (ld1 x4))) fun x5 =>
  M.bind (guardM x1 true (optM (binV BinOp.neq x5 (Value.int IntKind.i64 0)))) fun x6 =>
  bindO (pickV x1 x6 (Value.bool false)) fun x7 =>
  M.ret x7
def F.granaryref15_Control_Busy.plan : Plan := (seq leaf (seq leaf leaf))
theorem F.granaryref15_Control_Busy.lift : LiftOk Tryz.prog 38 (ap1 F.granaryref15_Control_Busy) :=
  lift1 (g := evFn Tryz.prog tnil tnil 38 Tryz.f38 F.granaryref15_Control_Busy.plan) (evFn_sound tnil_ok tnil_ok Tryz.func38 (by kernel_rfl)) (fun x0 => by kernel_rfl)

/-- (*granary/control.Control).Report -/
noncomputable def F.control_Control_Report (a0 : Value) : M Value :=
  M.bind (newM 83 #[(Value.int IntKind.i64 0), (Value.int IntKind.i64 0), (Value.int IntKind.i64 0), (Value.int IntKind.i64 0), (Value.slice none 0 0), (Value.slice none 0 0)]) fun x1 =>
  bindO (eqV (EqSh.one EqK.ptr) a0 (Value.pointer none)) fun x2 =>
  condM x2 (
    bindO (buildV #[(Value.int IntKind.i64 0), (Value.int IntKind.i64 0), (Value.int IntKind.i64 0), (Value.int IntKind.i64 0), (Value.slice none 0 0), (Value.slice none 0 0)] []) fun x3 =>
    M.bind (stM 6 x1 x3) fun _ =>
    M.bind (rdM (ldA 6 x1)) fun x5 =>
    M.ret (Value.tuple #[x5, (Value.int IntKind.i64 2)])) (
    bindO (nilChk a0) fun x6 =>
    bindO (fieldA 8 x6) fun x7 =>
    M.bind (rdM (ld1 x7)) fun x8 =>
    bindO (notV x8) fun x9 =>
    condM x9 (
      bindO (buildV #[(Value.int IntKind.i64 0), (Value.int IntKind.i64 0), (Value.int IntKind.i64 0), (Value.int IntKind.i64 0), (Value.slice none 0 0), (Value.slice none 0 0)] []) fun x10 =>
      M.bind (stM 6 x1 x10) fun _ =>
      M.bind (rdM (ldA 6 x1)) fun x12 =>
      M.ret (Value.tuple #[x12, (Value.int IntKind.i64 151)])) (
      bindO (nilChk a0) fun x13 =>
      bindO (fieldA 9 x13) fun x14 =>
      M.bind (rdM (ldA 6 x14)) fun x15 =>
      M.bind (newM 83 #[(Value.int IntKind.i64 0), (Value.int IntKind.i64 0), (Value.int IntKind.i64 0), (Value.int IntKind.i64 0), (Value.slice none 0 0), (Value.slice none 0 0)]) fun x16 =>
      M.bind (stM 6 x16 x15) fun _ =>
      drewM <|
      getM fun W18 =>
      bindO (fieldA 4 x16) fun x19 =>
      M.bind (rdM (ld1 x19)) fun x20 =>
      M.bind (F.slices_Clone_inst x20) fun x21 =>
      getM fun _ =>
      bindO (fieldA 5 x16) fun x23 =>
      M.bind (rdM (ld1 x23)) fun x24 =>
      M.bind (F.slices_Clone_inst x24) fun x25 =>
      getM fun _ =>
      bindO (fieldA 4 x16) fun x27 =>
      M.bind (stM 1 x27 x21) fun _ =>
      getM fun _ =>
      bindO (fieldA 5 x16) fun x30 =>
      M.bind (stM 1 x30 x25) fun _ =>
      getM fun _ =>
      reqM (ld1 x23 W18 = some x24) <|
      M.bind (rdM (ldA 6 x16)) fun x33 =>
      M.bind (stM 6 x1 x33) fun _ =>
      M.bind (rdM (ldA 6 x1)) fun x35 =>
      M.ret (Value.tuple #[x35, (Value.int IntKind.i64 0)])))
def F.control_Control_Report.plan : Plan := (seq leaf (seq (seq leaf (cond (seq leaf leaf) leaf)) (seq (seq leaf (cond (seq leaf leaf) leaf)) (seq leaf (seq leaf (seq leaf leaf))))))
theorem F.control_Control_Report.lift : LiftOk Tryz.prog 39 (ap1 F.control_Control_Report) :=
  lift1 (g := evFn Tryz.prog (tcons 70 (ap1 F.slices_Clone_inst) tnil) tnil 39 Tryz.f39 F.control_Control_Report.plan) (evFn_sound (tcons_ok F.slices_Clone_inst.lift tnil_ok) tnil_ok Tryz.func39 (by kernel_rfl)) (fun x0 => by kernel_rfl)

/-- (*granary/granaryref15.Control).Report -/
noncomputable def F.granaryref15_Control_Report (a0 : Value) : M Value :=
  M.bind (newM 83 #[(Value.int IntKind.i64 0), (Value.int IntKind.i64 0), (Value.int IntKind.i64 0), (Value.int IntKind.i64 0), (Value.slice none 0 0), (Value.slice none 0 0)]) fun x1 =>
  bindO (eqV (EqSh.one EqK.ptr) a0 (Value.pointer none)) fun x2 =>
  condM x2 (
    bindO (buildV #[(Value.int IntKind.i64 0), (Value.int IntKind.i64 0), (Value.int IntKind.i64 0), (Value.int IntKind.i64 0), (Value.slice none 0 0), (Value.slice none 0 0)] []) fun x3 =>
    M.bind (stM 6 x1 x3) fun _ =>
    M.bind (rdM (ldA 6 x1)) fun x5 =>
    M.ret (Value.tuple #[x5, (Value.int IntKind.i64 2)])) (
    bindO (nilChk a0) fun x6 =>
    bindO (fieldA 31 x6) fun x7 =>
    M.bind (rdM (ld1 x7)) fun x8 =>
    bindO (notV x8) fun x9 =>
    condM x9 (
      bindO (buildV #[(Value.int IntKind.i64 0), (Value.int IntKind.i64 0), (Value.int IntKind.i64 0), (Value.int IntKind.i64 0), (Value.slice none 0 0), (Value.slice none 0 0)] []) fun x10 =>
      M.bind (stM 6 x1 x10) fun _ =>
      M.bind (rdM (ldA 6 x1)) fun x12 =>
      M.ret (Value.tuple #[x12, (Value.int IntKind.i64 151)])) (
      bindO (nilChk a0) fun x13 =>
      bindO (fieldA 32 x13) fun x14 =>
      M.bind (rdM (ldA 6 x14)) fun x15 =>
      M.bind (newM 83 #[(Value.int IntKind.i64 0), (Value.int IntKind.i64 0), (Value.int IntKind.i64 0), (Value.int IntKind.i64 0), (Value.slice none 0 0), (Value.slice none 0 0)]) fun x16 =>
      M.bind (stM 6 x16 x15) fun _ =>
      bindO (nilChk a0) fun x18 =>
      bindO (fieldA 32 x18) fun x19 =>
      bindO (fieldA 4 x19) fun x20 =>
      M.bind (rdM (ld1 x20)) fun x21 =>
      M.bind (appM 3 1 8 #[(Value.int IntKind.i64 0)] (Value.slice none 0 0) x21) fun x22 =>
      bindO (fieldA 4 x16) fun x23 =>
      M.bind (stM 1 x23 x22) fun _ =>
      bindO (nilChk a0) fun x25 =>
      bindO (fieldA 32 x25) fun x26 =>
      bindO (fieldA 5 x26) fun x27 =>
      M.bind (rdM (ld1 x27)) fun x28 =>
      M.bind (appM 3 1 8 #[(Value.int IntKind.i64 0)] (Value.slice none 0 0) x28) fun x29 =>
      bindO (fieldA 5 x16) fun x30 =>
      M.bind (stM 1 x30 x29) fun _ =>
      M.bind (rdM (ldA 6 x16)) fun x32 =>
      M.bind (stM 6 x1 x32) fun _ =>
      M.bind (rdM (ldA 6 x1)) fun x34 =>
      M.ret (Value.tuple #[x34, (Value.int IntKind.i64 0)])))
def F.granaryref15_Control_Report.plan : Plan := (seq leaf (seq (seq leaf (cond (seq leaf leaf) leaf)) (seq (seq leaf (cond (seq leaf leaf) leaf)) (seq leaf (seq leaf (seq leaf (seq leaf leaf)))))))
theorem F.granaryref15_Control_Report.lift : LiftOk Tryz.prog 40 (ap1 F.granaryref15_Control_Report) :=
  lift1 (g := evFn Tryz.prog tnil tnil 40 Tryz.f40 F.granaryref15_Control_Report.plan) (evFn_sound tnil_ok tnil_ok Tryz.func40 (by kernel_rfl)) (fun x0 => by kernel_rfl)

/-- granary/granarylaw15.sameInts -/
noncomputable def F.granarylaw15_sameInts (a0 a1 : Value) : M Value :=
  bindO (lenL a0) fun x1 =>
  bindO (lenL a1) fun x2 =>
  bindO (binV BinOp.neq x1 x2) fun x3 =>
  condM x3 (
    M.ret (Value.bool false)) (
    M.bind (loopM (fun l4 =>
      bindO (lenL a0) fun x5 =>
      bindO (binV BinOp.lss (getL l4 0) x5) fun x6 =>
      condM x6 (
        drewM <|
        bindO (idxA 1 a0 (getL l4 0)) fun x7 =>
        M.bind (rdM (ld1 x7)) fun x8 =>
        bindO (idxA 1 a1 (getL l4 0)) fun x9 =>
        M.bind (rdM (ld1 x9)) fun x10 =>
        bindO (binV BinOp.neq x8 x10) fun x11 =>
        condM x11 (
          M.ret (Out.ret (Value.bool false))) (
          bindO (binV BinOp.add (getL l4 0) (Value.int IntKind.i64 1)) fun x12 =>
          M.ret (Out.norm [x12]))) (
        M.ret (Out.exit 0 [(getL l4 0)]))) [(Value.int IntKind.i64 0)]) fun o14 =>
    outK o14 (fun _ => M.fail) (fun i15 _ =>
      bif Nat.beq i15 0 then (
        M.ret (Value.bool true)) else
      M.fail) (fun r16 => M.ret r16))
def F.granarylaw15_sameInts.plan : Plan := (seq leaf (seq (seq leaf (cond (seq leaf leaf) leaf)) (seq (seq leaf (body (loop [5] [4, 5, 11, 12, 13, 14, 15, 16, 17, 18, 19, 20, 21, 22, 23, 24, 25] [0] (seq (seq leaf (cond leaf leaf)) (seq (body (seq leaf (cond (seq leaf leaf) leaf))) leaf))))) (seq leaf leaf))))
theorem F.granarylaw15_sameInts.lift : LiftOk Tryz.prog 43 (ap2 F.granarylaw15_sameInts) :=
  lift2 (g := evFn Tryz.prog tnil tnil 43 Tryz.f43 F.granarylaw15_sameInts.plan) (evFn_sound tnil_ok tnil_ok Tryz.func43 (by kernel_rfl)) (fun x0 x1 => by kernel_rfl)

/-- granary/granarylaw15.SameReport -/
noncomputable def F.granarylaw15_SameReport (a0 a1 : Value) : M Value :=
  M.bind (newM 83 (Value.cells a0)) fun x1 =>
  M.bind (newM 83 (Value.cells a1)) fun x2 =>
  bindO (fieldA 0 x1) fun x3 =>
  M.bind (rdM (ld1 x3)) fun x4 =>
  bindO (fieldA 0 x2) fun x5 =>
  M.bind (rdM (ld1 x5)) fun x6 =>
  bindO (binV BinOp.neq x4 x6) fun x7 =>
  M.bind (guardM x7 false (optM (fieldA 1 x1))) fun x8 =>
  M.bind (guardM x7 false (rdM (ld1 x8))) fun x9 =>
  M.bind (guardM x7 false (optM (fieldA 1 x2))) fun x10 =>
  M.bind (guardM x7 false (rdM (ld1 x10))) fun x11 =>
  M.bind (guardM x7 false (optM (binV BinOp.neq x9 x11))) fun x12 =>
  bindO (pickV x7 (Value.bool true) x12) fun x13 =>
  M.bind (guardM x13 false (optM (fieldA 2 x1))) fun x14 =>
  M.bind (guardM x13 false (rdM (ld1 x14))) fun x15 =>
  M.bind (guardM x13 false (optM (fieldA 2 x2))) fun x16 =>
  M.bind (guardM x13 false (rdM (ld1 x16))) fun x17 =>
  M.bind (guardM x13 false (optM (binV BinOp.neq x15 x17))) fun x18 =>
  bindO (pickV x13 (Value.bool true) x18) fun x19 =>
  M.bind (guardM x19 false (optM (fieldA 3 x1))) fun x20 =>
  M.bind (guardM x19 false (rdM (ld1 x20))) fun x21 =>
  M.bind (guardM x19 false (optM (fieldA 3 x2))) fun x22 =>
  M.bind (guardM x19 false (rdM (ld1 x22))) fun x23 =>
  M.bind (guardM x19 false (optM (binV BinOp.neq x21 x23))) fun x24 =>
  bindO (pickV x19 (Value.bool true) x24) fun x25 =>
  condM x25 (
    M.ret (Value.bool false)) (
    bindO (fieldA 4 x1) fun x26 =>
    M.bind (rdM (ld1 x26)) fun x27 =>
    bindO (fieldA 4 x2) fun x28 =>
    M.bind (rdM (ld1 x28)) fun x29 =>
    M.bind (F.granarylaw15_sameInts x27 x29) fun x30 =>
    M.bind (guardM x30 true (optM (fieldA 5 x1))) fun x31 =>
    M.bind (guardM x30 true (rdM (ld1 x31))) fun x32 =>
    M.bind (guardM x30 true (optM (fieldA 5 x2))) fun x33 =>
    M.bind (guardM x30 true (rdM (ld1 x33))) fun x34 =>
    M.bind (guardM x30 true (F.granarylaw15_sameInts x32 x34)) fun x35 =>
    bindO (pickV x30 x35 (Value.bool false)) fun x36 =>
    M.ret x36)
def F.granarylaw15_SameReport.plan : Plan := (seq leaf (seq (seq leaf (cond (seq leaf leaf) leaf)) (seq leaf leaf)))
theorem F.granarylaw15_SameReport.lift : LiftOk Tryz.prog 41 (ap2 F.granarylaw15_SameReport) :=
  lift2 (g := evFn Tryz.prog (tcons 43 (ap2 F.granarylaw15_sameInts) tnil) tnil 41 Tryz.f41 F.granarylaw15_SameReport.plan) (evFn_sound (tcons_ok F.granarylaw15_sameInts.lift tnil_ok) tnil_ok Tryz.func41 (by kernel_rfl)) (fun x0 x1 => by kernel_rfl)

/-- (*granary/granarylaw15.Book).write -/
noncomputable def F.granarylaw15_Book_write (a0 : Value) : M Value :=
  bindO (nilChk a0) fun x1 =>
  bindO (fieldA 3 x1) fun x2 =>
  M.bind (rdM (ld1 x2)) fun x3 =>
  bindO (idxA 1 x3 (Value.int IntKind.i64 0)) fun x4 =>
  M.bind (rdM (ld1 x4)) fun x5 =>
  bindO (nilChk a0) fun x6 =>
  bindO (fieldA 3 x6) fun x7 =>
  M.bind (rdM (ld1 x7)) fun x8 =>
  bindO (sliceV 1 x8 (some (Value.int IntKind.i64 1)) none) fun x9 =>
  bindO (nilChk a0) fun x10 =>
  bindO (fieldA 3 x10) fun x11 =>
  M.bind (stM 1 x11 x9) fun _ =>
  bindO (nilChk a0) fun x13 =>
  bindO (fieldA 4 x13) fun x14 =>
  M.bind (rdM (ld1 x14)) fun x15 =>
  bindO (sliceV 1 x15 (some (Value.int IntKind.i64 1)) none) fun x16 =>
  bindO (nilChk a0) fun x17 =>
  bindO (fieldA 4 x17) fun x18 =>
  M.bind (stM 1 x18 x16) fun _ =>
  bindO (nilChk a0) fun x20 =>
  bindO (fieldA 2 x20) fun x21 =>
  M.bind (rdM (ld1 x21)) fun x22 =>
  bindO (lenL x22) fun x23 =>
  bindO (binV BinOp.add (Value.int IntKind.i64 5000000) x23) fun x24 =>
  M.bind (loopM (fun l25 =>
    bindO (lenL x5) fun x26 =>
    bindO (binV BinOp.lss (getL l25 0) x26) fun x27 =>
    condM x27 (
      bindO (idxA 1 x5 (getL l25 0)) fun x28 =>
      M.bind (stM 1 x28 x24) fun _ =>
      bindO (binV BinOp.add (getL l25 0) (Value.int IntKind.i64 1)) fun x30 =>
      M.ret (Out.norm [x30])) (
      M.ret (Out.exit 0 [(getL l25 0)]))) [(Value.int IntKind.i64 0)]) fun o32 =>
  outK o32 (fun _ => M.fail) (fun i33 _ =>
    bif Nat.beq i33 0 then (
      M.bind (bslM 3 1 (Builtin.zeroCells #[(Value.int IntKind.i64 0)] 1) [(0, 1, x24)]) fun x35 =>
      M.bind (appM 3 1 8 #[(Value.int IntKind.i64 0)] x5 x35) fun x36 =>
      M.bind (loopM (fun l37 =>
        bindO (binV BinOp.lss (getL l37 1) (Value.int IntKind.i64 64)) fun x38 =>
        condM x38 (
          M.bind (bslM 3 1 (Builtin.zeroCells #[(Value.int IntKind.i64 0)] 1) [(0, 1, x24)]) fun x39 =>
          M.bind (appM 3 1 8 #[(Value.int IntKind.i64 0)] (getL l37 0) x39) fun x40 =>
          bindO (binV BinOp.add (getL l37 1) (Value.int IntKind.i64 1)) fun x41 =>
          M.ret (Out.norm [x40, x41])) (
          M.ret (Out.exit 2 [(getL l37 0), (getL l37 1)]))) [x36, (Value.int IntKind.i64 0)]) fun o43 =>
      outK o43 (fun _ => M.fail) (fun i44 l42 =>
        bif Nat.beq i44 2 then (
          bindO (nilChk a0) fun x46 =>
          bindO (fieldA 0 x46) fun x47 =>
          M.bind (rdM (ld1 x47)) fun x48 =>
          M.bind (bslM 46 1 (Builtin.zeroCells #[(Value.slice none 0 0)] 1) [(0, 1, x5)]) fun x49 =>
          M.bind (appM 46 1 24 #[(Value.slice none 0 0)] x48 x49) fun x50 =>
          bindO (nilChk a0) fun x51 =>
          bindO (fieldA 0 x51) fun x52 =>
          M.bind (stM 1 x52 x50) fun _ =>
          bindO (nilChk a0) fun x54 =>
          bindO (fieldA 1 x54) fun x55 =>
          M.bind (rdM (ld1 x55)) fun x56 =>
          M.bind (bslM 46 1 (Builtin.zeroCells #[(Value.slice none 0 0)] 1) [(0, 1, (getL l42 0))]) fun x57 =>
          M.bind (appM 46 1 24 #[(Value.slice none 0 0)] x56 x57) fun x58 =>
          bindO (nilChk a0) fun x59 =>
          bindO (fieldA 1 x59) fun x60 =>
          M.bind (stM 1 x60 x58) fun _ =>
          bindO (nilChk a0) fun x62 =>
          bindO (fieldA 2 x62) fun x63 =>
          M.bind (rdM (ld1 x63)) fun x64 =>
          M.bind (bslM 3 1 (Builtin.zeroCells #[(Value.int IntKind.i64 0)] 1) [(0, 1, x24)]) fun x65 =>
          M.bind (appM 3 1 8 #[(Value.int IntKind.i64 0)] x64 x65) fun x66 =>
          bindO (nilChk a0) fun x67 =>
          bindO (fieldA 2 x67) fun x68 =>
          M.bind (stM 1 x68 x66) fun _ =>
          M.ret (Value.tuple #[])) else
        M.fail) (fun r45 => M.ret r45)) else
    M.fail) (fun r34 => M.ret r34)
def F.granarylaw15_Book_write.plan : Plan := (seq leaf (seq leaf (seq leaf (seq leaf (seq (seq leaf (body (loop [4] [4, 35, 36, 37, 38, 39, 40, 41, 42, 43, 44] [0] (seq (seq leaf (cond leaf leaf)) (seq (body leaf) leaf))))) (seq leaf (seq (seq leaf (body (loop [5, 6] [5, 6, 49, 50, 51, 52, 53, 54, 55, 56] [2] (seq (seq leaf (cond leaf leaf)) (seq (body leaf) leaf))))) (seq leaf (seq leaf leaf)))))))))
theorem F.granarylaw15_Book_write.lift : LiftOk Tryz.prog 47 (ap1 F.granarylaw15_Book_write) :=
  lift1 (g := evFn Tryz.prog tnil tnil 47 Tryz.f47 F.granarylaw15_Book_write.plan) (evFn_sound tnil_ok tnil_ok Tryz.func47 (by kernel_rfl)) (fun x0 => by kernel_rfl)

/-- (*granary/granarylaw15.Book).Keep -/
noncomputable def F.granarylaw15_Book_Keep (a0 a1 : Value) : M Value :=
  bindO (nilChk a0) fun x1 =>
  bindO (fieldA 3 x1) fun x2 =>
  M.bind (rdM (ld1 x2)) fun x3 =>
  M.bind (bslM 46 1 (Builtin.zeroCells #[(Value.slice none 0 0)] 1) [(0, 1, a1)]) fun x4 =>
  M.bind (appM 46 1 24 #[(Value.slice none 0 0)] x3 x4) fun x5 =>
  bindO (nilChk a0) fun x6 =>
  bindO (fieldA 3 x6) fun x7 =>
  M.bind (stM 1 x7 x5) fun _ =>
  drewM <|
  getM fun _ =>
  bindO (nilChk a0) fun x10 =>
  bindO (fieldA 4 x10) fun x11 =>
  M.bind (rdM (ld1 x11)) fun x12 =>
  M.bind (appM 3 1 8 #[(Value.int IntKind.i64 0)] (Value.slice none 0 0) a1) fun x13 =>
  getM fun W14 =>
  M.bind (bslM 46 1 (Builtin.zeroCells #[(Value.slice none 0 0)] 1) [(0, 1, x13)]) fun x15 =>
  getM fun W16 =>
  M.bind (appM 46 1 24 #[(Value.slice none 0 0)] x12 x15) fun x17 =>
  getM fun _ =>
  bindO (nilChk a0) fun x19 =>
  bindO (fieldA 4 x19) fun x20 =>
  M.bind (stM 1 x20 x17) fun _ =>
  getM fun _ =>
  reqM (ld1 x11 W14 = some x12) <|
  reqM (ld1 x11 W16 = some x12) <|
  bindO (nilChk a0) fun x23 =>
  bindO (fieldA 3 x23) fun x24 =>
  M.bind (rdM (ld1 x24)) fun x25 =>
  bindO (lenL x25) fun x26 =>
  bindO (binV BinOp.gtr x26 (Value.int IntKind.i64 4)) fun x27 =>
  condM x27 (
    M.bind (F.granarylaw15_Book_write a0) fun _ =>
    M.ret (Value.tuple #[])) (
    M.ret (Value.tuple #[]))
def F.granarylaw15_Book_Keep.plan : Plan := (seq leaf (seq leaf (seq leaf (cond leaf leaf))))
theorem F.granarylaw15_Book_Keep.lift : LiftOk Tryz.prog 42 (ap2 F.granarylaw15_Book_Keep) :=
  lift2 (g := evFn Tryz.prog (tcons 47 (ap1 F.granarylaw15_Book_write) tnil) tnil 42 Tryz.f42 F.granarylaw15_Book_Keep.plan) (evFn_sound (tcons_ok F.granarylaw15_Book_write.lift tnil_ok) tnil_ok Tryz.func42 (by kernel_rfl)) (fun x0 x1 => by kernel_rfl)

/-- (*granary/granarylaw15.World).asks -/
noncomputable def F.granarylaw15_World_asks (a0 a1 : Value) : M Value :=
  M.bind (newM 40 (Value.cells a1)) fun x1 =>
  bindO (fieldA 0 x1) fun x2 =>
  M.bind (rdM (ld1 x2)) fun x3 =>
  bindO (binV BinOp.eql x3 (Value.int IntKind.i64 6)) fun x4 =>
  condM x4 (
    drewM <|
    getM fun W5 =>
    bindO (nilChk a0) fun x6 =>
    bindO (fieldA 23 x6) fun x7 =>
    M.bind (rdM (ld1 x7)) fun x8 =>
    M.bind (F.control_Control_Busy x8) fun x9 =>
    getM fun _ =>
    bindO (nilChk a0) fun x11 =>
    bindO (fieldA 24 x11) fun x12 =>
    M.bind (rdM (ld1 x12)) fun x13 =>
    M.bind (F.granaryref15_Control_Busy x13) fun x14 =>
    getM fun _ =>
    bindO (eqV (EqSh.one EqK.bool) x9 x14) fun x16 =>
    reqM (ld1 x12 W5 = some x13) <|
    M.ret x16) (
    bindO (binV BinOp.eql x3 (Value.int IntKind.i64 7)) fun x17 =>
    condM x17 (
      bindO (nilChk a0) fun x18 =>
      bindO (fieldA 23 x18) fun x19 =>
      M.bind (rdM (ld1 x19)) fun x20 =>
      M.bind (F.control_Control_Report x20) fun x21 =>
      bindO (extV 0 x21) fun x22 =>
      bindO (extV 1 x21) fun x23 =>
      M.bind (newM 83 #[(Value.int IntKind.i64 0), (Value.int IntKind.i64 0), (Value.int IntKind.i64 0), (Value.int IntKind.i64 0), (Value.slice none 0 0), (Value.slice none 0 0)]) fun x24 =>
      M.bind (stM 6 x24 x22) fun _ =>
      bindO (nilChk a0) fun x26 =>
      bindO (fieldA 23 x26) fun x27 =>
      M.bind (rdM (ld1 x27)) fun x28 =>
      M.bind (F.control_Control_Report x28) fun x29 =>
      bindO (extV 0 x29) fun x30 =>
      bindO (extV 1 x29) fun x31 =>
      M.bind (newM 83 #[(Value.int IntKind.i64 0), (Value.int IntKind.i64 0), (Value.int IntKind.i64 0), (Value.int IntKind.i64 0), (Value.slice none 0 0), (Value.slice none 0 0)]) fun x32 =>
      M.bind (stM 6 x32 x30) fun _ =>
      bindO (nilChk a0) fun x34 =>
      bindO (fieldA 24 x34) fun x35 =>
      M.bind (rdM (ld1 x35)) fun x36 =>
      M.bind (F.granaryref15_Control_Report x36) fun x37 =>
      bindO (extV 0 x37) fun x38 =>
      bindO (extV 1 x37) fun x39 =>
      M.bind (newM 83 #[(Value.int IntKind.i64 0), (Value.int IntKind.i64 0), (Value.int IntKind.i64 0), (Value.int IntKind.i64 0), (Value.slice none 0 0), (Value.slice none 0 0)]) fun x40 =>
      M.bind (stM 6 x40 x38) fun _ =>
      M.bind (rdM (ldA 6 x24)) fun x42 =>
      M.bind (rdM (ldA 6 x40)) fun x43 =>
      M.bind (F.granarylaw15_SameReport x42 x43) fun x44 =>
      M.bind (guardM x44 true (M.ret x23)) fun x45 =>
      M.bind (guardM x44 true (F.granarylaw15_num x45)) fun x46 =>
      M.bind (guardM x44 true (M.ret x39)) fun x47 =>
      M.bind (guardM x44 true (optM (binV BinOp.eql x46 x47))) fun x48 =>
      bindO (pickV x44 x48 (Value.bool false)) fun x49 =>
      M.bind (guardM x49 true (rdM (ldA 6 x32))) fun x50 =>
      M.bind (guardM x49 true (rdM (ldA 6 x40))) fun x51 =>
      M.bind (guardM x49 true (F.granarylaw15_SameReport x50 x51)) fun x52 =>
      bindO (pickV x49 x52 (Value.bool false)) fun x53 =>
      M.bind (guardM x53 true (M.ret x31)) fun x54 =>
      M.bind (guardM x53 true (F.granarylaw15_num x54)) fun x55 =>
      M.bind (guardM x53 true (M.ret x39)) fun x56 =>
      M.bind (guardM x53 true (optM (binV BinOp.eql x55 x56))) fun x57 =>
      bindO (pickV x53 x57 (Value.bool false)) fun x58 =>
      drewM <|
      bindO (nilChk a0) fun x59 =>
      bindO (fieldA 26 x59) fun x60 =>
      bindO (fieldA 4 x24) fun x61 =>
      M.bind (rdM (ld1 x61)) fun x62 =>
      M.bind (F.granarylaw15_Book_Keep x60 x62) fun _ =>
      drewM <|
      bindO (nilChk a0) fun x64 =>
      bindO (fieldA 26 x64) fun x65 =>
      bindO (fieldA 5 x24) fun x66 =>
      M.bind (rdM (ld1 x66)) fun x67 =>
      M.bind (F.granarylaw15_Book_Keep x65 x67) fun _ =>
      drewM <|
      bindO (nilChk a0) fun x69 =>
      bindO (fieldA 26 x69) fun x70 =>
      bindO (fieldA 4 x32) fun x71 =>
      M.bind (rdM (ld1 x71)) fun x72 =>
      M.bind (F.granarylaw15_Book_Keep x70 x72) fun _ =>
      drewM <|
      bindO (nilChk a0) fun x74 =>
      bindO (fieldA 26 x74) fun x75 =>
      bindO (fieldA 5 x32) fun x76 =>
      M.bind (rdM (ld1 x76)) fun x77 =>
      M.bind (F.granarylaw15_Book_Keep x75 x77) fun _ =>
      M.ret x58) (
      M.ret (Value.bool true)))
def F.granarylaw15_World_asks.plan : Plan := (seq leaf (seq (seq leaf (body (seq leaf (cond (seq leaf leaf) (seq leaf (cond (seq leaf (seq leaf (seq leaf (seq leaf (seq leaf (seq leaf (seq leaf (seq leaf (seq leaf leaf))))))))) leaf)))))) (seq leaf leaf)))
theorem F.granarylaw15_World_asks.lift : LiftOk Tryz.prog 10 (ap2 F.granarylaw15_World_asks) :=
  lift2 (g := evFn Tryz.prog (tcons 22 (ap1 F.granarylaw15_num) (tcons 37 (ap1 F.control_Control_Busy) (tcons 38 (ap1 F.granaryref15_Control_Busy) (tcons 39 (ap1 F.control_Control_Report) (tcons 40 (ap1 F.granaryref15_Control_Report) (tcons 41 (ap2 F.granarylaw15_SameReport) (tcons 42 (ap2 F.granarylaw15_Book_Keep) tnil))))))) tnil 10 Tryz.f10 F.granarylaw15_World_asks.plan) (evFn_sound (tcons_ok F.granarylaw15_num.lift (tcons_ok F.control_Control_Busy.lift (tcons_ok F.granaryref15_Control_Busy.lift (tcons_ok F.control_Control_Report.lift (tcons_ok F.granaryref15_Control_Report.lift (tcons_ok F.granarylaw15_SameReport.lift (tcons_ok F.granarylaw15_Book_Keep.lift tnil_ok))))))) tnil_ok Tryz.func10 (by kernel_rfl)) (fun x0 x1 => by kernel_rfl)

/-- granary/granarylaw15.marked -/
noncomputable def F.granarylaw15_marked (a0 a1 : Value) : M Value :=
  M.bind (loopM (fun l1 =>
    bindO (lenL a0) fun x2 =>
    bindO (binV BinOp.lss (getL l1 0) x2) fun x3 =>
    condM x3 (
      bindO (idxA 1 a0 (getL l1 0)) fun x4 =>
      M.bind (rdM (ld1 x4)) fun x5 =>
      bindO (binV BinOp.neq x5 a1) fun x6 =>
      condM x6 (
        M.ret (Out.ret (Value.bool false))) (
        bindO (binV BinOp.add (getL l1 0) (Value.int IntKind.i64 1)) fun x7 =>
        M.ret (Out.norm [x7]))) (
      M.ret (Out.exit 0 [(getL l1 0)]))) [(Value.int IntKind.i64 0)]) fun o9 =>
  outK o9 (fun _ => M.fail) (fun i10 _ =>
    bif Nat.beq i10 0 then (
      M.ret (Value.bool true)) else
    M.fail) (fun r11 => M.ret r11)
def F.granarylaw15_marked.plan : Plan := (seq leaf (seq (seq leaf (body (loop [5] [4, 5, 6, 7, 8, 9, 10, 11, 12, 13, 14, 15, 16, 17] [0] (seq (seq leaf (cond leaf leaf)) (seq (body (seq leaf (cond (seq leaf leaf) leaf))) leaf))))) (seq leaf leaf)))
theorem F.granarylaw15_marked.lift : LiftOk Tryz.prog 44 (ap2 F.granarylaw15_marked) :=
  lift2 (g := evFn Tryz.prog tnil tnil 44 Tryz.f44 F.granarylaw15_marked.plan) (evFn_sound tnil_ok tnil_ok Tryz.func44 (by kernel_rfl)) (fun x0 x1 => by kernel_rfl)

/-- (*granary/granarylaw15.Book).Right -/
noncomputable def F.granarylaw15_Book_Right (a0 : Value) : M Value :=
  M.bind (loopM (fun l1 =>
    bindO (nilChk a0) fun x2 =>
    bindO (fieldA 3 x2) fun x3 =>
    M.bind (rdM (ld1 x3)) fun x4 =>
    bindO (lenL x4) fun x5 =>
    bindO (binV BinOp.lss (getL l1 0) x5) fun x6 =>
    condM x6 (
      drewM <|
      bindO (nilChk a0) fun x7 =>
      bindO (fieldA 3 x7) fun x8 =>
      M.bind (rdM (ld1 x8)) fun x9 =>
      bindO (idxA 1 x9 (getL l1 0)) fun x10 =>
      M.bind (rdM (ld1 x10)) fun x11 =>
      bindO (nilChk a0) fun x12 =>
      bindO (fieldA 4 x12) fun x13 =>
      M.bind (rdM (ld1 x13)) fun x14 =>
      bindO (idxA 1 x14 (getL l1 0)) fun x15 =>
      M.bind (rdM (ld1 x15)) fun x16 =>
      M.bind (F.granarylaw15_sameInts x11 x16) fun x17 =>
      bindO (notV x17) fun x18 =>
      condM x18 (
        M.ret (Out.ret (Value.bool false))) (
        bindO (binV BinOp.add (getL l1 0) (Value.int IntKind.i64 1)) fun x19 =>
        M.ret (Out.norm [x19]))) (
      M.ret (Out.exit 0 [(getL l1 0)]))) [(Value.int IntKind.i64 0)]) fun o21 =>
  outK o21 (fun _ => M.fail) (fun i22 _ =>
    bif Nat.beq i22 0 then (
      M.bind (loopM (fun l24 =>
        bindO (nilChk a0) fun x25 =>
        bindO (fieldA 2 x25) fun x26 =>
        M.bind (rdM (ld1 x26)) fun x27 =>
        bindO (lenL x27) fun x28 =>
        bindO (binV BinOp.lss (getL l24 0) x28) fun x29 =>
        condM x29 (
          drewM <|
          bindO (nilChk a0) fun x30 =>
          bindO (fieldA 0 x30) fun x31 =>
          M.bind (rdM (ld1 x31)) fun x32 =>
          bindO (idxA 1 x32 (getL l24 0)) fun x33 =>
          M.bind (rdM (ld1 x33)) fun x34 =>
          bindO (nilChk a0) fun x35 =>
          bindO (fieldA 2 x35) fun x36 =>
          M.bind (rdM (ld1 x36)) fun x37 =>
          bindO (idxA 1 x37 (getL l24 0)) fun x38 =>
          M.bind (rdM (ld1 x38)) fun x39 =>
          M.bind (F.granarylaw15_marked x34 x39) fun x40 =>
          bindO (notV x40) fun x41 =>
          M.bind (guardM x41 false (M.ret a0)) fun x42 =>
          M.bind (guardM x41 false (optM (nilChk x42))) fun x43 =>
          M.bind (guardM x41 false (optM (fieldA 1 x43))) fun x44 =>
          M.bind (guardM x41 false (rdM (ld1 x44))) fun x45 =>
          M.bind (guardM x41 false (M.ret (getL l24 0))) fun x46 =>
          M.bind (guardM x41 false (optM (idxA 1 x45 x46))) fun x47 =>
          M.bind (guardM x41 false (rdM (ld1 x47))) fun x48 =>
          M.bind (guardM x41 false (M.ret a0)) fun x49 =>
          M.bind (guardM x41 false (optM (nilChk x49))) fun x50 =>
          M.bind (guardM x41 false (optM (fieldA 2 x50))) fun x51 =>
          M.bind (guardM x41 false (rdM (ld1 x51))) fun x52 =>
          M.bind (guardM x41 false (M.ret (getL l24 0))) fun x53 =>
          M.bind (guardM x41 false (optM (idxA 1 x52 x53))) fun x54 =>
          M.bind (guardM x41 false (rdM (ld1 x54))) fun x55 =>
          M.bind (guardM x41 false (F.granarylaw15_marked x48 x55)) fun x56 =>
          M.bind (guardM x41 false (optM (notV x56))) fun x57 =>
          bindO (pickV x41 (Value.bool true) x57) fun x58 =>
          condM x58 (
            M.ret (Out.ret (Value.bool false))) (
            bindO (binV BinOp.add (getL l24 0) (Value.int IntKind.i64 1)) fun x59 =>
            M.ret (Out.norm [x59]))) (
          M.ret (Out.exit 2 [(getL l24 0)]))) [(Value.int IntKind.i64 0)]) fun o61 =>
      outK o61 (fun _ => M.fail) (fun i62 _ =>
        bif Nat.beq i62 2 then (
          M.ret (Value.bool true)) else
        M.fail) (fun r63 => M.ret r63)) else
    M.fail) (fun r23 => M.ret r23)
def F.granarylaw15_Book_Right.plan : Plan := (seq leaf (seq (seq leaf (body (loop [3] [2, 3, 5, 6, 7, 8, 9, 10, 11, 12, 13, 14, 15, 16, 17, 18, 19, 20, 21, 22, 23, 24, 25, 26, 27, 28, 29] [0] (seq (seq leaf (cond leaf leaf)) (seq (body (seq leaf (cond (seq leaf leaf) leaf))) leaf))))) (seq (seq leaf (body (loop [4] [2, 4, 30, 31, 32, 33, 34, 35, 36, 37, 38, 39, 40, 41, 42, 43, 44, 45, 46, 47, 48, 49, 50, 51, 52, 53, 54, 55, 56, 57, 58, 59, 60, 61, 62, 63, 64, 65, 66, 67, 68, 69, 70, 71, 72] [2] (seq (seq leaf (cond leaf leaf)) (seq (body (seq leaf (cond (seq leaf leaf) leaf))) leaf))))) (seq leaf leaf))))
theorem F.granarylaw15_Book_Right.lift : LiftOk Tryz.prog 11 (ap1 F.granarylaw15_Book_Right) :=
  lift1 (g := evFn Tryz.prog (tcons 43 (ap2 F.granarylaw15_sameInts) (tcons 44 (ap2 F.granarylaw15_marked) tnil)) tnil 11 Tryz.f11 F.granarylaw15_Book_Right.plan) (evFn_sound (tcons_ok F.granarylaw15_sameInts.lift (tcons_ok F.granarylaw15_marked.lift tnil_ok)) tnil_ok Tryz.func11 (by kernel_rfl)) (fun x0 => by kernel_rfl)

/-- granary/granarylaw15.stamped -/
noncomputable def F.granarylaw15_stamped (a0 a1 : Value) : M Value :=
  M.bind (loopM (fun l1 =>
    bindO (lenL a0) fun x2 =>
    bindO (binV BinOp.lss (getL l1 0) x2) fun x3 =>
    condM x3 (
      bindO (idxA 11 a0 (getL l1 0)) fun x4 =>
      M.bind (rdM (ldA 11 x4)) fun x5 =>
      bindO (buildV #[(Value.int IntKind.i64 0), (Value.int IntKind.i64 0), (Value.int IntKind.i64 0), (Value.int IntKind.i64 0), (Value.int IntKind.i64 0), (Value.int IntKind.i64 0), (Value.int IntKind.i64 0), (Value.int IntKind.i64 0), (Value.int IntKind.i64 0), (Value.string ByteArray.empty), (Value.string ByteArray.empty)] [(0, 1, a1)]) fun x6 =>
      M.bind (F.granarylaw15_sameMsg x5 x6) fun x7 =>
      bindO (notV x7) fun x8 =>
      condM x8 (
        M.ret (Out.ret (Value.bool false))) (
        bindO (binV BinOp.add (getL l1 0) (Value.int IntKind.i64 1)) fun x9 =>
        M.ret (Out.norm [x9]))) (
      M.ret (Out.exit 0 [(getL l1 0)]))) [(Value.int IntKind.i64 0)]) fun o11 =>
  outK o11 (fun _ => M.fail) (fun i12 _ =>
    bif Nat.beq i12 0 then (
      M.ret (Value.bool true)) else
    M.fail) (fun r13 => M.ret r13)
def F.granarylaw15_stamped.plan : Plan := (seq leaf (seq (seq leaf (body (loop [5] [4, 5, 6, 7, 8, 9, 10, 11, 12, 13, 14, 15, 16, 17, 18, 19] [0] (seq (seq leaf (cond leaf leaf)) (seq (body (seq leaf (cond (seq leaf leaf) leaf))) leaf))))) (seq leaf leaf)))
theorem F.granarylaw15_stamped.lift : LiftOk Tryz.prog 46 (ap2 F.granarylaw15_stamped) :=
  lift2 (g := evFn Tryz.prog (tcons 71 (ap2 F.granarylaw15_sameMsg) tnil) tnil 46 Tryz.f46 F.granarylaw15_stamped.plan) (evFn_sound (tcons_ok F.granarylaw15_sameMsg.lift tnil_ok) tnil_ok Tryz.func46 (by kernel_rfl)) (fun x0 x1 => by kernel_rfl)

/-- (*granary/granarylaw15.Letters).Right -/
noncomputable def F.granarylaw15_Letters_Right (a0 : Value) : M Value :=
  M.bind (loopM (fun l1 =>
    bindO (nilChk a0) fun x2 =>
    bindO (fieldA 3 x2) fun x3 =>
    M.bind (rdM (ld1 x3)) fun x4 =>
    bindO (lenL x4) fun x5 =>
    bindO (binV BinOp.lss (getL l1 0) x5) fun x6 =>
    condM x6 (
      drewM <|
      bindO (nilChk a0) fun x7 =>
      bindO (fieldA 3 x7) fun x8 =>
      M.bind (rdM (ld1 x8)) fun x9 =>
      bindO (idxA 1 x9 (getL l1 0)) fun x10 =>
      M.bind (rdM (ld1 x10)) fun x11 =>
      bindO (nilChk a0) fun x12 =>
      bindO (fieldA 4 x12) fun x13 =>
      M.bind (rdM (ld1 x13)) fun x14 =>
      bindO (idxA 1 x14 (getL l1 0)) fun x15 =>
      M.bind (rdM (ld1 x15)) fun x16 =>
      M.bind (F.granarylaw15_SameMsgs x11 x16) fun x17 =>
      bindO (notV x17) fun x18 =>
      condM x18 (
        M.ret (Out.ret (Value.bool false))) (
        bindO (binV BinOp.add (getL l1 0) (Value.int IntKind.i64 1)) fun x19 =>
        M.ret (Out.norm [x19]))) (
      M.ret (Out.exit 0 [(getL l1 0)]))) [(Value.int IntKind.i64 0)]) fun o21 =>
  outK o21 (fun _ => M.fail) (fun i22 _ =>
    bif Nat.beq i22 0 then (
      M.bind (loopM (fun l24 =>
        bindO (nilChk a0) fun x25 =>
        bindO (fieldA 2 x25) fun x26 =>
        M.bind (rdM (ld1 x26)) fun x27 =>
        bindO (lenL x27) fun x28 =>
        bindO (binV BinOp.lss (getL l24 0) x28) fun x29 =>
        condM x29 (
          drewM <|
          bindO (nilChk a0) fun x30 =>
          bindO (fieldA 0 x30) fun x31 =>
          M.bind (rdM (ld1 x31)) fun x32 =>
          bindO (idxA 1 x32 (getL l24 0)) fun x33 =>
          M.bind (rdM (ld1 x33)) fun x34 =>
          bindO (nilChk a0) fun x35 =>
          bindO (fieldA 2 x35) fun x36 =>
          M.bind (rdM (ld1 x36)) fun x37 =>
          bindO (idxA 1 x37 (getL l24 0)) fun x38 =>
          M.bind (rdM (ld1 x38)) fun x39 =>
          M.bind (F.granarylaw15_stamped x34 x39) fun x40 =>
          bindO (notV x40) fun x41 =>
          M.bind (guardM x41 false (M.ret a0)) fun x42 =>
          M.bind (guardM x41 false (optM (nilChk x42))) fun x43 =>
          M.bind (guardM x41 false (optM (fieldA 1 x43))) fun x44 =>
          M.bind (guardM x41 false (rdM (ld1 x44))) fun x45 =>
          M.bind (guardM x41 false (M.ret (getL l24 0))) fun x46 =>
          M.bind (guardM x41 false (optM (idxA 1 x45 x46))) fun x47 =>
          M.bind (guardM x41 false (rdM (ld1 x47))) fun x48 =>
          M.bind (guardM x41 false (M.ret a0)) fun x49 =>
          M.bind (guardM x41 false (optM (nilChk x49))) fun x50 =>
          M.bind (guardM x41 false (optM (fieldA 2 x50))) fun x51 =>
          M.bind (guardM x41 false (rdM (ld1 x51))) fun x52 =>
          M.bind (guardM x41 false (M.ret (getL l24 0))) fun x53 =>
          M.bind (guardM x41 false (optM (idxA 1 x52 x53))) fun x54 =>
          M.bind (guardM x41 false (rdM (ld1 x54))) fun x55 =>
          M.bind (guardM x41 false (F.granarylaw15_stamped x48 x55)) fun x56 =>
          M.bind (guardM x41 false (optM (notV x56))) fun x57 =>
          bindO (pickV x41 (Value.bool true) x57) fun x58 =>
          condM x58 (
            M.ret (Out.ret (Value.bool false))) (
            bindO (binV BinOp.add (getL l24 0) (Value.int IntKind.i64 1)) fun x59 =>
            M.ret (Out.norm [x59]))) (
          M.ret (Out.exit 2 [(getL l24 0)]))) [(Value.int IntKind.i64 0)]) fun o61 =>
      outK o61 (fun _ => M.fail) (fun i62 _ =>
        bif Nat.beq i62 2 then (
          M.ret (Value.bool true)) else
        M.fail) (fun r63 => M.ret r63)) else
    M.fail) (fun r23 => M.ret r23)
def F.granarylaw15_Letters_Right.plan : Plan := (seq leaf (seq (seq leaf (body (loop [3] [2, 3, 5, 6, 7, 8, 9, 10, 11, 12, 13, 14, 15, 16, 17, 18, 19, 20, 21, 22, 23, 24, 25, 26, 27, 28, 29] [0] (seq (seq leaf (cond leaf leaf)) (seq (body (seq leaf (cond (seq leaf leaf) leaf))) leaf))))) (seq (seq leaf (body (loop [4] [2, 4, 30, 31, 32, 33, 34, 35, 36, 37, 38, 39, 40, 41, 42, 43, 44, 45, 46, 47, 48, 49, 50, 51, 52, 53, 54, 55, 56, 57, 58, 59, 60, 61, 62, 63, 64, 65, 66, 67, 68, 69, 70, 71, 72] [2] (seq (seq leaf (cond leaf leaf)) (seq (body (seq leaf (cond (seq leaf leaf) leaf))) leaf))))) (seq leaf leaf))))
theorem F.granarylaw15_Letters_Right.lift : LiftOk Tryz.prog 12 (ap1 F.granarylaw15_Letters_Right) :=
  lift1 (g := evFn Tryz.prog (tcons 45 (ap2 F.granarylaw15_SameMsgs) (tcons 46 (ap2 F.granarylaw15_stamped) tnil)) tnil 12 Tryz.f12 F.granarylaw15_Letters_Right.plan) (evFn_sound (tcons_ok F.granarylaw15_SameMsgs.lift (tcons_ok F.granarylaw15_stamped.lift tnil_ok)) tnil_ok Tryz.func12 (by kernel_rfl)) (fun x0 => by kernel_rfl)

/-- (*granary/granarylaw15.Book).Last -/
noncomputable def F.granarylaw15_Book_Last (a0 : Value) : M Value :=
  M.bind (F.granarylaw15_Book_Right a0) fun x1 =>
  M.bind (loopM (fun _ =>
    bindO (nilChk a0) fun x3 =>
    bindO (fieldA 3 x3) fun x4 =>
    M.bind (rdM (ld1 x4)) fun x5 =>
    bindO (lenL x5) fun x6 =>
    bindO (binV BinOp.gtr x6 (Value.int IntKind.i64 0)) fun x7 =>
    condM x7 (
      M.bind (F.granarylaw15_Book_write a0) fun _ =>
      M.ret (Out.norm [])) (
      M.ret (Out.exit 0 []))) []) fun o10 =>
  outK o10 (fun _ => M.fail) (fun i11 _ =>
    bif Nat.beq i11 0 then (
      M.bind (guardM x1 true (M.ret a0)) fun x13 =>
      M.bind (guardM x1 true (F.granarylaw15_Book_Right x13)) fun x14 =>
      bindO (pickV x1 x14 (Value.bool false)) fun x15 =>
      M.ret x15) else
    M.fail) (fun r12 => M.ret r12)
def F.granarylaw15_Book_Last.plan : Plan := (seq leaf (seq leaf (seq (body (loop [] [6, 7, 8, 9, 10, 11, 12, 13] [0] (seq (seq leaf (cond leaf leaf)) (body leaf)))) (seq leaf leaf))))
theorem F.granarylaw15_Book_Last.lift : LiftOk Tryz.prog 13 (ap1 F.granarylaw15_Book_Last) :=
  lift1 (g := evFn Tryz.prog (tcons 11 (ap1 F.granarylaw15_Book_Right) (tcons 47 (ap1 F.granarylaw15_Book_write) tnil)) tnil 13 Tryz.f13 F.granarylaw15_Book_Last.plan) (evFn_sound (tcons_ok F.granarylaw15_Book_Right.lift (tcons_ok F.granarylaw15_Book_write.lift tnil_ok)) tnil_ok Tryz.func13 (by kernel_rfl)) (fun x0 => by kernel_rfl)

/-- (*granary/granarylaw15.Letters).Last -/
noncomputable def F.granarylaw15_Letters_Last (a0 : Value) : M Value :=
  M.bind (F.granarylaw15_Letters_Right a0) fun x1 =>
  M.bind (loopM (fun _ =>
    bindO (nilChk a0) fun x3 =>
    bindO (fieldA 3 x3) fun x4 =>
    M.bind (rdM (ld1 x4)) fun x5 =>
    bindO (lenL x5) fun x6 =>
    bindO (binV BinOp.gtr x6 (Value.int IntKind.i64 0)) fun x7 =>
    condM x7 (
      M.bind (F.granarylaw15_Letters_write a0) fun _ =>
      M.ret (Out.norm [])) (
      M.ret (Out.exit 0 []))) []) fun o10 =>
  outK o10 (fun _ => M.fail) (fun i11 _ =>
    bif Nat.beq i11 0 then (
      M.bind (guardM x1 true (M.ret a0)) fun x13 =>
      M.bind (guardM x1 true (F.granarylaw15_Letters_Right x13)) fun x14 =>
      bindO (pickV x1 x14 (Value.bool false)) fun x15 =>
      M.ret x15) else
    M.fail) (fun r12 => M.ret r12)
def F.granarylaw15_Letters_Last.plan : Plan := (seq leaf (seq leaf (seq (body (loop [] [6, 7, 8, 9, 10, 11, 12, 13] [0] (seq (seq leaf (cond leaf leaf)) (body leaf)))) (seq leaf leaf))))
theorem F.granarylaw15_Letters_Last.lift : LiftOk Tryz.prog 14 (ap1 F.granarylaw15_Letters_Last) :=
  lift1 (g := evFn Tryz.prog (tcons 12 (ap1 F.granarylaw15_Letters_Right) (tcons 48 (ap1 F.granarylaw15_Letters_write) tnil)) tnil 14 Tryz.f14 F.granarylaw15_Letters_Last.plan) (evFn_sound (tcons_ok F.granarylaw15_Letters_Right.lift (tcons_ok F.granarylaw15_Letters_write.lift tnil_ok)) tnil_ok Tryz.func14 (by kernel_rfl)) (fun x0 => by kernel_rfl)

/-- granary/granarylaw15.play -/
noncomputable def F.granarylaw15_play (a0 a1 a2 a3 : Value) : M Value :=
  M.bind (newM 28 (Value.cells a0)) fun x1 =>
  M.bind (rdM (ldA 23 x1)) fun x2 =>
  M.bind (F.granarylaw15_begun x2) fun x3 =>
  bindO (extV 0 x3) fun x4 =>
  bindO (extV 1 x3) fun x5 =>
  bindO (notV x5) fun x6 =>
  condM x6 (
    M.ret (Value.bool false)) (
    M.bind (loopM (fun l7 =>
      bindO (lenL a1) fun x8 =>
      bindO (binV BinOp.lss (getL l7 0) x8) fun x9 =>
      condM x9 (
        bindO (idxA 14 a1 (getL l7 0)) fun x10 =>
        M.bind (rdM (ldA 14 x10)) fun x11 =>
        M.bind (F.granarylaw15_World_calls x4 x11 a2) fun x12 =>
        M.bind (
          M.bind (guardM a3 true (M.ret x12)) fun x13 =>
          bindO (pickV a3 x13 (Value.bool false)) fun x14 =>
          condM x14 (
            bindO (idxA 14 a1 (getL l7 0)) fun x15 =>
            M.bind (rdM (ldA 14 x15)) fun x16 =>
            M.bind (F.granarylaw15_World_asks x4 x16) fun x17 =>
            M.ret (Out.norm [x17])) (
            M.ret (Out.norm [x12]))) fun o19 =>
        outK o19 (fun l18 =>
          bindO (notV (getL l18 0)) fun x22 =>
          M.bind (guardM x22 false (M.ret x4)) fun x23 =>
          M.bind (guardM x22 false (optM (nilChk x23))) fun x24 =>
          M.bind (guardM x22 false (optM (fieldA 26 x24))) fun x25 =>
          M.bind (guardM x22 false (F.granarylaw15_Book_Right x25)) fun x26 =>
          M.bind (guardM x22 false (optM (notV x26))) fun x27 =>
          bindO (pickV x22 (Value.bool true) x27) fun x28 =>
          M.bind (guardM x28 false (M.ret x4)) fun x29 =>
          M.bind (guardM x28 false (optM (nilChk x29))) fun x30 =>
          M.bind (guardM x28 false (optM (fieldA 31 x30))) fun x31 =>
          M.bind (guardM x28 false (F.granarylaw15_Letters_Right x31)) fun x32 =>
          M.bind (guardM x28 false (optM (notV x32))) fun x33 =>
          bindO (pickV x28 (Value.bool true) x33) fun x34 =>
          condM x34 (
            M.ret (Out.ret (Value.bool false))) (
            bindO (binV BinOp.add (getL l7 0) (Value.int IntKind.i64 1)) fun x35 =>
            M.ret (Out.norm [x35]))) (fun _ _ =>
          M.fail) (fun r21 => M.ret (Out.ret r21))) (
        M.ret (Out.exit 0 [(getL l7 0)]))) [(Value.int IntKind.i64 0)]) fun o38 =>
    outK o38 (fun _ => M.fail) (fun i39 _ =>
      bif Nat.beq i39 0 then (
        bindO (nilChk x4) fun x41 =>
        bindO (fieldA 26 x41) fun x42 =>
        M.bind (F.granarylaw15_Book_Last x42) fun x43 =>
        M.bind (guardM x43 true (M.ret x4)) fun x44 =>
        M.bind (guardM x43 true (optM (nilChk x44))) fun x45 =>
        M.bind (guardM x43 true (optM (fieldA 31 x45))) fun x46 =>
        M.bind (guardM x43 true (F.granarylaw15_Letters_Last x46)) fun x47 =>
        bindO (pickV x43 x47 (Value.bool false)) fun x48 =>
        M.ret x48) else
      M.fail) (fun r40 => M.ret r40))
def F.granarylaw15_play.plan : Plan := (seq leaf (seq leaf (seq (seq leaf (cond (seq leaf leaf) leaf)) (seq (seq leaf (body (loop [11] [8, 11, 12, 20, 21, 22, 23, 24, 25, 26, 27, 28, 29, 30, 31, 32, 33, 34, 35, 36, 37, 38, 39, 40, 41, 42, 43, 44, 45, 46, 47, 48, 49, 50, 51, 52, 53, 54, 55, 56, 57, 58] [0] (seq (seq leaf (cond leaf leaf)) (seq (body (seq leaf (fork [12] [12, 33, 34, 35, 36, 37, 38, 39, 40, 41, 42] [] (seq leaf (cond leaf leaf)) (seq leaf (cond (seq leaf leaf) leaf))))) leaf))))) (seq leaf leaf)))))
theorem F.granarylaw15_play.lift : LiftOk Tryz.prog 6 (ap4 F.granarylaw15_play) :=
  lift4 (g := evFn Tryz.prog (tcons 8 (ap1 F.granarylaw15_begun) (tcons 9 (ap3 F.granarylaw15_World_calls) (tcons 10 (ap2 F.granarylaw15_World_asks) (tcons 11 (ap1 F.granarylaw15_Book_Right) (tcons 12 (ap1 F.granarylaw15_Letters_Right) (tcons 13 (ap1 F.granarylaw15_Book_Last) (tcons 14 (ap1 F.granarylaw15_Letters_Last) tnil))))))) tnil 6 Tryz.f6 F.granarylaw15_play.plan) (evFn_sound (tcons_ok F.granarylaw15_begun.lift (tcons_ok F.granarylaw15_World_calls.lift (tcons_ok F.granarylaw15_World_asks.lift (tcons_ok F.granarylaw15_Book_Right.lift (tcons_ok F.granarylaw15_Letters_Right.lift (tcons_ok F.granarylaw15_Book_Last.lift (tcons_ok F.granarylaw15_Letters_Last.lift tnil_ok))))))) tnil_ok Tryz.func6 (by kernel_rfl)) (fun x0 x1 x2 x3 => by kernel_rfl)

/-- granary/granarylaw15.ControlSends -/
noncomputable def F.granarylaw15_ControlSends (a0 a1 a2 : Value) : M Value :=
  M.bind (newM 23 (Value.cells a1)) fun x1 =>
  M.bind (rdM (ldA 3 x1)) fun x2 =>
  M.bind (F.granarylaw15_made a0 x2) fun x3 =>
  M.bind (F.granarylaw15_play x3 a2 (Value.bool true) (Value.bool false)) fun x4 =>
  M.ret x4
def F.granarylaw15_ControlSends.plan : Plan := (seq leaf (seq leaf leaf))
theorem F.granarylaw15_ControlSends.lift : LiftOk Tryz.prog 3 (ap3 F.granarylaw15_ControlSends) :=
  lift3 (g := evFn Tryz.prog (tcons 6 (ap4 F.granarylaw15_play) (tcons 7 (ap2 F.granarylaw15_made) tnil)) tnil 3 Tryz.f3 F.granarylaw15_ControlSends.plan) (evFn_sound (tcons_ok F.granarylaw15_play.lift (tcons_ok F.granarylaw15_made.lift tnil_ok)) tnil_ok Tryz.func3 (by kernel_rfl)) (fun x0 x1 x2 => by kernel_rfl)

/-- granary/granarylaw15.ControlTells -/
noncomputable def F.granarylaw15_ControlTells (a0 a1 a2 : Value) : M Value :=
  M.bind (newM 23 (Value.cells a1)) fun x1 =>
  M.bind (rdM (ldA 3 x1)) fun x2 =>
  M.bind (F.granarylaw15_made a0 x2) fun x3 =>
  M.bind (F.granarylaw15_play x3 a2 (Value.bool false) (Value.bool true)) fun x4 =>
  M.ret x4
def F.granarylaw15_ControlTells.plan : Plan := (seq leaf (seq leaf leaf))
theorem F.granarylaw15_ControlTells.lift : LiftOk Tryz.prog 4 (ap3 F.granarylaw15_ControlTells) :=
  lift3 (g := evFn Tryz.prog (tcons 6 (ap4 F.granarylaw15_play) (tcons 7 (ap2 F.granarylaw15_made) tnil)) tnil 4 Tryz.f4 F.granarylaw15_ControlTells.plan) (evFn_sound (tcons_ok F.granarylaw15_play.lift (tcons_ok F.granarylaw15_made.lift tnil_ok)) tnil_ok Tryz.func4 (by kernel_rfl)) (fun x0 x1 x2 => by kernel_rfl)

/-- granary/granarylaw15.ControlPlays -/
noncomputable def F.granarylaw15_ControlPlays (a0 a1 : Value) : M Value :=
  M.bind (newM 28 (Value.cells a0)) fun x1 =>
  M.bind (rdM (ldA 23 x1)) fun x2 =>
  M.bind (F.granarylaw15_play x2 a1 (Value.bool true) (Value.bool true)) fun x3 =>
  M.ret x3
def F.granarylaw15_ControlPlays.plan : Plan := (seq leaf (seq leaf leaf))
theorem F.granarylaw15_ControlPlays.lift : LiftOk Tryz.prog 5 (ap2 F.granarylaw15_ControlPlays) :=
  lift2 (g := evFn Tryz.prog (tcons 6 (ap4 F.granarylaw15_play) tnil) tnil 5 Tryz.f5 F.granarylaw15_ControlPlays.plan) (evFn_sound (tcons_ok F.granarylaw15_play.lift tnil_ok) tnil_ok Tryz.func5 (by kernel_rfl)) (fun x0 x1 => by kernel_rfl)

end Go.Proofs.YtpiceodfdjihhaaGreatDoor
