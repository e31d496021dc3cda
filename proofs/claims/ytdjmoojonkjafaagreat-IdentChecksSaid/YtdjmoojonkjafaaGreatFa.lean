/- What functions of the program ask for, as propositions, each with the proof that the abstract machine asks for no more; printed by a program of mine. -/
import Derived.Test.YtdjmoojonkjafaaGreatFkp
set_option linter.unusedVariables false
set_option maxRecDepth 100000
set_option maxHeartbeats 4000000
namespace Go.Proofs.YtdjmoojonkjafaaGreat
open Go.AM Go.Proofs
-- incunable/incunablelaw18.IdentChecks
def F4.T0 (t3 : AV) (t4 : AV) (t5 : AV) (t52 : AV) (t66 : AV) (t73 : AV) (t74 : AV) (x : AV × AV) : Tm := tmL [(3, t3), (4, t4), (5, t5), (9, t52), (12, t66), (13, x.1), (73, t73), (74, t74), (75, x.2)]
def F4.B0 (R : AV → AHeap → Prop) (t3 : AV) (t4 : AV) (t5 : AV) (t52 : AV) (t66 : AV) (t73 : AV) (t74 : AV) (X0 : Tm → AHeap → Prop) (x : AV × AV) (H_11 : AHeap) : Prop :=
  Pu (aBin Tryz.prog .lss 3 x.2 t74) fun t76 =>
  Br t76 (
    Pu (ixS 1 t73 x.2) fun t77 =>
    Pu (ldS H_11 t77) fun t78 =>
    Gd x.1 true (Pu (some t78)) fun t81 =>
    Gd x.1 true (Pu (fdP 6 t5)) fun t82 =>
    Gd x.1 true (Pu (ldS H_11 t82)) fun t83 =>
    Gd x.1 true (Pu (aBin Tryz.prog .lss 3 t81 t83)) fun t84 =>
    Pu (pickA x.1 t84 (.bool false)) fun t85 =>
    Pu (aBin Tryz.prog .add 3 x.2 (.int .i64 1)) fun t86 =>
    X0 (F4.T0 t3 t4 t5 t52 t66 t73 t74 (t85, t86)) H_11)
  (
    Pu (ldG 7 H_11 t4) fun t87 =>
    Ca Tryz.prog kp 46 [t87] H_11 fun t88 H_12 =>
    Pu (aUn .not t88) fun t89 =>
    Jn (fun (H_13 : AHeap) =>
      Jn (fun (H_19 : AHeap) =>
        Cq (hUp H_19 9) fun H_20 =>
        Pu (ldG 7 H_20 t3) fun t167 =>
        Ca Tryz.prog kp 20 [t52] H_20 fun t169 H_21 =>
        Ca Tryz.prog kp 49 [t167, t169] H_21 fun t170 H_22 =>
        Pu (exT t170 0) fun t171 =>
        Pu (exT t170 1) fun t172 =>
        ((StG 7 t3 t167 H_20 ∧ StG 7 t3 t167 H_21 ∧ True) ∧ True) ∧
        R t172 H_22) fun J_2 =>
      Br x.1 (
        Ca Tryz.prog kp 47 [t52] H_13 fun t125 H_14 =>
        Pu (exT t125 0) fun t126 =>
        Pu (exT t125 1) fun t127 =>
        Pu (fdP 6 t5) fun t130 =>
        Pu (ldS H_14 t130) fun t131 =>
        Ca Tryz.prog kp 48 [t52, t131] H_14 fun t132 H_15 =>
        Pu (exT t132 0) fun t133 =>
        Pu (exT t132 1) fun t134 =>
        Nw (.cells 7 [.int .i64 0, .int .i64 0, .int .i64 0, .int .i64 0, .int .i64 0, .int .i64 0, .int .i64 0]) (fun h => (.ptr h 0)) H_15 fun t18 H_16 =>
        Pu (stA 7 H_16 t18 t133) fun H_17 =>
        Cq (hUp H_17 31) fun H_18 =>
        Pu (aBin Tryz.prog .neq 35 t127 (.int .i64 0)) fun t136 =>
        Gd t136 false (Pu (some t134)) fun t138 =>
        Gd t136 false (Pu (aBin Tryz.prog .neq 35 t138 (.int .i64 0))) fun t139 =>
        Pu (pickA t136 (.bool true) t139) fun t140 =>
        GdR t140 false (fun C => Pu (ldG 7 H_18 t18) fun v => C v (some (.load 23 t18))) fun t142 r7 =>
        GdR t140 false (fun C => Pu (ldG 7 H_18 t3) fun v => C v (some (.load 23 t3))) fun t143 r8 =>
        Gd t140 false (Pu (aBin Tryz.prog .neq 23 t142 t143)) fun t144 =>
        Pu (pickA t140 (.bool true) t144) fun t145 =>
        Gd t145 false (Pu (some t126)) fun t147 =>
        Gd t145 false (Pu (lnS t147)) fun t148 =>
        Gd t145 false (Pu (aBin Tryz.prog .neq 3 t148 (.int .i64 5))) fun t149 =>
        Pu (pickA t145 (.bool true) t149) fun t150 =>
        Gd t150 false (Pu (some t126)) fun t152 =>
        Gd t150 false (Pu (ixS 1 t152 (.int .i64 0))) fun t153 =>
        GdR t150 false (fun C => Pu (ldS H_18 t153) fun v => C v (some (.load 5 t153))) fun t154 r19 =>
        Gd t150 false (Pu (aBin Tryz.prog .neq 5 t154 (.int .u8 73))) fun t155 =>
        Pu (pickA t150 (.bool true) t155) fun t156 =>
        Gd t156 false (Pu (some t126)) fun t158 =>
        Gd t156 false (Pu (ixS 1 t158 (.int .i64 2))) fun t159 =>
        GdR t156 false (fun C => Pu (ldS H_18 t159) fun v => C v (some (.load 5 t159))) fun t160 r25 =>
        Gd t156 false (Pu (cvI .i64 t160)) fun t161 =>
        Gd t156 false (Pu (fdP 0 t3)) fun t162 =>
        GdR t156 false (fun C => Pu (ldS H_18 t162) fun v => C v (some (.load 3 t162))) fun t163 r28 =>
        Gd t156 false (Pu (aBin Tryz.prog .neq 3 t161 t163)) fun t164 =>
        Pu (pickA t156 (.bool true) t164) fun t165 =>
        ((Still Tryz.prog r28 t163 H_18 ∧ True) ∧ (Still Tryz.prog r25 t160 H_18 ∧ True) ∧ (Still Tryz.prog r19 t154 H_18 ∧ True) ∧ (Still Tryz.prog r8 t143 H_18 ∧ True) ∧ (Still Tryz.prog r7 t142 H_18 ∧ True) ∧ True) ∧
        Br t165 (
          R (.bool false) H_18)
        (
          J_2 H_18))
      (
        J_2 H_13)) fun J_1 =>
    Br t89 (
      Pu (aBin Tryz.prog .neq 35 t66 (.int .i64 2)) fun t91 =>
      Br t91 (
        R (.bool false) H_12)
      (
        J_1 H_12))
    (
      Pu (aBin Tryz.prog .eql 35 t66 (.int .i64 0)) fun t93 =>
      Gd t93 true (Pu (ldG 7 H_12 t4)) fun t95 =>
      Gd t93 true (Pu (ldG 7 H_12 t3)) fun t96 =>
      Gd t93 true (Pu (aBin Tryz.prog .neq 23 t95 t96)) fun t97 =>
      Pu (pickA t93 t97 (.bool false)) fun t98 =>
      Gd t98 false (Pu (some x.1)) fun t100 =>
      Gd t98 false (Pu (some t100)) fun t101 =>
      Gd t101 true (Pu (some t66)) fun t102 =>
      Gd t101 true (Pu (aBin Tryz.prog .eql 35 t102 (.int .i64 0))) fun t103 =>
      Gd t101 true (Pu (ldG 7 H_12 t4)) fun t104 =>
      Gd t101 true (Pu (ldG 7 H_12 t3)) fun t105 =>
      Gd t101 true (Pu (aBin Tryz.prog .eql 23 t104 t105)) fun t106 =>
      Gd t101 true (Pu (aBin Tryz.prog .neq 4 t103 t106)) fun t107 =>
      Gd t98 false (Pu (pickA t101 t107 (.bool false))) fun t108 =>
      Pu (pickA t98 (.bool true) t108) fun t109 =>
      Gd t109 false (Pu (some x.1)) fun t111 =>
      Gd t109 false (Pu (some t111)) fun t112 =>
      Gd t112 true (Pu (ldG 7 H_12 t4)) fun t113 =>
      Gd t112 true (Pu (ldG 7 H_12 t3)) fun t114 =>
      Gd t112 true (Pu (aBin Tryz.prog .neq 23 t113 t114)) fun t115 =>
      Gd t109 false (Pu (pickA t112 t115 (.bool false))) fun t116 =>
      Gd t109 false (Pu (some t116)) fun t117 =>
      Gd t117 true (Pu (some t66)) fun t118 =>
      Gd t117 true (Pu (aBin Tryz.prog .neq 35 t118 (.int .i64 23))) fun t119 =>
      Gd t109 false (Pu (pickA t117 t119 (.bool false))) fun t120 =>
      Pu (pickA t109 (.bool true) t120) fun t121 =>
      Br t121 (
        R (.bool false) H_12)
      (
        J_1 H_12)))
def F4.L0 (R : AV → AHeap → Prop) (t3 : AV) (t4 : AV) (t5 : AV) (t52 : AV) (t66 : AV) (t73 : AV) (t74 : AV) (x : AV × AV) (H_11 : AHeap) : Prop := loopW (kp 4) (subC [1, 1, 1, 1, 1, 1, 1, 1, 0, 1, 0, 1, 1, 0, 1, 1, 1] (bodyOf Tryz.f4)) (wpE Tryz.prog kp (kp 4) (subC [1, 1, 1, 1, 1, 1, 1, 1, 0, 1, 0, 1, 1, 0, 1, 1, 1] (bodyOf Tryz.f4))) (kBlock 0 (kSeq (wpE Tryz.prog kp (kp 4) (subC [1, 1, 1, 1, 1, 1, 1, 1, 0, 1, 0, 1, 1, 1] (bodyOf Tryz.f4))) (kSeq (wpE Tryz.prog kp (kp 4) (subC [1, 1, 1, 1, 1, 1, 1, 1, 1] (bodyOf Tryz.f4))) (retE Tryz.prog Tryz.f4 R)))) (F4.T0 t3 t4 t5 t52 t66 t73 t74 x) H_11
theorem F4.B0_eq (R : AV → AHeap → Prop) (t3 : AV) (t4 : AV) (t5 : AV) (t52 : AV) (t66 : AV) (t73 : AV) (t74 : AV) (X0 : Tm → AHeap → Prop) (x : AV × AV) (H_11 : AHeap) : F4.B0 R t3 t4 t5 t52 t66 t73 t74 X0 x H_11 = wpE Tryz.prog kp (kp 4) (subC [1, 1, 1, 1, 1, 1, 1, 1, 0, 1, 0, 1, 1, 0, 1, 1, 1] (bodyOf Tryz.f4)) (kLoop (keepL (kp 4) (subC [1, 1, 1, 1, 1, 1, 1, 1, 0, 1, 0, 1, 1, 0, 1, 1, 1] (bodyOf Tryz.f4))) (kBlock 0 (kSeq (wpE Tryz.prog kp (kp 4) (subC [1, 1, 1, 1, 1, 1, 1, 1, 0, 1, 0, 1, 1, 1] (bodyOf Tryz.f4))) (kSeq (wpE Tryz.prog kp (kp 4) (subC [1, 1, 1, 1, 1, 1, 1, 1, 1] (bodyOf Tryz.f4))) (retE Tryz.prog Tryz.f4 R)))) X0) (F4.T0 t3 t4 t5 t52 t66 t73 t74 x) H_11 := by kernel_rfl
theorem F4.L0_of (R : AV → AHeap → Prop) (t3 : AV) (t4 : AV) (t5 : AV) (t52 : AV) (t66 : AV) (t73 : AV) (t74 : AV) (J : Nat → (AV × AV) → AHeap → Prop) (step : ∀ nn xx HH, J nn xx HH → ∀ XX : Tm → AHeap → Prop, (∀ mm yy H', mm < nn → J mm yy H' → XX (F4.T0 t3 t4 t5 t52 t66 t73 t74 yy) H') → F4.B0 R t3 t4 t5 t52 t66 t73 t74 XX xx HH) : ∀ nn xx HH, J nn xx HH → F4.L0 R t3 t4 t5 t52 t66 t73 t74 xx HH :=
  loop_rule (F4.T0 t3 t4 t5 t52 t66 t73 t74) (F4.B0 R t3 t4 t5 t52 t66 t73 t74) (F4.B0_eq R t3 t4 t5 t52 t66 t73 t74) J step
theorem F4.L0_un (R : AV → AHeap → Prop) (t3 : AV) (t4 : AV) (t5 : AV) (t52 : AV) (t66 : AV) (t73 : AV) (t74 : AV) (xx : AV × AV) (HH : AHeap) (hh : ∀ XX : Tm → AHeap → Prop, (∀ yy H', F4.L0 R t3 t4 t5 t52 t66 t73 t74 yy H' → XX (F4.T0 t3 t4 t5 t52 t66 t73 t74 yy) H') → F4.B0 R t3 t4 t5 t52 t66 t73 t74 XX xx HH) : F4.L0 R t3 t4 t5 t52 t66 t73 t74 xx HH :=
  loop_once (F4.T0 t3 t4 t5 t52 t66 t73 t74) (F4.B0 R t3 t4 t5 t52 t66 t73 t74) (F4.B0_eq R t3 t4 t5 t52 t66 t73 t74) xx HH hh
def F4.T1 (t3 : AV) (t4 : AV) (t5 : AV) (t52 : AV) (t66_1 : AV) (t73_1 : AV) (t74_1 : AV) (x1 : AV × AV) : Tm := tmL [(3, t3), (4, t4), (5, t5), (9, t52), (12, t66_1), (13, x1.1), (73, t73_1), (74, t74_1), (75, x1.2)]
def F4.B1 (R : AV → AHeap → Prop) (t3 : AV) (t4 : AV) (t5 : AV) (t52 : AV) (t66_1 : AV) (t73_1 : AV) (t74_1 : AV) (X1 : Tm → AHeap → Prop) (x1 : AV × AV) (H_24 : AHeap) : Prop :=
  Pu (aBin Tryz.prog .lss 3 x1.2 t74_1) fun t76_1 =>
  Br t76_1 (
    Pu (ixS 1 t73_1 x1.2) fun t77_1 =>
    Pu (ldS H_24 t77_1) fun t78_1 =>
    Gd x1.1 true (Pu (some t78_1)) fun t81_1 =>
    Gd x1.1 true (Pu (fdP 6 t5)) fun t82_1 =>
    Gd x1.1 true (Pu (ldS H_24 t82_1)) fun t83_1 =>
    Gd x1.1 true (Pu (aBin Tryz.prog .lss 3 t81_1 t83_1)) fun t84_1 =>
    Pu (pickA x1.1 t84_1 (.bool false)) fun t85_1 =>
    Pu (aBin Tryz.prog .add 3 x1.2 (.int .i64 1)) fun t86_1 =>
    X1 (F4.T1 t3 t4 t5 t52 t66_1 t73_1 t74_1 (t85_1, t86_1)) H_24)
  (
    Pu (ldG 7 H_24 t4) fun t87_1 =>
    Ca Tryz.prog kp 46 [t87_1] H_24 fun t88_1 H_25 =>
    Pu (aUn .not t88_1) fun t89_1 =>
    Jn (fun (H_26 : AHeap) =>
      Jn (fun (H_32 : AHeap) =>
        Cq (hUp H_32 9) fun H_33 =>
        Pu (ldG 7 H_33 t3) fun t167_1 =>
        Ca Tryz.prog kp 20 [t52] H_33 fun t169_1 H_34 =>
        Ca Tryz.prog kp 49 [t167_1, t169_1] H_34 fun t170_1 H_35 =>
        Pu (exT t170_1 0) fun t171_1 =>
        Pu (exT t170_1 1) fun t172_1 =>
        ((StG 7 t3 t167_1 H_33 ∧ StG 7 t3 t167_1 H_34 ∧ True) ∧ True) ∧
        R t172_1 H_35) fun J_4 =>
      Br x1.1 (
        Ca Tryz.prog kp 47 [t52] H_26 fun t125_1 H_27 =>
        Pu (exT t125_1 0) fun t126_1 =>
        Pu (exT t125_1 1) fun t127_1 =>
        Pu (fdP 6 t5) fun t130_1 =>
        Pu (ldS H_27 t130_1) fun t131_1 =>
        Ca Tryz.prog kp 48 [t52, t131_1] H_27 fun t132_1 H_28 =>
        Pu (exT t132_1 0) fun t133_1 =>
        Pu (exT t132_1 1) fun t134_1 =>
        Nw (.cells 7 [.int .i64 0, .int .i64 0, .int .i64 0, .int .i64 0, .int .i64 0, .int .i64 0, .int .i64 0]) (fun h => (.ptr h 0)) H_28 fun t18_1 H_29 =>
        Pu (stA 7 H_29 t18_1 t133_1) fun H_30 =>
        Cq (hUp H_30 31) fun H_31 =>
        Pu (aBin Tryz.prog .neq 35 t127_1 (.int .i64 0)) fun t136_1 =>
        Gd t136_1 false (Pu (some t134_1)) fun t138_1 =>
        Gd t136_1 false (Pu (aBin Tryz.prog .neq 35 t138_1 (.int .i64 0))) fun t139_1 =>
        Pu (pickA t136_1 (.bool true) t139_1) fun t140_1 =>
        GdR t140_1 false (fun C => Pu (ldG 7 H_31 t18_1) fun v => C v (some (.load 23 t18_1))) fun t142_1 r7_1 =>
        GdR t140_1 false (fun C => Pu (ldG 7 H_31 t3) fun v => C v (some (.load 23 t3))) fun t143_1 r8_1 =>
        Gd t140_1 false (Pu (aBin Tryz.prog .neq 23 t142_1 t143_1)) fun t144_1 =>
        Pu (pickA t140_1 (.bool true) t144_1) fun t145_1 =>
        Gd t145_1 false (Pu (some t126_1)) fun t147_1 =>
        Gd t145_1 false (Pu (lnS t147_1)) fun t148_1 =>
        Gd t145_1 false (Pu (aBin Tryz.prog .neq 3 t148_1 (.int .i64 5))) fun t149_1 =>
        Pu (pickA t145_1 (.bool true) t149_1) fun t150_1 =>
        Gd t150_1 false (Pu (some t126_1)) fun t152_1 =>
        Gd t150_1 false (Pu (ixS 1 t152_1 (.int .i64 0))) fun t153_1 =>
        GdR t150_1 false (fun C => Pu (ldS H_31 t153_1) fun v => C v (some (.load 5 t153_1))) fun t154_1 r19_1 =>
        Gd t150_1 false (Pu (aBin Tryz.prog .neq 5 t154_1 (.int .u8 73))) fun t155_1 =>
        Pu (pickA t150_1 (.bool true) t155_1) fun t156_1 =>
        Gd t156_1 false (Pu (some t126_1)) fun t158_1 =>
        Gd t156_1 false (Pu (ixS 1 t158_1 (.int .i64 2))) fun t159_1 =>
        GdR t156_1 false (fun C => Pu (ldS H_31 t159_1) fun v => C v (some (.load 5 t159_1))) fun t160_1 r25_1 =>
        Gd t156_1 false (Pu (cvI .i64 t160_1)) fun t161_1 =>
        Gd t156_1 false (Pu (fdP 0 t3)) fun t162_1 =>
        GdR t156_1 false (fun C => Pu (ldS H_31 t162_1) fun v => C v (some (.load 3 t162_1))) fun t163_1 r28_1 =>
        Gd t156_1 false (Pu (aBin Tryz.prog .neq 3 t161_1 t163_1)) fun t164_1 =>
        Pu (pickA t156_1 (.bool true) t164_1) fun t165_1 =>
        ((Still Tryz.prog r28_1 t163_1 H_31 ∧ True) ∧ (Still Tryz.prog r25_1 t160_1 H_31 ∧ True) ∧ (Still Tryz.prog r19_1 t154_1 H_31 ∧ True) ∧ (Still Tryz.prog r8_1 t143_1 H_31 ∧ True) ∧ (Still Tryz.prog r7_1 t142_1 H_31 ∧ True) ∧ True) ∧
        Br t165_1 (
          R (.bool false) H_31)
        (
          J_4 H_31))
      (
        J_4 H_26)) fun J_3 =>
    Br t89_1 (
      Pu (aBin Tryz.prog .neq 35 t66_1 (.int .i64 2)) fun t91_1 =>
      Br t91_1 (
        R (.bool false) H_25)
      (
        J_3 H_25))
    (
      Pu (aBin Tryz.prog .eql 35 t66_1 (.int .i64 0)) fun t93_1 =>
      Gd t93_1 true (Pu (ldG 7 H_25 t4)) fun t95_1 =>
      Gd t93_1 true (Pu (ldG 7 H_25 t3)) fun t96_1 =>
      Gd t93_1 true (Pu (aBin Tryz.prog .neq 23 t95_1 t96_1)) fun t97_1 =>
      Pu (pickA t93_1 t97_1 (.bool false)) fun t98_1 =>
      Gd t98_1 false (Pu (some x1.1)) fun t100_1 =>
      Gd t98_1 false (Pu (some t100_1)) fun t101_1 =>
      Gd t101_1 true (Pu (some t66_1)) fun t102_1 =>
      Gd t101_1 true (Pu (aBin Tryz.prog .eql 35 t102_1 (.int .i64 0))) fun t103_1 =>
      Gd t101_1 true (Pu (ldG 7 H_25 t4)) fun t104_1 =>
      Gd t101_1 true (Pu (ldG 7 H_25 t3)) fun t105_1 =>
      Gd t101_1 true (Pu (aBin Tryz.prog .eql 23 t104_1 t105_1)) fun t106_1 =>
      Gd t101_1 true (Pu (aBin Tryz.prog .neq 4 t103_1 t106_1)) fun t107_1 =>
      Gd t98_1 false (Pu (pickA t101_1 t107_1 (.bool false))) fun t108_1 =>
      Pu (pickA t98_1 (.bool true) t108_1) fun t109_1 =>
      Gd t109_1 false (Pu (some x1.1)) fun t111_1 =>
      Gd t109_1 false (Pu (some t111_1)) fun t112_1 =>
      Gd t112_1 true (Pu (ldG 7 H_25 t4)) fun t113_1 =>
      Gd t112_1 true (Pu (ldG 7 H_25 t3)) fun t114_1 =>
      Gd t112_1 true (Pu (aBin Tryz.prog .neq 23 t113_1 t114_1)) fun t115_1 =>
      Gd t109_1 false (Pu (pickA t112_1 t115_1 (.bool false))) fun t116_1 =>
      Gd t109_1 false (Pu (some t116_1)) fun t117_1 =>
      Gd t117_1 true (Pu (some t66_1)) fun t118_1 =>
      Gd t117_1 true (Pu (aBin Tryz.prog .neq 35 t118_1 (.int .i64 23))) fun t119_1 =>
      Gd t109_1 false (Pu (pickA t117_1 t119_1 (.bool false))) fun t120_1 =>
      Pu (pickA t109_1 (.bool true) t120_1) fun t121_1 =>
      Br t121_1 (
        R (.bool false) H_25)
      (
        J_3 H_25)))
def F4.L1 (R : AV → AHeap → Prop) (t3 : AV) (t4 : AV) (t5 : AV) (t52 : AV) (t66_1 : AV) (t73_1 : AV) (t74_1 : AV) (x1 : AV × AV) (H_24 : AHeap) : Prop := loopW (kp 4) (subC [1, 1, 1, 1, 1, 1, 1, 1, 0, 1, 0, 1, 1, 0, 1, 1, 1] (bodyOf Tryz.f4)) (wpE Tryz.prog kp (kp 4) (subC [1, 1, 1, 1, 1, 1, 1, 1, 0, 1, 0, 1, 1, 0, 1, 1, 1] (bodyOf Tryz.f4))) (kBlock 0 (kSeq (wpE Tryz.prog kp (kp 4) (subC [1, 1, 1, 1, 1, 1, 1, 1, 0, 1, 0, 1, 1, 1] (bodyOf Tryz.f4))) (kSeq (wpE Tryz.prog kp (kp 4) (subC [1, 1, 1, 1, 1, 1, 1, 1, 1] (bodyOf Tryz.f4))) (retE Tryz.prog Tryz.f4 R)))) (F4.T1 t3 t4 t5 t52 t66_1 t73_1 t74_1 x1) H_24
theorem F4.B1_eq (R : AV → AHeap → Prop) (t3 : AV) (t4 : AV) (t5 : AV) (t52 : AV) (t66_1 : AV) (t73_1 : AV) (t74_1 : AV) (X1 : Tm → AHeap → Prop) (x1 : AV × AV) (H_24 : AHeap) : F4.B1 R t3 t4 t5 t52 t66_1 t73_1 t74_1 X1 x1 H_24 = wpE Tryz.prog kp (kp 4) (subC [1, 1, 1, 1, 1, 1, 1, 1, 0, 1, 0, 1, 1, 0, 1, 1, 1] (bodyOf Tryz.f4)) (kLoop (keepL (kp 4) (subC [1, 1, 1, 1, 1, 1, 1, 1, 0, 1, 0, 1, 1, 0, 1, 1, 1] (bodyOf Tryz.f4))) (kBlock 0 (kSeq (wpE Tryz.prog kp (kp 4) (subC [1, 1, 1, 1, 1, 1, 1, 1, 0, 1, 0, 1, 1, 1] (bodyOf Tryz.f4))) (kSeq (wpE Tryz.prog kp (kp 4) (subC [1, 1, 1, 1, 1, 1, 1, 1, 1] (bodyOf Tryz.f4))) (retE Tryz.prog Tryz.f4 R)))) X1) (F4.T1 t3 t4 t5 t52 t66_1 t73_1 t74_1 x1) H_24 := by kernel_rfl
theorem F4.L1_of (R : AV → AHeap → Prop) (t3 : AV) (t4 : AV) (t5 : AV) (t52 : AV) (t66_1 : AV) (t73_1 : AV) (t74_1 : AV) (J : Nat → (AV × AV) → AHeap → Prop) (step : ∀ nn xx HH, J nn xx HH → ∀ XX : Tm → AHeap → Prop, (∀ mm yy H', mm < nn → J mm yy H' → XX (F4.T1 t3 t4 t5 t52 t66_1 t73_1 t74_1 yy) H') → F4.B1 R t3 t4 t5 t52 t66_1 t73_1 t74_1 XX xx HH) : ∀ nn xx HH, J nn xx HH → F4.L1 R t3 t4 t5 t52 t66_1 t73_1 t74_1 xx HH :=
  loop_rule (F4.T1 t3 t4 t5 t52 t66_1 t73_1 t74_1) (F4.B1 R t3 t4 t5 t52 t66_1 t73_1 t74_1) (F4.B1_eq R t3 t4 t5 t52 t66_1 t73_1 t74_1) J step
theorem F4.L1_un (R : AV → AHeap → Prop) (t3 : AV) (t4 : AV) (t5 : AV) (t52 : AV) (t66_1 : AV) (t73_1 : AV) (t74_1 : AV) (xx : AV × AV) (HH : AHeap) (hh : ∀ XX : Tm → AHeap → Prop, (∀ yy H', F4.L1 R t3 t4 t5 t52 t66_1 t73_1 t74_1 yy H' → XX (F4.T1 t3 t4 t5 t52 t66_1 t73_1 t74_1 yy) H') → F4.B1 R t3 t4 t5 t52 t66_1 t73_1 t74_1 XX xx HH) : F4.L1 R t3 t4 t5 t52 t66_1 t73_1 t74_1 xx HH :=
  loop_once (F4.T1 t3 t4 t5 t52 t66_1 t73_1 t74_1) (F4.B1 R t3 t4 t5 t52 t66_1 t73_1 t74_1) (F4.B1_eq R t3 t4 t5 t52 t66_1 t73_1 t74_1) xx HH hh
def F4 (a0 a1 a2 : AV) (H : AHeap) (R : AV → AHeap → Prop) : Prop :=
  Nb (bxA 7 a0) H fun t3 H_1 =>
  Nb (bxA 7 a1) H_1 fun t4 H_2 =>
  Nb (bxA 7 a2) H_2 fun t5 H_3 =>
  Ca Tryz.prog kp 39 [] H_3 fun t22 H_4 =>
  Pu (aUn .not t22) fun t23 =>
  Br t23 (
    R (.bool false) H_4)
  (
    Pu (ldG 7 H_4 t3) fun t24 =>
    Ca Tryz.prog kp 40 [t24] H_4 fun t25 H_5 =>
    Pu (aUn .not t25) fun t26 =>
    Gd t26 false (Pu (fdP 0 t5)) fun t28 =>
    Gd t26 false (Pu (ldG 6 H_5 t28)) fun t29 =>
    Gd2 t26 false H_5 (Ca Tryz.prog kp 41 [t29] H_5) fun t30 H_6 =>
    Gd t26 false (Pu (aUn .not t30)) fun t31 =>
    Pu (pickA t26 (.bool true) t31) fun t32 =>
    Gd t32 false (Pu (fdP 6 t5)) fun t34 =>
    Gd t32 false (Pu (ldS H_6 t34)) fun t35 =>
    Gd t32 false (Pu (aBin Tryz.prog .gtr 3 t35 (.int .i64 300))) fun t36 =>
    Pu (pickA t32 (.bool true) t36) fun t37 =>
    Br t37 (
      R (.bool true) H_6)
    (
      Pu (ldG 7 H_6 t3) fun t39 =>
      Pu (fdP 0 t5) fun t40 =>
      Pu (ldG 6 H_6 t40) fun t41 =>
      Ca Tryz.prog kp 42 [t39, t41] H_6 fun t42 H_7 =>
      Pu (exT t42 0) fun t43 =>
      Pu (exT t42 1) fun t44 =>
      Pu (aBin Tryz.prog .neq 35 t44 (.int .i64 0)) fun t46 =>
      Br t46 (
        Pu (aBin Tryz.prog .eql 75 t43 .nilp) fun t48 =>
        R t48 H_7)
      (
        Ca Tryz.prog kp 43 [t43] H_7 fun t51 H_8 =>
        Pu (exT t51 0) fun t52 =>
        Pu (exT t51 1) fun t53 =>
        Pu (fdP 6 t5) fun t55 =>
        Pu (ldS H_8 t55) fun t56 =>
        Ca Tryz.prog kp 44 [t52, t56] H_8 fun t57 H_9 =>
        Pu (aBin Tryz.prog .neq 35 t53 (.int .i64 0)) fun t59 =>
        Br t59 (
          R (.bool false) H_9)
        (
          Pu (aBin Tryz.prog .eql 35 t57 (.int .i64 0)) fun t61 =>
          Br t61 (
            Pu (ldG 7 H_9 t4) fun t63_1 =>
            Pu (fdP 6 t5) fun t64_1 =>
            Pu (ldS H_9 t64_1) fun t65_1 =>
            Ca Tryz.prog kp 45 [t52, t63_1, t65_1] H_9 fun t66_1 H_23 =>
            Pu (fdP 0 t5) fun t67_1 =>
            Pu (fdP 3 t67_1) fun t68_1 =>
            Pu (ldS H_23 t68_1) fun t69_1 =>
            Pu (aBin Tryz.prog .lss 3 t69_1 (.int .i64 0)) fun t70_1 =>
            Pu (fdP 0 t5) fun t71_1 =>
            Pu (fdP 0 t71_1) fun t72_1 =>
            Pu (ldS H_23 t72_1) fun t73_1 =>
            Pu (lnS t73_1) fun t74_1 =>
            F4.L1 R t3 t4 t5 t52 t66_1 t73_1 t74_1 (t70_1, (.int .i64 0)) H_23)
          (
            Cq (hUp H_9 9) fun H_36 =>
            Pu (ldG 7 H_36 t3) fun t167_2 =>
            Ca Tryz.prog kp 20 [t52] H_36 fun t169_2 H_37 =>
            Ca Tryz.prog kp 49 [t167_2, t169_2] H_37 fun t170_2 H_38 =>
            Pu (exT t170_2 0) fun t171_2 =>
            Pu (exT t170_2 1) fun t172_2 =>
            ((StG 7 t3 t167_2 H_36 ∧ StG 7 t3 t167_2 H_37 ∧ True) ∧ True) ∧
            R t172_2 H_38)))))
theorem F4.eq (a0 a1 a2 : AV) (H : AHeap) (R : AV → AHeap → Prop) : F4 a0 a1 a2 H R = wpE Tryz.prog kp (kp 4) (bodyOf Tryz.f4) (retE Tryz.prog Tryz.f4 R) (argsT [a0, a1, a2] 0 .nil) H := by kernel_rfl
theorem F4.ca {a0 a1 a2 : AV} {H : AHeap} {R : AV → AHeap → Prop} (h : F4 a0 a1 a2 H R) : Ca Tryz.prog kp 4 [a0, a1, a2] H R :=
  Ca.intro (P := Tryz.prog) (kp := kp) (f := 4) (fn := Tryz.f4) (args := [a0, a1, a2]) Tryz.func4 (by kernel_rfl) (Eq.mp (F4.eq a0 a1 a2 H R) h)

-- (*incunable/wire.Wire).Trace
def F20 (a0 : AV) (H : AHeap) (R : AV → AHeap → Prop) : Prop :=
  Ca Tryz.prog kp 109 [a0] H fun t4 H_1 =>
  Pu (aUn .not t4) fun t5 =>
  Br t5 (
    R .nils H_1)
  (
    Pu (nilC a0) fun t7 =>
    Pu (fdP 0 t7) fun t8 =>
    Pu (fdP 0 t8) fun t9 =>
    Pu (ldS H_1 t9) fun t10 =>
    Ca Tryz.prog kp 110 [t10] H_1 fun t11 H_2 =>
    R t11 H_2)
theorem F20.eq (a0 : AV) (H : AHeap) (R : AV → AHeap → Prop) : F20 a0 H R = wpE Tryz.prog kp (kp 20) (bodyOf Tryz.f20) (retE Tryz.prog Tryz.f20 R) (argsT [a0] 0 .nil) H := by kernel_rfl
theorem F20.ca {a0 : AV} {H : AHeap} {R : AV → AHeap → Prop} (h : F20 a0 H R) : Ca Tryz.prog kp 20 [a0] H R :=
  Ca.intro (P := Tryz.prog) (kp := kp) (f := 20) (fn := Tryz.f20) (args := [a0]) Tryz.func20 (by kernel_rfl) (Eq.mp (F20.eq a0 H R) h)

-- (*incunable/chip.Chip).Array
def F38 (a0 : AV) (H : AHeap) (R : AV → AHeap → Prop) : Prop :=
  Ca Tryz.prog kp 148 [a0] H fun t4 H_1 =>
  Pu (aUn .not t4) fun t5 =>
  Br t5 (
    R .nilp H_1)
  (
    Pu (nilC a0) fun t7 =>
    Pu (fdP 7 t7) fun t8 =>
    Pu (ldS H_1 t8) fun t9 =>
    R t9 H_1)
theorem F38.eq (a0 : AV) (H : AHeap) (R : AV → AHeap → Prop) : F38 a0 H R = wpE Tryz.prog kp (kp 38) (bodyOf Tryz.f38) (retE Tryz.prog Tryz.f38 R) (argsT [a0] 0 .nil) H := by kernel_rfl
theorem F38.ca {a0 : AV} {H : AHeap} {R : AV → AHeap → Prop} (h : F38 a0 H R) : Ca Tryz.prog kp 38 [a0] H R :=
  Ca.intro (P := Tryz.prog) (kp := kp) (f := 38) (fn := Tryz.f38) (args := [a0]) Tryz.func38 (by kernel_rfl) (Eq.mp (F38.eq a0 H R) h)

-- incunable/incunablelaw18.awake
def F39 (H : AHeap) (R : AV → AHeap → Prop) : Prop :=
  Ca Tryz.prog kp 150 [] H fun t4 H_1 =>
  Ca Tryz.prog kp 149 [t4] H_1 fun t5 H_2 =>
  Pu (exT t5 0) fun t6 =>
  Pu (exT t5 1) fun t7 =>
  Pu (aBin Tryz.prog .eql 35 t7 (.int .i64 0)) fun t9 =>
  Gd t9 true (Pu (some t6)) fun t11 =>
  Gd t9 true (Pu (lnS t11)) fun t12 =>
  Gd t9 true (Pu (aBin Tryz.prog .eql 3 t12 (.int .i64 14))) fun t13 =>
  Pu (pickA t9 t13 (.bool false)) fun t14 =>
  Gd t14 true (Pu (some t6)) fun t16 =>
  Gd t14 true (Pu (ixS 1 t16 (.int .i64 8))) fun t17 =>
  Gd t14 true (Pu (ldS H_2 t17)) fun t18 =>
  Gd t14 true (Pu (aBin Tryz.prog .eql 5 t18 (.int .u8 44))) fun t19 =>
  Pu (pickA t14 t19 (.bool false)) fun t20 =>
  Gd t20 true (Pu (some t6)) fun t22 =>
  Gd t20 true (Pu (ixS 1 t22 (.int .i64 9))) fun t23 =>
  Gd t20 true (Pu (ldS H_2 t23)) fun t24 =>
  Gd t20 true (Pu (aBin Tryz.prog .eql 5 t24 (.int .u8 1))) fun t25 =>
  Pu (pickA t20 t25 (.bool false)) fun t26 =>
  R t26 H_2
theorem F39.eq (H : AHeap) (R : AV → AHeap → Prop) : F39 H R = wpE Tryz.prog kp (kp 39) (bodyOf Tryz.f39) (retE Tryz.prog Tryz.f39 R) (argsT [] 0 .nil) H := by kernel_rfl
theorem F39.ca {H : AHeap} {R : AV → AHeap → Prop} (h : F39 H R) : Ca Tryz.prog kp 39 [] H R :=
  Ca.intro (P := Tryz.prog) (kp := kp) (f := 39) (fn := Tryz.f39) (args := []) Tryz.func39 (by kernel_rfl) (Eq.mp (F39.eq H R) h)

-- incunable/incunablelaw13.Small
def F40 (a0 : AV) (H : AHeap) (R : AV → AHeap → Prop) : Prop :=
  Nb (bxA 7 a0) H fun t1 H_1 =>
  Pu (ldG 7 H_1 t1) fun t3 =>
  Ca Tryz.prog kp 151 [t3] H_1 fun t4 H_2 =>
  Gd t4 true (Pu (fdP 1 t1)) fun t6 =>
  Gd t4 true (Pu (ldS H_2 t6)) fun t7 =>
  Gd t4 true (Pu (aBin Tryz.prog .leq 3 t7 (.int .i64 16))) fun t8 =>
  Pu (pickA t4 t8 (.bool false)) fun t9 =>
  Gd t9 true (Pu (fdP 2 t1)) fun t11 =>
  Gd t9 true (Pu (ldS H_2 t11)) fun t12 =>
  Gd t9 true (Pu (aBin Tryz.prog .leq 3 t12 (.int .i64 12))) fun t13 =>
  Pu (pickA t9 t13 (.bool false)) fun t14 =>
  R t14 H_2
theorem F40.eq (a0 : AV) (H : AHeap) (R : AV → AHeap → Prop) : F40 a0 H R = wpE Tryz.prog kp (kp 40) (bodyOf Tryz.f40) (retE Tryz.prog Tryz.f40 R) (argsT [a0] 0 .nil) H := by kernel_rfl
theorem F40.ca {a0 : AV} {H : AHeap} {R : AV → AHeap → Prop} (h : F40 a0 H R) : Ca Tryz.prog kp 40 [a0] H R :=
  Ca.intro (P := Tryz.prog) (kp := kp) (f := 40) (fn := Tryz.f40) (args := [a0]) Tryz.func40 (by kernel_rfl) (Eq.mp (F40.eq a0 H R) h)

-- incunable/incunablelaw12.Few
def F41 (a0 : AV) (H : AHeap) (R : AV → AHeap → Prop) : Prop :=
  Nb (bxA 6 a0) H fun t1 H_1 =>
  Pu (fdP 0 t1) fun t3 =>
  Pu (ldS H_1 t3) fun t4 =>
  Pu (lnS t4) fun t5 =>
  Pu (aBin Tryz.prog .leq 3 t5 (.int .i64 200)) fun t6 =>
  Gd t6 true (Pu (fdP 1 t1)) fun t8 =>
  Gd t6 true (Pu (ldS H_1 t8)) fun t9 =>
  Gd t6 true (Pu (lnS t9)) fun t10 =>
  Gd t6 true (Pu (aBin Tryz.prog .leq 3 t10 (.int .i64 50))) fun t11 =>
  Pu (pickA t6 t11 (.bool false)) fun t12 =>
  Gd t12 true (Pu (fdP 2 t1)) fun t14 =>
  Gd t12 true (Pu (ldS H_1 t14)) fun t15 =>
  Gd t12 true (Pu (lnS t15)) fun t16 =>
  Gd t12 true (Pu (aBin Tryz.prog .leq 3 t16 (.int .i64 100))) fun t17 =>
  Pu (pickA t12 t17 (.bool false)) fun t18 =>
  Gd t18 true (Pu (fdP 4 t1)) fun t20 =>
  Gd t18 true (Pu (ldS H_1 t20)) fun t21 =>
  Gd t18 true (Pu (lnS t21)) fun t22 =>
  Gd t18 true (Pu (aBin Tryz.prog .leq 3 t22 (.int .i64 200))) fun t23 =>
  Pu (pickA t18 t23 (.bool false)) fun t24 =>
  Gd t24 true (Pu (fdP 5 t1)) fun t26 =>
  Gd t24 true (Pu (ldS H_1 t26)) fun t27 =>
  Gd t24 true (Pu (lnS t27)) fun t28 =>
  Gd t24 true (Pu (aBin Tryz.prog .leq 3 t28 (.int .i64 50))) fun t29 =>
  Pu (pickA t24 t29 (.bool false)) fun t30 =>
  R t30 H_1
theorem F41.eq (a0 : AV) (H : AHeap) (R : AV → AHeap → Prop) : F41 a0 H R = wpE Tryz.prog kp (kp 41) (bodyOf Tryz.f41) (retE Tryz.prog Tryz.f41 R) (argsT [a0] 0 .nil) H := by kernel_rfl
theorem F41.ca {a0 : AV} {H : AHeap} {R : AV → AHeap → Prop} (h : F41 a0 H R) : Ca Tryz.prog kp 41 [a0] H R :=
  Ca.intro (P := Tryz.prog) (kp := kp) (f := 41) (fn := Tryz.f41) (args := [a0]) Tryz.func41 (by kernel_rfl) (Eq.mp (F41.eq a0 H R) h)

-- incunable/chip.New
def F42 (a0 a1 : AV) (H : AHeap) (R : AV → AHeap → Prop) : Prop :=
  Nb (bxA 7 a0) H fun t2 H_1 =>
  Nb (bxA 6 a1) H_1 fun t3 H_2 =>
  Pu (ldG 7 H_2 t2) fun t10 =>
  Pu (ldG 6 H_2 t3) fun t11 =>
  Ca Tryz.prog kp 152 [t10, t11] H_2 fun t12 H_3 =>
  Pu (exT t12 0) fun t13 =>
  Pu (exT t12 1) fun t14 =>
  Pu (aBin Tryz.prog .neq 35 t14 (.int .i64 0)) fun t16 =>
  Br t16 (
    R (.tup [.nilp, t14]) H_3)
  (
    Pu (ldG 7 H_3 t2) fun t19 =>
    Pu (fdP 5 t3) fun t20 =>
    Pu (ldS H_3 t20) fun t21 =>
    Ca Tryz.prog kp 153 [t19, t21] H_3 fun t22 H_4 =>
    Pu (exT t22 0) fun t23 =>
    Pu (exT t22 1) fun t24 =>
    Pu (aBin Tryz.prog .neq 35 t24 (.int .i64 0)) fun t26 =>
    Br t26 (
      R (.tup [.nilp, t24]) H_4)
    (
      Cq (hUp H_4 11) fun H_5 =>
      Pu (ldG 7 H_5 t2) fun t28 =>
      Pu (fdP 3 t3) fun t31 =>
      Pu (ldS H_5 t31) fun t32 =>
      Pu (ldG 7 H_5 t2) fun t33 =>
      Ca Tryz.prog kp 102 [t33] H_5 fun t34 H_6 =>
      Pu (aBuild Tryz.prog 227 [(0, t28), (1, t23), (2, t13), (4, t32), (8, t34)]) fun t35 =>
      Pu (bxA 27 t35) fun b =>
      ((StG 7 t2 t33 H_5 ∧ True) ∧ (StS t31 t32 H_5 ∧ StS t31 t32 H_6 ∧ True) ∧ (StG 7 t2 t28 H_5 ∧ StG 7 t2 t28 H_6 ∧ True) ∧ True) ∧
      Cq (H_6.set (H_4.n + 8) (b.1)) fun H_7 =>
      R (.tup [(b.2 (H_4.n + 8)), (.int .i64 0)]) H_7))
theorem F42.eq (a0 a1 : AV) (H : AHeap) (R : AV → AHeap → Prop) : F42 a0 a1 H R = wpE Tryz.prog kp (kp 42) (bodyOf Tryz.f42) (retE Tryz.prog Tryz.f42 R) (argsT [a0, a1] 0 .nil) H := by kernel_rfl
theorem F42.ca {a0 a1 : AV} {H : AHeap} {R : AV → AHeap → Prop} (h : F42 a0 a1 H R) : Ca Tryz.prog kp 42 [a0, a1] H R :=
  Ca.intro (P := Tryz.prog) (kp := kp) (f := 42) (fn := Tryz.f42) (args := [a0, a1]) Tryz.func42 (by kernel_rfl) (Eq.mp (F42.eq a0 a1 H R) h)

-- incunable/wire.New
def F43 (a0 : AV) (H : AHeap) (R : AV → AHeap → Prop) : Prop :=
  Ca Tryz.prog kp 38 [a0] H fun t5 H_1 =>
  Pu (aBin Tryz.prog .eql 74 t5 .nilp) fun t6 =>
  Br t6 (
    R (.tup [.nilp, (.int .i64 1)]) H_1)
  (
    Ca Tryz.prog kp 154 [] H_1 fun t7 H_2 =>
    Pu (bdS [.nilp] [(0, 1, t7)]) fun t8 =>
    Pu (bdS [.nilp, .nilp] [(0, 1, t8), (1, 1, a0)]) fun t10 =>
    Nb (bxA 2 t10) H_2 fun t11 H_3 =>
    R (.tup [t11, (.int .i64 0)]) H_3)
theorem F43.eq (a0 : AV) (H : AHeap) (R : AV → AHeap → Prop) : F43 a0 H R = wpE Tryz.prog kp (kp 43) (bodyOf Tryz.f43) (retE Tryz.prog Tryz.f43 R) (argsT [a0] 0 .nil) H := by kernel_rfl
theorem F43.ca {a0 : AV} {H : AHeap} {R : AV → AHeap → Prop} (h : F43 a0 H R) : Ca Tryz.prog kp 43 [a0] H R :=
  Ca.intro (P := Tryz.prog) (kp := kp) (f := 43) (fn := Tryz.f43) (args := [a0]) Tryz.func43 (by kernel_rfl) (Eq.mp (F43.eq a0 H R) h)

-- incunable/poll.Reset
def F44 (a0 a1 : AV) (H : AHeap) (R : AV → AHeap → Prop) : Prop :=
  Ca Tryz.prog kp 155 [a1] H fun t9 H_1 =>
  Pu (aUn .not t9) fun t10 =>
  Br t10 (
    R (.int .i64 2) H_1)
  (
    Pu (bdL 1 [.int .u8 0] [(0, 1, (.int .u8 255))]) fun t12 =>
    Ca Tryz.prog kp 141 [a0, t12] H_1 fun t13 H_2 =>
    Pu (aBin Tryz.prog .neq 35 t13 (.int .i64 0)) fun t15 =>
    Br t15 (
      R t13 H_2)
    (
      Ca Tryz.prog kp 156 [a0, a1] H_2 fun t20 H_3 =>
      Pu (exT t20 0) fun t21 =>
      Pu (exT t20 1) fun t22 =>
      R t22 H_3))
theorem F44.eq (a0 a1 : AV) (H : AHeap) (R : AV → AHeap → Prop) : F44 a0 a1 H R = wpE Tryz.prog kp (kp 44) (bodyOf Tryz.f44) (retE Tryz.prog Tryz.f44 R) (argsT [a0, a1] 0 .nil) H := by kernel_rfl
theorem F44.ca {a0 a1 : AV} {H : AHeap} {R : AV → AHeap → Prop} (h : F44 a0 a1 H R) : Ca Tryz.prog kp 44 [a0, a1] H R :=
  Ca.intro (P := Tryz.prog) (kp := kp) (f := 44) (fn := Tryz.f44) (args := [a0, a1]) Tryz.func44 (by kernel_rfl) (Eq.mp (F44.eq a0 a1 H R) h)

-- incunable/ident.Check
def F45 (a0 a1 a2 : AV) (H : AHeap) (R : AV → AHeap → Prop) : Prop :=
  Nb (bxA 7 a1) H fun t4 H_1 =>
  Pu (ldG 7 H_1 t4) fun t10 =>
  Ca Tryz.prog kp 144 [t10] H_1 fun t11 H_2 =>
  Pu (aBin Tryz.prog .neq 35 t11 (.int .i64 0)) fun t12 =>
  Br t12 (
    R (.int .i64 2) H_2)
  (
    Ca Tryz.prog kp 47 [a0] H_2 fun t15 H_3 =>
    Pu (exT t15 0) fun t16 =>
    Pu (exT t15 1) fun t17 =>
    Pu (aBin Tryz.prog .neq 35 t17 (.int .i64 0)) fun t19 =>
    Br t19 (
      R t17 H_3)
    (
      Pu (fdP 0 t4) fun t22 =>
      Pu (ldS H_3 t22) fun t23 =>
      Pu (cvI .u8 t23) fun t24 =>
      Pu (fdP 5 t4) fun t25 =>
      Pu (ldS H_3 t25) fun t26 =>
      Pu (cvI .u8 t26) fun t27 =>
      Pu (fdP 6 t4) fun t28 =>
      Pu (ldS H_3 t28) fun t29 =>
      Pu (cvI .u8 t29) fun t30 =>
      Pu (aBuildSlice Tryz.prog 26 5 [(0, (.int .u8 73)), (1, (.int .u8 78)), (2, t24), (3, t27), (4, t30)]) fun t31 =>
      Ca Tryz.prog kp 157 [t16, t31] H_3 fun t32 H_4 =>
      Pu (aUn .not t32) fun t33 =>
      Br t33 (
        R (.int .i64 23) H_4)
      (
        Ca Tryz.prog kp 48 [a0, a2] H_4 fun t37 H_5 =>
        Pu (exT t37 0) fun t38 =>
        Pu (exT t37 1) fun t39 =>
        Nw (.cells 7 [.int .i64 0, .int .i64 0, .int .i64 0, .int .i64 0, .int .i64 0, .int .i64 0, .int .i64 0]) (fun h => (.ptr h 0)) H_5 fun t9 H_6 =>
        Pu (stA 7 H_6 t9 t38) fun H_7 =>
        Pu (aBin Tryz.prog .neq 35 t39 (.int .i64 0)) fun t42 =>
        Br t42 (
          R t39 H_7)
        (
          Pu (ldG 7 H_7 t9) fun t45 =>
          Pu (ldG 7 H_7 t4) fun t46 =>
          Pu (aBin Tryz.prog .neq 23 t45 t46) fun t47 =>
          Br t47 (
            R (.int .i64 23) H_7)
          (
            R (.int .i64 0) H_7)))))
theorem F45.eq (a0 a1 a2 : AV) (H : AHeap) (R : AV → AHeap → Prop) : F45 a0 a1 a2 H R = wpE Tryz.prog kp (kp 45) (bodyOf Tryz.f45) (retE Tryz.prog Tryz.f45 R) (argsT [a0, a1, a2] 0 .nil) H := by kernel_rfl
theorem F45.ca {a0 a1 a2 : AV} {H : AHeap} {R : AV → AHeap → Prop} (h : F45 a0 a1 a2 H R) : Ca Tryz.prog kp 45 [a0, a1, a2] H R :=
  Ca.intro (P := Tryz.prog) (kp := kp) (f := 45) (fn := Tryz.f45) (args := [a0, a1, a2]) Tryz.func45 (by kernel_rfl) (Eq.mp (F45.eq a0 a1 a2 H R) h)

-- incunable/incunableref04.Right
def F46 (a0 : AV) (H : AHeap) (R : AV → AHeap → Prop) : Prop :=
  Nb (bxA 7 a0) H fun t1 H_1 =>
  Pu (fdP 0 t1) fun t3 =>
  Pu (ldS H_1 t3) fun t4 =>
  Ca Tryz.prog kp 158 [t4, (.int .i64 1), (.int .i64 4)] H_1 fun t5 H_2 =>
  Pu (aUn .not t5) fun t6 =>
  Gd t6 false (Pu (fdP 1 t1)) fun t8 =>
  Gd t6 false (Pu (ldS H_2 t8)) fun t9 =>
  Gd2 t6 false H_2 (Ca Tryz.prog kp 158 [t9, (.int .i64 2), (.int .i64 256)] H_2) fun t10 H_3 =>
  Gd t6 false (Pu (aUn .not t10)) fun t11 =>
  Pu (pickA t6 (.bool true) t11) fun t12 =>
  Gd t12 false (Pu (fdP 2 t1)) fun t14 =>
  Gd t12 false (Pu (ldS H_3 t14)) fun t15 =>
  Gd2 t12 false H_3 (Ca Tryz.prog kp 158 [t15, (.int .i64 4), (.int .i64 64)] H_3) fun t16 H_4 =>
  Gd t12 false (Pu (aUn .not t16)) fun t17 =>
  Pu (pickA t12 (.bool true) t17) fun t18 =>
  Gd t18 false (Pu (fdP 3 t1)) fun t20 =>
  Gd t18 false (Pu (ldS H_4 t20)) fun t21 =>
  Gd2 t18 false H_4 (Ca Tryz.prog kp 158 [t21, (.int .i64 1), (.int .i64 16)] H_4) fun t22 H_5 =>
  Gd t18 false (Pu (aUn .not t22)) fun t23 =>
  Pu (pickA t18 (.bool true) t23) fun t24 =>
  Gd t24 false (Pu (fdP 4 t1)) fun t26 =>
  Gd t24 false (Pu (ldS H_5 t26)) fun t27 =>
  Gd2 t24 false H_5 (Ca Tryz.prog kp 158 [t27, (.int .i64 4), (.int .i64 512)] H_5) fun t28 H_6 =>
  Gd t24 false (Pu (aUn .not t28)) fun t29 =>
  Pu (pickA t24 (.bool true) t29) fun t30 =>
  Gd t30 false (Pu (fdP 5 t1)) fun t32 =>
  Gd t30 false (Pu (ldS H_6 t32)) fun t33 =>
  Gd2 t30 false H_6 (Ca Tryz.prog kp 158 [t33, (.int .i64 1), (.int .i64 8)] H_6) fun t34 H_7 =>
  Gd t30 false (Pu (aUn .not t34)) fun t35 =>
  Pu (pickA t30 (.bool true) t35) fun t36 =>
  Gd t36 false (Pu (fdP 6 t1)) fun t38 =>
  Gd t36 false (Pu (ldS H_7 t38)) fun t39 =>
  Gd2 t36 false H_7 (Ca Tryz.prog kp 158 [t39, (.int .i64 1), (.int .i64 8)] H_7) fun t40 H_8 =>
  Gd t36 false (Pu (aUn .not t40)) fun t41 =>
  Pu (pickA t36 (.bool true) t41) fun t42 =>
  Br t42 (
    R (.bool false) H_8)
  (
    Cq (hUp H_8 21) fun H_9 =>
    Pu (fdP 1 t1) fun t43 =>
    Pu (ldS H_9 t43) fun t44 =>
    Pu (fdP 0 t1) fun t45 =>
    Pu (ldS H_9 t45) fun t46 =>
    Pu (aBin Tryz.prog .quo 3 t44 t46) fun t47 =>
    Pu (fdP 0 t1) fun t48 =>
    Pu (ldS H_9 t48) fun t49 =>
    Pu (aBin Tryz.prog .mul 3 t47 t49) fun t50 =>
    Pu (fdP 1 t1) fun t51 =>
    Pu (ldS H_9 t51) fun t52 =>
    Pu (aBin Tryz.prog .eql 3 t50 t52) fun t53 =>
    Gd t53 true (Pu (fdP 2 t1)) fun t55 =>
    GdR t53 true (fun C => Pu (ldS H_9 t55) fun v => C v (some (.load 3 t55))) fun t56 r13 =>
    Gd t53 true (Pu (aBin Tryz.prog .quo 3 t56 (.int .i64 2))) fun t57 =>
    Gd t53 true (Pu (aBin Tryz.prog .mul 3 t57 (.int .i64 2))) fun t58 =>
    Gd t53 true (Pu (fdP 2 t1)) fun t59 =>
    GdR t53 true (fun C => Pu (ldS H_9 t59) fun v => C v (some (.load 3 t59))) fun t60 r17 =>
    Gd t53 true (Pu (aBin Tryz.prog .eql 3 t58 t60)) fun t61 =>
    Pu (pickA t53 t61 (.bool false)) fun t62 =>
    ((Still Tryz.prog r17 t60 H_9 ∧ True) ∧ (Still Tryz.prog r13 t56 H_9 ∧ True) ∧ (StS t51 t52 H_9 ∧ True) ∧ (StS t48 t49 H_9 ∧ True) ∧ (StS t45 t46 H_9 ∧ True) ∧ (StS t43 t44 H_9 ∧ True) ∧ True) ∧
    R t62 H_9)
theorem F46.eq (a0 : AV) (H : AHeap) (R : AV → AHeap → Prop) : F46 a0 H R = wpE Tryz.prog kp (kp 46) (bodyOf Tryz.f46) (retE Tryz.prog Tryz.f46 R) (argsT [a0] 0 .nil) H := by kernel_rfl
theorem F46.ca {a0 : AV} {H : AHeap} {R : AV → AHeap → Prop} (h : F46 a0 H R) : Ca Tryz.prog kp 46 [a0] H R :=
  Ca.intro (P := Tryz.prog) (kp := kp) (f := 46) (fn := Tryz.f46) (args := [a0]) Tryz.func46 (by kernel_rfl) (Eq.mp (F46.eq a0 H R) h)

-- incunable/ident.ID
def F47 (a0 : AV) (H : AHeap) (R : AV → AHeap → Prop) : Prop :=
  Ca Tryz.prog kp 159 [a0, (.int .u8 144)] H fun t6 H_1 =>
  Pu (aBin Tryz.prog .neq 35 t6 (.int .i64 0)) fun t8 =>
  Br t8 (
    R (.tup [.nils, t6]) H_1)
  (
    Ca Tryz.prog kp 142 [a0, (.int .i64 5)] H_1 fun t11 H_2 =>
    Pu (exT t11 0) fun t12 =>
    Pu (exT t11 1) fun t13 =>
    R (.tup [t12, t13]) H_2)
theorem F47.eq (a0 : AV) (H : AHeap) (R : AV → AHeap → Prop) : F47 a0 H R = wpE Tryz.prog kp (kp 47) (bodyOf Tryz.f47) (retE Tryz.prog Tryz.f47 R) (argsT [a0] 0 .nil) H := by kernel_rfl
theorem F47.ca {a0 : AV} {H : AHeap} {R : AV → AHeap → Prop} (h : F47 a0 H R) : Ca Tryz.prog kp 47 [a0] H R :=
  Ca.intro (P := Tryz.prog) (kp := kp) (f := 47) (fn := Tryz.f47) (args := [a0]) Tryz.func47 (by kernel_rfl) (Eq.mp (F47.eq a0 H R) h)

-- incunable/ident.Parameters
def F48 (a0 a1 : AV) (H : AHeap) (R : AV → AHeap → Prop) : Prop :=
  Nw (.cells 7 [.int .i64 0, .int .i64 0, .int .i64 0, .int .i64 0, .int .i64 0, .int .i64 0, .int .i64 0]) (fun h => (.ptr h 0)) H fun t4 H_1 =>
  Ca Tryz.prog kp 159 [a0, (.int .u8 236)] H_1 fun t13 H_2 =>
  Pu (aBin Tryz.prog .neq 35 t13 (.int .i64 0)) fun t15 =>
  Br t15 (
    Pu (bdS [.int .i64 0, .int .i64 0, .int .i64 0, .int .i64 0, .int .i64 0, .int .i64 0, .int .i64 0] []) fun t16 =>
    Pu (stA 7 H_2 t4 t16) fun H_3 =>
    Pu (resC [ldG 7 H_3 t4, some t13]) fun v =>
    R v H_3)
  (
    Ca Tryz.prog kp 156 [a0, a1] H_2 fun t21 H_4 =>
    Pu (exT t21 0) fun t22 =>
    Pu (exT t21 1) fun t23 =>
    Pu (aBin Tryz.prog .neq 35 t23 (.int .i64 0)) fun t25 =>
    Br t25 (
      Pu (bdS [.int .i64 0, .int .i64 0, .int .i64 0, .int .i64 0, .int .i64 0, .int .i64 0, .int .i64 0] []) fun t26 =>
      Pu (stA 7 H_4 t4 t26) fun H_5 =>
      Pu (resC [ldG 7 H_5 t4, some t23]) fun v_1 =>
      R v_1 H_5)
    (
      Pu (bdL 1 [.int .u8 0] [(0, 1, (.int .u8 0))]) fun t29 =>
      Ca Tryz.prog kp 141 [a0, t29] H_4 fun t30 H_6 =>
      Pu (aBin Tryz.prog .neq 35 t30 (.int .i64 0)) fun t32 =>
      Br t32 (
        Pu (bdS [.int .i64 0, .int .i64 0, .int .i64 0, .int .i64 0, .int .i64 0, .int .i64 0, .int .i64 0] []) fun t33 =>
        Pu (stA 7 H_6 t4 t33) fun H_7 =>
        Pu (resC [ldG 7 H_7 t4, some t30]) fun v_2 =>
        R v_2 H_7)
      (
        Ca Tryz.prog kp 142 [a0, (.int .i64 14)] H_6 fun t37 H_8 =>
        Pu (exT t37 0) fun t38 =>
        Pu (exT t37 1) fun t39 =>
        Pu (aBin Tryz.prog .neq 35 t39 (.int .i64 0)) fun t41 =>
        Br t41 (
          Pu (bdS [.int .i64 0, .int .i64 0, .int .i64 0, .int .i64 0, .int .i64 0, .int .i64 0, .int .i64 0] []) fun t42 =>
          Pu (stA 7 H_8 t4 t42) fun H_9 =>
          Pu (resC [ldG 7 H_9 t4, some t39]) fun v_3 =>
          R v_3 H_9)
        (
          Ca Tryz.prog kp 160 [t38] H_8 fun t45 H_10 =>
          Pu (exT t45 0) fun t46 =>
          Pu (exT t45 1) fun t47 =>
          Pu (stA 7 H_10 t4 t46) fun H_11 =>
          Pu (resC [ldG 7 H_11 t4, some t47]) fun v_4 =>
          R v_4 H_11))))
theorem F48.eq (a0 a1 : AV) (H : AHeap) (R : AV → AHeap → Prop) : F48 a0 a1 H R = wpE Tryz.prog kp (kp 48) (bodyOf Tryz.f48) (retE Tryz.prog Tryz.f48 R) (argsT [a0, a1] 0 .nil) H := by kernel_rfl
theorem F48.ca {a0 a1 : AV} {H : AHeap} {R : AV → AHeap → Prop} (h : F48 a0 a1 H R) : Ca Tryz.prog kp 48 [a0, a1] H R :=
  Ca.intro (P := Tryz.prog) (kp := kp) (f := 48) (fn := Tryz.f48) (args := [a0, a1]) Tryz.func48 (by kernel_rfl) (Eq.mp (F48.eq a0 a1 H R) h)

-- incunable/judge.Run
def F49 (a0 a1 : AV) (H : AHeap) (R : AV → AHeap → Prop) : Prop :=
  Nb (bxA 7 a0) H fun t2 H_1 =>
  Pu (ldG 7 H_1 t2) fun t10 =>
  Ca Tryz.prog kp 51 [t10] H_1 fun t11 H_2 =>
  Pu (exT t11 0) fun t12 =>
  Pu (exT t11 1) fun t13 =>
  Nw (.cells 1 [.nilp]) (fun h => (.ptr h 0)) H_2 fun t6 H_3 =>
  Pu (stA 1 H_3 t6 t12) fun H_4 =>
  Pu (aBin Tryz.prog .neq 35 t13 (.int .i64 0)) fun t15 =>
  Br t15 (
    R (.tup [(.int .i64 0), (.bool false)]) H_4)
  (
    Pu (some (.fn (.func 162) [] [t6])) fun t17 =>
    Ca Tryz.prog kp 161 [a1, t17] H_4 fun t18 H_5 =>
    Pu (aBin Tryz.prog .lss 3 t18 (.int .i64 0)) fun t20 =>
    Br t20 (
      Pu (lnS a1) fun t22 =>
      R (.tup [t22, (.bool true)]) H_5)
    (
      R (.tup [t18, (.bool false)]) H_5))
theorem F49.eq (a0 a1 : AV) (H : AHeap) (R : AV → AHeap → Prop) : F49 a0 a1 H R = wpE Tryz.prog kp (kp 49) (bodyOf Tryz.f49) (retE Tryz.prog Tryz.f49 R) (argsT [a0, a1] 0 .nil) H := by kernel_rfl
theorem F49.ca {a0 a1 : AV} {H : AHeap} {R : AV → AHeap → Prop} (h : F49 a0 a1 H R) : Ca Tryz.prog kp 49 [a0, a1] H R :=
  Ca.intro (P := Tryz.prog) (kp := kp) (f := 49) (fn := Tryz.f49) (args := [a0, a1]) Tryz.func49 (by kernel_rfl) (Eq.mp (F49.eq a0 a1 H R) h)

-- incunable/judge.New
def F51.T0 (t1 : AV) (H_2 : AHeap) (b_1 : ABlk × (Nat → AV)) (t19 : AV) (x : AV) : Tm := tmL [(1, t1), (4, (b_1.2 (H_2.n + 5))), (19, t19), (20, x)]
def F51.B0 (R : AV → AHeap → Prop) (t1 : AV) (H_2 : AHeap) (b_1 : ABlk × (Nat → AV)) (t19 : AV) (X0 : Tm → AHeap → Prop) (x : AV) (H_5 : AHeap) : Prop :=
  Pu (aBin Tryz.prog .lss 3 x t19) fun t21 =>
  Br t21 (
    Cq (hUp H_5 11) fun H_6 =>
    Pu (nilC (b_1.2 (H_2.n + 5))) fun t24 =>
    Pu (fdP 7 t24) fun t25 =>
    Pu (ldS H_6 t25) fun t26 =>
    Pu (fdP 2 t1) fun t28 =>
    Pu (ldS H_6 t28) fun t29 =>
    Pu (mkS 1 8 [.int .i64 0] t29 t29) fun b_2 =>
    Pu (bdS [.bool false, .int .i64 0, .nils] [(1, 1, (.int .i64 (-1))), (2, 1, (b_2.2 (H_5.n + 7)))]) fun t31 =>
    Pu (ixS 3 t26 x) fun t32 =>
    Cq (H_6.set (H_5.n + 7) (b_2.1)) fun H_7 =>
    Pu (stA 3 H_7 t32 t31) fun H_8 =>
    ((StS t28 t29 H_6 ∧ True) ∧ (StS t25 t26 H_6 ∧ True) ∧ True) ∧
    Cq H_8 fun H_9 =>
    Pu (aBin Tryz.prog .add 3 x (.int .i64 1)) fun t33 =>
    X0 (F51.T0 t1 H_2 b_1 t19 (t33)) H_9)
  (
    R (.tup [(b_1.2 (H_2.n + 5)), (.int .i64 0)]) H_5)
def F51.L0 (R : AV → AHeap → Prop) (t1 : AV) (H_2 : AHeap) (b_1 : ABlk × (Nat → AV)) (t19 : AV) (x : AV) (H_5 : AHeap) : Prop := loopW (kp 51) (subC [1, 1, 1, 0, 1, 1, 1] (bodyOf Tryz.f51)) (wpE Tryz.prog kp (kp 51) (subC [1, 1, 1, 0, 1, 1, 1] (bodyOf Tryz.f51))) (kBlock 0 (kSeq (wpE Tryz.prog kp (kp 51) (subC [1, 1, 1, 1] (bodyOf Tryz.f51))) (retE Tryz.prog Tryz.f51 R))) (F51.T0 t1 H_2 b_1 t19 x) H_5
theorem F51.B0_eq (R : AV → AHeap → Prop) (t1 : AV) (H_2 : AHeap) (b_1 : ABlk × (Nat → AV)) (t19 : AV) (X0 : Tm → AHeap → Prop) (x : AV) (H_5 : AHeap) : F51.B0 R t1 H_2 b_1 t19 X0 x H_5 = wpE Tryz.prog kp (kp 51) (subC [1, 1, 1, 0, 1, 1, 1] (bodyOf Tryz.f51)) (kLoop (keepL (kp 51) (subC [1, 1, 1, 0, 1, 1, 1] (bodyOf Tryz.f51))) (kBlock 0 (kSeq (wpE Tryz.prog kp (kp 51) (subC [1, 1, 1, 1] (bodyOf Tryz.f51))) (retE Tryz.prog Tryz.f51 R))) X0) (F51.T0 t1 H_2 b_1 t19 x) H_5 := by kernel_rfl
theorem F51.L0_of (R : AV → AHeap → Prop) (t1 : AV) (H_2 : AHeap) (b_1 : ABlk × (Nat → AV)) (t19 : AV) (J : Nat → AV → AHeap → Prop) (step : ∀ nn xx HH, J nn xx HH → ∀ XX : Tm → AHeap → Prop, (∀ mm yy H', mm < nn → J mm yy H' → XX (F51.T0 t1 H_2 b_1 t19 yy) H') → F51.B0 R t1 H_2 b_1 t19 XX xx HH) : ∀ nn xx HH, J nn xx HH → F51.L0 R t1 H_2 b_1 t19 xx HH :=
  loop_rule (F51.T0 t1 H_2 b_1 t19) (F51.B0 R t1 H_2 b_1 t19) (F51.B0_eq R t1 H_2 b_1 t19) J step
theorem F51.L0_un (R : AV → AHeap → Prop) (t1 : AV) (H_2 : AHeap) (b_1 : ABlk × (Nat → AV)) (t19 : AV) (xx : AV) (HH : AHeap) (hh : ∀ XX : Tm → AHeap → Prop, (∀ yy H', F51.L0 R t1 H_2 b_1 t19 yy H' → XX (F51.T0 t1 H_2 b_1 t19 yy) H') → F51.B0 R t1 H_2 b_1 t19 XX xx HH) : F51.L0 R t1 H_2 b_1 t19 xx HH :=
  loop_once (F51.T0 t1 H_2 b_1 t19) (F51.B0 R t1 H_2 b_1 t19) (F51.B0_eq R t1 H_2 b_1 t19) xx HH hh
def F51 (a0 : AV) (H : AHeap) (R : AV → AHeap → Prop) : Prop :=
  Nb (bxA 7 a0) H fun t1 H_1 =>
  Pu (ldG 7 H_1 t1) fun t6 =>
  Ca Tryz.prog kp 144 [t6] H_1 fun t7 H_2 =>
  Pu (aBin Tryz.prog .neq 35 t7 (.int .i64 0)) fun t8 =>
  Br t8 (
    R (.tup [.nilp, (.int .i64 2)]) H_2)
  (
    Cq (hUp H_2 7) fun H_3 =>
    Pu (ldG 7 H_3 t1) fun t9 =>
    Pu (fdP 1 t1) fun t10 =>
    Pu (ldS H_3 t10) fun t11 =>
    Pu (mkS 3 40 [.bool false, .int .i64 0, .nils] t11 t11) fun b =>
    Pu (bdS [.int .i64 0, .int .i64 0, .int .i64 0, .int .i64 0, .int .i64 0, .int .i64 0, .int .i64 0, .nils, .int .i64 0, .nils, .int .i64 0, .bool false, .bool false, .bool false, .int .i64 0, .int .i64 0, .bool false, .nils, .nils, .nils] [(0, 7, t9), (7, 1, (b.2 (H_2.n + 3)))]) fun t13 =>
    Pu (bxA 20 t13) fun b_1 =>
    ((StS t10 t11 H_3 ∧ True) ∧ (StG 7 t1 t9 H_3 ∧ True) ∧ True) ∧
    Cq ((H_3.set (H_2.n + 3) (b.1)).set (H_2.n + 5) (b_1.1)) fun H_4 =>
    Pu (nilC (b_1.2 (H_2.n + 5))) fun t16 =>
    Pu (fdP 7 t16) fun t17 =>
    Pu (ldS H_4 t17) fun t18 =>
    Pu (lnS t18) fun t19 =>
    F51.L0 R t1 H_2 b_1 t19 ((.int .i64 0)) H_4)
theorem F51.eq (a0 : AV) (H : AHeap) (R : AV → AHeap → Prop) : F51 a0 H R = wpE Tryz.prog kp (kp 51) (bodyOf Tryz.f51) (retE Tryz.prog Tryz.f51 R) (argsT [a0] 0 .nil) H := by kernel_rfl
theorem F51.ca {a0 : AV} {H : AHeap} {R : AV → AHeap → Prop} (h : F51 a0 H R) : Ca Tryz.prog kp 51 [a0] H R :=
  Ca.intro (P := Tryz.prog) (kp := kp) (f := 51) (fn := Tryz.f51) (args := [a0]) Tryz.func51 (by kernel_rfl) (Eq.mp (F51.eq a0 H R) h)

-- (*incunable/judge.Judge).Step
def F53 (a0 a1 : AV) (H : AHeap) (R : AV → AHeap → Prop) : Prop :=
  Nb (bxA 2 a1) H fun t3 H_1 =>
  Ca Tryz.prog kp 163 [a0] H_1 fun t6 H_2 =>
  Pu (aUn .not t6) fun t7 =>
  Gd t7 false (Pu (some a0)) fun t9 =>
  Gd t7 false (Pu (nilC t9)) fun t10 =>
  Gd t7 false (Pu (fdP 8 t10)) fun t11 =>
  Gd t7 false (Pu (ldS H_2 t11)) fun t12 =>
  Gd t7 false (Pu (aBin Tryz.prog .eql 3 t12 (.int .i64 10))) fun t13 =>
  Pu (pickA t7 (.bool true) t13) fun t14 =>
  Br t14 (
    R (.bool false) H_2)
  (
    Pu (ldG 2 H_2 t3) fun t16 =>
    Ca Tryz.prog kp 164 [a0, t16] H_2 fun t17 H_3 =>
    Pu (aUn .not t17) fun t18 =>
    Br t18 (
      Pu (nilC a0) fun t20 =>
      Pu (fdP 8 t20) fun t21 =>
      Pu (stA 1 H_3 t21 (.int .i64 10)) fun H_4 =>
      R (.bool false) H_4)
    (
      R (.bool true) H_3))
theorem F53.eq (a0 a1 : AV) (H : AHeap) (R : AV → AHeap → Prop) : F53 a0 a1 H R = wpE Tryz.prog kp (kp 53) (bodyOf Tryz.f53) (retE Tryz.prog Tryz.f53 R) (argsT [a0, a1] 0 .nil) H := by kernel_rfl
theorem F53.ca {a0 a1 : AV} {H : AHeap} {R : AV → AHeap → Prop} (h : F53 a0 a1 H R) : Ca Tryz.prog kp 53 [a0, a1] H R :=
  Ca.intro (P := Tryz.prog) (kp := kp) (f := 53) (fn := Tryz.f53) (args := [a0, a1]) Tryz.func53 (by kernel_rfl) (Eq.mp (F53.eq a0 a1 H R) h)

-- incunable/page.Erased
def F102.T0 (t7 : AV) (t9 : AV) (x : AV) : Tm := tmL [(3, t7), (9, t9), (10, x)]
def F102.B0 (R : AV → AHeap → Prop) (t7 : AV) (t9 : AV) (X0 : Tm → AHeap → Prop) (x : AV) (H_4 : AHeap) : Prop :=
  Pu (aBin Tryz.prog .lss 3 x t9) fun t11 =>
  Br t11 (
    Pu (ixS 1 t7 x) fun t15 =>
    Pu (stA 1 H_4 t15 (.int .u8 255)) fun H_5 =>
    Pu (aBin Tryz.prog .add 3 x (.int .i64 1)) fun t16 =>
    X0 (F102.T0 t7 t9 (t16)) H_5)
  (
    R t7 H_4)
def F102.L0 (R : AV → AHeap → Prop) (t7 : AV) (t9 : AV) (x : AV) (H_4 : AHeap) : Prop := loopW (kp 102) (subC [1, 1, 0, 1, 1, 1] (bodyOf Tryz.f102)) (wpE Tryz.prog kp (kp 102) (subC [1, 1, 0, 1, 1, 1] (bodyOf Tryz.f102))) (kBlock 0 (kSeq (wpE Tryz.prog kp (kp 102) (subC [1, 1, 1] (bodyOf Tryz.f102))) (retE Tryz.prog Tryz.f102 R))) (F102.T0 t7 t9 x) H_4
theorem F102.B0_eq (R : AV → AHeap → Prop) (t7 : AV) (t9 : AV) (X0 : Tm → AHeap → Prop) (x : AV) (H_4 : AHeap) : F102.B0 R t7 t9 X0 x H_4 = wpE Tryz.prog kp (kp 102) (subC [1, 1, 0, 1, 1, 1] (bodyOf Tryz.f102)) (kLoop (keepL (kp 102) (subC [1, 1, 0, 1, 1, 1] (bodyOf Tryz.f102))) (kBlock 0 (kSeq (wpE Tryz.prog kp (kp 102) (subC [1, 1, 1] (bodyOf Tryz.f102))) (retE Tryz.prog Tryz.f102 R))) X0) (F102.T0 t7 t9 x) H_4 := by kernel_rfl
theorem F102.L0_of (R : AV → AHeap → Prop) (t7 : AV) (t9 : AV) (J : Nat → AV → AHeap → Prop) (step : ∀ nn xx HH, J nn xx HH → ∀ XX : Tm → AHeap → Prop, (∀ mm yy H', mm < nn → J mm yy H' → XX (F102.T0 t7 t9 yy) H') → F102.B0 R t7 t9 XX xx HH) : ∀ nn xx HH, J nn xx HH → F102.L0 R t7 t9 xx HH :=
  loop_rule (F102.T0 t7 t9) (F102.B0 R t7 t9) (F102.B0_eq R t7 t9) J step
theorem F102.L0_un (R : AV → AHeap → Prop) (t7 : AV) (t9 : AV) (xx : AV) (HH : AHeap) (hh : ∀ XX : Tm → AHeap → Prop, (∀ yy H', F102.L0 R t7 t9 yy H' → XX (F102.T0 t7 t9 yy) H') → F102.B0 R t7 t9 XX xx HH) : F102.L0 R t7 t9 xx HH :=
  loop_once (F102.T0 t7 t9) (F102.B0 R t7 t9) (F102.B0_eq R t7 t9) xx HH hh
def F102 (a0 : AV) (H : AHeap) (R : AV → AHeap → Prop) : Prop :=
  Nb (bxA 7 a0) H fun t1 H_1 =>
  Pu (ldG 7 H_1 t1) fun t5 =>
  Ca Tryz.prog kp 123 [t5] H_1 fun t6 H_2 =>
  Nb (mkS 1 1 [.int .u8 0] t6 t6) H_2 fun t7 H_3 =>
  Pu (lnS t7) fun t9 =>
  F102.L0 R t7 t9 ((.int .i64 0)) H_3
theorem F102.eq (a0 : AV) (H : AHeap) (R : AV → AHeap → Prop) : F102 a0 H R = wpE Tryz.prog kp (kp 102) (bodyOf Tryz.f102) (retE Tryz.prog Tryz.f102 R) (argsT [a0] 0 .nil) H := by kernel_rfl
theorem F102.ca {a0 : AV} {H : AHeap} {R : AV → AHeap → Prop} (h : F102 a0 H R) : Ca Tryz.prog kp 102 [a0] H R :=
  Ca.intro (P := Tryz.prog) (kp := kp) (f := 102) (fn := Tryz.f102) (args := [a0]) Tryz.func102 (by kernel_rfl) (Eq.mp (F102.eq a0 H R) h)

-- (*incunable/wire.Wire).is
def F109 (a0 : AV) (H : AHeap) (R : AV → AHeap → Prop) : Prop :=
  Pu (aBin Tryz.prog .neq 44 a0 .nilp) fun t4 =>
  Gd t4 true (Pu (some a0)) fun t6 =>
  Gd t4 true (Pu (nilC t6)) fun t7 =>
  Gd t4 true (Pu (fdP 1 t7)) fun t8 =>
  Gd t4 true (Pu (ldS H t8)) fun t9 =>
  Gd t4 true (Pu (aBin Tryz.prog .neq 75 t9 .nilp)) fun t10 =>
  Pu (pickA t4 t10 (.bool false)) fun t11 =>
  R t11 H
theorem F109.eq (a0 : AV) (H : AHeap) (R : AV → AHeap → Prop) : F109 a0 H R = wpE Tryz.prog kp (kp 109) (bodyOf Tryz.f109) (retE Tryz.prog Tryz.f109 R) (argsT [a0] 0 .nil) H := by kernel_rfl
theorem F109.ca {a0 : AV} {H : AHeap} {R : AV → AHeap → Prop} (h : F109 a0 H R) : Ca Tryz.prog kp 109 [a0] H R :=
  Ca.intro (P := Tryz.prog) (kp := kp) (f := 109) (fn := Tryz.f109) (args := [a0]) Tryz.func109 (by kernel_rfl) (Eq.mp (F109.eq a0 H R) h)

-- (*incunable/trace.Recorder).List
def F110 (a0 : AV) (H : AHeap) (R : AV → AHeap → Prop) : Prop :=
  Ca Tryz.prog kp 199 [a0] H fun t4 H_1 =>
  Pu (aUn .not t4) fun t5 =>
  Br t5 (
    R .nils H_1)
  (
    Pu (nilC a0) fun t7 =>
    Pu (fdP 0 t7) fun t8 =>
    Pu (ldS H_1 t8) fun t9 =>
    Ca Tryz.prog kp 200 [t9] H_1 fun t10 H_2 =>
    R t10 H_2)
theorem F110.eq (a0 : AV) (H : AHeap) (R : AV → AHeap → Prop) : F110 a0 H R = wpE Tryz.prog kp (kp 110) (bodyOf Tryz.f110) (retE Tryz.prog Tryz.f110 R) (argsT [a0] 0 .nil) H := by kernel_rfl
theorem F110.ca {a0 : AV} {H : AHeap} {R : AV → AHeap → Prop} (h : F110 a0 H R) : Ca Tryz.prog kp 110 [a0] H R :=
  Ca.intro (P := Tryz.prog) (kp := kp) (f := 110) (fn := Tryz.f110) (args := [a0]) Tryz.func110 (by kernel_rfl) (Eq.mp (F110.eq a0 H R) h)

-- incunable/geom.Split
def F121 (a0 a1 : AV) (H : AHeap) (R : AV → AHeap → Prop) : Prop :=
  Nb (bxA 7 a0) H fun t2 H_1 =>
  Pu (ldG 7 H_1 t2) fun t7 =>
  Ca Tryz.prog kp 144 [t7] H_1 fun t8 H_2 =>
  Pu (aBin Tryz.prog .neq 35 t8 (.int .i64 0)) fun t9 =>
  Gd t9 false (Pu (some a1)) fun t11 =>
  Gd t9 false (Pu (fdP 1 t2)) fun t12 =>
  Gd t9 false (Pu (ldS H_2 t12)) fun t13 =>
  Gd t9 false (Pu (fdP 2 t2)) fun t14 =>
  Gd t9 false (Pu (ldS H_2 t14)) fun t15 =>
  Gd t9 false (Pu (aBin Tryz.prog .mul 3 t13 t15)) fun t16 =>
  Gd2 t9 false H_2 (Ca Tryz.prog kp 215 [t11, t16] H_2) fun t17 H_3 =>
  Gd t9 false (Pu (aUn .not t17)) fun t18 =>
  Pu (pickA t9 (.bool true) t18) fun t19 =>
  Br t19 (
    R (.tup [(.int .i64 0), (.int .i64 0), (.bool false)]) H_3)
  (
    Cq (hUp H_3 11) fun H_4 =>
    Pu (fdP 2 t2) fun t21 =>
    Pu (ldS H_4 t21) fun t22 =>
    Pu (aBin Tryz.prog .quo 3 a1 t22) fun t23 =>
    Pu (fdP 2 t2) fun t25 =>
    Pu (ldS H_4 t25) fun t26 =>
    Pu (aBin Tryz.prog .rem 3 a1 t26) fun t27 =>
    ((StS t25 t26 H_4 ∧ True) ∧ (StS t21 t22 H_4 ∧ True) ∧ True) ∧
    R (.tup [t23, t27, (.bool true)]) H_4)
theorem F121.eq (a0 a1 : AV) (H : AHeap) (R : AV → AHeap → Prop) : F121 a0 a1 H R = wpE Tryz.prog kp (kp 121) (bodyOf Tryz.f121) (retE Tryz.prog Tryz.f121 R) (argsT [a0, a1] 0 .nil) H := by kernel_rfl
theorem F121.ca {a0 a1 : AV} {H : AHeap} {R : AV → AHeap → Prop} (h : F121 a0 a1 H R) : Ca Tryz.prog kp 121 [a0, a1] H R :=
  Ca.intro (P := Tryz.prog) (kp := kp) (f := 121) (fn := Tryz.f121) (args := [a0, a1]) Tryz.func121 (by kernel_rfl) (Eq.mp (F121.eq a0 a1 H R) h)

-- incunable/geom.Raw
def F123 (a0 : AV) (H : AHeap) (R : AV → AHeap → Prop) : Prop :=
  Nb (bxA 7 a0) H fun t1 H_1 =>
  Pu (ldG 7 H_1 t1) fun t3 =>
  Ca Tryz.prog kp 144 [t3] H_1 fun t4 H_2 =>
  Pu (aBin Tryz.prog .neq 35 t4 (.int .i64 0)) fun t5 =>
  Br t5 (
    R (.int .i64 0) H_2)
  (
    Pu (fdP 3 t1) fun t6 =>
    Pu (ldS H_2 t6) fun t7 =>
    Pu (fdP 4 t1) fun t8 =>
    Pu (ldS H_2 t8) fun t9 =>
    Pu (aBin Tryz.prog .add 3 t9 (.int .i64 2)) fun t10 =>
    Pu (aBin Tryz.prog .mul 3 t7 t10) fun t11 =>
    Pu (aBin Tryz.prog .add 3 t11 (.int .i64 28)) fun t12 =>
    Pu (aBin Tryz.prog .add 3 t12 (.int .i64 2)) fun t13 =>
    Pu (aBin Tryz.prog .add 3 t13 (.int .i64 1)) fun t14 =>
    R t14 H_2)
theorem F123.eq (a0 : AV) (H : AHeap) (R : AV → AHeap → Prop) : F123 a0 H R = wpE Tryz.prog kp (kp 123) (bodyOf Tryz.f123) (retE Tryz.prog Tryz.f123 R) (argsT [a0] 0 .nil) H := by kernel_rfl
theorem F123.ca {a0 : AV} {H : AHeap} {R : AV → AHeap → Prop} (h : F123 a0 H R) : Ca Tryz.prog kp 123 [a0] H R :=
  Ca.intro (P := Tryz.prog) (kp := kp) (f := 123) (fn := Tryz.f123) (args := [a0]) Tryz.func123 (by kernel_rfl) (Eq.mp (F123.eq a0 H R) h)

-- incunable/geom.Row
def F133 (a0 a1 a2 : AV) (H : AHeap) (R : AV → AHeap → Prop) : Prop :=
  Nb (bxA 7 a0) H fun t3 H_1 =>
  Pu (ldG 7 H_1 t3) fun t8 =>
  Ca Tryz.prog kp 144 [t8] H_1 fun t9 H_2 =>
  Pu (aBin Tryz.prog .neq 35 t9 (.int .i64 0)) fun t10 =>
  Gd t10 false (Pu (some a1)) fun t12 =>
  Gd t10 false (Pu (fdP 1 t3)) fun t13 =>
  Gd t10 false (Pu (ldS H_2 t13)) fun t14 =>
  Gd2 t10 false H_2 (Ca Tryz.prog kp 215 [t12, t14] H_2) fun t15 H_3 =>
  Gd t10 false (Pu (aUn .not t15)) fun t16 =>
  Pu (pickA t10 (.bool true) t16) fun t17 =>
  Gd t17 false (Pu (some a2)) fun t19 =>
  Gd t17 false (Pu (fdP 2 t3)) fun t20 =>
  Gd t17 false (Pu (ldS H_3 t20)) fun t21 =>
  Gd2 t17 false H_3 (Ca Tryz.prog kp 215 [t19, t21] H_3) fun t22 H_4 =>
  Gd t17 false (Pu (aUn .not t22)) fun t23 =>
  Pu (pickA t17 (.bool true) t23) fun t24 =>
  Br t24 (
    R (.tup [(.int .i64 0), (.bool false)]) H_4)
  (
    Pu (fdP 2 t3) fun t26 =>
    Pu (ldS H_4 t26) fun t27 =>
    Pu (aBin Tryz.prog .mul 3 a1 t27) fun t28 =>
    Pu (aBin Tryz.prog .add 3 t28 a2) fun t30 =>
    R (.tup [t30, (.bool true)]) H_4)
theorem F133.eq (a0 a1 a2 : AV) (H : AHeap) (R : AV → AHeap → Prop) : F133 a0 a1 a2 H R = wpE Tryz.prog kp (kp 133) (bodyOf Tryz.f133) (retE Tryz.prog Tryz.f133 R) (argsT [a0, a1, a2] 0 .nil) H := by kernel_rfl
theorem F133.ca {a0 a1 a2 : AV} {H : AHeap} {R : AV → AHeap → Prop} (h : F133 a0 a1 a2 H R) : Ca Tryz.prog kp 133 [a0, a1, a2] H R :=
  Ca.intro (P := Tryz.prog) (kp := kp) (f := 133) (fn := Tryz.f133) (args := [a0, a1, a2]) Tryz.func133 (by kernel_rfl) (Eq.mp (F133.eq a0 a1 a2 H R) h)

-- incunable/cycle.Of
def F136.T0 (a0 : AV) (a1 : AV) (t9 : AV) (x : AV × AV) : Tm := tmL [(0, a0), (5, x.1), (8, a1), (9, t9), (10, x.2)]
def F136.B0 (a0 : AV) (a1 : AV) (R : AV → AHeap → Prop) (t9 : AV) (X0 : Tm → AHeap → Prop) (x : AV × AV) (H_1 : AHeap) : Prop :=
  Pu (aBin Tryz.prog .lss 3 x.2 t9) fun t11 =>
  Br t11 (
    Pu (ixS 1 a1 x.2) fun t12 =>
    Pu (ldS H_1 t12) fun t13 =>
    Pu (bdS [.int .i64 0, .int .u8 0] [(0, 1, a0), (1, 1, t13)]) fun t17 =>
    Pu (bdL 1 [.int .i64 0, .int .u8 0] [(0, 2, t17)]) fun t18 =>
    Pp (appendA Tryz.prog H_1 #[43, 43] [x.1, t18]) fun t19 H_2 =>
    Pu (aBin Tryz.prog .add 3 x.2 (.int .i64 1)) fun t20 =>
    X0 (F136.T0 a0 a1 t9 (t19, t20)) H_2)
  (
    R x.1 H_1)
def F136.L0 (a0 : AV) (a1 : AV) (R : AV → AHeap → Prop) (t9 : AV) (x : AV × AV) (H_1 : AHeap) : Prop := loopW (kp 136) (subC [1, 1, 0, 1, 1, 1] (bodyOf Tryz.f136)) (wpE Tryz.prog kp (kp 136) (subC [1, 1, 0, 1, 1, 1] (bodyOf Tryz.f136))) (kBlock 0 (kSeq (wpE Tryz.prog kp (kp 136) (subC [1, 1, 1] (bodyOf Tryz.f136))) (retE Tryz.prog Tryz.f136 R))) (F136.T0 a0 a1 t9 x) H_1
theorem F136.B0_eq (a0 : AV) (a1 : AV) (R : AV → AHeap → Prop) (t9 : AV) (X0 : Tm → AHeap → Prop) (x : AV × AV) (H_1 : AHeap) : F136.B0 a0 a1 R t9 X0 x H_1 = wpE Tryz.prog kp (kp 136) (subC [1, 1, 0, 1, 1, 1] (bodyOf Tryz.f136)) (kLoop (keepL (kp 136) (subC [1, 1, 0, 1, 1, 1] (bodyOf Tryz.f136))) (kBlock 0 (kSeq (wpE Tryz.prog kp (kp 136) (subC [1, 1, 1] (bodyOf Tryz.f136))) (retE Tryz.prog Tryz.f136 R))) X0) (F136.T0 a0 a1 t9 x) H_1 := by kernel_rfl
theorem F136.L0_of (a0 : AV) (a1 : AV) (R : AV → AHeap → Prop) (t9 : AV) (J : Nat → (AV × AV) → AHeap → Prop) (step : ∀ nn xx HH, J nn xx HH → ∀ XX : Tm → AHeap → Prop, (∀ mm yy H', mm < nn → J mm yy H' → XX (F136.T0 a0 a1 t9 yy) H') → F136.B0 a0 a1 R t9 XX xx HH) : ∀ nn xx HH, J nn xx HH → F136.L0 a0 a1 R t9 xx HH :=
  loop_rule (F136.T0 a0 a1 t9) (F136.B0 a0 a1 R t9) (F136.B0_eq a0 a1 R t9) J step
theorem F136.L0_un (a0 : AV) (a1 : AV) (R : AV → AHeap → Prop) (t9 : AV) (xx : AV × AV) (HH : AHeap) (hh : ∀ XX : Tm → AHeap → Prop, (∀ yy H', F136.L0 a0 a1 R t9 yy H' → XX (F136.T0 a0 a1 t9 yy) H') → F136.B0 a0 a1 R t9 XX xx HH) : F136.L0 a0 a1 R t9 xx HH :=
  loop_once (F136.T0 a0 a1 t9) (F136.B0 a0 a1 R t9) (F136.B0_eq a0 a1 R t9) xx HH hh
def F136 (a0 a1 : AV) (H : AHeap) (R : AV → AHeap → Prop) : Prop :=
  Pu (lnS a1) fun t9 =>
  F136.L0 a0 a1 R t9 (.nils, (.int .i64 0)) H
theorem F136.eq (a0 a1 : AV) (H : AHeap) (R : AV → AHeap → Prop) : F136 a0 a1 H R = wpE Tryz.prog kp (kp 136) (bodyOf Tryz.f136) (retE Tryz.prog Tryz.f136 R) (argsT [a0, a1] 0 .nil) H := by kernel_rfl
theorem F136.ca {a0 a1 : AV} {H : AHeap} {R : AV → AHeap → Prop} (h : F136 a0 a1 H R) : Ca Tryz.prog kp 136 [a0, a1] H R :=
  Ca.intro (P := Tryz.prog) (kp := kp) (f := 136) (fn := Tryz.f136) (args := [a0, a1]) Tryz.func136 (by kernel_rfl) (Eq.mp (F136.eq a0 a1 H R) h)

-- incunable/geom.Address
def F137 (a0 : AV) (H : AHeap) (R : AV → AHeap → Prop) : Prop :=
  Pu (cvI .u8 a0) fun t4 =>
  Pu (aBin Tryz.prog .shr 3 a0 (.int .u64 8)) fun t6 =>
  Pu (cvI .u8 t6) fun t7 =>
  Pu (bdL 2 [.int .u8 0, .int .u8 0] [(0, 1, t4), (1, 1, t7)]) fun t8 =>
  R t8 H
theorem F137.eq (a0 : AV) (H : AHeap) (R : AV → AHeap → Prop) : F137 a0 H R = wpE Tryz.prog kp (kp 137) (bodyOf Tryz.f137) (retE Tryz.prog Tryz.f137 R) (argsT [a0] 0 .nil) H := by kernel_rfl
theorem F137.ca {a0 : AV} {H : AHeap} {R : AV → AHeap → Prop} (h : F137 a0 H R) : Ca Tryz.prog kp 137 [a0] H R :=
  Ca.intro (P := Tryz.prog) (kp := kp) (f := 137) (fn := Tryz.f137) (args := [a0]) Tryz.func137 (by kernel_rfl) (Eq.mp (F137.eq a0 H R) h)

-- (*incunable/wire.Wire).Command
def F141 (a0 a1 : AV) (H : AHeap) (R : AV → AHeap → Prop) : Prop :=
  Ca Tryz.prog kp 136 [(.int .i64 1), a1] H fun t7 H_1 =>
  Ca Tryz.prog kp 217 [a0, t7] H_1 fun t8 H_2 =>
  R t8 H_2
theorem F141.eq (a0 a1 : AV) (H : AHeap) (R : AV → AHeap → Prop) : F141 a0 a1 H R = wpE Tryz.prog kp (kp 141) (bodyOf Tryz.f141) (retE Tryz.prog Tryz.f141 R) (argsT [a0, a1] 0 .nil) H := by kernel_rfl
theorem F141.ca {a0 a1 : AV} {H : AHeap} {R : AV → AHeap → Prop} (h : F141 a0 a1 H R) : Ca Tryz.prog kp 141 [a0, a1] H R :=
  Ca.intro (P := Tryz.prog) (kp := kp) (f := 141) (fn := Tryz.f141) (args := [a0, a1]) Tryz.func141 (by kernel_rfl) (Eq.mp (F141.eq a0 a1 H R) h)

-- (*incunable/wire.Wire).Read
def F142.T0 (a0 : AV) (a1 : AV) (x : AV × AV) : Tm := tmL [(0, a0), (6, x.1), (18, a1), (19, x.2)]
def F142.B0 (a0 : AV) (a1 : AV) (R : AV → AHeap → Prop) (X0 : Tm → AHeap → Prop) (x : AV × AV) (H_2 : AHeap) : Prop :=
  Pu (aBin Tryz.prog .lss 3 x.2 a1) fun t20 =>
  Br t20 (
    Pu (bdS [.int .i64 0, .int .u8 0] [(0, 1, (.int .i64 4))]) fun t23 =>
    Ca Tryz.prog kp 223 [a0, t23] H_2 fun t24 H_3 =>
    Pu (exT t24 0) fun t25 =>
    Pu (exT t24 1) fun t26 =>
    Pu (aBin Tryz.prog .neq 35 t26 (.int .i64 0)) fun t28 =>
    Br t28 (
      R (.tup [.nils, t26]) H_3)
    (
      Pu (bdL 1 [.int .u8 0] [(0, 1, t25)]) fun t32 =>
      Pp (appendA Tryz.prog H_3 #[26, 26] [x.1, t32]) fun t33 H_4 =>
      Pu (aBin Tryz.prog .add 3 x.2 (.int .i64 1)) fun t34 =>
      X0 (F142.T0 a0 a1 (t33, t34)) H_4))
  (
    R (.tup [x.1, (.int .i64 0)]) H_2)
def F142.L0 (a0 : AV) (a1 : AV) (R : AV → AHeap → Prop) (x : AV × AV) (H_2 : AHeap) : Prop := loopW (kp 142) (subC [1, 1, 1, 1, 0, 1, 1, 1] (bodyOf Tryz.f142)) (wpE Tryz.prog kp (kp 142) (subC [1, 1, 1, 1, 0, 1, 1, 1] (bodyOf Tryz.f142))) (kBlock 0 (kSeq (wpE Tryz.prog kp (kp 142) (subC [1, 1, 1, 1, 1] (bodyOf Tryz.f142))) (retE Tryz.prog Tryz.f142 R))) (F142.T0 a0 a1 x) H_2
theorem F142.B0_eq (a0 : AV) (a1 : AV) (R : AV → AHeap → Prop) (X0 : Tm → AHeap → Prop) (x : AV × AV) (H_2 : AHeap) : F142.B0 a0 a1 R X0 x H_2 = wpE Tryz.prog kp (kp 142) (subC [1, 1, 1, 1, 0, 1, 1, 1] (bodyOf Tryz.f142)) (kLoop (keepL (kp 142) (subC [1, 1, 1, 1, 0, 1, 1, 1] (bodyOf Tryz.f142))) (kBlock 0 (kSeq (wpE Tryz.prog kp (kp 142) (subC [1, 1, 1, 1, 1] (bodyOf Tryz.f142))) (retE Tryz.prog Tryz.f142 R))) X0) (F142.T0 a0 a1 x) H_2 := by kernel_rfl
theorem F142.L0_of (a0 : AV) (a1 : AV) (R : AV → AHeap → Prop) (J : Nat → (AV × AV) → AHeap → Prop) (step : ∀ nn xx HH, J nn xx HH → ∀ XX : Tm → AHeap → Prop, (∀ mm yy H', mm < nn → J mm yy H' → XX (F142.T0 a0 a1 yy) H') → F142.B0 a0 a1 R XX xx HH) : ∀ nn xx HH, J nn xx HH → F142.L0 a0 a1 R xx HH :=
  loop_rule (F142.T0 a0 a1) (F142.B0 a0 a1 R) (F142.B0_eq a0 a1 R) J step
theorem F142.L0_un (a0 : AV) (a1 : AV) (R : AV → AHeap → Prop) (xx : AV × AV) (HH : AHeap) (hh : ∀ XX : Tm → AHeap → Prop, (∀ yy H', F142.L0 a0 a1 R yy H' → XX (F142.T0 a0 a1 yy) H') → F142.B0 a0 a1 R XX xx HH) : F142.L0 a0 a1 R xx HH :=
  loop_once (F142.T0 a0 a1) (F142.B0 a0 a1 R) (F142.B0_eq a0 a1 R) xx HH hh
def F142 (a0 a1 : AV) (H : AHeap) (R : AV → AHeap → Prop) : Prop :=
  Ca Tryz.prog kp 109 [a0] H fun t10 H_1 =>
  Pu (aUn .not t10) fun t11 =>
  Br t11 (
    R (.tup [.nils, (.int .i64 1)]) H_1)
  (
    Pu (aBin Tryz.prog .lss 3 a1 (.int .i64 0)) fun t13 =>
    Gd t13 false (Pu (some a1)) fun t15 =>
    Gd t13 false (Pu (aBin Tryz.prog .gtr 3 t15 (.int .i64 16777216))) fun t16 =>
    Pu (pickA t13 (.bool true) t16) fun t17 =>
    Br t17 (
      R (.tup [.nils, (.int .i64 2)]) H_1)
    (
      F142.L0 a0 a1 R (.nils, (.int .i64 0)) H_1))
theorem F142.eq (a0 a1 : AV) (H : AHeap) (R : AV → AHeap → Prop) : F142 a0 a1 H R = wpE Tryz.prog kp (kp 142) (bodyOf Tryz.f142) (retE Tryz.prog Tryz.f142 R) (argsT [a0, a1] 0 .nil) H := by kernel_rfl
theorem F142.ca {a0 a1 : AV} {H : AHeap} {R : AV → AHeap → Prop} (h : F142 a0 a1 H R) : Ca Tryz.prog kp 142 [a0, a1] H R :=
  Ca.intro (P := Tryz.prog) (kp := kp) (f := 142) (fn := Tryz.f142) (args := [a0, a1]) Tryz.func142 (by kernel_rfl) (Eq.mp (F142.eq a0 a1 H R) h)

-- incunable/geom.Check
def F144.T0 (t1 : AV) (t26 : AV) (x : AV) : Tm := tmL [(1, t1), (26, t26), (27, x)]
def F144.B0 (R : AV → AHeap → Prop) (t1 : AV) (t26 : AV) (X0 : Tm → AHeap → Prop) (x : AV) (H_2 : AHeap) : Prop :=
  Pu (aBin Tryz.prog .lss 3 x (.int .i64 7)) fun t28 =>
  Br t28 (
    Pu (aIndex Tryz.prog 308 t26 x) fun t29 =>
    Nw (.cells 3 [.int .i64 0, .int .i64 0, .int .i64 0]) (fun h => (.ptr h 0)) H_2 fun t4 H_3 =>
    Pu (stA 3 H_3 t4 t29) fun H_4 =>
    Pu (ixA 3 1 t4 (.int .i64 0)) fun t30 =>
    Pu (ldS H_4 t30) fun t31 =>
    Pu (ixA 3 1 t4 (.int .i64 1)) fun t32 =>
    Pu (ldS H_4 t32) fun t33 =>
    Pu (aBin Tryz.prog .lss 3 t31 t33) fun t34 =>
    Gd t34 false (Pu (ixA 3 1 t4 (.int .i64 0))) fun t36 =>
    Gd t34 false (Pu (ldS H_4 t36)) fun t37 =>
    Gd t34 false (Pu (ixA 3 1 t4 (.int .i64 2))) fun t38 =>
    Gd t34 false (Pu (ldS H_4 t38)) fun t39 =>
    Gd t34 false (Pu (aBin Tryz.prog .gtr 3 t37 t39)) fun t40 =>
    Pu (pickA t34 (.bool true) t40) fun t41 =>
    Br t41 (
      R (.int .i64 2) H_4)
    (
      Pu (aBin Tryz.prog .add 3 x (.int .i64 1)) fun t42 =>
      X0 (F144.T0 t1 t26 (t42)) H_4))
  (
    Pu (fdP 1 t1) fun t43 =>
    Pu (ldS H_2 t43) fun t44 =>
    Pu (fdP 0 t1) fun t45 =>
    Pu (ldS H_2 t45) fun t46 =>
    Pu (aBin Tryz.prog .rem 3 t44 t46) fun t47 =>
    Pu (aBin Tryz.prog .neq 3 t47 (.int .i64 0)) fun t48 =>
    Gd t48 false (Pu (fdP 2 t1)) fun t50 =>
    Gd t48 false (Pu (ldS H_2 t50)) fun t51 =>
    Gd t48 false (Pu (aBin Tryz.prog .rem 3 t51 (.int .i64 2))) fun t52 =>
    Gd t48 false (Pu (aBin Tryz.prog .neq 3 t52 (.int .i64 0))) fun t53 =>
    Pu (pickA t48 (.bool true) t53) fun t54 =>
    Br t54 (
      R (.int .i64 2) H_2)
    (
      R (.int .i64 0) H_2))
def F144.L0 (R : AV → AHeap → Prop) (t1 : AV) (t26 : AV) (x : AV) (H_2 : AHeap) : Prop := loopW (kp 144) (subC [1, 0, 1, 1, 1] (bodyOf Tryz.f144)) (wpE Tryz.prog kp (kp 144) (subC [1, 0, 1, 1, 1] (bodyOf Tryz.f144))) (kBlock 0 (kSeq (wpE Tryz.prog kp (kp 144) (subC [1, 1] (bodyOf Tryz.f144))) (retE Tryz.prog Tryz.f144 R))) (F144.T0 t1 t26 x) H_2
theorem F144.B0_eq (R : AV → AHeap → Prop) (t1 : AV) (t26 : AV) (X0 : Tm → AHeap → Prop) (x : AV) (H_2 : AHeap) : F144.B0 R t1 t26 X0 x H_2 = wpE Tryz.prog kp (kp 144) (subC [1, 0, 1, 1, 1] (bodyOf Tryz.f144)) (kLoop (keepL (kp 144) (subC [1, 0, 1, 1, 1] (bodyOf Tryz.f144))) (kBlock 0 (kSeq (wpE Tryz.prog kp (kp 144) (subC [1, 1] (bodyOf Tryz.f144))) (retE Tryz.prog Tryz.f144 R))) X0) (F144.T0 t1 t26 x) H_2 := by kernel_rfl
theorem F144.L0_of (R : AV → AHeap → Prop) (t1 : AV) (t26 : AV) (J : Nat → AV → AHeap → Prop) (step : ∀ nn xx HH, J nn xx HH → ∀ XX : Tm → AHeap → Prop, (∀ mm yy H', mm < nn → J mm yy H' → XX (F144.T0 t1 t26 yy) H') → F144.B0 R t1 t26 XX xx HH) : ∀ nn xx HH, J nn xx HH → F144.L0 R t1 t26 xx HH :=
  loop_rule (F144.T0 t1 t26) (F144.B0 R t1 t26) (F144.B0_eq R t1 t26) J step
theorem F144.L0_un (R : AV → AHeap → Prop) (t1 : AV) (t26 : AV) (xx : AV) (HH : AHeap) (hh : ∀ XX : Tm → AHeap → Prop, (∀ yy H', F144.L0 R t1 t26 yy H' → XX (F144.T0 t1 t26 yy) H') → F144.B0 R t1 t26 XX xx HH) : F144.L0 R t1 t26 xx HH :=
  loop_once (F144.T0 t1 t26) (F144.B0 R t1 t26) (F144.B0_eq R t1 t26) xx HH hh
def F144 (a0 : AV) (H : AHeap) (R : AV → AHeap → Prop) : Prop :=
  Nb (bxA 7 a0) H fun t1 H_1 =>
  Pu (fdP 0 t1) fun t5 =>
  Pu (ldS H_1 t5) fun t6 =>
  Pu (bdS [.int .i64 0, .int .i64 0, .int .i64 0] [(0, 1, t6), (1, 1, (.int .i64 1)), (2, 1, (.int .i64 4))]) fun t7 =>
  Pu (fdP 1 t1) fun t8 =>
  Pu (ldS H_1 t8) fun t9 =>
  Pu (bdS [.int .i64 0, .int .i64 0, .int .i64 0] [(0, 1, t9), (1, 1, (.int .i64 2)), (2, 1, (.int .i64 256))]) fun t10 =>
  Pu (fdP 2 t1) fun t11 =>
  Pu (ldS H_1 t11) fun t12 =>
  Pu (bdS [.int .i64 0, .int .i64 0, .int .i64 0] [(0, 1, t12), (1, 1, (.int .i64 4)), (2, 1, (.int .i64 64))]) fun t13 =>
  Pu (fdP 3 t1) fun t14 =>
  Pu (ldS H_1 t14) fun t15 =>
  Pu (bdS [.int .i64 0, .int .i64 0, .int .i64 0] [(0, 1, t15), (1, 1, (.int .i64 1)), (2, 1, (.int .i64 16))]) fun t16 =>
  Pu (fdP 4 t1) fun t17 =>
  Pu (ldS H_1 t17) fun t18 =>
  Pu (bdS [.int .i64 0, .int .i64 0, .int .i64 0] [(0, 1, t18), (1, 1, (.int .i64 4)), (2, 1, (.int .i64 512))]) fun t19 =>
  Pu (fdP 5 t1) fun t20 =>
  Pu (ldS H_1 t20) fun t21 =>
  Pu (bdS [.int .i64 0, .int .i64 0, .int .i64 0] [(0, 1, t21), (1, 1, (.int .i64 1)), (2, 1, (.int .i64 8))]) fun t22 =>
  Pu (fdP 6 t1) fun t23 =>
  Pu (ldS H_1 t23) fun t24 =>
  Pu (bdS [.int .i64 0, .int .i64 0, .int .i64 0] [(0, 1, t24), (1, 1, (.int .i64 1)), (2, 1, (.int .i64 8))]) fun t25 =>
  Pu (aBuild Tryz.prog 308 [(0, t7), (1, t10), (2, t13), (3, t16), (4, t19), (5, t22), (6, t25)]) fun t26 =>
  F144.L0 R t1 t26 ((.int .i64 0)) H_1
theorem F144.eq (a0 : AV) (H : AHeap) (R : AV → AHeap → Prop) : F144 a0 H R = wpE Tryz.prog kp (kp 144) (bodyOf Tryz.f144) (retE Tryz.prog Tryz.f144 R) (argsT [a0] 0 .nil) H := by kernel_rfl
theorem F144.ca {a0 : AV} {H : AHeap} {R : AV → AHeap → Prop} (h : F144 a0 H R) : Ca Tryz.prog kp 144 [a0] H R :=
  Ca.intro (P := Tryz.prog) (kp := kp) (f := 144) (fn := Tryz.f144) (args := [a0]) Tryz.func144 (by kernel_rfl) (Eq.mp (F144.eq a0 H R) h)

-- (*incunable/chip.Chip).is
def F148 (a0 : AV) (H : AHeap) (R : AV → AHeap → Prop) : Prop :=
  Pu (aBin Tryz.prog .neq 75 a0 .nilp) fun t4 =>
  Gd t4 true (Pu (some a0)) fun t6 =>
  Gd t4 true (Pu (nilC t6)) fun t7 =>
  Gd t4 true (Pu (fdP 7 t7)) fun t8 =>
  Gd t4 true (Pu (ldS H t8)) fun t9 =>
  Gd t4 true (Pu (aBin Tryz.prog .neq 74 t9 .nilp)) fun t10 =>
  Pu (pickA t4 t10 (.bool false)) fun t11 =>
  R t11 H
theorem F148.eq (a0 : AV) (H : AHeap) (R : AV → AHeap → Prop) : F148 a0 H R = wpE Tryz.prog kp (kp 148) (bodyOf Tryz.f148) (retE Tryz.prog Tryz.f148 R) (argsT [a0] 0 .nil) H := by kernel_rfl
theorem F148.ca {a0 : AV} {H : AHeap} {R : AV → AHeap → Prop} (h : F148 a0 H R) : Ca Tryz.prog kp 148 [a0] H R :=
  Ca.intro (P := Tryz.prog) (kp := kp) (f := 148) (fn := Tryz.f148) (args := [a0]) Tryz.func148 (by kernel_rfl) (Eq.mp (F148.eq a0 H R) h)

-- incunable/ident.Put
def F149.T0 (t10 : AV) (x : AV × AV) : Tm := tmL [(4, x.1), (10, t10), (11, x.2)]
def F149.B0 (R : AV → AHeap → Prop) (t10 : AV) (X0 : Tm → AHeap → Prop) (x : AV × AV) (H_4 : AHeap) : Prop :=
  Pu (aBin Tryz.prog .lss 3 x.2 (.int .i64 7)) fun t12 =>
  Br t12 (
    Pu (aIndex Tryz.prog 315 t10 x.2) fun t13 =>
    Pu (nilC t13) fun t16 =>
    Pu (ldS H_4 t16) fun t17 =>
    Ca Tryz.prog kp 137 [t17] H_4 fun t18 H_5 =>
    Pp (appendA Tryz.prog H_5 #[26, 26] [x.1, t18]) fun t19 H_6 =>
    Pu (aBin Tryz.prog .add 3 x.2 (.int .i64 1)) fun t20 =>
    X0 (F149.T0 t10 (t19, t20)) H_6)
  (
    R (.tup [x.1, (.int .i64 0)]) H_4)
def F149.L0 (R : AV → AHeap → Prop) (t10 : AV) (x : AV × AV) (H_4 : AHeap) : Prop := loopW (kp 149) (subC [1, 1, 1, 0, 1, 1, 1] (bodyOf Tryz.f149)) (wpE Tryz.prog kp (kp 149) (subC [1, 1, 1, 0, 1, 1, 1] (bodyOf Tryz.f149))) (kBlock 0 (kSeq (wpE Tryz.prog kp (kp 149) (subC [1, 1, 1, 1] (bodyOf Tryz.f149))) (retE Tryz.prog Tryz.f149 R))) (F149.T0 t10 x) H_4
theorem F149.B0_eq (R : AV → AHeap → Prop) (t10 : AV) (X0 : Tm → AHeap → Prop) (x : AV × AV) (H_4 : AHeap) : F149.B0 R t10 X0 x H_4 = wpE Tryz.prog kp (kp 149) (subC [1, 1, 1, 0, 1, 1, 1] (bodyOf Tryz.f149)) (kLoop (keepL (kp 149) (subC [1, 1, 1, 0, 1, 1, 1] (bodyOf Tryz.f149))) (kBlock 0 (kSeq (wpE Tryz.prog kp (kp 149) (subC [1, 1, 1, 1] (bodyOf Tryz.f149))) (retE Tryz.prog Tryz.f149 R))) X0) (F149.T0 t10 x) H_4 := by kernel_rfl
theorem F149.L0_of (R : AV → AHeap → Prop) (t10 : AV) (J : Nat → (AV × AV) → AHeap → Prop) (step : ∀ nn xx HH, J nn xx HH → ∀ XX : Tm → AHeap → Prop, (∀ mm yy H', mm < nn → J mm yy H' → XX (F149.T0 t10 yy) H') → F149.B0 R t10 XX xx HH) : ∀ nn xx HH, J nn xx HH → F149.L0 R t10 xx HH :=
  loop_rule (F149.T0 t10) (F149.B0 R t10) (F149.B0_eq R t10) J step
theorem F149.L0_un (R : AV → AHeap → Prop) (t10 : AV) (xx : AV × AV) (HH : AHeap) (hh : ∀ XX : Tm → AHeap → Prop, (∀ yy H', F149.L0 R t10 yy H' → XX (F149.T0 t10 yy) H') → F149.B0 R t10 XX xx HH) : F149.L0 R t10 xx HH :=
  loop_once (F149.T0 t10) (F149.B0 R t10) (F149.B0_eq R t10) xx HH hh
def F149 (a0 : AV) (H : AHeap) (R : AV → AHeap → Prop) : Prop :=
  Nb (bxA 7 a0) H fun t1 H_1 =>
  Pu (ldG 7 H_1 t1) fun t7 =>
  Ca Tryz.prog kp 144 [t7] H_1 fun t8 H_2 =>
  Pu (aBin Tryz.prog .neq 35 t8 (.int .i64 0)) fun t9 =>
  Br t9 (
    R (.tup [.nils, (.int .i64 2)]) H_2)
  (
    Ca Tryz.prog kp 226 [t1] H_2 fun t10 H_3 =>
    F149.L0 R t10 (.nils, (.int .i64 0)) H_3)
theorem F149.eq (a0 : AV) (H : AHeap) (R : AV → AHeap → Prop) : F149 a0 H R = wpE Tryz.prog kp (kp 149) (bodyOf Tryz.f149) (retE Tryz.prog Tryz.f149 R) (argsT [a0] 0 .nil) H := by kernel_rfl
theorem F149.ca {a0 : AV} {H : AHeap} {R : AV → AHeap → Prop} (h : F149 a0 H R) : Ca Tryz.prog kp 149 [a0] H R :=
  Ca.intro (P := Tryz.prog) (kp := kp) (f := 149) (fn := Tryz.f149) (args := [a0]) Tryz.func149 (by kernel_rfl) (Eq.mp (F149.eq a0 H R) h)

-- incunable/incunablelaw18.plain
def F150 (H : AHeap) (R : AV → AHeap → Prop) : Prop :=
  Nw (.cells 7 [.int .i64 0, .int .i64 0, .int .i64 0, .int .i64 0, .int .i64 0, .int .i64 0, .int .i64 0]) (fun h => (.ptr h 0)) H fun t0 H_1 =>
  Pu (aBuild Tryz.prog 23 [(0, (.int .i64 1)), (1, (.int .i64 2)), (2, (.int .i64 4)), (3, (.int .i64 1)), (4, (.int .i64 300)), (5, (.int .i64 1)), (6, (.int .i64 1))]) fun t1 =>
  Pu (stA 7 H_1 t0 t1) fun H_2 =>
  Pu (resC [ldG 7 H_2 t0]) fun v =>
  R v H_2
theorem F150.eq (H : AHeap) (R : AV → AHeap → Prop) : F150 H R = wpE Tryz.prog kp (kp 150) (bodyOf Tryz.f150) (retE Tryz.prog Tryz.f150 R) (argsT [] 0 .nil) H := by kernel_rfl
theorem F150.ca {H : AHeap} {R : AV → AHeap → Prop} (h : F150 H R) : Ca Tryz.prog kp 150 [] H R :=
  Ca.intro (P := Tryz.prog) (kp := kp) (f := 150) (fn := Tryz.f150) (args := []) Tryz.func150 (by kernel_rfl) (Eq.mp (F150.eq H R) h)

-- incunable/incunablelaw08.Small
def F151 (a0 : AV) (H : AHeap) (R : AV → AHeap → Prop) : Prop :=
  Nb (bxA 7 a0) H fun t1 H_1 =>
  Pu (fdP 3 t1) fun t3 =>
  Pu (ldS H_1 t3) fun t4 =>
  Pu (aBin Tryz.prog .leq 3 t4 (.int .i64 4)) fun t5 =>
  Gd t5 true (Pu (fdP 4 t1)) fun t7 =>
  Gd t5 true (Pu (ldS H_1 t7)) fun t8 =>
  Gd t5 true (Pu (aBin Tryz.prog .leq 3 t8 (.int .i64 40))) fun t9 =>
  Pu (pickA t5 t9 (.bool false)) fun t10 =>
  Gd t10 true (Pu (fdP 3 t1)) fun t12 =>
  Gd t10 true (Pu (ldS H_1 t12)) fun t13 =>
  Gd t10 true (Pu (aBin Tryz.prog .geq 3 t13 (.int .i64 0))) fun t14 =>
  Pu (pickA t10 t14 (.bool false)) fun t15 =>
  Gd t15 true (Pu (fdP 4 t1)) fun t17 =>
  Gd t15 true (Pu (ldS H_1 t17)) fun t18 =>
  Gd t15 true (Pu (aBin Tryz.prog .geq 3 t18 (.int .i64 0))) fun t19 =>
  Pu (pickA t15 t19 (.bool false)) fun t20 =>
  R t20 H_1
theorem F151.eq (a0 : AV) (H : AHeap) (R : AV → AHeap → Prop) : F151 a0 H R = wpE Tryz.prog kp (kp 151) (bodyOf Tryz.f151) (retE Tryz.prog Tryz.f151 R) (argsT [a0] 0 .nil) H := by kernel_rfl
theorem F151.ca {a0 : AV} {H : AHeap} {R : AV → AHeap → Prop} (h : F151 a0 H R) : Ca Tryz.prog kp 151 [a0] H R :=
  Ca.intro (P := Tryz.prog) (kp := kp) (f := 151) (fn := Tryz.f151) (args := [a0]) Tryz.func151 (by kernel_rfl) (Eq.mp (F151.eq a0 H R) h)

-- incunable/choice.New
def F152.T0 (H_3 : AHeap) (b : ABlk × (Nat → AV)) (t27 : AV) (t28 : AV) (x : AV) : Tm := tmL [(6, (b.2 (H_3.n + 11))), (27, t27), (28, t28), (29, x)]
def F152.B0 (R : AV → AHeap → Prop) (H_3 : AHeap) (b : ABlk × (Nat → AV)) (t27 : AV) (t28 : AV) (X0 : Tm → AHeap → Prop) (x : AV) (H_9 : AHeap) : Prop :=
  Pu (aBin Tryz.prog .lss 3 x t28) fun t30 =>
  Br t30 (
    Pu (ixS 3 t27 x) fun t31 =>
    Pu (ldG 3 H_9 t31) fun t32 =>
    Nw (.cells 3 [.int .i64 0, .int .i64 0, .int .i64 0]) (fun h => (.ptr h 0)) H_9 fun t8 H_10 =>
    Pu (stA 3 H_10 t8 t32) fun H_11 =>
    Pu (fdP 0 t8) fun t33 =>
    Pu (ldS H_11 t33) fun t34 =>
    Pu (fdP 1 t8) fun t35 =>
    Pu (ldS H_11 t35) fun t36 =>
    Pu (bdS [.int .i64 0, .int .i64 0] [(0, 1, t34), (1, 1, t36)]) fun t37 =>
    Nw (.cells 2 [.int .i64 0, .int .i64 0]) (fun h => (.ptr h 0)) H_11 fun t9 H_12 =>
    Pu (stA 2 H_12 t9 t37) fun H_13 =>
    Cq (hUp H_13 13) fun H_14 =>
    Pu (nilC (b.2 (H_3.n + 11))) fun t39 =>
    Pu (fdP 2 t39) fun t40 =>
    Pu (ldS H_14 t40) fun t41 =>
    Pu (ldG 2 H_14 t9) fun t42 =>
    Pu (fdP 2 t8) fun t44 =>
    Pu (ldS H_14 t44) fun t45 =>
    Pu (bdL 1 [.int .i64 0] [(0, 1, t45)]) fun t46 =>
    Pp (mapEntryA Tryz.prog H_14 319 t41 t42) fun t47 H_15 =>
    Pu (exT t47 0) fun t43 =>
    Pp (appendA Tryz.prog H_15 #[24, 24] [t43, t46]) fun t48 H_16 =>
    Pu (exT t47 1) fun t49 =>
    Pp ((entryStoreA H_16 t41 t49 t48).map fun h => (undefA, h)) fun _ H_17 =>
    ((StS t44 t45 H_14 ∧ True) ∧ (StG 2 t9 t42 H_14 ∧ True) ∧ (StS t40 t41 H_14 ∧ True) ∧ True) ∧
    Pu (aBin Tryz.prog .add 3 x (.int .i64 1)) fun t50 =>
    X0 (F152.T0 H_3 b t27 t28 (t50)) H_17)
  (
    R (.tup [(b.2 (H_3.n + 11)), (.int .i64 0)]) H_9)
def F152.L0 (R : AV → AHeap → Prop) (H_3 : AHeap) (b : ABlk × (Nat → AV)) (t27 : AV) (t28 : AV) (x : AV) (H_9 : AHeap) : Prop := loopW (kp 152) (subC [1, 1, 1, 0, 1, 1, 1] (bodyOf Tryz.f152)) (wpE Tryz.prog kp (kp 152) (subC [1, 1, 1, 0, 1, 1, 1] (bodyOf Tryz.f152))) (kBlock 0 (kSeq (wpE Tryz.prog kp (kp 152) (subC [1, 1, 1, 1] (bodyOf Tryz.f152))) (retE Tryz.prog Tryz.f152 R))) (F152.T0 H_3 b t27 t28 x) H_9
theorem F152.B0_eq (R : AV → AHeap → Prop) (H_3 : AHeap) (b : ABlk × (Nat → AV)) (t27 : AV) (t28 : AV) (X0 : Tm → AHeap → Prop) (x : AV) (H_9 : AHeap) : F152.B0 R H_3 b t27 t28 X0 x H_9 = wpE Tryz.prog kp (kp 152) (subC [1, 1, 1, 0, 1, 1, 1] (bodyOf Tryz.f152)) (kLoop (keepL (kp 152) (subC [1, 1, 1, 0, 1, 1, 1] (bodyOf Tryz.f152))) (kBlock 0 (kSeq (wpE Tryz.prog kp (kp 152) (subC [1, 1, 1, 1] (bodyOf Tryz.f152))) (retE Tryz.prog Tryz.f152 R))) X0) (F152.T0 H_3 b t27 t28 x) H_9 := by kernel_rfl
theorem F152.L0_of (R : AV → AHeap → Prop) (H_3 : AHeap) (b : ABlk × (Nat → AV)) (t27 : AV) (t28 : AV) (J : Nat → AV → AHeap → Prop) (step : ∀ nn xx HH, J nn xx HH → ∀ XX : Tm → AHeap → Prop, (∀ mm yy H', mm < nn → J mm yy H' → XX (F152.T0 H_3 b t27 t28 yy) H') → F152.B0 R H_3 b t27 t28 XX xx HH) : ∀ nn xx HH, J nn xx HH → F152.L0 R H_3 b t27 t28 xx HH :=
  loop_rule (F152.T0 H_3 b t27 t28) (F152.B0 R H_3 b t27 t28) (F152.B0_eq R H_3 b t27 t28) J step
theorem F152.L0_un (R : AV → AHeap → Prop) (H_3 : AHeap) (b : ABlk × (Nat → AV)) (t27 : AV) (t28 : AV) (xx : AV) (HH : AHeap) (hh : ∀ XX : Tm → AHeap → Prop, (∀ yy H', F152.L0 R H_3 b t27 t28 yy H' → XX (F152.T0 H_3 b t27 t28 yy) H') → F152.B0 R H_3 b t27 t28 XX xx HH) : F152.L0 R H_3 b t27 t28 xx HH :=
  loop_once (F152.T0 H_3 b t27 t28) (F152.B0 R H_3 b t27 t28) (F152.B0_eq R H_3 b t27 t28) xx HH hh
def F152 (a0 a1 : AV) (H : AHeap) (R : AV → AHeap → Prop) : Prop :=
  Nb (bxA 7 a0) H fun t2 H_1 =>
  Nb (bxA 6 a1) H_1 fun t3 H_2 =>
  Pu (ldG 7 H_2 t2) fun t10 =>
  Pu (ldG 6 H_2 t3) fun t11 =>
  Ca Tryz.prog kp 227 [t10, t11] H_2 fun t12 H_3 =>
  Pu (aUn .not t12) fun t13 =>
  Br t13 (
    R (.tup [.nilp, (.int .i64 2)]) H_3)
  (
    Cq (hUp H_3 13) fun H_4 =>
    Pu (fdP 0 t3) fun t14 =>
    Pu (ldS H_4 t14) fun t15 =>
    Ca Tryz.prog kp 228 [t15] H_4 fun t16 H_5 =>
    Pu (fdP 1 t3) fun t17 =>
    Pu (ldS H_5 t17) fun t18 =>
    Ca Tryz.prog kp 228 [t18] H_5 fun t19 H_6 =>
    Pu (fdP 4 t3) fun t20 =>
    Pu (ldS H_6 t20) fun t21 =>
    Ca Tryz.prog kp 166 [t21] H_6 fun t22 H_7 =>
    Pu (aBuild Tryz.prog 321 [(0, t16), (1, t19), (3, t22), (2, (.map (H_3.n + 9)))]) fun t24 =>
    Pu (bxA 6 t24) fun b =>
    ((StS t20 t21 H_4 ∧ StS t20 t21 H_5 ∧ StS t20 t21 H_6 ∧ True) ∧ (StS t17 t18 H_4 ∧ StS t17 t18 H_5 ∧ True) ∧ (StS t14 t15 H_4 ∧ True) ∧ True) ∧
    Cq ((H_7.set (H_3.n + 9) (.map [] 0)).set (H_3.n + 11) (b.1)) fun H_8 =>
    Pu (fdP 2 t3) fun t26 =>
    Pu (ldS H_8 t26) fun t27 =>
    Pu (lnS t27) fun t28 =>
    F152.L0 R H_3 b t27 t28 ((.int .i64 0)) H_8)
theorem F152.eq (a0 a1 : AV) (H : AHeap) (R : AV → AHeap → Prop) : F152 a0 a1 H R = wpE Tryz.prog kp (kp 152) (bodyOf Tryz.f152) (retE Tryz.prog Tryz.f152 R) (argsT [a0, a1] 0 .nil) H := by kernel_rfl
theorem F152.ca {a0 a1 : AV} {H : AHeap} {R : AV → AHeap → Prop} (h : F152 a0 a1 H R) : Ca Tryz.prog kp 152 [a0, a1] H R :=
  Ca.intro (P := Tryz.prog) (kp := kp) (f := 152) (fn := Tryz.f152) (args := [a0, a1]) Tryz.func152 (by kernel_rfl) (Eq.mp (F152.eq a0 a1 H R) h)

-- incunable/array.New
def F153.T0 (a1 : AV) (t2 : AV) (H_3 : AHeap) (b_2 : ABlk × (Nat → AV)) (t35 : AV) (x : AV) : Tm := tmL [(1, a1), (2, t2), (6, (b_2.2 (H_3.n + 11))), (35, t35), (36, x)]
def F153.T1 (a1 : AV) (t2 : AV) (H_3 : AHeap) (b_2 : ABlk × (Nat → AV)) (t51 : AV) (x1 : AV) : Tm := tmL [(2, t2), (6, (b_2.2 (H_3.n + 11))), (50, a1), (51, t51), (52, x1)]
def F153.B1 (a1 : AV) (R : AV → AHeap → Prop) (t2 : AV) (H_3 : AHeap) (b_2 : ABlk × (Nat → AV)) (t51 : AV) (X1 : Tm → AHeap → Prop) (x1 : AV) (H_11 : AHeap) : Prop :=
  Pu (aBin Tryz.prog .lss 3 x1 t51) fun t53 =>
  Br t53 (
    Pu (ixS 1 a1 x1) fun t54 =>
    Pu (ldS H_11 t54) fun t55 =>
    Cq (hUp H_11 13) fun H_12 =>
    Pu (nilC (b_2.2 (H_3.n + 11))) fun t57 =>
    Pu (fdP 7 t57) fun t58 =>
    Pu (ldS H_12 t58) fun t59 =>
    Pu (fdP 2 t2) fun t61 =>
    Pu (ldS H_12 t61) fun t62 =>
    Pu (aBin Tryz.prog .mul 3 t55 t62) fun t63 =>
    Pu (ixS 3 t59 t63) fun t64 =>
    Pu (fdP 0 t64) fun t65 =>
    Pu (fdP 0 t65) fun t66 =>
    Pu (ldS H_12 t66) fun t67 =>
    ((StS t66 t67 H_12 ∧ True) ∧ (StS t61 t62 H_12 ∧ True) ∧ (StS t58 t59 H_12 ∧ True) ∧ True) ∧
    Pu (lnS t67) fun t70 =>
    Pu (aBin Tryz.prog .sub 3 t70 (.int .i64 1)) fun t71 =>
    Pu (ixS 1 t67 t71) fun t72 =>
    Pu (stA 1 H_12 t72 (.int .u8 0)) fun H_13 =>
    Pu (aBin Tryz.prog .add 3 x1 (.int .i64 1)) fun t73 =>
    X1 (F153.T1 a1 t2 H_3 b_2 t51 (t73)) H_13)
  (
    R (.tup [(b_2.2 (H_3.n + 11)), (.int .i64 0)]) H_11)
def F153.L1 (a1 : AV) (R : AV → AHeap → Prop) (t2 : AV) (H_3 : AHeap) (b_2 : ABlk × (Nat → AV)) (t51 : AV) (x1 : AV) (H_11 : AHeap) : Prop := loopW (kp 153) (subC [1, 1, 1, 1, 0, 1, 1, 1] (bodyOf Tryz.f153)) (wpE Tryz.prog kp (kp 153) (subC [1, 1, 1, 1, 0, 1, 1, 1] (bodyOf Tryz.f153))) (kBlock 2 (kSeq (wpE Tryz.prog kp (kp 153) (subC [1, 1, 1, 1, 1] (bodyOf Tryz.f153))) (retE Tryz.prog Tryz.f153 R))) (F153.T1 a1 t2 H_3 b_2 t51 x1) H_11
theorem F153.B1_eq (a1 : AV) (R : AV → AHeap → Prop) (t2 : AV) (H_3 : AHeap) (b_2 : ABlk × (Nat → AV)) (t51 : AV) (X1 : Tm → AHeap → Prop) (x1 : AV) (H_11 : AHeap) : F153.B1 a1 R t2 H_3 b_2 t51 X1 x1 H_11 = wpE Tryz.prog kp (kp 153) (subC [1, 1, 1, 1, 0, 1, 1, 1] (bodyOf Tryz.f153)) (kLoop (keepL (kp 153) (subC [1, 1, 1, 1, 0, 1, 1, 1] (bodyOf Tryz.f153))) (kBlock 2 (kSeq (wpE Tryz.prog kp (kp 153) (subC [1, 1, 1, 1, 1] (bodyOf Tryz.f153))) (retE Tryz.prog Tryz.f153 R))) X1) (F153.T1 a1 t2 H_3 b_2 t51 x1) H_11 := by kernel_rfl
theorem F153.L1_of (a1 : AV) (R : AV → AHeap → Prop) (t2 : AV) (H_3 : AHeap) (b_2 : ABlk × (Nat → AV)) (t51 : AV) (J : Nat → AV → AHeap → Prop) (step : ∀ nn xx HH, J nn xx HH → ∀ XX : Tm → AHeap → Prop, (∀ mm yy H', mm < nn → J mm yy H' → XX (F153.T1 a1 t2 H_3 b_2 t51 yy) H') → F153.B1 a1 R t2 H_3 b_2 t51 XX xx HH) : ∀ nn xx HH, J nn xx HH → F153.L1 a1 R t2 H_3 b_2 t51 xx HH :=
  loop_rule (F153.T1 a1 t2 H_3 b_2 t51) (F153.B1 a1 R t2 H_3 b_2 t51) (F153.B1_eq a1 R t2 H_3 b_2 t51) J step
theorem F153.L1_un (a1 : AV) (R : AV → AHeap → Prop) (t2 : AV) (H_3 : AHeap) (b_2 : ABlk × (Nat → AV)) (t51 : AV) (xx : AV) (HH : AHeap) (hh : ∀ XX : Tm → AHeap → Prop, (∀ yy H', F153.L1 a1 R t2 H_3 b_2 t51 yy H' → XX (F153.T1 a1 t2 H_3 b_2 t51 yy) H') → F153.B1 a1 R t2 H_3 b_2 t51 XX xx HH) : F153.L1 a1 R t2 H_3 b_2 t51 xx HH :=
  loop_once (F153.T1 a1 t2 H_3 b_2 t51) (F153.B1 a1 R t2 H_3 b_2 t51) (F153.B1_eq a1 R t2 H_3 b_2 t51) xx HH hh
def F153.B0 (a1 : AV) (R : AV → AHeap → Prop) (t2 : AV) (H_3 : AHeap) (b_2 : ABlk × (Nat → AV)) (t35 : AV) (X0 : Tm → AHeap → Prop) (x : AV) (H_7 : AHeap) : Prop :=
  Pu (aBin Tryz.prog .lss 3 x t35) fun t37 =>
  Br t37 (
    Cq (hUp H_7 10) fun H_8 =>
    Pu (nilC (b_2.2 (H_3.n + 11))) fun t40 =>
    Pu (fdP 7 t40) fun t41 =>
    Pu (ldS H_8 t41) fun t42 =>
    Pu (ixS 3 t42 x) fun t44 =>
    Pu (fdP 0 t44) fun t45 =>
    Pu (ldG 7 H_8 t2) fun t46 =>
    Ca Tryz.prog kp 102 [t46] H_8 fun t47 H_9 =>
    Ca Tryz.prog kp 231 [t45, t47] H_9 fun t48 H_10 =>
    ((StG 7 t2 t46 H_8 ∧ True) ∧ (StS t41 t42 H_8 ∧ StS t41 t42 H_9 ∧ True) ∧ True) ∧
    Pu (aBin Tryz.prog .add 3 x (.int .i64 1)) fun t49 =>
    X0 (F153.T0 a1 t2 H_3 b_2 t35 (t49)) H_10)
  (
    Pu (lnS a1) fun t51 =>
    F153.L1 a1 R t2 H_3 b_2 t51 ((.int .i64 0)) H_7)
def F153.L0 (a1 : AV) (R : AV → AHeap → Prop) (t2 : AV) (H_3 : AHeap) (b_2 : ABlk × (Nat → AV)) (t35 : AV) (x : AV) (H_7 : AHeap) : Prop := loopW (kp 153) (subC [1, 1, 1, 0, 1, 1, 1] (bodyOf Tryz.f153)) (wpE Tryz.prog kp (kp 153) (subC [1, 1, 1, 0, 1, 1, 1] (bodyOf Tryz.f153))) (kBlock 0 (kSeq (wpE Tryz.prog kp (kp 153) (subC [1, 1, 1, 1] (bodyOf Tryz.f153))) (retE Tryz.prog Tryz.f153 R))) (F153.T0 a1 t2 H_3 b_2 t35 x) H_7
theorem F153.B0_eq (a1 : AV) (R : AV → AHeap → Prop) (t2 : AV) (H_3 : AHeap) (b_2 : ABlk × (Nat → AV)) (t35 : AV) (X0 : Tm → AHeap → Prop) (x : AV) (H_7 : AHeap) : F153.B0 a1 R t2 H_3 b_2 t35 X0 x H_7 = wpE Tryz.prog kp (kp 153) (subC [1, 1, 1, 0, 1, 1, 1] (bodyOf Tryz.f153)) (kLoop (keepL (kp 153) (subC [1, 1, 1, 0, 1, 1, 1] (bodyOf Tryz.f153))) (kBlock 0 (kSeq (wpE Tryz.prog kp (kp 153) (subC [1, 1, 1, 1] (bodyOf Tryz.f153))) (retE Tryz.prog Tryz.f153 R))) X0) (F153.T0 a1 t2 H_3 b_2 t35 x) H_7 := by kernel_rfl
theorem F153.L0_of (a1 : AV) (R : AV → AHeap → Prop) (t2 : AV) (H_3 : AHeap) (b_2 : ABlk × (Nat → AV)) (t35 : AV) (J : Nat → AV → AHeap → Prop) (step : ∀ nn xx HH, J nn xx HH → ∀ XX : Tm → AHeap → Prop, (∀ mm yy H', mm < nn → J mm yy H' → XX (F153.T0 a1 t2 H_3 b_2 t35 yy) H') → F153.B0 a1 R t2 H_3 b_2 t35 XX xx HH) : ∀ nn xx HH, J nn xx HH → F153.L0 a1 R t2 H_3 b_2 t35 xx HH :=
  loop_rule (F153.T0 a1 t2 H_3 b_2 t35) (F153.B0 a1 R t2 H_3 b_2 t35) (F153.B0_eq a1 R t2 H_3 b_2 t35) J step
theorem F153.L0_un (a1 : AV) (R : AV → AHeap → Prop) (t2 : AV) (H_3 : AHeap) (b_2 : ABlk × (Nat → AV)) (t35 : AV) (xx : AV) (HH : AHeap) (hh : ∀ XX : Tm → AHeap → Prop, (∀ yy H', F153.L0 a1 R t2 H_3 b_2 t35 yy H' → XX (F153.T0 a1 t2 H_3 b_2 t35 yy) H') → F153.B0 a1 R t2 H_3 b_2 t35 XX xx HH) : F153.L0 a1 R t2 H_3 b_2 t35 xx HH :=
  loop_once (F153.T0 a1 t2 H_3 b_2 t35) (F153.B0 a1 R t2 H_3 b_2 t35) (F153.B0_eq a1 R t2 H_3 b_2 t35) xx HH hh
def F153 (a0 a1 : AV) (H : AHeap) (R : AV → AHeap → Prop) : Prop :=
  Nb (bxA 7 a0) H fun t2 H_1 =>
  Pu (ldG 7 H_1 t2) fun t11 =>
  Ca Tryz.prog kp 144 [t11] H_1 fun t12 H_2 =>
  Pu (aBin Tryz.prog .neq 35 t12 (.int .i64 0)) fun t13 =>
  Gd t13 false (Pu (some a1)) fun t15 =>
  Gd t13 false (Pu (some (.fn (.func 230) [] [t2]))) fun t16 =>
  Gd2 t13 false H_2 (Ca Tryz.prog kp 229 [t15, t16] H_2) fun t17 H_3 =>
  Pu (pickA t13 (.bool true) t17) fun t18 =>
  Br t18 (
    R (.tup [.nilp, (.int .i64 2)]) H_3)
  (
    Cq (hUp H_3 13) fun H_4 =>
    Pu (ldG 7 H_4 t2) fun t19 =>
    Pu (fdP 1 t2) fun t20 =>
    Pu (ldS H_4 t20) fun t21 =>
    Pu (fdP 2 t2) fun t22 =>
    Pu (ldS H_4 t22) fun t23 =>
    Pu (aBin Tryz.prog .mul 3 t21 t23) fun t24 =>
    Pu (mkS 3 40 [.nils, .int .i64 0, .bool false] t24 t24) fun b =>
    Pu (fdP 1 t2) fun t26 =>
    Cq H_4 fun H_5 =>
    Pu (ldS H_5 t26) fun t27 =>
    Pu (mkS 1 8 [.int .i64 0] t27 t27) fun b_1 =>
    Pu (bdS [.int .i64 0, .int .i64 0, .int .i64 0, .int .i64 0, .int .i64 0, .int .i64 0, .int .i64 0, .nils, .nils] [(0, 7, t19), (7, 1, (b.2 (H_3.n + 6))), (8, 1, (b_1.2 (H_3.n + 9)))]) fun t29 =>
    Pu (bxA 9 t29) fun b_2 =>
    ((StS t26 t27 H_4 ∧ True) ∧ (StS t22 t23 H_4 ∧ True) ∧ (StS t20 t21 H_4 ∧ True) ∧ (StG 7 t2 t19 H_4 ∧ True) ∧ True) ∧
    Cq (((H_4.set (H_3.n + 6) (b.1)).set (H_3.n + 9) (b_1.1)).set (H_3.n + 11) (b_2.1)) fun H_6 =>
    Pu (nilC (b_2.2 (H_3.n + 11))) fun t32 =>
    Pu (fdP 7 t32) fun t33 =>
    Pu (ldS H_6 t33) fun t34 =>
    Pu (lnS t34) fun t35 =>
    F153.L0 a1 R t2 H_3 b_2 t35 ((.int .i64 0)) H_6)
theorem F153.eq (a0 a1 : AV) (H : AHeap) (R : AV → AHeap → Prop) : F153 a0 a1 H R = wpE Tryz.prog kp (kp 153) (bodyOf Tryz.f153) (retE Tryz.prog Tryz.f153 R) (argsT [a0, a1] 0 .nil) H := by kernel_rfl
theorem F153.ca {a0 a1 : AV} {H : AHeap} {R : AV → AHeap → Prop} (h : F153 a0 a1 H R) : Ca Tryz.prog kp 153 [a0, a1] H R :=
  Ca.intro (P := Tryz.prog) (kp := kp) (f := 153) (fn := Tryz.f153) (args := [a0, a1]) Tryz.func153 (by kernel_rfl) (Eq.mp (F153.eq a0 a1 H R) h)

end Go.Proofs.YtdjmoojonkjafaaGreat
