/- What functions of the program ask for, as propositions, each with the proof that the abstract machine asks for no more; printed by a program of mine. -/
import Derived.Test.YtdjmoojonkjafaaGreatFkp
set_option linter.unusedVariables false
set_option maxRecDepth 100000
set_option maxHeartbeats 4000000
namespace Go.Proofs.YtdjmoojonkjafaaGreat
open Go.AM Go.Proofs
-- (*incunable/judge.Judge).fits
def F288 (a0 : AV) (H : AHeap) (R : AV → AHeap → Prop) : Prop :=
  Pu (nilC a0) fun t11 =>
  Pu (fdP 8 t11) fun t12 =>
  Pu (ldS H t12) fun t13 =>
  Pu (aBin Tryz.prog .eql 3 t13 (.int .i64 8)) fun t14 =>
  Gd t14 false (Pu (some a0)) fun t16 =>
  Gd t14 false (Pu (nilC t16)) fun t17 =>
  Gd t14 false (Pu (fdP 8 t17)) fun t18 =>
  Gd t14 false (Pu (ldS H t18)) fun t19 =>
  Gd t14 false (Pu (aBin Tryz.prog .eql 3 t19 (.int .i64 5))) fun t20 =>
  Pu (pickA t14 (.bool true) t20) fun t21 =>
  Jn (fun (H_9 : AHeap) =>
    Cq (hUp H_9 9) fun H_10 =>
    Ca Tryz.prog kp 286 [a0, (.int .i64 0)] H_10 fun t79 H_11 =>
    Pu (nilC a0) fun t81 =>
    Pu (fdP 0 t81) fun t82 =>
    Pu (ldG 7 H_11 t82) fun t83 =>
    Ca Tryz.prog kp 123 [t83] H_11 fun t84 H_12 =>
    Pu (aBin Tryz.prog .lss 3 t79 t84) fun t85 =>
    ((StG 7 t82 t83 H_10 ∧ StG 7 t82 t83 H_11 ∧ True) ∧ True) ∧
    R t85 H_12) fun J =>
  Gd t21 true (Pu (some a0)) fun t25 =>
  Gd t21 true (Pu (nilC t25)) fun t26 =>
  Gd t21 true (Pu (fdP 9 t26)) fun t27 =>
  Gd t21 true (Pu (ldS H t27)) fun t28 =>
  Gd t21 true (Pu (lnS t28)) fun t29 =>
  Gd t21 true (Pu (aBin Tryz.prog .eql 3 t29 (.int .i64 4))) fun t30 =>
  Pu (pickA t21 t30 (.bool false)) fun t31 =>
  Br t31 (
    Cq (hUp H 14) fun H_1 =>
    Pu (nilC a0) fun t62 =>
    Pu (fdP 0 t62) fun t63 =>
    Pu (ldG 7 H_1 t63) fun t64 =>
    Ca Tryz.prog kp 286 [a0, (.int .i64 2)] H_1 fun t66 H_2 =>
    Ca Tryz.prog kp 121 [t64, t66] H_2 fun t67 H_3 =>
    Pu (exT t67 0) fun t68 =>
    Pu (exT t67 1) fun t69 =>
    Pu (exT t67 2) fun t70 =>
    ((StG 7 t63 t64 H_1 ∧ StG 7 t63 t64 H_2 ∧ True) ∧ True) ∧
    Pu (aUn .not t70) fun t72 =>
    Br t72 (
      R (.bool false) H_3)
    (
      Ca Tryz.prog kp 286 [a0, (.int .i64 0)] H_3 fun t75 H_4 =>
      Pu (nilC a0) fun t76 =>
      Pu (fdP 15 t76) fun t77 =>
      Pu (stA 1 H_4 t77 t75) fun H_5 =>
      J H_5))
  (
    Pu (nilC a0) fun t34 =>
    Pu (fdP 8 t34) fun t35 =>
    Pu (ldS H t35) fun t36 =>
    Pu (aBin Tryz.prog .eql 3 t36 (.int .i64 7)) fun t37 =>
    Gd t37 true (Pu (some a0)) fun t39 =>
    Gd t37 true (Pu (nilC t39)) fun t40 =>
    Gd t37 true (Pu (fdP 9 t40)) fun t41 =>
    Gd t37 true (Pu (ldS H t41)) fun t42 =>
    Gd t37 true (Pu (lnS t42)) fun t43 =>
    Gd t37 true (Pu (aBin Tryz.prog .eql 3 t43 (.int .i64 2))) fun t44 =>
    Pu (pickA t37 t44 (.bool false)) fun t45 =>
    Br t45 (
      J H)
    (
      Pu (nilC a0) fun t48 =>
      Pu (fdP 8 t48) fun t49 =>
      Pu (ldS H t49) fun t50 =>
      Pu (aBin Tryz.prog .eql 3 t50 (.int .i64 9)) fun t51 =>
      Gd t51 true (Pu (some a0)) fun t53 =>
      Gd t51 true (Pu (nilC t53)) fun t54 =>
      Gd t51 true (Pu (fdP 9 t54)) fun t55 =>
      Gd t51 true (Pu (ldS H t55)) fun t56 =>
      Gd t51 true (Pu (lnS t56)) fun t57 =>
      Gd t51 true (Pu (aBin Tryz.prog .eql 3 t57 (.int .i64 2))) fun t58 =>
      Pu (pickA t51 t58 (.bool false)) fun t59 =>
      Br t59 (
        Cq (hUp H 14) fun H_6 =>
        Pu (nilC a0) fun t88 =>
        Pu (fdP 0 t88) fun t89 =>
        Pu (ldG 7 H_6 t89) fun t90 =>
        Ca Tryz.prog kp 286 [a0, (.int .i64 0)] H_6 fun t92 H_7 =>
        Ca Tryz.prog kp 121 [t90, t92] H_7 fun t93 H_8 =>
        Pu (exT t93 0) fun t94 =>
        Pu (exT t93 1) fun t95 =>
        Pu (exT t93 2) fun t96 =>
        ((StG 7 t89 t90 H_6 ∧ StG 7 t89 t90 H_7 ∧ True) ∧ True) ∧
        R t96 H_8)
      (
        R (.bool true) H)))
theorem F288.eq (a0 : AV) (H : AHeap) (R : AV → AHeap → Prop) : F288 a0 H R = wpE Tryz.prog kp (kp 288) (bodyOf Tryz.f288) (retE Tryz.prog Tryz.f288 R) (argsT [a0] 0 .nil) H := by kernel_rfl
theorem F288.ca {a0 : AV} {H : AHeap} {R : AV → AHeap → Prop} (h : F288 a0 H R) : Ca Tryz.prog kp 288 [a0] H R :=
  Ca.intro (P := Tryz.prog) (kp := kp) (f := 288) (fn := Tryz.f288) (args := [a0]) Tryz.func288 (by kernel_rfl) (Eq.mp (F288.eq a0 H R) h)

-- incunable/cycle.Right
def F310 (a0 : AV) (H : AHeap) (R : AV → AHeap → Prop) : Prop :=
  Nb (bxA 2 a0) H fun t1 H_1 =>
  Pu (fdP 0 t1) fun t3 =>
  Pu (ldS H_1 t3) fun t4 =>
  Pu (aBin Tryz.prog .geq 3 t4 (.int .i64 1)) fun t5 =>
  Gd t5 true (Pu (fdP 0 t1)) fun t7 =>
  Gd t5 true (Pu (ldS H_1 t7)) fun t8 =>
  Gd t5 true (Pu (aBin Tryz.prog .leq 3 t8 (.int .i64 4))) fun t9 =>
  Pu (pickA t5 t9 (.bool false)) fun t10 =>
  R t10 H_1
theorem F310.eq (a0 : AV) (H : AHeap) (R : AV → AHeap → Prop) : F310 a0 H R = wpE Tryz.prog kp (kp 310) (bodyOf Tryz.f310) (retE Tryz.prog Tryz.f310 R) (argsT [a0] 0 .nil) H := by kernel_rfl
theorem F310.ca {a0 : AV} {H : AHeap} {R : AV → AHeap → Prop} (h : F310 a0 H R) : Ca Tryz.prog kp 310 [a0] H R :=
  Ca.intro (P := Tryz.prog) (kp := kp) (f := 310) (fn := Tryz.f310) (args := [a0]) Tryz.func310 (by kernel_rfl) (Eq.mp (F310.eq a0 H R) h)

-- (*incunable/chip.Chip).abort
def F311.T0 (a0 : AV) (t16 : AV) (t17 : AV) (x : AV) : Tm := tmL [(0, a0), (16, t16), (17, t17), (18, x)]
def F311.T1 (a0 : AV) (t30 : AV) (t31 : AV) (x1 : AV) : Tm := tmL [(0, a0), (30, t30), (31, t31), (32, x1)]
def F311.B1 (a0 : AV) (R : AV → AHeap → Prop) (t30 : AV) (t31 : AV) (X1 : Tm → AHeap → Prop) (x1 : AV) (H_7 : AHeap) : Prop :=
  Pu (aBin Tryz.prog .lss 3 x1 t31) fun t33 =>
  Br t33 (
    Pu (ixS 1 t30 x1) fun t34 =>
    Pu (ldS H_7 t34) fun t35 =>
    Cq (hUp H_7 8) fun H_8 =>
    Pu (nilC a0) fun t37 =>
    Pu (fdP 7 t37) fun t38 =>
    Pu (ldS H_8 t38) fun t39 =>
    Ca Tryz.prog kp 331 [a0] H_8 fun t42 H_9 =>
    Ca Tryz.prog kp 330 [t39, t35, t42] H_9 fun t43 H_10 =>
    ((StS t38 t39 H_8 ∧ StS t38 t39 H_9 ∧ True) ∧ True) ∧
    Pu (aBin Tryz.prog .add 3 x1 (.int .i64 1)) fun t44 =>
    X1 (F311.T1 a0 t30 t31 (t44)) H_10)
  (
    Pu (bdS [.nils, .nils, .nils] []) fun t48 =>
    Pu (nilC a0) fun t49 =>
    Pu (fdP 20 t49) fun t50 =>
    Pu (stA 3 H_7 t50 t48) fun H_11 =>
    Pu (nilC a0) fun t51 =>
    Pu (fdP 23 t51) fun t52 =>
    Pu (stA 1 H_11 t52 .nils) fun H_12 =>
    Pu (nilC a0) fun t53 =>
    Pu (fdP 24 t53) fun t54 =>
    Pu (stA 1 H_12 t54 (.int .i64 0)) fun H_13 =>
    R (.tup []) H_13)
def F311.L1 (a0 : AV) (R : AV → AHeap → Prop) (t30 : AV) (t31 : AV) (x1 : AV) (H_7 : AHeap) : Prop := loopW (kp 311) (subC [1, 0, 1, 1, 1] (bodyOf Tryz.f311)) (wpE Tryz.prog kp (kp 311) (subC [1, 0, 1, 1, 1] (bodyOf Tryz.f311))) (kBlock 2 (kSeq (wpE Tryz.prog kp (kp 311) (subC [1, 1] (bodyOf Tryz.f311))) (retE Tryz.prog Tryz.f311 R))) (F311.T1 a0 t30 t31 x1) H_7
theorem F311.B1_eq (a0 : AV) (R : AV → AHeap → Prop) (t30 : AV) (t31 : AV) (X1 : Tm → AHeap → Prop) (x1 : AV) (H_7 : AHeap) : F311.B1 a0 R t30 t31 X1 x1 H_7 = wpE Tryz.prog kp (kp 311) (subC [1, 0, 1, 1, 1] (bodyOf Tryz.f311)) (kLoop (keepL (kp 311) (subC [1, 0, 1, 1, 1] (bodyOf Tryz.f311))) (kBlock 2 (kSeq (wpE Tryz.prog kp (kp 311) (subC [1, 1] (bodyOf Tryz.f311))) (retE Tryz.prog Tryz.f311 R))) X1) (F311.T1 a0 t30 t31 x1) H_7 := by kernel_rfl
theorem F311.L1_of (a0 : AV) (R : AV → AHeap → Prop) (t30 : AV) (t31 : AV) (J : Nat → AV → AHeap → Prop) (step : ∀ nn xx HH, J nn xx HH → ∀ XX : Tm → AHeap → Prop, (∀ mm yy H', mm < nn → J mm yy H' → XX (F311.T1 a0 t30 t31 yy) H') → F311.B1 a0 R t30 t31 XX xx HH) : ∀ nn xx HH, J nn xx HH → F311.L1 a0 R t30 t31 xx HH :=
  loop_rule (F311.T1 a0 t30 t31) (F311.B1 a0 R t30 t31) (F311.B1_eq a0 R t30 t31) J step
theorem F311.L1_un (a0 : AV) (R : AV → AHeap → Prop) (t30 : AV) (t31 : AV) (xx : AV) (HH : AHeap) (hh : ∀ XX : Tm → AHeap → Prop, (∀ yy H', F311.L1 a0 R t30 t31 yy H' → XX (F311.T1 a0 t30 t31 yy) H') → F311.B1 a0 R t30 t31 XX xx HH) : F311.L1 a0 R t30 t31 xx HH :=
  loop_once (F311.T1 a0 t30 t31) (F311.B1 a0 R t30 t31) (F311.B1_eq a0 R t30 t31) xx HH hh
def F311.B0 (a0 : AV) (R : AV → AHeap → Prop) (t16 : AV) (t17 : AV) (X0 : Tm → AHeap → Prop) (x : AV) (H_3 : AHeap) : Prop :=
  Pu (aBin Tryz.prog .lss 3 x t17) fun t19 =>
  Br t19 (
    Pu (ixS 2 t16 x) fun t20 =>
    Pu (ldG 2 H_3 t20) fun t21 =>
    Nw (.cells 2 [.int .i64 0, .nils]) (fun h => (.ptr h 0)) H_3 fun t3 H_4 =>
    Pu (stA 2 H_4 t3 t21) fun H_5 =>
    Pu (ldG 2 H_5 t3) fun t23 =>
    Ca Tryz.prog kp 329 [a0, t23] H_5 fun t24 H_6 =>
    Pu (aBin Tryz.prog .add 3 x (.int .i64 1)) fun t25 =>
    X0 (F311.T0 a0 t16 t17 (t25)) H_6)
  (
    Pu (nilC a0) fun t27 =>
    Pu (fdP 20 t27) fun t28 =>
    Pu (fdP 2 t28) fun t29 =>
    Pu (ldS H_3 t29) fun t30 =>
    Pu (lnS t30) fun t31 =>
    F311.L1 a0 R t30 t31 ((.int .i64 0)) H_3)
def F311.L0 (a0 : AV) (R : AV → AHeap → Prop) (t16 : AV) (t17 : AV) (x : AV) (H_3 : AHeap) : Prop := loopW (kp 311) (subC [0, 1, 1, 1] (bodyOf Tryz.f311)) (wpE Tryz.prog kp (kp 311) (subC [0, 1, 1, 1] (bodyOf Tryz.f311))) (kBlock 0 (kSeq (wpE Tryz.prog kp (kp 311) (subC [1] (bodyOf Tryz.f311))) (retE Tryz.prog Tryz.f311 R))) (F311.T0 a0 t16 t17 x) H_3
theorem F311.B0_eq (a0 : AV) (R : AV → AHeap → Prop) (t16 : AV) (t17 : AV) (X0 : Tm → AHeap → Prop) (x : AV) (H_3 : AHeap) : F311.B0 a0 R t16 t17 X0 x H_3 = wpE Tryz.prog kp (kp 311) (subC [0, 1, 1, 1] (bodyOf Tryz.f311)) (kLoop (keepL (kp 311) (subC [0, 1, 1, 1] (bodyOf Tryz.f311))) (kBlock 0 (kSeq (wpE Tryz.prog kp (kp 311) (subC [1] (bodyOf Tryz.f311))) (retE Tryz.prog Tryz.f311 R))) X0) (F311.T0 a0 t16 t17 x) H_3 := by kernel_rfl
theorem F311.L0_of (a0 : AV) (R : AV → AHeap → Prop) (t16 : AV) (t17 : AV) (J : Nat → AV → AHeap → Prop) (step : ∀ nn xx HH, J nn xx HH → ∀ XX : Tm → AHeap → Prop, (∀ mm yy H', mm < nn → J mm yy H' → XX (F311.T0 a0 t16 t17 yy) H') → F311.B0 a0 R t16 t17 XX xx HH) : ∀ nn xx HH, J nn xx HH → F311.L0 a0 R t16 t17 xx HH :=
  loop_rule (F311.T0 a0 t16 t17) (F311.B0 a0 R t16 t17) (F311.B0_eq a0 R t16 t17) J step
theorem F311.L0_un (a0 : AV) (R : AV → AHeap → Prop) (t16 : AV) (t17 : AV) (xx : AV) (HH : AHeap) (hh : ∀ XX : Tm → AHeap → Prop, (∀ yy H', F311.L0 a0 R t16 t17 yy H' → XX (F311.T0 a0 t16 t17 yy) H') → F311.B0 a0 R t16 t17 XX xx HH) : F311.L0 a0 R t16 t17 xx HH :=
  loop_once (F311.T0 a0 t16 t17) (F311.B0 a0 R t16 t17) (F311.B0_eq a0 R t16 t17) xx HH hh
def F311 (a0 : AV) (H : AHeap) (R : AV → AHeap → Prop) : Prop :=
  Cq (hUp H 13) fun H_1 =>
  Pu (nilC a0) fun t7 =>
  Pu (fdP 23 t7) fun t8 =>
  Pu (ldS H_1 t8) fun t9 =>
  Pu (nilC a0) fun t11 =>
  Pu (fdP 20 t11) fun t12 =>
  Pu (fdP 1 t12) fun t13 =>
  Pu (ldS H_1 t13) fun t14 =>
  Pu (bdL 2 [.nils, .nils] [(0, 1, t9), (1, 1, t14)]) fun t15 =>
  Ca Tryz.prog kp 328 [t15] H_1 fun t16 H_2 =>
  Pu (lnS t16) fun t17 =>
  ((StS t13 t14 H_1 ∧ True) ∧ (StS t8 t9 H_1 ∧ True) ∧ True) ∧
  F311.L0 a0 R t16 t17 ((.int .i64 0)) H_2
theorem F311.eq (a0 : AV) (H : AHeap) (R : AV → AHeap → Prop) : F311 a0 H R = wpE Tryz.prog kp (kp 311) (bodyOf Tryz.f311) (retE Tryz.prog Tryz.f311 R) (argsT [a0] 0 .nil) H := by kernel_rfl
theorem F311.ca {a0 : AV} {H : AHeap} {R : AV → AHeap → Prop} (h : F311 a0 H R) : Ca Tryz.prog kp 311 [a0] H R :=
  Ca.intro (P := Tryz.prog) (kp := kp) (f := 311) (fn := Tryz.f311) (args := [a0]) Tryz.func311 (by kernel_rfl) (Eq.mp (F311.eq a0 H R) h)

-- (*incunable/chip.Chip).hear
def F312 (a0 a1 : AV) (H : AHeap) (R : AV → AHeap → Prop) : Prop :=
  Nb (bxA 2 a1) H fun t3 H_1 =>
  Pu (nilC a0) fun t8 =>
  Pu (fdP 19 t8) fun t9 =>
  Pu (ldS H_1 t9) fun t10 =>
  Pu (aBin Tryz.prog .gtr 3 t10 (.int .i64 0)) fun t11 =>
  Gd t11 false (Pu (some a0)) fun t13 =>
  Gd t11 false (Pu (nilC t13)) fun t14 =>
  Gd t11 false (Pu (fdP 20 t14)) fun t15 =>
  Gd t11 false (Pu (ldG 3 H_1 t15)) fun t16 =>
  Gd2 t11 false H_1 (Ca Tryz.prog kp 332 [t16] H_1) fun t17 H_2 =>
  Pu (pickA t11 (.bool true) t17) fun t18 =>
  Pu (fdP 0 t3) fun t19 =>
  Pu (ldS H_2 t19) fun t20 =>
  Pu (aBin Tryz.prog .eql 3 t20 (.int .i64 4)) fun t21 =>
  Gd t21 true (Pu (some a0)) fun t23 =>
  Gd t21 true (Pu (nilC t23)) fun t24 =>
  Gd t21 true (Pu (fdP 12 t24)) fun t25 =>
  Gd t21 true (Pu (ldS H_2 t25)) fun t26 =>
  Gd t21 true (Pu (aBin Tryz.prog .eql 3 t26 (.int .i64 1))) fun t27 =>
  Pu (pickA t21 t27 (.bool false)) fun t28 =>
  Pu (fdP 0 t3) fun t32 =>
  Pu (ldS H_2 t32) fun t33 =>
  Pu (aBin Tryz.prog .eql 3 t33 (.int .i64 1)) fun t34 =>
  Gd t34 true (Pu (fdP 1 t3)) fun t36 =>
  Gd t34 true (Pu (ldS H_2 t36)) fun t37 =>
  Gd t34 true (Pu (aBin Tryz.prog .eql 5 t37 (.int .u8 255))) fun t38 =>
  Pu (pickA t34 t38 (.bool false)) fun t39 =>
  Jn (fun (H_20 : AHeap) =>
    R (.int .u8 0) H_20) fun J =>
  Br t39 (
    Ca Tryz.prog kp 311 [a0] H_2 fun t41 H_3 =>
    Ca Tryz.prog kp 333 [a0] H_3 fun t43 H_4 =>
    Pu (nilC a0) fun t47 =>
    Pu (fdP 16 t47) fun t48 =>
    Pu (stA 1 H_4 t48 (.int .i64 0)) fun H_5 =>
    Pu (nilC a0) fun t49 =>
    Pu (fdP 25 t49) fun t50 =>
    Pu (stA 1 H_5 t50 (.bool false)) fun H_6 =>
    Pu (nilC a0) fun t51 =>
    Pu (fdP 26 t51) fun t52 =>
    Pu (stA 1 H_6 t52 (.bool false)) fun H_7 =>
    Pu (nilC a0) fun t56 =>
    Pu (fdP 8 t56) fun t57 =>
    Pu (ldS H_7 t57) fun t58 =>
    Ca Tryz.prog kp 334 [t58] H_7 fun t59 H_8 =>
    Pu (nilC a0) fun t60 =>
    Pu (fdP 19 t60) fun t61 =>
    Pu (stA 1 H_8 t61 t59) fun H_9 =>
    Pu (nilC a0) fun t62 =>
    Pu (fdP 12 t62) fun t63 =>
    Pu (stA 1 H_9 t63 (.int .i64 0)) fun H_10 =>
    J H_10)
  (
    Pu (fdP 0 t3) fun t65 =>
    Pu (ldS H_2 t65) fun t66 =>
    Pu (aBin Tryz.prog .eql 3 t66 (.int .i64 1)) fun t67 =>
    Gd t67 true (Pu (fdP 1 t3)) fun t69 =>
    Gd t67 true (Pu (ldS H_2 t69)) fun t70 =>
    Gd t67 true (Pu (aBin Tryz.prog .eql 5 t70 (.int .u8 112))) fun t71 =>
    Pu (pickA t67 t71 (.bool false)) fun t72 =>
    Jn (fun (H_19 : AHeap) =>
      J H_19) fun J_1 =>
    Br t72 (
      Pu (nilC a0) fun t74 =>
      Pu (fdP 12 t74) fun t75 =>
      Pu (stA 1 H_2 t75 (.int .i64 1)) fun H_11 =>
      J_1 H_11)
    (
      Gd t18 true (Pu (some t28)) fun t79 =>
      Gd t18 true (Pu (aUn .not t79)) fun t80 =>
      Pu (pickA t18 t80 (.bool false)) fun t81 =>
      Jn (fun (H_18 : AHeap) =>
        J_1 H_18) fun J_2 =>
      Br t81 (
        Pu (fdP 0 t3) fun t82 =>
        Pu (ldS H_2 t82) fun t83 =>
        Pu (aBin Tryz.prog .eql 3 t83 (.int .i64 4)) fun t84 =>
        Br t84 (
          R (.int .u8 255) H_2)
        (
          J_2 H_2))
      (
        Pu (fdP 0 t3) fun t86 =>
        Pu (ldS H_2 t86) fun t87 =>
        Pu (aBin Tryz.prog .eql 3 t87 (.int .i64 1)) fun t88 =>
        Jn (fun (H_17 : AHeap) =>
          J_2 H_17) fun J_3 =>
        Br t88 (
          Pu (fdP 1 t3) fun t90 =>
          Pu (ldS H_2 t90) fun t91 =>
          Ca Tryz.prog kp 335 [a0, t91] H_2 fun t92 H_12 =>
          J_3 H_12)
        (
          Pu (fdP 0 t3) fun t94 =>
          Pu (ldS H_2 t94) fun t95 =>
          Pu (aBin Tryz.prog .eql 3 t95 (.int .i64 2)) fun t96 =>
          Jn (fun (H_16 : AHeap) =>
            J_3 H_16) fun J_4 =>
          Br t96 (
            Pu (fdP 1 t3) fun t98 =>
            Pu (ldS H_2 t98) fun t99 =>
            Ca Tryz.prog kp 336 [a0, t99] H_2 fun t100 H_13 =>
            J_4 H_13)
          (
            Pu (fdP 0 t3) fun t102 =>
            Pu (ldS H_2 t102) fun t103 =>
            Pu (aBin Tryz.prog .eql 3 t103 (.int .i64 3)) fun t104 =>
            Br t104 (
              Pu (fdP 1 t3) fun t106 =>
              Pu (ldS H_2 t106) fun t107 =>
              Ca Tryz.prog kp 337 [a0, t107] H_2 fun t108 H_14 =>
              J_4 H_14)
            (
              Ca Tryz.prog kp 338 [a0] H_2 fun t30 H_15 =>
              R t30 H_15))))))
theorem F312.eq (a0 a1 : AV) (H : AHeap) (R : AV → AHeap → Prop) : F312 a0 a1 H R = wpE Tryz.prog kp (kp 312) (bodyOf Tryz.f312) (retE Tryz.prog Tryz.f312 R) (argsT [a0, a1] 0 .nil) H := by kernel_rfl
theorem F312.ca {a0 a1 : AV} {H : AHeap} {R : AV → AHeap → Prop} (h : F312 a0 a1 H R) : Ca Tryz.prog kp 312 [a0, a1] H R :=
  Ca.intro (P := Tryz.prog) (kp := kp) (f := 312) (fn := Tryz.f312) (args := [a0, a1]) Tryz.func312 (by kernel_rfl) (Eq.mp (F312.eq a0 a1 H R) h)

-- slices.IndexFunc[[]incunable/api.Turn,incunable/api.Turn]
def F313.T0 (a0 : AV) (a1 : AV) (t7 : AV) (x : AV) : Tm := tmL [(0, a0), (1, a1), (7, t7), (8, x)]
def F313.B0 (a0 : AV) (a1 : AV) (R : AV → AHeap → Prop) (t7 : AV) (X0 : Tm → AHeap → Prop) (x : AV) (H_1 : AHeap) : Prop :=
  Pu (aBin Tryz.prog .lss 3 x t7) fun t9 =>
  Br t9 (
    Pu (ixS 3 a0 x) fun t14 =>
    Pu (ldG 3 H_1 t14) fun t15 =>
    callF Tryz.prog kp a1 [t15] H_1 fun t16 H_2 =>
    Br t16 (
      R x H_2)
    (
      Pu (aBin Tryz.prog .add 3 x (.int .i64 1)) fun t18 =>
      X0 (F313.T0 a0 a1 t7 (t18)) H_2))
  (
    R (.int .i64 (-1)) H_1)
def F313.L0 (a0 : AV) (a1 : AV) (R : AV → AHeap → Prop) (t7 : AV) (x : AV) (H_1 : AHeap) : Prop := loopW (kp 313) (subC [1, 0, 1, 1, 1] (bodyOf Tryz.f313)) (wpE Tryz.prog kp (kp 313) (subC [1, 0, 1, 1, 1] (bodyOf Tryz.f313))) (kBlock 0 (kSeq (wpE Tryz.prog kp (kp 313) (subC [1, 1] (bodyOf Tryz.f313))) (retE Tryz.prog Tryz.f313 R))) (F313.T0 a0 a1 t7 x) H_1
theorem F313.B0_eq (a0 : AV) (a1 : AV) (R : AV → AHeap → Prop) (t7 : AV) (X0 : Tm → AHeap → Prop) (x : AV) (H_1 : AHeap) : F313.B0 a0 a1 R t7 X0 x H_1 = wpE Tryz.prog kp (kp 313) (subC [1, 0, 1, 1, 1] (bodyOf Tryz.f313)) (kLoop (keepL (kp 313) (subC [1, 0, 1, 1, 1] (bodyOf Tryz.f313))) (kBlock 0 (kSeq (wpE Tryz.prog kp (kp 313) (subC [1, 1] (bodyOf Tryz.f313))) (retE Tryz.prog Tryz.f313 R))) X0) (F313.T0 a0 a1 t7 x) H_1 := by kernel_rfl
theorem F313.L0_of (a0 : AV) (a1 : AV) (R : AV → AHeap → Prop) (t7 : AV) (J : Nat → AV → AHeap → Prop) (step : ∀ nn xx HH, J nn xx HH → ∀ XX : Tm → AHeap → Prop, (∀ mm yy H', mm < nn → J mm yy H' → XX (F313.T0 a0 a1 t7 yy) H') → F313.B0 a0 a1 R t7 XX xx HH) : ∀ nn xx HH, J nn xx HH → F313.L0 a0 a1 R t7 xx HH :=
  loop_rule (F313.T0 a0 a1 t7) (F313.B0 a0 a1 R t7) (F313.B0_eq a0 a1 R t7) J step
theorem F313.L0_un (a0 : AV) (a1 : AV) (R : AV → AHeap → Prop) (t7 : AV) (xx : AV) (HH : AHeap) (hh : ∀ XX : Tm → AHeap → Prop, (∀ yy H', F313.L0 a0 a1 R t7 yy H' → XX (F313.T0 a0 a1 t7 yy) H') → F313.B0 a0 a1 R t7 XX xx HH) : F313.L0 a0 a1 R t7 xx HH :=
  loop_once (F313.T0 a0 a1 t7) (F313.B0 a0 a1 R t7) (F313.B0_eq a0 a1 R t7) xx HH hh
def F313 (a0 a1 : AV) (H : AHeap) (R : AV → AHeap → Prop) : Prop :=
  Pu (lnS a0) fun t7 =>
  F313.L0 a0 a1 R t7 ((.int .i64 0)) H
theorem F313.eq (a0 a1 : AV) (H : AHeap) (R : AV → AHeap → Prop) : F313 a0 a1 H R = wpE Tryz.prog kp (kp 313) (bodyOf Tryz.f313) (retE Tryz.prog Tryz.f313 R) (argsT [a0, a1] 0 .nil) H := by kernel_rfl
theorem F313.ca {a0 a1 : AV} {H : AHeap} {R : AV → AHeap → Prop} (h : F313 a0 a1 H R) : Ca Tryz.prog kp 313 [a0, a1] H R :=
  Ca.intro (P := Tryz.prog) (kp := kp) (f := 313) (fn := Tryz.f313) (args := [a0, a1]) Tryz.func313 (by kernel_rfl) (Eq.mp (F313.eq a0 a1 H R) h)

-- slices.Concat[[]incunable/chip.job,incunable/chip.job]
def F328.T0 (a0 : AV) (t10 : AV) (x : AV × AV) : Tm := tmL [(0, a0), (3, x.1), (9, a0), (10, t10), (11, x.2)]
def F328.T1 (a0 : AV) (t26 : AV) (x1 : AV × AV) : Tm := tmL [(6, x1.1), (25, a0), (26, t26), (27, x1.2)]
def F328.B1 (a0 : AV) (R : AV → AHeap → Prop) (t26 : AV) (X1 : Tm → AHeap → Prop) (x1 : AV × AV) (H_3 : AHeap) : Prop :=
  Pu (aBin Tryz.prog .lss 3 x1.2 t26) fun t28 =>
  Br t28 (
    Pu (ixS 1 a0 x1.2) fun t29 =>
    Pu (ldS H_3 t29) fun t30 =>
    Pp (appendA Tryz.prog H_3 #[223, 223] [x1.1, t30]) fun t33 H_4 =>
    Pu (aBin Tryz.prog .add 3 x1.2 (.int .i64 1)) fun t34 =>
    X1 (F328.T1 a0 t26 (t33, t34)) H_4)
  (
    R x1.1 H_3)
def F328.L1 (a0 : AV) (R : AV → AHeap → Prop) (t26 : AV) (x1 : AV × AV) (H_3 : AHeap) : Prop := loopW (kp 328) (subC [1, 1, 1, 1, 0, 1, 1, 1] (bodyOf Tryz.f328)) (wpE Tryz.prog kp (kp 328) (subC [1, 1, 1, 1, 0, 1, 1, 1] (bodyOf Tryz.f328))) (kBlock 2 (kSeq (wpE Tryz.prog kp (kp 328) (subC [1, 1, 1, 1, 1] (bodyOf Tryz.f328))) (retE Tryz.prog Tryz.f328 R))) (F328.T1 a0 t26 x1) H_3
theorem F328.B1_eq (a0 : AV) (R : AV → AHeap → Prop) (t26 : AV) (X1 : Tm → AHeap → Prop) (x1 : AV × AV) (H_3 : AHeap) : F328.B1 a0 R t26 X1 x1 H_3 = wpE Tryz.prog kp (kp 328) (subC [1, 1, 1, 1, 0, 1, 1, 1] (bodyOf Tryz.f328)) (kLoop (keepL (kp 328) (subC [1, 1, 1, 1, 0, 1, 1, 1] (bodyOf Tryz.f328))) (kBlock 2 (kSeq (wpE Tryz.prog kp (kp 328) (subC [1, 1, 1, 1, 1] (bodyOf Tryz.f328))) (retE Tryz.prog Tryz.f328 R))) X1) (F328.T1 a0 t26 x1) H_3 := by kernel_rfl
theorem F328.L1_of (a0 : AV) (R : AV → AHeap → Prop) (t26 : AV) (J : Nat → (AV × AV) → AHeap → Prop) (step : ∀ nn xx HH, J nn xx HH → ∀ XX : Tm → AHeap → Prop, (∀ mm yy H', mm < nn → J mm yy H' → XX (F328.T1 a0 t26 yy) H') → F328.B1 a0 R t26 XX xx HH) : ∀ nn xx HH, J nn xx HH → F328.L1 a0 R t26 xx HH :=
  loop_rule (F328.T1 a0 t26) (F328.B1 a0 R t26) (F328.B1_eq a0 R t26) J step
theorem F328.L1_un (a0 : AV) (R : AV → AHeap → Prop) (t26 : AV) (xx : AV × AV) (HH : AHeap) (hh : ∀ XX : Tm → AHeap → Prop, (∀ yy H', F328.L1 a0 R t26 yy H' → XX (F328.T1 a0 t26 yy) H') → F328.B1 a0 R t26 XX xx HH) : F328.L1 a0 R t26 xx HH :=
  loop_once (F328.T1 a0 t26) (F328.B1 a0 R t26) (F328.B1_eq a0 R t26) xx HH hh
def F328.B0 (a0 : AV) (R : AV → AHeap → Prop) (t10 : AV) (X0 : Tm → AHeap → Prop) (x : AV × AV) (H_1 : AHeap) : Prop :=
  Pu (aBin Tryz.prog .lss 3 x.2 t10) fun t12 =>
  Br t12 (
    Pu (ixS 1 a0 x.2) fun t13 =>
    Pu (ldS H_1 t13) fun t14 =>
    Pu (lnS t14) fun t17 =>
    Pu (aBin Tryz.prog .add 3 x.1 t17) fun t18 =>
    Pu (aBin Tryz.prog .lss 3 t18 (.int .i64 0)) fun t20 =>
    Br t20 (
      False)
    (
      Pu (aBin Tryz.prog .add 3 x.2 (.int .i64 1)) fun t22 =>
      X0 (F328.T0 a0 t10 (t18, t22)) H_1))
  (
    Ca Tryz.prog kp 342 [.nils, x.1] H_1 fun t24 H_2 =>
    Pu (lnS a0) fun t26 =>
    F328.L1 a0 R t26 (t24, (.int .i64 0)) H_2)
def F328.L0 (a0 : AV) (R : AV → AHeap → Prop) (t10 : AV) (x : AV × AV) (H_1 : AHeap) : Prop := loopW (kp 328) (subC [1, 1, 0, 1, 1, 1] (bodyOf Tryz.f328)) (wpE Tryz.prog kp (kp 328) (subC [1, 1, 0, 1, 1, 1] (bodyOf Tryz.f328))) (kBlock 0 (kSeq (wpE Tryz.prog kp (kp 328) (subC [1, 1, 1] (bodyOf Tryz.f328))) (retE Tryz.prog Tryz.f328 R))) (F328.T0 a0 t10 x) H_1
theorem F328.B0_eq (a0 : AV) (R : AV → AHeap → Prop) (t10 : AV) (X0 : Tm → AHeap → Prop) (x : AV × AV) (H_1 : AHeap) : F328.B0 a0 R t10 X0 x H_1 = wpE Tryz.prog kp (kp 328) (subC [1, 1, 0, 1, 1, 1] (bodyOf Tryz.f328)) (kLoop (keepL (kp 328) (subC [1, 1, 0, 1, 1, 1] (bodyOf Tryz.f328))) (kBlock 0 (kSeq (wpE Tryz.prog kp (kp 328) (subC [1, 1, 1] (bodyOf Tryz.f328))) (retE Tryz.prog Tryz.f328 R))) X0) (F328.T0 a0 t10 x) H_1 := by kernel_rfl
theorem F328.L0_of (a0 : AV) (R : AV → AHeap → Prop) (t10 : AV) (J : Nat → (AV × AV) → AHeap → Prop) (step : ∀ nn xx HH, J nn xx HH → ∀ XX : Tm → AHeap → Prop, (∀ mm yy H', mm < nn → J mm yy H' → XX (F328.T0 a0 t10 yy) H') → F328.B0 a0 R t10 XX xx HH) : ∀ nn xx HH, J nn xx HH → F328.L0 a0 R t10 xx HH :=
  loop_rule (F328.T0 a0 t10) (F328.B0 a0 R t10) (F328.B0_eq a0 R t10) J step
theorem F328.L0_un (a0 : AV) (R : AV → AHeap → Prop) (t10 : AV) (xx : AV × AV) (HH : AHeap) (hh : ∀ XX : Tm → AHeap → Prop, (∀ yy H', F328.L0 a0 R t10 yy H' → XX (F328.T0 a0 t10 yy) H') → F328.B0 a0 R t10 XX xx HH) : F328.L0 a0 R t10 xx HH :=
  loop_once (F328.T0 a0 t10) (F328.B0 a0 R t10) (F328.B0_eq a0 R t10) xx HH hh
def F328 (a0 : AV) (H : AHeap) (R : AV → AHeap → Prop) : Prop :=
  Pu (lnS a0) fun t10 =>
  F328.L0 a0 R t10 ((.int .i64 0), (.int .i64 0)) H
theorem F328.eq (a0 : AV) (H : AHeap) (R : AV → AHeap → Prop) : F328 a0 H R = wpE Tryz.prog kp (kp 328) (bodyOf Tryz.f328) (retE Tryz.prog Tryz.f328 R) (argsT [a0] 0 .nil) H := by kernel_rfl
theorem F328.ca {a0 : AV} {H : AHeap} {R : AV → AHeap → Prop} (h : F328 a0 H R) : Ca Tryz.prog kp 328 [a0] H R :=
  Ca.intro (P := Tryz.prog) (kp := kp) (f := 328) (fn := Tryz.f328) (args := [a0]) Tryz.func328 (by kernel_rfl) (Eq.mp (F328.eq a0 H R) h)

-- (incunable/chip.work).some
def F332 (a0 : AV) (H : AHeap) (R : AV → AHeap → Prop) : Prop :=
  Nb (bxA 3 a0) H fun t1 H_1 =>
  Pu (fdP 0 t1) fun t3 =>
  Pu (ldS H_1 t3) fun t4 =>
  Pu (lnS t4) fun t5 =>
  Pu (fdP 1 t1) fun t6 =>
  Pu (ldS H_1 t6) fun t7 =>
  Pu (lnS t7) fun t8 =>
  Pu (aBin Tryz.prog .add 3 t5 t8) fun t9 =>
  Pu (fdP 2 t1) fun t10 =>
  Pu (ldS H_1 t10) fun t11 =>
  Pu (lnS t11) fun t12 =>
  Pu (aBin Tryz.prog .add 3 t9 t12) fun t13 =>
  Pu (aBin Tryz.prog .gtr 3 t13 (.int .i64 0)) fun t14 =>
  R t14 H_1
theorem F332.eq (a0 : AV) (H : AHeap) (R : AV → AHeap → Prop) : F332 a0 H R = wpE Tryz.prog kp (kp 332) (bodyOf Tryz.f332) (retE Tryz.prog Tryz.f332 R) (argsT [a0] 0 .nil) H := by kernel_rfl
theorem F332.ca {a0 : AV} {H : AHeap} {R : AV → AHeap → Prop} (h : F332 a0 H R) : Ca Tryz.prog kp 332 [a0] H R :=
  Ca.intro (P := Tryz.prog) (kp := kp) (f := 332) (fn := Tryz.f332) (args := [a0]) Tryz.func332 (by kernel_rfl) (Eq.mp (F332.eq a0 H R) h)

-- (*incunable/chip.Chip).clear
def F333 (a0 : AV) (H : AHeap) (R : AV → AHeap → Prop) : Prop :=
  Pu (nilC a0) fun t4 =>
  Pu (fdP 17 t4) fun t5 =>
  Pu (stA 1 H t5 .nils) fun H_1 =>
  Pu (nilC a0) fun t6 =>
  Pu (fdP 18 t6) fun t7 =>
  Pu (stA 1 H_1 t7 .nils) fun H_2 =>
  R (.tup []) H_2
theorem F333.eq (a0 : AV) (H : AHeap) (R : AV → AHeap → Prop) : F333 a0 H R = wpE Tryz.prog kp (kp 333) (bodyOf Tryz.f333) (retE Tryz.prog Tryz.f333 R) (argsT [a0] 0 .nil) H := by kernel_rfl
theorem F333.ca {a0 : AV} {H : AHeap} {R : AV → AHeap → Prop} (h : F333 a0 H R) : Ca Tryz.prog kp 333 [a0] H R :=
  Ca.intro (P := Tryz.prog) (kp := kp) (f := 333) (fn := Tryz.f333) (args := [a0]) Tryz.func333 (by kernel_rfl) (Eq.mp (F333.eq a0 H R) h)

-- (*incunable/choice.Teller).Busy
def F334 (a0 : AV) (H : AHeap) (R : AV → AHeap → Prop) : Prop :=
  Ca Tryz.prog kp 345 [a0] H fun t4 H_1 =>
  Pu (aUn .not t4) fun t5 =>
  Br t5 (
    R (.int .i64 0) H_1)
  (
    Pu (nilC a0) fun t7 =>
    Pu (fdP 4 t7) fun t8 =>
    Pu (ldS H_1 t8) fun t9 =>
    Pu (aBin Tryz.prog .add 3 t9 (.int .i64 1)) fun t10 =>
    Pu (nilC a0) fun t11 =>
    Pu (fdP 4 t11) fun t12 =>
    Pu (stA 1 H_1 t12 t10) fun H_2 =>
    Cq (hUp H_2 10) fun H_3 =>
    Pu (nilC a0) fun t14 =>
    Pu (fdP 4 t14) fun t15 =>
    Pu (ldS H_3 t15) fun t16 =>
    Pu (nilC a0) fun t18 =>
    Pu (fdP 0 t18) fun t19 =>
    Pu (ldS H_3 t19) fun t20 =>
    Pu (lnS t20) fun t21 =>
    Pu (aBin Tryz.prog .gtr 3 t16 t21) fun t22 =>
    ((StS t19 t20 H_3 ∧ True) ∧ (StS t15 t16 H_3 ∧ True) ∧ True) ∧
    Br t22 (
      R (.int .i64 0) H_3)
    (
      Cq (hUp H_3 12) fun H_4 =>
      Pu (nilC a0) fun t24 =>
      Pu (fdP 0 t24) fun t25 =>
      Pu (ldS H_4 t25) fun t26 =>
      Pu (nilC a0) fun t28 =>
      Pu (fdP 4 t28) fun t29 =>
      Pu (ldS H_4 t29) fun t30 =>
      Pu (aBin Tryz.prog .sub 3 t30 (.int .i64 1)) fun t31 =>
      Pu (ixS 1 t26 t31) fun t32 =>
      Pu (ldS H_4 t32) fun t33 =>
      ((StS t32 t33 H_4 ∧ True) ∧ (StS t29 t30 H_4 ∧ True) ∧ (StS t25 t26 H_4 ∧ True) ∧ True) ∧
      R t33 H_4))
theorem F334.eq (a0 : AV) (H : AHeap) (R : AV → AHeap → Prop) : F334 a0 H R = wpE Tryz.prog kp (kp 334) (bodyOf Tryz.f334) (retE Tryz.prog Tryz.f334 R) (argsT [a0] 0 .nil) H := by kernel_rfl
theorem F334.ca {a0 : AV} {H : AHeap} {R : AV → AHeap → Prop} (h : F334 a0 H R) : Ca Tryz.prog kp 334 [a0] H R :=
  Ca.intro (P := Tryz.prog) (kp := kp) (f := 334) (fn := Tryz.f334) (args := [a0]) Tryz.func334 (by kernel_rfl) (Eq.mp (F334.eq a0 H R) h)

-- (*incunable/chip.Chip).command
def F335 (a0 a1 : AV) (H : AHeap) (R : AV → AHeap → Prop) : Prop :=
  Cq (hUp H 14) fun H_1 =>
  Pu (nilC a0) fun t9 =>
  Pu (fdP 13 t9) fun t10 =>
  Pu (ldS H_1 t10) fun t11 =>
  Pu (lnS t11) fun t12 =>
  Pu (aBin Tryz.prog .eql 3 t12 (.int .i64 4)) fun t13 =>
  Pu (nilC a0) fun t15 =>
  Pu (fdP 13 t15) fun t16 =>
  Pu (ldS H_1 t16) fun t17 =>
  Pu (lnS t17) fun t18 =>
  Pu (aBin Tryz.prog .eql 3 t18 (.int .i64 2)) fun t19 =>
  ((StS t16 t17 H_1 ∧ True) ∧ (StS t10 t11 H_1 ∧ True) ∧ True) ∧
  Pu (nilC a0) fun t25 =>
  Pu (fdP 12 t25) fun t26 =>
  Pu (ldS H_1 t26) fun t27 =>
  Pu (aBin Tryz.prog .eql 3 t27 (.int .i64 8)) fun t28 =>
  Gd t28 true (Pu (some t13)) fun t30 =>
  Pu (pickA t28 t30 (.bool false)) fun t31 =>
  Gd t31 true (Pu (some a1)) fun t33 =>
  Gd t31 true (Pu (aBin Tryz.prog .eql 5 t33 (.int .u8 16))) fun t34 =>
  Gd t31 true (Pu (some t34)) fun t35 =>
  Gd t35 false (Pu (some a1)) fun t36 =>
  Gd t35 false (Pu (aBin Tryz.prog .eql 5 t36 (.int .u8 21))) fun t37 =>
  Gd t31 true (Pu (pickA t35 (.bool true) t37)) fun t38 =>
  Gd t31 true (Pu (some t38)) fun t39 =>
  Gd t39 false (Pu (some a1)) fun t40 =>
  Gd t39 false (Pu (aBin Tryz.prog .eql 5 t40 (.int .u8 17))) fun t41 =>
  Gd t31 true (Pu (pickA t39 (.bool true) t41)) fun t42 =>
  Pu (pickA t31 t42 (.bool false)) fun t43 =>
  Jn (fun (H_16 : AHeap) =>
    R (.tup []) H_16) fun J =>
  Br t43 (
    Ca Tryz.prog kp 346 [a0, a1] H_1 fun t46 H_2 =>
    J H_2)
  (
    Pu (nilC a0) fun t49 =>
    Pu (fdP 12 t49) fun t50 =>
    Pu (ldS H_1 t50) fun t51 =>
    Pu (aBin Tryz.prog .eql 3 t51 (.int .i64 9)) fun t52 =>
    Gd t52 true (Pu (some t19)) fun t54 =>
    Pu (pickA t52 t54 (.bool false)) fun t55 =>
    Gd t55 true (Pu (some a1)) fun t57 =>
    Gd t55 true (Pu (aBin Tryz.prog .eql 5 t57 (.int .u8 208))) fun t58 =>
    Gd t55 true (Pu (some t58)) fun t59 =>
    Gd t59 false (Pu (some a1)) fun t60 =>
    Gd t59 false (Pu (aBin Tryz.prog .eql 5 t60 (.int .u8 209))) fun t61 =>
    Gd t55 true (Pu (pickA t59 (.bool true) t61)) fun t62 =>
    Pu (pickA t55 t62 (.bool false)) fun t63 =>
    Jn (fun (H_15 : AHeap) =>
      J H_15) fun J_1 =>
    Br t63 (
      Ca Tryz.prog kp 347 [a0, a1] H_1 fun t66 H_3 =>
      J_1 H_3)
    (
      Pu (nilC a0) fun t69 =>
      Pu (fdP 12 t69) fun t70 =>
      Pu (ldS H_1 t70) fun t71 =>
      Pu (aBin Tryz.prog .eql 3 t71 (.int .i64 5)) fun t72 =>
      Gd t72 true (Pu (some t13)) fun t74 =>
      Pu (pickA t72 t74 (.bool false)) fun t75 =>
      Gd t75 true (Pu (some a1)) fun t77 =>
      Gd t75 true (Pu (aBin Tryz.prog .eql 5 t77 (.int .u8 48))) fun t78 =>
      Pu (pickA t75 t78 (.bool false)) fun t79 =>
      Jn (fun (H_14 : AHeap) =>
        J_1 H_14) fun J_2 =>
      Br t79 (
        Pu (nilC a0) fun t83 =>
        Pu (fdP 13 t83) fun t84 =>
        Pu (ldS H_1 t84) fun t85 =>
        Pu (aSlice Tryz.prog 26 t85 (some (.int .i64 2)) none none) fun t86 =>
        Ca Tryz.prog kp 348 [a0, t86] H_1 fun t87 H_4 =>
        Pu (exT t87 0) fun t88 =>
        Pu (exT t87 1) fun t89 =>
        Pu (aUn .not t89) fun t91 =>
        Br t91 (
          Ca Tryz.prog kp 349 [a0] H_4 fun t93 H_5 =>
          R (.tup []) H_5)
        (
          Pu (nilC a0) fun t97 =>
          Pu (fdP 13 t97) fun t98 =>
          Pu (ldS H_4 t98) fun t99 =>
          Pu (aSlice Tryz.prog 26 t99 none (some (.int .i64 2)) none) fun t100 =>
          Ca Tryz.prog kp 233 [t100] H_4 fun t101 H_6 =>
          Pu (exT t101 0) fun t102 =>
          Pu (exT t101 1) fun t103 =>
          Pu (nilC a0) fun t104 =>
          Pu (fdP 15 t104) fun t105 =>
          Pu (stA 1 H_6 t105 t102) fun H_7 =>
          Pu (bdL 1 [.int .i64 0] [(0, 1, t88)]) fun t108 =>
          Pu (bdS [.nils, .nils, .nils] [(0, 1, t108)]) fun t109 =>
          Ca Tryz.prog kp 350 [a0, t109] H_7 fun t110 H_8 =>
          J_2 H_8))
      (
        Pu (nilC a0) fun t113 =>
        Pu (fdP 12 t113) fun t114 =>
        Pu (ldS H_1 t114) fun t115 =>
        Pu (aBin Tryz.prog .eql 3 t115 (.int .i64 7)) fun t116 =>
        Gd t116 true (Pu (some t19)) fun t118 =>
        Pu (pickA t116 t118 (.bool false)) fun t119 =>
        Gd t119 true (Pu (some a1)) fun t121 =>
        Gd t119 true (Pu (aBin Tryz.prog .eql 5 t121 (.int .u8 224))) fun t122 =>
        Pu (pickA t119 t122 (.bool false)) fun t123 =>
        Jn (fun (H_13 : AHeap) =>
          J_2 H_13) fun J_3 =>
        Br t123 (
          Pu (nilC a0) fun t127 =>
          Pu (fdP 13 t127) fun t128 =>
          Pu (ldS H_1 t128) fun t129 =>
          Ca Tryz.prog kp 233 [t129] H_1 fun t130 H_9 =>
          Pu (exT t130 0) fun t131 =>
          Pu (exT t130 1) fun t132 =>
          Pu (nilC a0) fun t133 =>
          Pu (fdP 15 t133) fun t134 =>
          Pu (stA 1 H_9 t134 t131) fun H_10 =>
          Pu (nilC a0) fun t136 =>
          Pu (fdP 12 t136) fun t137 =>
          Pu (stA 1 H_10 t137 (.int .i64 6)) fun H_11 =>
          J_3 H_11)
        (
          Ca Tryz.prog kp 351 [a0, a1] H_1 fun t22 H_12 =>
          J_3 H_12))))
theorem F335.eq (a0 a1 : AV) (H : AHeap) (R : AV → AHeap → Prop) : F335 a0 a1 H R = wpE Tryz.prog kp (kp 335) (bodyOf Tryz.f335) (retE Tryz.prog Tryz.f335 R) (argsT [a0, a1] 0 .nil) H := by kernel_rfl
theorem F335.ca {a0 a1 : AV} {H : AHeap} {R : AV → AHeap → Prop} (h : F335 a0 a1 H R) : Ca Tryz.prog kp 335 [a0, a1] H R :=
  Ca.intro (P := Tryz.prog) (kp := kp) (f := 335) (fn := Tryz.f335) (args := [a0, a1]) Tryz.func335 (by kernel_rfl) (Eq.mp (F335.eq a0 a1 H R) h)

-- (*incunable/chip.Chip).address
def F336 (a0 a1 : AV) (H : AHeap) (R : AV → AHeap → Prop) : Prop :=
  Pu (nilC a0) fun t6 =>
  Pu (fdP 12 t6) fun t7 =>
  Pu (ldS H t7) fun t8 =>
  Pu (aBin Tryz.prog .eql 3 t8 (.int .i64 5)) fun t10 =>
  Jn (fun (t9 : AV) (H_1 : AHeap) =>
    Jn (fun (t4_1 : AV) (H_4 : AHeap) =>
      Pu (nilC a0) fun t19 =>
      Pu (fdP 13 t19) fun t20 =>
      Pu (ldS H_4 t20) fun t21 =>
      Pu (lnS t21) fun t22 =>
      Pu (aBin Tryz.prog .lss 3 t22 t4_1) fun t24 =>
      Jn (fun (H_21 : AHeap) =>
        R (.tup []) H_21) fun J_4 =>
      Br t24 (
        Pu (nilC a0) fun t27 =>
        Pu (fdP 13 t27) fun t28 =>
        Pu (ldS H_4 t28) fun t29 =>
        Pu (bdL 1 [.int .u8 0] [(0, 1, a1)]) fun t31 =>
        Pp (appendA Tryz.prog H_4 #[26, 26] [t29, t31]) fun t32 H_5 =>
        Pu (nilC a0) fun t33 =>
        Pu (fdP 13 t33) fun t34 =>
        Pu (stA 1 H_5 t34 t32) fun H_6 =>
        Pu (nilC a0) fun t36 =>
        Pu (fdP 12 t36) fun t37 =>
        Pu (ldS H_6 t37) fun t38 =>
        Pu (aBin Tryz.prog .eql 3 t38 (.int .i64 8)) fun t39 =>
        Gd t39 true (Pu (some a0)) fun t41 =>
        Gd t39 true (Pu (nilC t41)) fun t42 =>
        Gd t39 true (Pu (fdP 13 t42)) fun t43 =>
        Gd t39 true (Pu (ldS H_6 t43)) fun t44 =>
        Gd t39 true (Pu (lnS t44)) fun t45 =>
        Gd t39 true (Pu (aBin Tryz.prog .eql 3 t45 (.int .i64 4))) fun t46 =>
        Pu (pickA t39 t46 (.bool false)) fun t47 =>
        Jn (fun (H_9 : AHeap) =>
          J_4 H_9) fun J_5 =>
        Br t47 (
          Pu (nilC a0) fun t51 =>
          Pu (fdP 13 t51) fun t52 =>
          Pu (ldS H_6 t52) fun t53 =>
          Pu (aSlice Tryz.prog 26 t53 none (some (.int .i64 2)) none) fun t54 =>
          Ca Tryz.prog kp 233 [t54] H_6 fun t55 H_7 =>
          Pu (exT t55 0) fun t56 =>
          Pu (exT t55 1) fun t57 =>
          Pu (nilC a0) fun t58 =>
          Pu (fdP 15 t58) fun t59 =>
          Pu (stA 1 H_7 t59 t56) fun H_8 =>
          J_5 H_8)
        (
          J_5 H_6))
      (
        Pu (nilC a0) fun t62 =>
        Pu (fdP 12 t62) fun t63 =>
        Pu (ldS H_4 t63) fun t64 =>
        Pu (aBin Tryz.prog .eql 3 t64 (.int .i64 2)) fun t65 =>
        Gd t65 true (Pu (some a1)) fun t67 =>
        Gd t65 true (Pu (aBin Tryz.prog .eql 5 t67 (.int .u8 0))) fun t68 =>
        Pu (pickA t65 t68 (.bool false)) fun t69 =>
        Jn (fun (H_20 : AHeap) =>
          J_4 H_20) fun J_6 =>
        Br t69 (
          Pu (nilC a0) fun t72 =>
          Pu (fdP 12 t72) fun t73 =>
          Pu (stA 1 H_4 t73 (.int .i64 3)) fun H_10 =>
          Pu (nilC a0) fun t74 =>
          Pu (fdP 15 t74) fun t75 =>
          Pu (stA 1 H_10 t75 (.int .i64 0)) fun H_11 =>
          J_6 H_11)
        (
          Pu (nilC a0) fun t78 =>
          Pu (fdP 12 t78) fun t79 =>
          Pu (ldS H_4 t79) fun t80 =>
          Pu (aBin Tryz.prog .eql 3 t80 (.int .i64 4)) fun t81 =>
          Gd t81 true (Pu (some a1)) fun t83 =>
          Gd t81 true (Pu (aBin Tryz.prog .eql 5 t83 (.int .u8 0))) fun t84 =>
          Pu (pickA t81 t84 (.bool false)) fun t85 =>
          Jn (fun (H_19 : AHeap) =>
            J_6 H_19) fun J_7 =>
          Br t85 (
            Pu (nilC a0) fun t89 =>
            Pu (fdP 0 t89) fun t90 =>
            Pu (ldG 7 H_4 t90) fun t91 =>
            Ca Tryz.prog kp 352 [t91] H_4 fun t92 H_12 =>
            Pu (nilC a0) fun t93 =>
            Pu (fdP 14 t93) fun t94 =>
            Pu (stA 1 H_12 t94 t92) fun H_13 =>
            Pu (nilC a0) fun t95 =>
            Pu (fdP 15 t95) fun t96 =>
            Pu (stA 1 H_13 t96 (.int .i64 0)) fun H_14 =>
            Pu (bdS [.nils, .nils, .nils] []) fun t98 =>
            Ca Tryz.prog kp 350 [a0, t98] H_14 fun t99 H_15 =>
            J_7 H_15)
          (
            Pu (nilC a0) fun t102 =>
            Pu (fdP 12 t102) fun t103 =>
            Pu (ldS H_4 t103) fun t104 =>
            Pu (aBin Tryz.prog .eql 3 t104 (.int .i64 10)) fun t105 =>
            Gd t105 true (Pu (some a0)) fun t107 =>
            Gd t105 true (Pu (nilC t107)) fun t108 =>
            Gd t105 true (Pu (fdP 13 t108)) fun t109 =>
            Gd t105 true (Pu (ldS H_4 t109)) fun t110 =>
            Gd t105 true (Pu (lnS t110)) fun t111 =>
            Gd t105 true (Pu (aBin Tryz.prog .eql 3 t111 (.int .i64 0))) fun t112 =>
            Pu (pickA t105 t112 (.bool false)) fun t113 =>
            Gd t113 true (Pu (some a1)) fun t115 =>
            Gd t113 true (Pu (aBin Tryz.prog .eql 5 t115 (.int .u8 137))) fun t116 =>
            Pu (pickA t113 t116 (.bool false)) fun t117 =>
            Jn (fun (H_18 : AHeap) =>
              J_7 H_18) fun J_8 =>
            Br t117 (
              Pu (bdL 1 [.int .u8 0] [(0, 1, a1)]) fun t120 =>
              Pu (nilC a0) fun t121 =>
              Pu (fdP 13 t121) fun t122 =>
              Pu (stA 1 H_4 t122 t120) fun H_16 =>
              J_8 H_16)
            (
              Ca Tryz.prog kp 349 [a0] H_4 fun t16 H_17 =>
              J_8 H_17))))) fun J_1 =>
    Br t9 (
      J_1 (.int .i64 4) H_1)
    (
      Pu (aBin Tryz.prog .eql 3 t8 (.int .i64 7)) fun t13 =>
      Jn (fun (t12 : AV) (H_2 : AHeap) =>
        Jn (fun (t4 : AV) (H_3 : AHeap) =>
          J_1 t4 H_3) fun J_3 =>
        Br t12 (
          J_3 (.int .i64 2) H_2)
        (
          J_3 (.int .i64 0) H_2)) fun J_2 =>
      Br t13 (
        J_2 t13 H_1)
      (
        Pu (aBin Tryz.prog .eql 3 t8 (.int .i64 9)) fun t14 =>
        J_2 t14 H_1))) fun J =>
  Br t10 (
    J t10 H)
  (
    Pu (aBin Tryz.prog .eql 3 t8 (.int .i64 8)) fun t11 =>
    J t11 H)
theorem F336.eq (a0 a1 : AV) (H : AHeap) (R : AV → AHeap → Prop) : F336 a0 a1 H R = wpE Tryz.prog kp (kp 336) (bodyOf Tryz.f336) (retE Tryz.prog Tryz.f336 R) (argsT [a0, a1] 0 .nil) H := by kernel_rfl
theorem F336.ca {a0 a1 : AV} {H : AHeap} {R : AV → AHeap → Prop} (h : F336 a0 a1 H R) : Ca Tryz.prog kp 336 [a0, a1] H R :=
  Ca.intro (P := Tryz.prog) (kp := kp) (f := 336) (fn := Tryz.f336) (args := [a0, a1]) Tryz.func336 (by kernel_rfl) (Eq.mp (F336.eq a0 a1 H R) h)

-- (*incunable/chip.Chip).read
def F338 (a0 : AV) (H : AHeap) (R : AV → AHeap → Prop) : Prop :=
  Pu (nilC a0) fun t5 =>
  Pu (fdP 12 t5) fun t6 =>
  Pu (ldS H t6) fun t7 =>
  Pu (aBin Tryz.prog .eql 3 t7 (.int .i64 1)) fun t8 =>
  Br t8 (
    Ca Tryz.prog kp 353 [a0] H fun t10 H_1 =>
    R t10 H_1)
  (
    Pu (nilC a0) fun t13 =>
    Pu (fdP 12 t13) fun t14 =>
    Pu (ldS H t14) fun t15 =>
    Pu (aBin Tryz.prog .eql 3 t15 (.int .i64 3)) fun t16 =>
    Br t16 (
      Cq (hUp H 22) fun H_2 =>
      Pu (nilC a0) fun t19 =>
      Pu (fdP 0 t19) fun t20 =>
      Pu (fdP 0 t20) fun t21 =>
      Pu (ldS H_2 t21) fun t22 =>
      Pu (cvI .u8 t22) fun t23 =>
      Pu (nilC a0) fun t25 =>
      Pu (fdP 0 t25) fun t26 =>
      Pu (fdP 5 t26) fun t27 =>
      Pu (ldS H_2 t27) fun t28 =>
      Pu (cvI .u8 t28) fun t29 =>
      Pu (nilC a0) fun t31 =>
      Pu (fdP 0 t31) fun t32 =>
      Pu (fdP 6 t32) fun t33 =>
      Pu (ldS H_2 t33) fun t34 =>
      Pu (cvI .u8 t34) fun t35 =>
      Pu (aBuildSlice Tryz.prog 26 5 [(0, (.int .u8 73)), (1, (.int .u8 78)), (2, t23), (3, t29), (4, t35)]) fun t36 =>
      Ca Tryz.prog kp 354 [a0, t36] H_2 fun t37 H_3 =>
      ((StS t33 t34 H_2 ∧ True) ∧ (StS t27 t28 H_2 ∧ True) ∧ (StS t21 t22 H_2 ∧ True) ∧ True) ∧
      R t37 H_3)
    (
      Pu (nilC a0) fun t40 =>
      Pu (fdP 12 t40) fun t41 =>
      Pu (ldS H t41) fun t42 =>
      Pu (aBin Tryz.prog .eql 3 t42 (.int .i64 5)) fun t43 =>
      Gd t43 true (Pu (some a0)) fun t45 =>
      Gd t43 true (Pu (nilC t45)) fun t46 =>
      Gd t43 true (Pu (fdP 13 t46)) fun t47 =>
      Gd t43 true (Pu (ldS H t47)) fun t48 =>
      Gd t43 true (Pu (lnS t48)) fun t49 =>
      Gd t43 true (Pu (aBin Tryz.prog .eql 3 t49 (.int .i64 0))) fun t50 =>
      Pu (pickA t43 t50 (.bool false)) fun t51 =>
      Br t51 (
        Pu (nilC a0) fun t53 =>
        Pu (fdP 12 t53) fun t54 =>
        Pu (stA 1 H t54 (.int .i64 6)) fun H_4 =>
        Pu (nilC a0) fun t57 =>
        Pu (fdP 14 t57) fun t58 =>
        Pu (ldS H_4 t58) fun t59 =>
        Ca Tryz.prog kp 354 [a0, t59] H_4 fun t60 H_5 =>
        R t60 H_5)
      (
        Pu (nilC a0) fun t63 =>
        Pu (fdP 12 t63) fun t64 =>
        Pu (ldS H t64) fun t65 =>
        Pu (aBin Tryz.prog .eql 3 t65 (.int .i64 6)) fun t66 =>
        Br t66 (
          Pu (nilC a0) fun t69 =>
          Pu (fdP 14 t69) fun t70 =>
          Pu (ldS H t70) fun t71 =>
          Ca Tryz.prog kp 354 [a0, t71] H fun t72 H_6 =>
          R t72 H_6)
        (
          Ca Tryz.prog kp 349 [a0] H fun t74 H_7 =>
          R (.int .u8 255) H_7))))
theorem F338.eq (a0 : AV) (H : AHeap) (R : AV → AHeap → Prop) : F338 a0 H R = wpE Tryz.prog kp (kp 338) (bodyOf Tryz.f338) (retE Tryz.prog Tryz.f338 R) (argsT [a0] 0 .nil) H := by kernel_rfl
theorem F338.ca {a0 : AV} {H : AHeap} {R : AV → AHeap → Prop} (h : F338 a0 H R) : Ca Tryz.prog kp 338 [a0] H R :=
  Ca.intro (P := Tryz.prog) (kp := kp) (f := 338) (fn := Tryz.f338) (args := [a0]) Tryz.func338 (by kernel_rfl) (Eq.mp (F338.eq a0 H R) h)

-- slices.Grow[[]incunable/chip.job,incunable/chip.job]
def F342 (a0 a1 : AV) (H : AHeap) (R : AV → AHeap → Prop) : Prop :=
  Pu (aBin Tryz.prog .lss 3 a1 (.int .i64 0)) fun t6 =>
  Br t6 (
    False)
  (
    Pu (aCap Tryz.prog 223 a0) fun t10 =>
    Pu (lnS a0) fun t12 =>
    Pu (aBin Tryz.prog .sub 3 t10 t12) fun t13 =>
    Pu (aBin Tryz.prog .sub 3 a1 t13) fun t14 =>
    Pu (aBin Tryz.prog .gtr 3 t14 (.int .i64 0)) fun t16 =>
    Jn (fun (t0 : AV) (H_2 : AHeap) =>
      R t0 H_2) fun J_1 =>
    Br t16 (
      Pu (aCap Tryz.prog 223 a0) fun t19 =>
      Pu (aSlice Tryz.prog 223 a0 none (some t19) none) fun t20 =>
      Pp (appendA Tryz.prog H #[223, 3] [t20, t14]) fun t22 H_1 =>
      Pu (lnS a0) fun t24 =>
      Pu (aSlice Tryz.prog 223 t22 none (some t24) none) fun t25 =>
      J_1 t25 H_1)
    (
      J_1 a0 H))
theorem F342.eq (a0 a1 : AV) (H : AHeap) (R : AV → AHeap → Prop) : F342 a0 a1 H R = wpE Tryz.prog kp (kp 342) (bodyOf Tryz.f342) (retE Tryz.prog Tryz.f342 R) (argsT [a0, a1] 0 .nil) H := by kernel_rfl
theorem F342.ca {a0 a1 : AV} {H : AHeap} {R : AV → AHeap → Prop} (h : F342 a0 a1 H R) : Ca Tryz.prog kp 342 [a0, a1] H R :=
  Ca.intro (P := Tryz.prog) (kp := kp) (f := 342) (fn := Tryz.f342) (args := [a0, a1]) Tryz.func342 (by kernel_rfl) (Eq.mp (F342.eq a0 a1 H R) h)

-- (*incunable/choice.Teller).is
def F345 (a0 : AV) (H : AHeap) (R : AV → AHeap → Prop) : Prop :=
  Pu (aBin Tryz.prog .neq 222 a0 .nilp) fun t4 =>
  Gd t4 true (Pu (some a0)) fun t6 =>
  Gd t4 true (Pu (nilC t6)) fun t7 =>
  Gd t4 true (Pu (fdP 2 t7)) fun t8 =>
  Gd t4 true (Pu (ldS H t8)) fun t9 =>
  Gd t4 true (Pu (aBin Tryz.prog .neq 319 t9 .nilm)) fun t10 =>
  Pu (pickA t4 t10 (.bool false)) fun t11 =>
  R t11 H
theorem F345.eq (a0 : AV) (H : AHeap) (R : AV → AHeap → Prop) : F345 a0 H R = wpE Tryz.prog kp (kp 345) (bodyOf Tryz.f345) (retE Tryz.prog Tryz.f345 R) (argsT [a0] 0 .nil) H := by kernel_rfl
theorem F345.ca {a0 : AV} {H : AHeap} {R : AV → AHeap → Prop} (h : F345 a0 H R) : Ca Tryz.prog kp 345 [a0] H R :=
  Ca.intro (P := Tryz.prog) (kp := kp) (f := 345) (fn := Tryz.f345) (args := [a0]) Tryz.func345 (by kernel_rfl) (Eq.mp (F345.eq a0 H R) h)

-- (*incunable/chip.Chip).start
def F350 (a0 a1 : AV) (H : AHeap) (R : AV → AHeap → Prop) : Prop :=
  Nb (bxA 3 a1) H fun t3 H_1 =>
  Pu (nilC a0) fun t5 =>
  Pu (fdP 25 t5) fun t6 =>
  Pu (stA 1 H_1 t6 (.bool false)) fun H_2 =>
  Pu (nilC a0) fun t8 =>
  Pu (fdP 23 t8) fun t9 =>
  Pu (ldS H_2 t9) fun t10 =>
  Pu (lnS t10) fun t11 =>
  Pu (aBin Tryz.prog .eql 3 t11 (.int .i64 0)) fun t12 =>
  Jn (fun (H_4 : AHeap) =>
    Cq (hUp H_4 18) fun H_5 =>
    Pu (ldG 3 H_5 t3) fun t19 =>
    Pu (nilC a0) fun t21 =>
    Pu (fdP 8 t21) fun t22 =>
    Pu (ldS H_5 t22) fun t23 =>
    Ca Tryz.prog kp 334 [t23] H_5 fun t24 H_6 =>
    Pu (nilC a0) fun t25 =>
    Pu (fdP 20 t25) fun t26 =>
    Pu (stA 3 H_6 t26 t19) fun H_7 =>
    Pu (nilC a0) fun t27 =>
    Pu (fdP 19 t27) fun t28 =>
    Pu (stA 1 H_7 t28 t24) fun H_8 =>
    Pu (nilC a0) fun t29 =>
    Pu (fdP 12 t29) fun t30 =>
    Pu (stA 1 H_8 t30 (.int .i64 1)) fun H_9 =>
    ((StS t22 t23 H_5 ∧ True) ∧ (StG 3 t3 t19 H_5 ∧ StG 3 t3 t19 H_6 ∧ True) ∧ True) ∧
    R (.tup []) H_9) fun J =>
  Br t12 (
    Pu (nilC a0) fun t14 =>
    Pu (fdP 26 t14) fun t15 =>
    Pu (stA 1 H_2 t15 (.bool false)) fun H_3 =>
    J H_3)
  (
    J H_2)
theorem F350.eq (a0 a1 : AV) (H : AHeap) (R : AV → AHeap → Prop) : F350 a0 a1 H R = wpE Tryz.prog kp (kp 350) (bodyOf Tryz.f350) (retE Tryz.prog Tryz.f350 R) (argsT [a0, a1] 0 .nil) H := by kernel_rfl
theorem F350.ca {a0 a1 : AV} {H : AHeap} {R : AV → AHeap → Prop} (h : F350 a0 a1 H R) : Ca Tryz.prog kp 350 [a0, a1] H R :=
  Ca.intro (P := Tryz.prog) (kp := kp) (f := 350) (fn := Tryz.f350) (args := [a0, a1]) Tryz.func350 (by kernel_rfl) (Eq.mp (F350.eq a0 a1 H R) h)

-- (*incunable/chip.Chip).begin
def F351.T0 (a0 : AV) (a1 : AV) (t14 : AV) (t16 : AV) (x : AV) : Tm := tmL [(0, a0), (1, a1), (15, t14), (16, t16), (17, x)]
def F351.B0 (a0 : AV) (a1 : AV) (R : AV → AHeap → Prop) (t14 : AV) (t16 : AV) (X0 : Tm → AHeap → Prop) (x : AV) (H_1 : AHeap) : Prop :=
  Pu (aBin Tryz.prog .lss 3 x t16) fun t18 =>
  Br t18 (
    Pu (ixS 2 t14 x) fun t19 =>
    Pu (ldG 2 H_1 t19) fun t20 =>
    Nw (.cells 2 [.int .i64 0, .int .i64 0]) (fun h => (.ptr h 0)) H_1 fun t6 H_2 =>
    Pu (stA 2 H_2 t6 t20) fun H_3 =>
    Pu (ixA 2 1 t6 (.int .i64 0)) fun t21 =>
    Pu (ldS H_3 t21) fun t22 =>
    Pu (cvI .i64 a1) fun t24 =>
    Pu (aBin Tryz.prog .neq 3 t22 t24) fun t25 =>
    Br t25 (
      Pu (aBin Tryz.prog .add 3 x (.int .i64 1)) fun t52 =>
      X0 (F351.T0 a0 a1 t14 t16 (t52)) H_3)
    (
      Pu (ixA 2 1 t6 (.int .i64 1)) fun t28 =>
      Pu (ldS H_3 t28) fun t29 =>
      Pu (nilC a0) fun t30 =>
      Pu (fdP 12 t30) fun t31 =>
      Pu (stA 1 H_3 t31 t29) fun H_4 =>
      Pu (nilC a0) fun t32 =>
      Pu (fdP 13 t32) fun t33 =>
      Pu (stA 1 H_4 t33 .nils) fun H_5 =>
      Pu (aBin Tryz.prog .neq 5 a1 (.int .u8 128)) fun t35 =>
      Jn (fun (H_9 : AHeap) =>
        Pu (aBin Tryz.prog .neq 5 a1 (.int .u8 96)) fun t48 =>
        Jn (fun (H_11 : AHeap) =>
          R (.tup []) H_11) fun J_1 =>
        Br t48 (
          Pu (nilC a0) fun t50 =>
          Pu (fdP 18 t50) fun t51 =>
          Pu (stA 1 H_9 t51 .nils) fun H_10 =>
          J_1 H_10)
        (
          J_1 H_9)) fun J =>
      Br t35 (
        Pu (nilC a0) fun t37 =>
        Pu (fdP 17 t37) fun t38 =>
        Pu (stA 1 H_5 t38 .nils) fun H_6 =>
        J H_6)
      (
        Pu (nilC a0) fun t41 =>
        Pu (fdP 0 t41) fun t42 =>
        Pu (ldG 7 H_5 t42) fun t43 =>
        Ca Tryz.prog kp 102 [t43] H_5 fun t44 H_7 =>
        Pu (nilC a0) fun t45 =>
        Pu (fdP 14 t45) fun t46 =>
        Pu (stA 1 H_7 t46 t44) fun H_8 =>
        J H_8)))
  (
    Ca Tryz.prog kp 349 [a0] H_1 fun t54 H_12 =>
    R (.tup []) H_12)
def F351.L0 (a0 : AV) (a1 : AV) (R : AV → AHeap → Prop) (t14 : AV) (t16 : AV) (x : AV) (H_1 : AHeap) : Prop := loopW (kp 351) (subC [1, 0, 1, 1, 1] (bodyOf Tryz.f351)) (wpE Tryz.prog kp (kp 351) (subC [1, 0, 1, 1, 1] (bodyOf Tryz.f351))) (kBlock 0 (kSeq (wpE Tryz.prog kp (kp 351) (subC [1, 1] (bodyOf Tryz.f351))) (retE Tryz.prog Tryz.f351 R))) (F351.T0 a0 a1 t14 t16 x) H_1
theorem F351.B0_eq (a0 : AV) (a1 : AV) (R : AV → AHeap → Prop) (t14 : AV) (t16 : AV) (X0 : Tm → AHeap → Prop) (x : AV) (H_1 : AHeap) : F351.B0 a0 a1 R t14 t16 X0 x H_1 = wpE Tryz.prog kp (kp 351) (subC [1, 0, 1, 1, 1] (bodyOf Tryz.f351)) (kLoop (keepL (kp 351) (subC [1, 0, 1, 1, 1] (bodyOf Tryz.f351))) (kBlock 0 (kSeq (wpE Tryz.prog kp (kp 351) (subC [1, 1] (bodyOf Tryz.f351))) (retE Tryz.prog Tryz.f351 R))) X0) (F351.T0 a0 a1 t14 t16 x) H_1 := by kernel_rfl
theorem F351.L0_of (a0 : AV) (a1 : AV) (R : AV → AHeap → Prop) (t14 : AV) (t16 : AV) (J : Nat → AV → AHeap → Prop) (step : ∀ nn xx HH, J nn xx HH → ∀ XX : Tm → AHeap → Prop, (∀ mm yy H', mm < nn → J mm yy H' → XX (F351.T0 a0 a1 t14 t16 yy) H') → F351.B0 a0 a1 R t14 t16 XX xx HH) : ∀ nn xx HH, J nn xx HH → F351.L0 a0 a1 R t14 t16 xx HH :=
  loop_rule (F351.T0 a0 a1 t14 t16) (F351.B0 a0 a1 R t14 t16) (F351.B0_eq a0 a1 R t14 t16) J step
theorem F351.L0_un (a0 : AV) (a1 : AV) (R : AV → AHeap → Prop) (t14 : AV) (t16 : AV) (xx : AV) (HH : AHeap) (hh : ∀ XX : Tm → AHeap → Prop, (∀ yy H', F351.L0 a0 a1 R t14 t16 yy H' → XX (F351.T0 a0 a1 t14 t16 yy) H') → F351.B0 a0 a1 R t14 t16 XX xx HH) : F351.L0 a0 a1 R t14 t16 xx HH :=
  loop_once (F351.T0 a0 a1 t14 t16) (F351.B0 a0 a1 R t14 t16) (F351.B0_eq a0 a1 R t14 t16) xx HH hh
def F351 (a0 a1 : AV) (H : AHeap) (R : AV → AHeap → Prop) : Prop :=
  Pu (bdS [.int .i64 0, .int .i64 0] [(0, 1, (.int .i64 144)), (1, 1, (.int .i64 2))]) fun t7 =>
  Pu (bdS [.int .i64 0, .int .i64 0] [(0, 1, (.int .i64 236)), (1, 1, (.int .i64 4))]) fun t8 =>
  Pu (bdS [.int .i64 0, .int .i64 0] [(0, 1, (.int .i64 239)), (1, 1, (.int .i64 10))]) fun t9 =>
  Pu (bdS [.int .i64 0, .int .i64 0] [(0, 1, (.int .i64 0)), (1, 1, (.int .i64 5))]) fun t10 =>
  Pu (bdS [.int .i64 0, .int .i64 0] [(0, 1, (.int .i64 5)), (1, 1, (.int .i64 7))]) fun t11 =>
  Pu (bdS [.int .i64 0, .int .i64 0] [(0, 1, (.int .i64 96)), (1, 1, (.int .i64 9))]) fun t12 =>
  Pu (bdS [.int .i64 0, .int .i64 0] [(0, 1, (.int .i64 128)), (1, 1, (.int .i64 8))]) fun t13 =>
  Pu (aBuildSlice Tryz.prog 408 7 [(0, t7), (1, t8), (2, t9), (3, t10), (4, t11), (5, t12), (6, t13)]) fun t14 =>
  Pu (lnS t14) fun t16 =>
  F351.L0 a0 a1 R t14 t16 ((.int .i64 0)) H
theorem F351.eq (a0 a1 : AV) (H : AHeap) (R : AV → AHeap → Prop) : F351 a0 a1 H R = wpE Tryz.prog kp (kp 351) (bodyOf Tryz.f351) (retE Tryz.prog Tryz.f351 R) (argsT [a0, a1] 0 .nil) H := by kernel_rfl
theorem F351.ca {a0 a1 : AV} {H : AHeap} {R : AV → AHeap → Prop} (h : F351 a0 a1 H R) : Ca Tryz.prog kp 351 [a0, a1] H R :=
  Ca.intro (P := Tryz.prog) (kp := kp) (f := 351) (fn := Tryz.f351) (args := [a0, a1]) Tryz.func351 (by kernel_rfl) (Eq.mp (F351.eq a0 a1 H R) h)

-- incunable/chip.parameters
def F352.T0 (t8 : AV) (t23 : AV) (x : AV × AV) : Tm := tmL [(3, t8), (4, x.1), (23, t23), (24, x.2)]
def F352.B0 (R : AV → AHeap → Prop) (t8 : AV) (t23 : AV) (X0 : Tm → AHeap → Prop) (x : AV × AV) (H_3 : AHeap) : Prop :=
  Pu (aBin Tryz.prog .lss 3 x.2 (.int .i64 7)) fun t25 =>
  Br t25 (
    Pu (aIndex Tryz.prog 409 t23 x.2) fun t26 =>
    Cq (hUp H_3 9) fun H_4 =>
    Pu (aSlice Tryz.prog 26 t8 (some x.1) none none) fun t30 =>
    Ca Tryz.prog kp 137 [t26] H_4 fun t32 H_5 =>
    Pp (copyA Tryz.prog H_5 #[26, 26] [t30, t32]) fun t33 H_6 =>
    Pu (aBin Tryz.prog .add 3 x.1 t33) fun t34 =>
    (True) ∧
    Pu (aBin Tryz.prog .add 3 x.2 (.int .i64 1)) fun t35 =>
    X0 (F352.T0 t8 t23 (t34, t35)) H_6)
  (
    R t8 H_3)
def F352.L0 (R : AV → AHeap → Prop) (t8 : AV) (t23 : AV) (x : AV × AV) (H_3 : AHeap) : Prop := loopW (kp 352) (subC [1, 1, 1, 0, 1, 1, 1] (bodyOf Tryz.f352)) (wpE Tryz.prog kp (kp 352) (subC [1, 1, 1, 0, 1, 1, 1] (bodyOf Tryz.f352))) (kBlock 0 (kSeq (wpE Tryz.prog kp (kp 352) (subC [1, 1, 1, 1] (bodyOf Tryz.f352))) (retE Tryz.prog Tryz.f352 R))) (F352.T0 t8 t23 x) H_3
theorem F352.B0_eq (R : AV → AHeap → Prop) (t8 : AV) (t23 : AV) (X0 : Tm → AHeap → Prop) (x : AV × AV) (H_3 : AHeap) : F352.B0 R t8 t23 X0 x H_3 = wpE Tryz.prog kp (kp 352) (subC [1, 1, 1, 0, 1, 1, 1] (bodyOf Tryz.f352)) (kLoop (keepL (kp 352) (subC [1, 1, 1, 0, 1, 1, 1] (bodyOf Tryz.f352))) (kBlock 0 (kSeq (wpE Tryz.prog kp (kp 352) (subC [1, 1, 1, 1] (bodyOf Tryz.f352))) (retE Tryz.prog Tryz.f352 R))) X0) (F352.T0 t8 t23 x) H_3 := by kernel_rfl
theorem F352.L0_of (R : AV → AHeap → Prop) (t8 : AV) (t23 : AV) (J : Nat → (AV × AV) → AHeap → Prop) (step : ∀ nn xx HH, J nn xx HH → ∀ XX : Tm → AHeap → Prop, (∀ mm yy H', mm < nn → J mm yy H' → XX (F352.T0 t8 t23 yy) H') → F352.B0 R t8 t23 XX xx HH) : ∀ nn xx HH, J nn xx HH → F352.L0 R t8 t23 xx HH :=
  loop_rule (F352.T0 t8 t23) (F352.B0 R t8 t23) (F352.B0_eq R t8 t23) J step
theorem F352.L0_un (R : AV → AHeap → Prop) (t8 : AV) (t23 : AV) (xx : AV × AV) (HH : AHeap) (hh : ∀ XX : Tm → AHeap → Prop, (∀ yy H', F352.L0 R t8 t23 yy H' → XX (F352.T0 t8 t23 yy) H') → F352.B0 R t8 t23 XX xx HH) : F352.L0 R t8 t23 xx HH :=
  loop_once (F352.T0 t8 t23) (F352.B0 R t8 t23) (F352.B0_eq R t8 t23) xx HH hh
def F352 (a0 : AV) (H : AHeap) (R : AV → AHeap → Prop) : Prop :=
  Nb (bxA 7 a0) H fun t1 H_1 =>
  Pu (ldG 7 H_1 t1) fun t7 =>
  Ca Tryz.prog kp 102 [t7] H_1 fun t8 H_2 =>
  Pu (fdP 0 t1) fun t9 =>
  Pu (ldS H_2 t9) fun t10 =>
  Pu (fdP 1 t1) fun t11 =>
  Pu (ldS H_2 t11) fun t12 =>
  Pu (fdP 2 t1) fun t13 =>
  Pu (ldS H_2 t13) fun t14 =>
  Pu (fdP 3 t1) fun t15 =>
  Pu (ldS H_2 t15) fun t16 =>
  Pu (fdP 4 t1) fun t17 =>
  Pu (ldS H_2 t17) fun t18 =>
  Pu (fdP 5 t1) fun t19 =>
  Pu (ldS H_2 t19) fun t20 =>
  Pu (fdP 6 t1) fun t21 =>
  Pu (ldS H_2 t21) fun t22 =>
  Pu (aBuild Tryz.prog 409 [(0, t10), (1, t12), (2, t14), (3, t16), (4, t18), (5, t20), (6, t22)]) fun t23 =>
  F352.L0 R t8 t23 ((.int .i64 0), (.int .i64 0)) H_2
theorem F352.eq (a0 : AV) (H : AHeap) (R : AV → AHeap → Prop) : F352 a0 H R = wpE Tryz.prog kp (kp 352) (bodyOf Tryz.f352) (retE Tryz.prog Tryz.f352 R) (argsT [a0] 0 .nil) H := by kernel_rfl
theorem F352.ca {a0 : AV} {H : AHeap} {R : AV → AHeap → Prop} (h : F352 a0 H R) : Ca Tryz.prog kp 352 [a0] H R :=
  Ca.intro (P := Tryz.prog) (kp := kp) (f := 352) (fn := Tryz.f352) (args := [a0]) Tryz.func352 (by kernel_rfl) (Eq.mp (F352.eq a0 H R) h)

-- (*incunable/chip.Chip).poll
def F353 (a0 : AV) (H : AHeap) (R : AV → AHeap → Prop) : Prop :=
  Pu (nilC a0) fun t6 =>
  Pu (fdP 19 t6) fun t7 =>
  Pu (ldS H t7) fun t8 =>
  Pu (aBin Tryz.prog .gtr 3 t8 (.int .i64 0)) fun t9 =>
  Br t9 (
    Pu (nilC a0) fun t11 =>
    Pu (fdP 19 t11) fun t12 =>
    Pu (ldS H t12) fun t13 =>
    Pu (aBin Tryz.prog .sub 3 t13 (.int .i64 1)) fun t14 =>
    Pu (nilC a0) fun t15 =>
    Pu (fdP 19 t15) fun t16 =>
    Pu (stA 1 H t16 t14) fun H_1 =>
    R (.int .u8 128) H_1)
  (
    Ca Tryz.prog kp 358 [a0] H fun t18 H_2 =>
    Pu (nilC a0) fun t20 =>
    Pu (fdP 23 t20) fun t21 =>
    Pu (ldS H_2 t21) fun t22 =>
    Pu (lnS t22) fun t23 =>
    Pu (aBin Tryz.prog .gtr 3 t23 (.int .i64 0)) fun t24 =>
    Gd t24 true (Pu (some a0)) fun t26 =>
    Gd t24 true (Pu (nilC t26)) fun t27 =>
    Gd t24 true (Pu (fdP 24 t27)) fun t28 =>
    Gd t24 true (Pu (ldS H_2 t28)) fun t29 =>
    Gd t24 true (Pu (aBin Tryz.prog .gtr 3 t29 (.int .i64 0))) fun t30 =>
    Pu (pickA t24 t30 (.bool false)) fun t31 =>
    Jn (fun (H_5 : AHeap) =>
      Pu (nilC a0) fun t43 =>
      Pu (fdP 26 t43) fun t44 =>
      Pu (ldS H_5 t44) fun t45 =>
      Jn (fun (t4 : AV) (H_6 : AHeap) =>
        Br t31 (
          Pu (aBin Tryz.prog .or 5 (.int .u8 192) t4) fun t48 =>
          R t48 H_6)
        (
          Pu (nilC a0) fun t50 =>
          Pu (fdP 25 t50) fun t51 =>
          Pu (ldS H_6 t51) fun t52 =>
          Jn (fun (t4_1 : AV) (H_7 : AHeap) =>
            Pu (aBin Tryz.prog .or 5 (.int .u8 224) t4_1) fun t56 =>
            R t56 H_7) fun J_2 =>
          Br t52 (
            Pu (aBin Tryz.prog .or 5 t4 (.int .u8 1)) fun t54 =>
            J_2 t54 H_6)
          (
            J_2 t4 H_6))) fun J_1 =>
      Br t45 (
        J_1 (.int .u8 2) H_5)
      (
        J_1 (.int .u8 0) H_5)) fun J =>
    Br t31 (
      Pu (nilC a0) fun t34 =>
      Pu (fdP 24 t34) fun t35 =>
      Pu (ldS H_2 t35) fun t36 =>
      Pu (aBin Tryz.prog .sub 3 t36 (.int .i64 1)) fun t37 =>
      Pu (nilC a0) fun t38 =>
      Pu (fdP 24 t38) fun t39 =>
      Pu (stA 1 H_2 t39 t37) fun H_3 =>
      J H_3)
    (
      Ca Tryz.prog kp 357 [a0] H_2 fun t41 H_4 =>
      J H_4))
theorem F353.eq (a0 : AV) (H : AHeap) (R : AV → AHeap → Prop) : F353 a0 H R = wpE Tryz.prog kp (kp 353) (bodyOf Tryz.f353) (retE Tryz.prog Tryz.f353 R) (argsT [a0] 0 .nil) H := by kernel_rfl
theorem F353.ca {a0 : AV} {H : AHeap} {R : AV → AHeap → Prop} (h : F353 a0 H R) : Ca Tryz.prog kp 353 [a0] H R :=
  Ca.intro (P := Tryz.prog) (kp := kp) (f := 353) (fn := Tryz.f353) (args := [a0]) Tryz.func353 (by kernel_rfl) (Eq.mp (F353.eq a0 H R) h)

-- (*incunable/chip.Chip).at
def F354 (a0 a1 : AV) (H : AHeap) (R : AV → AHeap → Prop) : Prop :=
  Pu (nilC a0) fun t6 =>
  Pu (fdP 15 t6) fun t7 =>
  Pu (ldS H t7) fun t8 =>
  Pu (aBin Tryz.prog .add 3 t8 (.int .i64 1)) fun t9 =>
  Pu (nilC a0) fun t10 =>
  Pu (fdP 15 t10) fun t11 =>
  Pu (stA 1 H t11 t9) fun H_1 =>
  Pu (nilC a0) fun t13 =>
  Pu (fdP 15 t13) fun t14 =>
  Pu (ldS H_1 t14) fun t15 =>
  Pu (lnS a1) fun t17 =>
  Pu (aBin Tryz.prog .gtr 3 t15 t17) fun t18 =>
  Br t18 (
    R (.int .u8 255) H_1)
  (
    Pu (nilC a0) fun t21 =>
    Pu (fdP 15 t21) fun t22 =>
    Pu (ldS H_1 t22) fun t23 =>
    Pu (aBin Tryz.prog .sub 3 t23 (.int .i64 1)) fun t24 =>
    Pu (ixS 1 a1 t24) fun t25 =>
    Pu (ldS H_1 t25) fun t26 =>
    R t26 H_1)
theorem F354.eq (a0 a1 : AV) (H : AHeap) (R : AV → AHeap → Prop) : F354 a0 a1 H R = wpE Tryz.prog kp (kp 354) (bodyOf Tryz.f354) (retE Tryz.prog Tryz.f354 R) (argsT [a0, a1] 0 .nil) H := by kernel_rfl
theorem F354.ca {a0 a1 : AV} {H : AHeap} {R : AV → AHeap → Prop} (h : F354 a0 a1 H R) : Ca Tryz.prog kp 354 [a0, a1] H R :=
  Ca.intro (P := Tryz.prog) (kp := kp) (f := 354) (fn := Tryz.f354) (args := [a0, a1]) Tryz.func354 (by kernel_rfl) (Eq.mp (F354.eq a0 a1 H R) h)

-- (*incunable/chip.Chip).past
def F357.T0 (a0 : AV) (t7 : AV) (t8 : AV) (x : AV) : Tm := tmL [(0, a0), (7, t7), (8, t8), (9, x)]
def F357.B0 (a0 : AV) (R : AV → AHeap → Prop) (t7 : AV) (t8 : AV) (X0 : Tm → AHeap → Prop) (x : AV) (H_1 : AHeap) : Prop :=
  Pu (aBin Tryz.prog .lss 3 x t8) fun t10 =>
  Br t10 (
    Pu (ixS 2 t7 x) fun t11 =>
    Pu (ldG 2 H_1 t11) fun t12 =>
    Nw (.cells 2 [.int .i64 0, .nils]) (fun h => (.ptr h 0)) H_1 fun t3 H_2 =>
    Pu (stA 2 H_2 t3 t12) fun H_3 =>
    Pu (ldG 2 H_3 t3) fun t15 =>
    Ca Tryz.prog kp 361 [a0, t15] H_3 fun t16 H_4 =>
    Pu (nilC a0) fun t17 =>
    Pu (fdP 26 t17) fun t18 =>
    Pu (stA 1 H_4 t18 t16) fun H_5 =>
    Pu (aBin Tryz.prog .add 3 x (.int .i64 1)) fun t19 =>
    X0 (F357.T0 a0 t7 t8 (t19)) H_5)
  (
    Pu (nilC a0) fun t22 =>
    Pu (fdP 23 t22) fun t23 =>
    Pu (stA 1 H_1 t23 .nils) fun H_6 =>
    Pu (nilC a0) fun t24 =>
    Pu (fdP 24 t24) fun t25 =>
    Pu (stA 1 H_6 t25 (.int .i64 0)) fun H_7 =>
    R (.tup []) H_7)
def F357.L0 (a0 : AV) (R : AV → AHeap → Prop) (t7 : AV) (t8 : AV) (x : AV) (H_1 : AHeap) : Prop := loopW (kp 357) (subC [0, 1, 1, 1] (bodyOf Tryz.f357)) (wpE Tryz.prog kp (kp 357) (subC [0, 1, 1, 1] (bodyOf Tryz.f357))) (kBlock 0 (kSeq (wpE Tryz.prog kp (kp 357) (subC [1] (bodyOf Tryz.f357))) (retE Tryz.prog Tryz.f357 R))) (F357.T0 a0 t7 t8 x) H_1
theorem F357.B0_eq (a0 : AV) (R : AV → AHeap → Prop) (t7 : AV) (t8 : AV) (X0 : Tm → AHeap → Prop) (x : AV) (H_1 : AHeap) : F357.B0 a0 R t7 t8 X0 x H_1 = wpE Tryz.prog kp (kp 357) (subC [0, 1, 1, 1] (bodyOf Tryz.f357)) (kLoop (keepL (kp 357) (subC [0, 1, 1, 1] (bodyOf Tryz.f357))) (kBlock 0 (kSeq (wpE Tryz.prog kp (kp 357) (subC [1] (bodyOf Tryz.f357))) (retE Tryz.prog Tryz.f357 R))) X0) (F357.T0 a0 t7 t8 x) H_1 := by kernel_rfl
theorem F357.L0_of (a0 : AV) (R : AV → AHeap → Prop) (t7 : AV) (t8 : AV) (J : Nat → AV → AHeap → Prop) (step : ∀ nn xx HH, J nn xx HH → ∀ XX : Tm → AHeap → Prop, (∀ mm yy H', mm < nn → J mm yy H' → XX (F357.T0 a0 t7 t8 yy) H') → F357.B0 a0 R t7 t8 XX xx HH) : ∀ nn xx HH, J nn xx HH → F357.L0 a0 R t7 t8 xx HH :=
  loop_rule (F357.T0 a0 t7 t8) (F357.B0 a0 R t7 t8) (F357.B0_eq a0 R t7 t8) J step
theorem F357.L0_un (a0 : AV) (R : AV → AHeap → Prop) (t7 : AV) (t8 : AV) (xx : AV) (HH : AHeap) (hh : ∀ XX : Tm → AHeap → Prop, (∀ yy H', F357.L0 a0 R t7 t8 yy H' → XX (F357.T0 a0 t7 t8 yy) H') → F357.B0 a0 R t7 t8 XX xx HH) : F357.L0 a0 R t7 t8 xx HH :=
  loop_once (F357.T0 a0 t7 t8) (F357.B0 a0 R t7 t8) (F357.B0_eq a0 R t7 t8) xx HH hh
def F357 (a0 : AV) (H : AHeap) (R : AV → AHeap → Prop) : Prop :=
  Pu (nilC a0) fun t5 =>
  Pu (fdP 23 t5) fun t6 =>
  Pu (ldS H t6) fun t7 =>
  Pu (lnS t7) fun t8 =>
  F357.L0 a0 R t7 t8 ((.int .i64 0)) H
theorem F357.eq (a0 : AV) (H : AHeap) (R : AV → AHeap → Prop) : F357 a0 H R = wpE Tryz.prog kp (kp 357) (bodyOf Tryz.f357) (retE Tryz.prog Tryz.f357 R) (argsT [a0] 0 .nil) H := by kernel_rfl
theorem F357.ca {a0 : AV} {H : AHeap} {R : AV → AHeap → Prop} (h : F357 a0 H R) : Ca Tryz.prog kp 357 [a0] H R :=
  Ca.intro (P := Tryz.prog) (kp := kp) (f := 357) (fn := Tryz.f357) (args := [a0]) Tryz.func357 (by kernel_rfl) (Eq.mp (F357.eq a0 H R) h)

-- (*incunable/chip.Chip).settle
def F358.T0 (a0 : AV) (t2 : AV) (t23 : AV) (t24 : AV) (x : AV) : Tm := tmL [(0, a0), (2, t2), (23, t23), (24, t24), (25, x)]
def F358.T1 (a0 : AV) (t2 : AV) (t51 : AV) (t52 : AV) (x1 : AV) : Tm := tmL [(0, a0), (2, t2), (51, t51), (52, t52), (53, x1)]
def F358.T2 (a0 : AV) (t65 : AV) (t66 : AV) (x2 : AV) : Tm := tmL [(0, a0), (65, t65), (66, t66), (67, x2)]
def F358.B2 (a0 : AV) (R : AV → AHeap → Prop) (t65 : AV) (t66 : AV) (X2 : Tm → AHeap → Prop) (x2 : AV) (H_18 : AHeap) : Prop :=
  Pu (aBin Tryz.prog .lss 3 x2 t66) fun t68 =>
  Br t68 (
    Pu (ixS 1 t65 x2) fun t69 =>
    Pu (ldS H_18 t69) fun t70 =>
    Pu (nilC a0) fun t72 =>
    Pu (fdP 8 t72) fun t73 =>
    Pu (ldS H_18 t73) fun t74 =>
    Ca Tryz.prog kp 363 [t74] H_18 fun t75 H_19 =>
    Jn (fun (H_25 : AHeap) =>
      Pu (aBin Tryz.prog .add 3 x2 (.int .i64 1)) fun t93 =>
      X2 (F358.T2 a0 t65 t66 (t93)) H_25) fun J_1 =>
    Br t75 (
      Cq (hUp H_19 8) fun H_20 =>
      Pu (nilC a0) fun t77 =>
      Pu (fdP 7 t77) fun t78 =>
      Pu (ldS H_20 t78) fun t79 =>
      Ca Tryz.prog kp 331 [a0] H_20 fun t82 H_21 =>
      Ca Tryz.prog kp 330 [t79, t70, t82] H_21 fun t83 H_22 =>
      ((StS t78 t79 H_20 ∧ StS t78 t79 H_21 ∧ True) ∧ True) ∧
      Pu (nilC a0) fun t85 =>
      Pu (fdP 25 t85) fun t86 =>
      Pu (stA 1 H_22 t86 (.bool true)) fun H_23 =>
      J_1 H_23)
    (
      Pu (nilC a0) fun t88 =>
      Pu (fdP 7 t88) fun t89 =>
      Pu (ldS H_19 t89) fun t90 =>
      Ca Tryz.prog kp 364 [t90, t70] H_19 fun t92 H_24 =>
      J_1 H_24))
  (
    R (.tup []) H_18)
def F358.L2 (a0 : AV) (R : AV → AHeap → Prop) (t65 : AV) (t66 : AV) (x2 : AV) (H_18 : AHeap) : Prop := loopW (kp 358) (subC [1, 1, 1, 1, 1, 1, 1, 1, 1] (bodyOf Tryz.f358)) (wpE Tryz.prog kp (kp 358) (subC [1, 1, 1, 1, 1, 1, 1, 1, 1] (bodyOf Tryz.f358))) (kBlock 4 (retE Tryz.prog Tryz.f358 R)) (F358.T2 a0 t65 t66 x2) H_18
theorem F358.B2_eq (a0 : AV) (R : AV → AHeap → Prop) (t65 : AV) (t66 : AV) (X2 : Tm → AHeap → Prop) (x2 : AV) (H_18 : AHeap) : F358.B2 a0 R t65 t66 X2 x2 H_18 = wpE Tryz.prog kp (kp 358) (subC [1, 1, 1, 1, 1, 1, 1, 1, 1] (bodyOf Tryz.f358)) (kLoop (keepL (kp 358) (subC [1, 1, 1, 1, 1, 1, 1, 1, 1] (bodyOf Tryz.f358))) (kBlock 4 (retE Tryz.prog Tryz.f358 R)) X2) (F358.T2 a0 t65 t66 x2) H_18 := by kernel_rfl
theorem F358.L2_of (a0 : AV) (R : AV → AHeap → Prop) (t65 : AV) (t66 : AV) (J : Nat → AV → AHeap → Prop) (step : ∀ nn xx HH, J nn xx HH → ∀ XX : Tm → AHeap → Prop, (∀ mm yy H', mm < nn → J mm yy H' → XX (F358.T2 a0 t65 t66 yy) H') → F358.B2 a0 R t65 t66 XX xx HH) : ∀ nn xx HH, J nn xx HH → F358.L2 a0 R t65 t66 xx HH :=
  loop_rule (F358.T2 a0 t65 t66) (F358.B2 a0 R t65 t66) (F358.B2_eq a0 R t65 t66) J step
theorem F358.L2_un (a0 : AV) (R : AV → AHeap → Prop) (t65 : AV) (t66 : AV) (xx : AV) (HH : AHeap) (hh : ∀ XX : Tm → AHeap → Prop, (∀ yy H', F358.L2 a0 R t65 t66 yy H' → XX (F358.T2 a0 t65 t66 yy) H') → F358.B2 a0 R t65 t66 XX xx HH) : F358.L2 a0 R t65 t66 xx HH :=
  loop_once (F358.T2 a0 t65 t66) (F358.B2 a0 R t65 t66) (F358.B2_eq a0 R t65 t66) xx HH hh
def F358.B1 (a0 : AV) (R : AV → AHeap → Prop) (t2 : AV) (t51 : AV) (t52 : AV) (X1 : Tm → AHeap → Prop) (x1 : AV) (H_12 : AHeap) : Prop :=
  Pu (aBin Tryz.prog .lss 3 x1 t52) fun t54 =>
  Br t54 (
    Pu (ixS 2 t51 x1) fun t55 =>
    Pu (ldG 2 H_12 t55) fun t56 =>
    Nw (.cells 2 [.int .i64 0, .nils]) (fun h => (.ptr h 0)) H_12 fun t6 H_13 =>
    Pu (stA 2 H_13 t6 t56) fun H_14 =>
    Pu (ldG 2 H_14 t6) fun t58 =>
    Ca Tryz.prog kp 361 [a0, t58] H_14 fun t59 H_15 =>
    Jn (fun (H_17 : AHeap) =>
      Pu (aBin Tryz.prog .add 3 x1 (.int .i64 1)) fun t63 =>
      X1 (F358.T1 a0 t2 t51 t52 (t63)) H_17) fun J =>
    Br t59 (
      Pu (nilC a0) fun t61 =>
      Pu (fdP 25 t61) fun t62 =>
      Pu (stA 1 H_15 t62 (.bool true)) fun H_16 =>
      J H_16)
    (
      J H_15))
  (
    Pu (fdP 2 t2) fun t64 =>
    Pu (ldS H_12 t64) fun t65 =>
    Pu (lnS t65) fun t66 =>
    F358.L2 a0 R t65 t66 ((.int .i64 0)) H_12)
def F358.L1 (a0 : AV) (R : AV → AHeap → Prop) (t2 : AV) (t51 : AV) (t52 : AV) (x1 : AV) (H_12 : AHeap) : Prop := loopW (kp 358) (subC [1, 1, 1, 1, 1, 0, 1, 1, 1] (bodyOf Tryz.f358)) (wpE Tryz.prog kp (kp 358) (subC [1, 1, 1, 1, 1, 0, 1, 1, 1] (bodyOf Tryz.f358))) (kBlock 2 (kSeq (wpE Tryz.prog kp (kp 358) (subC [1, 1, 1, 1, 1, 1] (bodyOf Tryz.f358))) (retE Tryz.prog Tryz.f358 R))) (F358.T1 a0 t2 t51 t52 x1) H_12
theorem F358.B1_eq (a0 : AV) (R : AV → AHeap → Prop) (t2 : AV) (t51 : AV) (t52 : AV) (X1 : Tm → AHeap → Prop) (x1 : AV) (H_12 : AHeap) : F358.B1 a0 R t2 t51 t52 X1 x1 H_12 = wpE Tryz.prog kp (kp 358) (subC [1, 1, 1, 1, 1, 0, 1, 1, 1] (bodyOf Tryz.f358)) (kLoop (keepL (kp 358) (subC [1, 1, 1, 1, 1, 0, 1, 1, 1] (bodyOf Tryz.f358))) (kBlock 2 (kSeq (wpE Tryz.prog kp (kp 358) (subC [1, 1, 1, 1, 1, 1] (bodyOf Tryz.f358))) (retE Tryz.prog Tryz.f358 R))) X1) (F358.T1 a0 t2 t51 t52 x1) H_12 := by kernel_rfl
theorem F358.L1_of (a0 : AV) (R : AV → AHeap → Prop) (t2 : AV) (t51 : AV) (t52 : AV) (J : Nat → AV → AHeap → Prop) (step : ∀ nn xx HH, J nn xx HH → ∀ XX : Tm → AHeap → Prop, (∀ mm yy H', mm < nn → J mm yy H' → XX (F358.T1 a0 t2 t51 t52 yy) H') → F358.B1 a0 R t2 t51 t52 XX xx HH) : ∀ nn xx HH, J nn xx HH → F358.L1 a0 R t2 t51 t52 xx HH :=
  loop_rule (F358.T1 a0 t2 t51 t52) (F358.B1 a0 R t2 t51 t52) (F358.B1_eq a0 R t2 t51 t52) J step
theorem F358.L1_un (a0 : AV) (R : AV → AHeap → Prop) (t2 : AV) (t51 : AV) (t52 : AV) (xx : AV) (HH : AHeap) (hh : ∀ XX : Tm → AHeap → Prop, (∀ yy H', F358.L1 a0 R t2 t51 t52 yy H' → XX (F358.T1 a0 t2 t51 t52 yy) H') → F358.B1 a0 R t2 t51 t52 XX xx HH) : F358.L1 a0 R t2 t51 t52 xx HH :=
  loop_once (F358.T1 a0 t2 t51 t52) (F358.B1 a0 R t2 t51 t52) (F358.B1_eq a0 R t2 t51 t52) xx HH hh
def F358.B0 (a0 : AV) (R : AV → AHeap → Prop) (t2 : AV) (t23 : AV) (t24 : AV) (X0 : Tm → AHeap → Prop) (x : AV) (H_6 : AHeap) : Prop :=
  Pu (aBin Tryz.prog .lss 3 x t24) fun t26 =>
  Br t26 (
    Pu (ixS 1 t23 x) fun t27 =>
    Pu (ldS H_6 t27) fun t28 =>
    Cq (hUp H_6 21) fun H_7 =>
    Pu (nilC a0) fun t31 =>
    Pu (fdP 7 t31) fun t32 =>
    Pu (ldS H_7 t32) fun t33 =>
    Ca Tryz.prog kp 59 [t33, t28] H_7 fun t35 H_8 =>
    Pu (nilC a0) fun t37 =>
    Pu (fdP 8 t37) fun t38 =>
    Pu (ldS H_8 t38) fun t39 =>
    Pu (nilC a0) fun t42 =>
    Pu (fdP 16 t42) fun t43 =>
    Pu (ldS H_8 t43) fun t44 =>
    Ca Tryz.prog kp 362 [t39, t28, t44] H_8 fun t45 H_9 =>
    Ca Tryz.prog kp 318 [t35, t45] H_9 fun t46 H_10 =>
    Pu (nilC a0) fun t47 =>
    Pu (fdP 14 t47) fun t48 =>
    Pu (stA 1 H_10 t48 t46) fun H_11 =>
    ((StS t43 t44 H_7 ∧ StS t43 t44 H_8 ∧ True) ∧ (StS t38 t39 H_7 ∧ StS t38 t39 H_8 ∧ True) ∧ (StS t32 t33 H_7 ∧ True) ∧ True) ∧
    Pu (aBin Tryz.prog .add 3 x (.int .i64 1)) fun t49 =>
    X0 (F358.T0 a0 t2 t23 t24 (t49)) H_11)
  (
    Pu (fdP 1 t2) fun t50 =>
    Pu (ldS H_6 t50) fun t51 =>
    Pu (lnS t51) fun t52 =>
    F358.L1 a0 R t2 t51 t52 ((.int .i64 0)) H_6)
def F358.L0 (a0 : AV) (R : AV → AHeap → Prop) (t2 : AV) (t23 : AV) (t24 : AV) (x : AV) (H_6 : AHeap) : Prop := loopW (kp 358) (subC [1, 1, 1, 1, 0, 1, 1, 1] (bodyOf Tryz.f358)) (wpE Tryz.prog kp (kp 358) (subC [1, 1, 1, 1, 0, 1, 1, 1] (bodyOf Tryz.f358))) (kBlock 0 (kSeq (wpE Tryz.prog kp (kp 358) (subC [1, 1, 1, 1, 1] (bodyOf Tryz.f358))) (retE Tryz.prog Tryz.f358 R))) (F358.T0 a0 t2 t23 t24 x) H_6
theorem F358.B0_eq (a0 : AV) (R : AV → AHeap → Prop) (t2 : AV) (t23 : AV) (t24 : AV) (X0 : Tm → AHeap → Prop) (x : AV) (H_6 : AHeap) : F358.B0 a0 R t2 t23 t24 X0 x H_6 = wpE Tryz.prog kp (kp 358) (subC [1, 1, 1, 1, 0, 1, 1, 1] (bodyOf Tryz.f358)) (kLoop (keepL (kp 358) (subC [1, 1, 1, 1, 0, 1, 1, 1] (bodyOf Tryz.f358))) (kBlock 0 (kSeq (wpE Tryz.prog kp (kp 358) (subC [1, 1, 1, 1, 1] (bodyOf Tryz.f358))) (retE Tryz.prog Tryz.f358 R))) X0) (F358.T0 a0 t2 t23 t24 x) H_6 := by kernel_rfl
theorem F358.L0_of (a0 : AV) (R : AV → AHeap → Prop) (t2 : AV) (t23 : AV) (t24 : AV) (J : Nat → AV → AHeap → Prop) (step : ∀ nn xx HH, J nn xx HH → ∀ XX : Tm → AHeap → Prop, (∀ mm yy H', mm < nn → J mm yy H' → XX (F358.T0 a0 t2 t23 t24 yy) H') → F358.B0 a0 R t2 t23 t24 XX xx HH) : ∀ nn xx HH, J nn xx HH → F358.L0 a0 R t2 t23 t24 xx HH :=
  loop_rule (F358.T0 a0 t2 t23 t24) (F358.B0 a0 R t2 t23 t24) (F358.B0_eq a0 R t2 t23 t24) J step
theorem F358.L0_un (a0 : AV) (R : AV → AHeap → Prop) (t2 : AV) (t23 : AV) (t24 : AV) (xx : AV) (HH : AHeap) (hh : ∀ XX : Tm → AHeap → Prop, (∀ yy H', F358.L0 a0 R t2 t23 t24 yy H' → XX (F358.T0 a0 t2 t23 t24 yy) H') → F358.B0 a0 R t2 t23 t24 XX xx HH) : F358.L0 a0 R t2 t23 t24 xx HH :=
  loop_once (F358.T0 a0 t2 t23 t24) (F358.B0 a0 R t2 t23 t24) (F358.B0_eq a0 R t2 t23 t24) xx HH hh
def F358 (a0 : AV) (H : AHeap) (R : AV → AHeap → Prop) : Prop :=
  Pu (nilC a0) fun t10 =>
  Pu (fdP 20 t10) fun t11 =>
  Pu (ldG 3 H t11) fun t12 =>
  Nw (.cells 3 [.nils, .nils, .nils]) (fun h => (.ptr h 0)) H fun t2 H_1 =>
  Pu (stA 3 H_1 t2 t12) fun H_2 =>
  Pu (ldG 3 H_2 t2) fun t13 =>
  Ca Tryz.prog kp 332 [t13] H_2 fun t14 H_3 =>
  Pu (aUn .not t14) fun t15 =>
  Br t15 (
    R (.tup []) H_3)
  (
    Ca Tryz.prog kp 357 [a0] H_3 fun t17 H_4 =>
    Pu (bdS [.nils, .nils, .nils] []) fun t19 =>
    Pu (nilC a0) fun t20 =>
    Pu (fdP 20 t20) fun t21 =>
    Pu (stA 3 H_4 t21 t19) fun H_5 =>
    Pu (fdP 0 t2) fun t22 =>
    Pu (ldS H_5 t22) fun t23 =>
    Pu (lnS t23) fun t24 =>
    F358.L0 a0 R t2 t23 t24 ((.int .i64 0)) H_5)
theorem F358.eq (a0 : AV) (H : AHeap) (R : AV → AHeap → Prop) : F358 a0 H R = wpE Tryz.prog kp (kp 358) (bodyOf Tryz.f358) (retE Tryz.prog Tryz.f358 R) (argsT [a0] 0 .nil) H := by kernel_rfl
theorem F358.ca {a0 : AV} {H : AHeap} {R : AV → AHeap → Prop} (h : F358 a0 H R) : Ca Tryz.prog kp 358 [a0] H R :=
  Ca.intro (P := Tryz.prog) (kp := kp) (f := 358) (fn := Tryz.f358) (args := [a0]) Tryz.func358 (by kernel_rfl) (Eq.mp (F358.eq a0 H R) h)

end Go.Proofs.YtdjmoojonkjafaaGreat
