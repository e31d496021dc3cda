/- What functions of the program ask for, as propositions, each with the proof that the abstract machine asks for no more; printed by a program of mine. -/
import Derived.Test.YtdjmoojonkjafaaGreatFkp
set_option linter.unusedVariables false
set_option maxRecDepth 100000
set_option maxHeartbeats 4000000
namespace Go.Proofs.YtdjmoojonkjafaaGreat
open Go.AM Go.Proofs
-- incunable/trace.New
def F154 (H : AHeap) (R : AV → AHeap → Prop) : Prop :=
  Nw (.map [] 0) (fun h => (.map h)) H fun t1 H_1 =>
  Pu (bdS [.nils, .int .i64 0, .nilm] [(2, 1, t1)]) fun t2 =>
  Nb (bxA 3 t2) H_1 fun t3 H_2 =>
  R t3 H_2
theorem F154.eq (H : AHeap) (R : AV → AHeap → Prop) : F154 H R = wpE Tryz.prog kp (kp 154) (bodyOf Tryz.f154) (retE Tryz.prog Tryz.f154 R) (argsT [] 0 .nil) H := by kernel_rfl
theorem F154.ca {H : AHeap} {R : AV → AHeap → Prop} (h : F154 H R) : Ca Tryz.prog kp 154 [] H R :=
  Ca.intro (P := Tryz.prog) (kp := kp) (f := 154) (fn := Tryz.f154) (args := []) Tryz.func154 (by kernel_rfl) (Eq.mp (F154.eq H R) h)

-- incunable/poll.may
def F155 (a0 : AV) (H : AHeap) (R : AV → AHeap → Prop) : Prop :=
  Pu (aBin Tryz.prog .geq 3 a0 (.int .i64 1)) fun t4 =>
  Gd t4 true (Pu (some a0)) fun t6 =>
  Gd t4 true (Pu (aBin Tryz.prog .leq 3 t6 (.int .i64 65536))) fun t7 =>
  Pu (pickA t4 t7 (.bool false)) fun t8 =>
  R t8 H
theorem F155.eq (a0 : AV) (H : AHeap) (R : AV → AHeap → Prop) : F155 a0 H R = wpE Tryz.prog kp (kp 155) (bodyOf Tryz.f155) (retE Tryz.prog Tryz.f155 R) (argsT [a0] 0 .nil) H := by kernel_rfl
theorem F155.ca {a0 : AV} {H : AHeap} {R : AV → AHeap → Prop} (h : F155 a0 H R) : Ca Tryz.prog kp 155 [a0] H R :=
  Ca.intro (P := Tryz.prog) (kp := kp) (f := 155) (fn := Tryz.f155) (args := [a0]) Tryz.func155 (by kernel_rfl) (Eq.mp (F155.eq a0 H R) h)

-- incunable/poll.Ready
def F156 (a0 a1 : AV) (H : AHeap) (R : AV → AHeap → Prop) : Prop :=
  Ca Tryz.prog kp 218 [a0, (.int .u8 96), a1] H fun t8 H_1 =>
  Pu (exT t8 0) fun t9 =>
  Pu (exT t8 1) fun t10 =>
  R (.tup [t9, t10]) H_1
theorem F156.eq (a0 a1 : AV) (H : AHeap) (R : AV → AHeap → Prop) : F156 a0 a1 H R = wpE Tryz.prog kp (kp 156) (bodyOf Tryz.f156) (retE Tryz.prog Tryz.f156 R) (argsT [a0, a1] 0 .nil) H := by kernel_rfl
theorem F156.ca {a0 a1 : AV} {H : AHeap} {R : AV → AHeap → Prop} (h : F156 a0 a1 H R) : Ca Tryz.prog kp 156 [a0, a1] H R :=
  Ca.intro (P := Tryz.prog) (kp := kp) (f := 156) (fn := Tryz.f156) (args := [a0, a1]) Tryz.func156 (by kernel_rfl) (Eq.mp (F156.eq a0 a1 H R) h)

-- bytes.Equal
def F157 (a0 a1 : AV) (H : AHeap) (R : AV → AHeap → Prop) : Prop :=
  Pu (aread Tryz.prog H (.str a0)) fun t6 =>
  Pu (aread Tryz.prog H (.str a1)) fun t8 =>
  Pu (aBin Tryz.prog .eql 9 t6 t8) fun t9 =>
  R t9 H
theorem F157.eq (a0 a1 : AV) (H : AHeap) (R : AV → AHeap → Prop) : F157 a0 a1 H R = wpE Tryz.prog kp (kp 157) (bodyOf Tryz.f157) (retE Tryz.prog Tryz.f157 R) (argsT [a0, a1] 0 .nil) H := by kernel_rfl
theorem F157.ca {a0 a1 : AV} {H : AHeap} {R : AV → AHeap → Prop} (h : F157 a0 a1 H R) : Ca Tryz.prog kp 157 [a0, a1] H R :=
  Ca.intro (P := Tryz.prog) (kp := kp) (f := 157) (fn := Tryz.f157) (args := [a0, a1]) Tryz.func157 (by kernel_rfl) (Eq.mp (F157.eq a0 a1 H R) h)

-- incunable/incunableref04.from
def F158 (a0 a1 a2 : AV) (H : AHeap) (R : AV → AHeap → Prop) : Prop :=
  Pu (aBin Tryz.prog .geq 3 a0 a1) fun t9 =>
  Gd t9 true (Pu (some a0)) fun t11 =>
  Gd t9 true (Pu (some a2)) fun t12 =>
  Gd t9 true (Pu (aBin Tryz.prog .leq 3 t11 t12)) fun t13 =>
  Pu (pickA t9 t13 (.bool false)) fun t14 =>
  R t14 H
theorem F158.eq (a0 a1 a2 : AV) (H : AHeap) (R : AV → AHeap → Prop) : F158 a0 a1 a2 H R = wpE Tryz.prog kp (kp 158) (bodyOf Tryz.f158) (retE Tryz.prog Tryz.f158 R) (argsT [a0, a1, a2] 0 .nil) H := by kernel_rfl
theorem F158.ca {a0 a1 a2 : AV} {H : AHeap} {R : AV → AHeap → Prop} (h : F158 a0 a1 a2 H R) : Ca Tryz.prog kp 158 [a0, a1, a2] H R :=
  Ca.intro (P := Tryz.prog) (kp := kp) (f := 158) (fn := Tryz.f158) (args := [a0, a1, a2]) Tryz.func158 (by kernel_rfl) (Eq.mp (F158.eq a0 a1 a2 H R) h)

-- incunable/ident.ask
def F159 (a0 a1 : AV) (H : AHeap) (R : AV → AHeap → Prop) : Prop :=
  Pu (bdL 1 [.int .u8 0] [(0, 1, a1)]) fun t8 =>
  Ca Tryz.prog kp 141 [a0, t8] H fun t9 H_1 =>
  Pu (aBin Tryz.prog .neq 35 t9 (.int .i64 0)) fun t11 =>
  Br t11 (
    R t9 H_1)
  (
    Pu (bdL 1 [.int .u8 0] [(0, 1, (.int .u8 0))]) fun t14 =>
    Ca Tryz.prog kp 232 [a0, t14] H_1 fun t15 H_2 =>
    R t15 H_2)
theorem F159.eq (a0 a1 : AV) (H : AHeap) (R : AV → AHeap → Prop) : F159 a0 a1 H R = wpE Tryz.prog kp (kp 159) (bodyOf Tryz.f159) (retE Tryz.prog Tryz.f159 R) (argsT [a0, a1] 0 .nil) H := by kernel_rfl
theorem F159.ca {a0 a1 : AV} {H : AHeap} {R : AV → AHeap → Prop} (h : F159 a0 a1 H R) : Ca Tryz.prog kp 159 [a0, a1] H R :=
  Ca.intro (P := Tryz.prog) (kp := kp) (f := 159) (fn := Tryz.f159) (args := [a0, a1]) Tryz.func159 (by kernel_rfl) (Eq.mp (F159.eq a0 a1 H R) h)

-- incunable/ident.Take
def F160.T0 (a0 : AV) (t2 : AV) (t4 : AV) (t17 : AV) (x : AV) : Tm := tmL [(0, a0), (2, t2), (4, t4), (17, t17), (18, x)]
def F160.B0 (a0 : AV) (R : AV → AHeap → Prop) (t2 : AV) (t4 : AV) (t17 : AV) (X0 : Tm → AHeap → Prop) (x : AV) (H_6 : AHeap) : Prop :=
  Pu (aBin Tryz.prog .lss 3 x (.int .i64 7)) fun t19 =>
  Br t19 (
    Pu (aIndex Tryz.prog 315 t17 x) fun t21 =>
    Pu (aBin Tryz.prog .mul 3 (.int .i64 2) x) fun t26 =>
    Pu (aBin Tryz.prog .mul 3 (.int .i64 2) x) fun t28 =>
    Pu (aBin Tryz.prog .add 3 t28 (.int .i64 2)) fun t29 =>
    Pu (aSlice Tryz.prog 26 a0 (some t26) (some t29) none) fun t30 =>
    Ca Tryz.prog kp 233 [t30] H_6 fun t31 H_7 =>
    Pu (exT t31 0) fun t32 =>
    Pu (exT t31 1) fun t33 =>
    Pu (nilC t21) fun t34 =>
    Pu (stA 1 H_7 t34 t32) fun H_8 =>
    Pu (aBin Tryz.prog .add 3 x (.int .i64 1)) fun t35 =>
    X0 (F160.T0 a0 t2 t4 t17 (t35)) H_8)
  (
    Pu (ldG 7 H_6 t4) fun t36 =>
    Ca Tryz.prog kp 144 [t36] H_6 fun t37 H_9 =>
    Pu (aBin Tryz.prog .neq 35 t37 (.int .i64 0)) fun t38 =>
    Br t38 (
      Pu (bdS [.int .i64 0, .int .i64 0, .int .i64 0, .int .i64 0, .int .i64 0, .int .i64 0, .int .i64 0] []) fun t39 =>
      Pu (stA 7 H_9 t2 t39) fun H_10 =>
      Pu (resC [ldG 7 H_10 t2, some (.int .i64 11)]) fun v_2 =>
      R v_2 H_10)
    (
      Pu (ldG 7 H_9 t4) fun t40 =>
      Pu (stA 7 H_9 t2 t40) fun H_11 =>
      Pu (resC [ldG 7 H_11 t2, some (.int .i64 0)]) fun v_3 =>
      R v_3 H_11))
def F160.L0 (a0 : AV) (R : AV → AHeap → Prop) (t2 : AV) (t4 : AV) (t17 : AV) (x : AV) (H_6 : AHeap) : Prop := loopW (kp 160) (subC [1, 1, 1, 0, 1, 1, 1] (bodyOf Tryz.f160)) (wpE Tryz.prog kp (kp 160) (subC [1, 1, 1, 0, 1, 1, 1] (bodyOf Tryz.f160))) (kBlock 1 (kSeq (wpE Tryz.prog kp (kp 160) (subC [1, 1, 1, 1] (bodyOf Tryz.f160))) (retE Tryz.prog Tryz.f160 R))) (F160.T0 a0 t2 t4 t17 x) H_6
theorem F160.B0_eq (a0 : AV) (R : AV → AHeap → Prop) (t2 : AV) (t4 : AV) (t17 : AV) (X0 : Tm → AHeap → Prop) (x : AV) (H_6 : AHeap) : F160.B0 a0 R t2 t4 t17 X0 x H_6 = wpE Tryz.prog kp (kp 160) (subC [1, 1, 1, 0, 1, 1, 1] (bodyOf Tryz.f160)) (kLoop (keepL (kp 160) (subC [1, 1, 1, 0, 1, 1, 1] (bodyOf Tryz.f160))) (kBlock 1 (kSeq (wpE Tryz.prog kp (kp 160) (subC [1, 1, 1, 1] (bodyOf Tryz.f160))) (retE Tryz.prog Tryz.f160 R))) X0) (F160.T0 a0 t2 t4 t17 x) H_6 := by kernel_rfl
theorem F160.L0_of (a0 : AV) (R : AV → AHeap → Prop) (t2 : AV) (t4 : AV) (t17 : AV) (J : Nat → AV → AHeap → Prop) (step : ∀ nn xx HH, J nn xx HH → ∀ XX : Tm → AHeap → Prop, (∀ mm yy H', mm < nn → J mm yy H' → XX (F160.T0 a0 t2 t4 t17 yy) H') → F160.B0 a0 R t2 t4 t17 XX xx HH) : ∀ nn xx HH, J nn xx HH → F160.L0 a0 R t2 t4 t17 xx HH :=
  loop_rule (F160.T0 a0 t2 t4 t17) (F160.B0 a0 R t2 t4 t17) (F160.B0_eq a0 R t2 t4 t17) J step
theorem F160.L0_un (a0 : AV) (R : AV → AHeap → Prop) (t2 : AV) (t4 : AV) (t17 : AV) (xx : AV) (HH : AHeap) (hh : ∀ XX : Tm → AHeap → Prop, (∀ yy H', F160.L0 a0 R t2 t4 t17 yy H' → XX (F160.T0 a0 t2 t4 t17 yy) H') → F160.B0 a0 R t2 t4 t17 XX xx HH) : F160.L0 a0 R t2 t4 t17 xx HH :=
  loop_once (F160.T0 a0 t2 t4 t17) (F160.B0 a0 R t2 t4 t17) (F160.B0_eq a0 R t2 t4 t17) xx HH hh
def F160 (a0 : AV) (H : AHeap) (R : AV → AHeap → Prop) : Prop :=
  Nw (.cells 7 [.int .i64 0, .int .i64 0, .int .i64 0, .int .i64 0, .int .i64 0, .int .i64 0, .int .i64 0]) (fun h => (.ptr h 0)) H fun t2 H_1 =>
  Pu (lnS a0) fun t9 =>
  Pu (aBin Tryz.prog .lss 3 t9 (.int .i64 14)) fun t10 =>
  Br t10 (
    Pu (bdS [.int .i64 0, .int .i64 0, .int .i64 0, .int .i64 0, .int .i64 0, .int .i64 0, .int .i64 0] []) fun t11 =>
    Pu (stA 7 H_1 t2 t11) fun H_2 =>
    Pu (resC [ldG 7 H_2 t2, some (.int .i64 10)]) fun v =>
    R v H_2)
  (
    Pu (lnS a0) fun t14 =>
    Pu (aBin Tryz.prog .gtr 3 t14 (.int .i64 14)) fun t15 =>
    Br t15 (
      Pu (bdS [.int .i64 0, .int .i64 0, .int .i64 0, .int .i64 0, .int .i64 0, .int .i64 0, .int .i64 0] []) fun t16 =>
      Pu (stA 7 H_1 t2 t16) fun H_3 =>
      Pu (resC [ldG 7 H_3 t2, some (.int .i64 13)]) fun v_1 =>
      R v_1 H_3)
    (
      Nw (.cells 7 [.int .i64 0, .int .i64 0, .int .i64 0, .int .i64 0, .int .i64 0, .int .i64 0, .int .i64 0]) (fun h => (.ptr h 0)) H_1 fun t4 H_4 =>
      Ca Tryz.prog kp 226 [t4] H_4 fun t17 H_5 =>
      F160.L0 a0 R t2 t4 t17 ((.int .i64 0)) H_5))
theorem F160.eq (a0 : AV) (H : AHeap) (R : AV → AHeap → Prop) : F160 a0 H R = wpE Tryz.prog kp (kp 160) (bodyOf Tryz.f160) (retE Tryz.prog Tryz.f160 R) (argsT [a0] 0 .nil) H := by kernel_rfl
theorem F160.ca {a0 : AV} {H : AHeap} {R : AV → AHeap → Prop} (h : F160 a0 H R) : Ca Tryz.prog kp 160 [a0] H R :=
  Ca.intro (P := Tryz.prog) (kp := kp) (f := 160) (fn := Tryz.f160) (args := [a0]) Tryz.func160 (by kernel_rfl) (Eq.mp (F160.eq a0 H R) h)

-- slices.IndexFunc[[]incunable/api.Cycle,incunable/api.Cycle]
def F161.T0 (a0 : AV) (a1 : AV) (t7 : AV) (x : AV) : Tm := tmL [(0, a0), (1, a1), (7, t7), (8, x)]
def F161.B0 (a0 : AV) (a1 : AV) (R : AV → AHeap → Prop) (t7 : AV) (X0 : Tm → AHeap → Prop) (x : AV) (H_1 : AHeap) : Prop :=
  Pu (aBin Tryz.prog .lss 3 x t7) fun t9 =>
  Br t9 (
    Pu (ixS 2 a0 x) fun t14 =>
    Pu (ldG 2 H_1 t14) fun t15 =>
    callF Tryz.prog kp a1 [t15] H_1 fun t16 H_2 =>
    Br t16 (
      R x H_2)
    (
      Pu (aBin Tryz.prog .add 3 x (.int .i64 1)) fun t18 =>
      X0 (F161.T0 a0 a1 t7 (t18)) H_2))
  (
    R (.int .i64 (-1)) H_1)
def F161.L0 (a0 : AV) (a1 : AV) (R : AV → AHeap → Prop) (t7 : AV) (x : AV) (H_1 : AHeap) : Prop := loopW (kp 161) (subC [1, 0, 1, 1, 1] (bodyOf Tryz.f161)) (wpE Tryz.prog kp (kp 161) (subC [1, 0, 1, 1, 1] (bodyOf Tryz.f161))) (kBlock 0 (kSeq (wpE Tryz.prog kp (kp 161) (subC [1, 1] (bodyOf Tryz.f161))) (retE Tryz.prog Tryz.f161 R))) (F161.T0 a0 a1 t7 x) H_1
theorem F161.B0_eq (a0 : AV) (a1 : AV) (R : AV → AHeap → Prop) (t7 : AV) (X0 : Tm → AHeap → Prop) (x : AV) (H_1 : AHeap) : F161.B0 a0 a1 R t7 X0 x H_1 = wpE Tryz.prog kp (kp 161) (subC [1, 0, 1, 1, 1] (bodyOf Tryz.f161)) (kLoop (keepL (kp 161) (subC [1, 0, 1, 1, 1] (bodyOf Tryz.f161))) (kBlock 0 (kSeq (wpE Tryz.prog kp (kp 161) (subC [1, 1] (bodyOf Tryz.f161))) (retE Tryz.prog Tryz.f161 R))) X0) (F161.T0 a0 a1 t7 x) H_1 := by kernel_rfl
theorem F161.L0_of (a0 : AV) (a1 : AV) (R : AV → AHeap → Prop) (t7 : AV) (J : Nat → AV → AHeap → Prop) (step : ∀ nn xx HH, J nn xx HH → ∀ XX : Tm → AHeap → Prop, (∀ mm yy H', mm < nn → J mm yy H' → XX (F161.T0 a0 a1 t7 yy) H') → F161.B0 a0 a1 R t7 XX xx HH) : ∀ nn xx HH, J nn xx HH → F161.L0 a0 a1 R t7 xx HH :=
  loop_rule (F161.T0 a0 a1 t7) (F161.B0 a0 a1 R t7) (F161.B0_eq a0 a1 R t7) J step
theorem F161.L0_un (a0 : AV) (a1 : AV) (R : AV → AHeap → Prop) (t7 : AV) (xx : AV) (HH : AHeap) (hh : ∀ XX : Tm → AHeap → Prop, (∀ yy H', F161.L0 a0 a1 R t7 yy H' → XX (F161.T0 a0 a1 t7 yy) H') → F161.B0 a0 a1 R t7 XX xx HH) : F161.L0 a0 a1 R t7 xx HH :=
  loop_once (F161.T0 a0 a1 t7) (F161.B0 a0 a1 R t7) (F161.B0_eq a0 a1 R t7) xx HH hh
def F161 (a0 a1 : AV) (H : AHeap) (R : AV → AHeap → Prop) : Prop :=
  Pu (lnS a0) fun t7 =>
  F161.L0 a0 a1 R t7 ((.int .i64 0)) H
theorem F161.eq (a0 a1 : AV) (H : AHeap) (R : AV → AHeap → Prop) : F161 a0 a1 H R = wpE Tryz.prog kp (kp 161) (bodyOf Tryz.f161) (retE Tryz.prog Tryz.f161 R) (argsT [a0, a1] 0 .nil) H := by kernel_rfl
theorem F161.ca {a0 a1 : AV} {H : AHeap} {R : AV → AHeap → Prop} (h : F161 a0 a1 H R) : Ca Tryz.prog kp 161 [a0, a1] H R :=
  Ca.intro (P := Tryz.prog) (kp := kp) (f := 161) (fn := Tryz.f161) (args := [a0, a1]) Tryz.func161 (by kernel_rfl) (Eq.mp (F161.eq a0 a1 H R) h)

-- incunable/judge.Run$1
def F162 (a0 a1 : AV) (H : AHeap) (R : AV → AHeap → Prop) : Prop :=
  Nb (bxA 2 a0) H fun t2 H_1 =>
  Pu (ldS H_1 a1) fun t4 =>
  Pu (ldG 2 H_1 t2) fun t5 =>
  Ca Tryz.prog kp 53 [t4, t5] H_1 fun t6 H_2 =>
  Pu (aUn .not t6) fun t7 =>
  R t7 H_2
theorem F162.eq (a0 a1 : AV) (H : AHeap) (R : AV → AHeap → Prop) : F162 a0 a1 H R = wpE Tryz.prog kp (kp 162) (bodyOf Tryz.f162) (retE Tryz.prog Tryz.f162 R) (argsT [a0, a1] 0 .nil) H := by kernel_rfl
theorem F162.ca {a0 a1 : AV} {H : AHeap} {R : AV → AHeap → Prop} (h : F162 a0 a1 H R) : Ca Tryz.prog kp 162 [a0, a1] H R :=
  Ca.intro (P := Tryz.prog) (kp := kp) (f := 162) (fn := Tryz.f162) (args := [a0, a1]) Tryz.func162 (by kernel_rfl) (Eq.mp (F162.eq a0 a1 H R) h)

-- (*incunable/judge.Judge).is
def F163 (a0 : AV) (H : AHeap) (R : AV → AHeap → Prop) : Prop :=
  Pu (aBin Tryz.prog .neq 94 a0 .nilp) fun t4 =>
  Gd t4 true (Pu (some a0)) fun t6 =>
  Gd t4 true (Pu (nilC t6)) fun t7 =>
  Gd t4 true (Pu (fdP 7 t7)) fun t8 =>
  Gd t4 true (Pu (ldS H t8)) fun t9 =>
  Gd t4 true (Pu (lnS t9)) fun t10 =>
  Gd t4 true (Pu (aBin Tryz.prog .gtr 3 t10 (.int .i64 0))) fun t11 =>
  Pu (pickA t4 t11 (.bool false)) fun t12 =>
  R t12 H
theorem F163.eq (a0 : AV) (H : AHeap) (R : AV → AHeap → Prop) : F163 a0 H R = wpE Tryz.prog kp (kp 163) (bodyOf Tryz.f163) (retE Tryz.prog Tryz.f163 R) (argsT [a0] 0 .nil) H := by kernel_rfl
theorem F163.ca {a0 : AV} {H : AHeap} {R : AV → AHeap → Prop} (h : F163 a0 H R) : Ca Tryz.prog kp 163 [a0] H R :=
  Ca.intro (P := Tryz.prog) (kp := kp) (f := 163) (fn := Tryz.f163) (args := [a0]) Tryz.func163 (by kernel_rfl) (Eq.mp (F163.eq a0 H R) h)

-- (*incunable/judge.Judge).see
def F164 (a0 a1 : AV) (H : AHeap) (R : AV → AHeap → Prop) : Prop :=
  Nb (bxA 2 a1) H fun t3 H_1 =>
  Pu (nilC a0) fun t7 =>
  Pu (fdP 11 t7) fun t8 =>
  Pu (ldS H_1 t8) fun t9 =>
  Pu (fdP 0 t3) fun t11 =>
  Pu (ldS H_1 t11) fun t12 =>
  Pu (aBin Tryz.prog .eql 3 t12 (.int .i64 1)) fun t13 =>
  Gd t13 true (Pu (fdP 1 t3)) fun t15 =>
  Gd t13 true (Pu (ldS H_1 t15)) fun t16 =>
  Gd t13 true (Pu (aBin Tryz.prog .eql 5 t16 (.int .u8 112))) fun t17 =>
  Pu (pickA t13 t17 (.bool false)) fun t18 =>
  Gd t18 false (Pu (some t9)) fun t20 =>
  Gd t18 false (Pu (some t20)) fun t21 =>
  Gd t21 true (Pu (fdP 0 t3)) fun t22 =>
  Gd t21 true (Pu (ldS H_1 t22)) fun t23 =>
  Gd t21 true (Pu (aBin Tryz.prog .eql 3 t23 (.int .i64 4))) fun t24 =>
  Gd t18 false (Pu (pickA t21 t24 (.bool false))) fun t25 =>
  Pu (pickA t18 (.bool true) t25) fun t26 =>
  Pu (nilC a0) fun t27 =>
  Pu (fdP 11 t27) fun t28 =>
  Pu (stA 1 H_1 t28 t26) fun H_2 =>
  Pu (fdP 0 t3) fun t30 =>
  Pu (ldS H_2 t30) fun t31 =>
  Pu (aBin Tryz.prog .eql 3 t31 (.int .i64 1)) fun t32 =>
  Gd t32 true (Pu (fdP 1 t3)) fun t34 =>
  Gd t32 true (Pu (ldS H_2 t34)) fun t35 =>
  Gd t32 true (Pu (aBin Tryz.prog .eql 5 t35 (.int .u8 255))) fun t36 =>
  Pu (pickA t32 t36 (.bool false)) fun t37 =>
  Br t37 (
    Ca Tryz.prog kp 234 [a0] H_2 fun t39 H_3 =>
    Ca Tryz.prog kp 235 [a0] H_3 fun t41 H_4 =>
    R (.bool true) H_4)
  (
    Pu (nilC a0) fun t44 =>
    Pu (fdP 8 t44) fun t45 =>
    Pu (ldS H_2 t45) fun t46 =>
    Pu (aBin Tryz.prog .eql 3 t46 (.int .i64 0)) fun t47 =>
    Br t47 (
      R (.bool false) H_2)
    (
      Pu (fdP 0 t3) fun t49 =>
      Pu (ldS H_2 t49) fun t50 =>
      Pu (aBin Tryz.prog .eql 3 t50 (.int .i64 1)) fun t51 =>
      Gd t51 true (Pu (fdP 1 t3)) fun t53 =>
      Gd t51 true (Pu (ldS H_2 t53)) fun t54 =>
      Gd t51 true (Pu (aBin Tryz.prog .eql 5 t54 (.int .u8 112))) fun t55 =>
      Pu (pickA t51 t55 (.bool false)) fun t56 =>
      Br t56 (
        Pu (nilC a0) fun t58 =>
        Pu (fdP 12 t58) fun t59 =>
        Pu (ldS H_2 t59) fun t60 =>
        Pu (aUn .not t60) fun t61 =>
        Jn (fun (H_6 : AHeap) =>
          R (.bool true) H_6) fun J =>
        Br t61 (
          Ca Tryz.prog kp 236 [a0] H_2 fun t63 H_5 =>
          J H_5)
        (
          J H_2))
      (
        Gd t9 true (Pu (fdP 0 t3)) fun t67 =>
        Gd t9 true (Pu (ldS H_2 t67)) fun t68 =>
        Gd t9 true (Pu (aBin Tryz.prog .eql 3 t68 (.int .i64 4))) fun t69 =>
        Pu (pickA t9 t69 (.bool false)) fun t70 =>
        Br t70 (
          Pu (fdP 1 t3) fun t72 =>
          Pu (ldS H_2 t72) fun t73 =>
          Ca Tryz.prog kp 237 [a0, t73] H_2 fun t74 H_7 =>
          R t74 H_7)
        (
          Pu (nilC a0) fun t77 =>
          Pu (fdP 12 t77) fun t78 =>
          Pu (ldS H_2 t78) fun t79 =>
          Br t79 (
            R (.bool false) H_2)
          (
            Pu (fdP 0 t3) fun t81 =>
            Pu (ldS H_2 t81) fun t82 =>
            Pu (aBin Tryz.prog .eql 3 t82 (.int .i64 1)) fun t83 =>
            Br t83 (
              Pu (fdP 1 t3) fun t85 =>
              Pu (ldS H_2 t85) fun t86 =>
              Ca Tryz.prog kp 238 [a0, t86] H_2 fun t87 H_8 =>
              R t87 H_8)
            (
              Pu (fdP 0 t3) fun t89 =>
              Pu (ldS H_2 t89) fun t90 =>
              Pu (aBin Tryz.prog .eql 3 t90 (.int .i64 2)) fun t91 =>
              Br t91 (
                Pu (fdP 1 t3) fun t93 =>
                Pu (ldS H_2 t93) fun t94 =>
                Ca Tryz.prog kp 239 [a0, t94] H_2 fun t95 H_9 =>
                R t95 H_9)
              (
                Pu (fdP 0 t3) fun t97 =>
                Pu (ldS H_2 t97) fun t98 =>
                Pu (aBin Tryz.prog .eql 3 t98 (.int .i64 3)) fun t99 =>
                Br t99 (
                  Ca Tryz.prog kp 240 [a0] H_2 fun t101 H_10 =>
                  R t101 H_10)
                (
                  Pu (fdP 0 t3) fun t103 =>
                  Pu (ldS H_2 t103) fun t104 =>
                  Pu (aBin Tryz.prog .eql 3 t104 (.int .i64 4)) fun t105 =>
                  Br t105 (
                    Ca Tryz.prog kp 241 [a0] H_2 fun t107 H_11 =>
                    R t107 H_11)
                  (
                    R (.bool false) H_2)))))))))
theorem F164.eq (a0 a1 : AV) (H : AHeap) (R : AV → AHeap → Prop) : F164 a0 a1 H R = wpE Tryz.prog kp (kp 164) (bodyOf Tryz.f164) (retE Tryz.prog Tryz.f164 R) (argsT [a0, a1] 0 .nil) H := by kernel_rfl
theorem F164.ca {a0 a1 : AV} {H : AHeap} {R : AV → AHeap → Prop} (h : F164 a0 a1 H R) : Ca Tryz.prog kp 164 [a0, a1] H R :=
  Ca.intro (P := Tryz.prog) (kp := kp) (f := 164) (fn := Tryz.f164) (args := [a0, a1]) Tryz.func164 (by kernel_rfl) (Eq.mp (F164.eq a0 a1 H R) h)

-- slices.Clone[[]byte,byte]
def F166 (a0 : AV) (H : AHeap) (R : AV → AHeap → Prop) : Prop :=
  Pu (aBin Tryz.prog .eql 26 a0 .nils) fun t4 =>
  Br t4 (
    R .nils H)
  (
    Pu (bdL 0 [] []) fun t5 =>
    Pp (appendA Tryz.prog H #[26, 26] [t5, a0]) fun t7 H_1 =>
    R t7 H_1)
theorem F166.eq (a0 : AV) (H : AHeap) (R : AV → AHeap → Prop) : F166 a0 H R = wpE Tryz.prog kp (kp 166) (bodyOf Tryz.f166) (retE Tryz.prog Tryz.f166 R) (argsT [a0] 0 .nil) H := by kernel_rfl
theorem F166.ca {a0 : AV} {H : AHeap} {R : AV → AHeap → Prop} (h : F166 a0 H R) : Ca Tryz.prog kp 166 [a0] H R :=
  Ca.intro (P := Tryz.prog) (kp := kp) (f := 166) (fn := Tryz.f166) (args := [a0]) Tryz.func166 (by kernel_rfl) (Eq.mp (F166.eq a0 H R) h)

-- (*incunable/trace.Recorder).is
def F199 (a0 : AV) (H : AHeap) (R : AV → AHeap → Prop) : Prop :=
  Pu (aBin Tryz.prog .neq 193 a0 .nilp) fun t4 =>
  Gd t4 true (Pu (some a0)) fun t6 =>
  Gd t4 true (Pu (nilC t6)) fun t7 =>
  Gd t4 true (Pu (fdP 2 t7)) fun t8 =>
  Gd t4 true (Pu (ldS H t8)) fun t9 =>
  Gd t4 true (Pu (aBin Tryz.prog .neq 291 t9 .nilm)) fun t10 =>
  Pu (pickA t4 t10 (.bool false)) fun t11 =>
  R t11 H
theorem F199.eq (a0 : AV) (H : AHeap) (R : AV → AHeap → Prop) : F199 a0 H R = wpE Tryz.prog kp (kp 199) (bodyOf Tryz.f199) (retE Tryz.prog Tryz.f199 R) (argsT [a0] 0 .nil) H := by kernel_rfl
theorem F199.ca {a0 : AV} {H : AHeap} {R : AV → AHeap → Prop} (h : F199 a0 H R) : Ca Tryz.prog kp 199 [a0] H R :=
  Ca.intro (P := Tryz.prog) (kp := kp) (f := 199) (fn := Tryz.f199) (args := [a0]) Tryz.func199 (by kernel_rfl) (Eq.mp (F199.eq a0 H R) h)

-- slices.Clone[[]incunable/api.Cycle,incunable/api.Cycle]
def F200 (a0 : AV) (H : AHeap) (R : AV → AHeap → Prop) : Prop :=
  Pu (aBin Tryz.prog .eql 43 a0 .nils) fun t4 =>
  Br t4 (
    R .nils H)
  (
    Pu (bdL 0 [] []) fun t5 =>
    Pp (appendA Tryz.prog H #[43, 43] [t5, a0]) fun t7 H_1 =>
    R t7 H_1)
theorem F200.eq (a0 : AV) (H : AHeap) (R : AV → AHeap → Prop) : F200 a0 H R = wpE Tryz.prog kp (kp 200) (bodyOf Tryz.f200) (retE Tryz.prog Tryz.f200 R) (argsT [a0] 0 .nil) H := by kernel_rfl
theorem F200.ca {a0 : AV} {H : AHeap} {R : AV → AHeap → Prop} (h : F200 a0 H R) : Ca Tryz.prog kp 200 [a0] H R :=
  Ca.intro (P := Tryz.prog) (kp := kp) (f := 200) (fn := Tryz.f200) (args := [a0]) Tryz.func200 (by kernel_rfl) (Eq.mp (F200.eq a0 H R) h)

-- incunable/geom.within
def F215 (a0 a1 : AV) (H : AHeap) (R : AV → AHeap → Prop) : Prop :=
  Pu (aBin Tryz.prog .geq 3 a0 (.int .i64 0)) fun t6 =>
  Gd t6 true (Pu (some a0)) fun t8 =>
  Gd t6 true (Pu (some a1)) fun t9 =>
  Gd t6 true (Pu (aBin Tryz.prog .lss 3 t8 t9)) fun t10 =>
  Pu (pickA t6 t10 (.bool false)) fun t11 =>
  R t11 H
theorem F215.eq (a0 a1 : AV) (H : AHeap) (R : AV → AHeap → Prop) : F215 a0 a1 H R = wpE Tryz.prog kp (kp 215) (bodyOf Tryz.f215) (retE Tryz.prog Tryz.f215 R) (argsT [a0, a1] 0 .nil) H := by kernel_rfl
theorem F215.ca {a0 a1 : AV} {H : AHeap} {R : AV → AHeap → Prop} (h : F215 a0 a1 H R) : Ca Tryz.prog kp 215 [a0, a1] H R :=
  Ca.intro (P := Tryz.prog) (kp := kp) (f := 215) (fn := Tryz.f215) (args := [a0, a1]) Tryz.func215 (by kernel_rfl) (Eq.mp (F215.eq a0 a1 H R) h)

-- (*incunable/wire.Wire).Send
def F217.T0 (a0 : AV) (a1 : AV) (t13 : AV) (x : AV) : Tm := tmL [(0, a0), (12, a1), (13, t13), (14, x)]
def F217.B0 (a0 : AV) (a1 : AV) (R : AV → AHeap → Prop) (t13 : AV) (X0 : Tm → AHeap → Prop) (x : AV) (H_2 : AHeap) : Prop :=
  Pu (aBin Tryz.prog .lss 3 x t13) fun t15 =>
  Br t15 (
    Pu (ixS 2 a1 x) fun t16 =>
    Pu (ldG 2 H_2 t16) fun t17 =>
    Nw (.cells 2 [.int .i64 0, .int .u8 0]) (fun h => (.ptr h 0)) H_2 fun t6 H_3 =>
    Pu (stA 2 H_3 t6 t17) fun H_4 =>
    Pu (ldG 2 H_4 t6) fun t20 =>
    Ca Tryz.prog kp 223 [a0, t20] H_4 fun t21 H_5 =>
    Pu (exT t21 0) fun t22 =>
    Pu (exT t21 1) fun t23 =>
    Pu (aBin Tryz.prog .neq 35 t23 (.int .i64 0)) fun t25 =>
    Br t25 (
      R t23 H_5)
    (
      Pu (aBin Tryz.prog .add 3 x (.int .i64 1)) fun t27 =>
      X0 (F217.T0 a0 a1 t13 (t27)) H_5))
  (
    R (.int .i64 0) H_2)
def F217.L0 (a0 : AV) (a1 : AV) (R : AV → AHeap → Prop) (t13 : AV) (x : AV) (H_2 : AHeap) : Prop := loopW (kp 217) (subC [1, 1, 0, 1, 1, 1] (bodyOf Tryz.f217)) (wpE Tryz.prog kp (kp 217) (subC [1, 1, 0, 1, 1, 1] (bodyOf Tryz.f217))) (kBlock 0 (kSeq (wpE Tryz.prog kp (kp 217) (subC [1, 1, 1] (bodyOf Tryz.f217))) (retE Tryz.prog Tryz.f217 R))) (F217.T0 a0 a1 t13 x) H_2
theorem F217.B0_eq (a0 : AV) (a1 : AV) (R : AV → AHeap → Prop) (t13 : AV) (X0 : Tm → AHeap → Prop) (x : AV) (H_2 : AHeap) : F217.B0 a0 a1 R t13 X0 x H_2 = wpE Tryz.prog kp (kp 217) (subC [1, 1, 0, 1, 1, 1] (bodyOf Tryz.f217)) (kLoop (keepL (kp 217) (subC [1, 1, 0, 1, 1, 1] (bodyOf Tryz.f217))) (kBlock 0 (kSeq (wpE Tryz.prog kp (kp 217) (subC [1, 1, 1] (bodyOf Tryz.f217))) (retE Tryz.prog Tryz.f217 R))) X0) (F217.T0 a0 a1 t13 x) H_2 := by kernel_rfl
theorem F217.L0_of (a0 : AV) (a1 : AV) (R : AV → AHeap → Prop) (t13 : AV) (J : Nat → AV → AHeap → Prop) (step : ∀ nn xx HH, J nn xx HH → ∀ XX : Tm → AHeap → Prop, (∀ mm yy H', mm < nn → J mm yy H' → XX (F217.T0 a0 a1 t13 yy) H') → F217.B0 a0 a1 R t13 XX xx HH) : ∀ nn xx HH, J nn xx HH → F217.L0 a0 a1 R t13 xx HH :=
  loop_rule (F217.T0 a0 a1 t13) (F217.B0 a0 a1 R t13) (F217.B0_eq a0 a1 R t13) J step
theorem F217.L0_un (a0 : AV) (a1 : AV) (R : AV → AHeap → Prop) (t13 : AV) (xx : AV) (HH : AHeap) (hh : ∀ XX : Tm → AHeap → Prop, (∀ yy H', F217.L0 a0 a1 R t13 yy H' → XX (F217.T0 a0 a1 t13 yy) H') → F217.B0 a0 a1 R t13 XX xx HH) : F217.L0 a0 a1 R t13 xx HH :=
  loop_once (F217.T0 a0 a1 t13) (F217.B0 a0 a1 R t13) (F217.B0_eq a0 a1 R t13) xx HH hh
def F217 (a0 a1 : AV) (H : AHeap) (R : AV → AHeap → Prop) : Prop :=
  Ca Tryz.prog kp 109 [a0] H fun t10 H_1 =>
  Pu (aUn .not t10) fun t11 =>
  Br t11 (
    R (.int .i64 1) H_1)
  (
    Pu (lnS a1) fun t13 =>
    F217.L0 a0 a1 R t13 ((.int .i64 0)) H_1)
theorem F217.eq (a0 a1 : AV) (H : AHeap) (R : AV → AHeap → Prop) : F217 a0 a1 H R = wpE Tryz.prog kp (kp 217) (bodyOf Tryz.f217) (retE Tryz.prog Tryz.f217 R) (argsT [a0, a1] 0 .nil) H := by kernel_rfl
theorem F217.ca {a0 a1 : AV} {H : AHeap} {R : AV → AHeap → Prop} (h : F217 a0 a1 H R) : Ca Tryz.prog kp 217 [a0, a1] H R :=
  Ca.intro (P := Tryz.prog) (kp := kp) (f := 217) (fn := Tryz.f217) (args := [a0, a1]) Tryz.func217 (by kernel_rfl) (Eq.mp (F217.eq a0 a1 H R) h)

-- incunable/poll.Wait
def F218.T0 (a0 : AV) (a1 : AV) (a2 : AV) (x : AV) : Tm := tmL [(0, a0), (1, a1), (20, a2), (21, x)]
def F218.B0 (a0 : AV) (a1 : AV) (a2 : AV) (R : AV → AHeap → Prop) (X0 : Tm → AHeap → Prop) (x : AV) (H_3 : AHeap) : Prop :=
  Pu (aBin Tryz.prog .lss 3 x a2) fun t22 =>
  Br t22 (
    Ca Tryz.prog kp 142 [a0, (.int .i64 1)] H_3 fun t25 H_4 =>
    Pu (exT t25 0) fun t26 =>
    Pu (exT t25 1) fun t27 =>
    Pu (aBin Tryz.prog .neq 35 t27 (.int .i64 0)) fun t29 =>
    Br t29 (
      R (.tup [(.int .u8 0), t27]) H_4)
    (
      Pu (ixS 1 t26 (.int .i64 0)) fun t32 =>
      Pu (ldS H_4 t32) fun t33 =>
      Pu (aBin Tryz.prog .and 5 t33 a1) fun t35 =>
      Pu (aBin Tryz.prog .neq 5 t35 a1) fun t37 =>
      Br t37 (
        Pu (aBin Tryz.prog .add 3 x (.int .i64 1)) fun t41 =>
        X0 (F218.T0 a0 a1 a2 (t41)) H_4)
      (
        Pu (ixS 1 t26 (.int .i64 0)) fun t39 =>
        Pu (ldS H_4 t39) fun t40 =>
        R (.tup [t40, (.int .i64 0)]) H_4)))
  (
    R (.tup [(.int .u8 0), (.int .i64 21)]) H_3)
def F218.L0 (a0 : AV) (a1 : AV) (a2 : AV) (R : AV → AHeap → Prop) (x : AV) (H_3 : AHeap) : Prop := loopW (kp 218) (subC [1, 1, 1, 1, 1, 0, 1, 1, 1] (bodyOf Tryz.f218)) (wpE Tryz.prog kp (kp 218) (subC [1, 1, 1, 1, 1, 0, 1, 1, 1] (bodyOf Tryz.f218))) (kBlock 0 (kSeq (wpE Tryz.prog kp (kp 218) (subC [1, 1, 1, 1, 1, 1] (bodyOf Tryz.f218))) (retE Tryz.prog Tryz.f218 R))) (F218.T0 a0 a1 a2 x) H_3
theorem F218.B0_eq (a0 : AV) (a1 : AV) (a2 : AV) (R : AV → AHeap → Prop) (X0 : Tm → AHeap → Prop) (x : AV) (H_3 : AHeap) : F218.B0 a0 a1 a2 R X0 x H_3 = wpE Tryz.prog kp (kp 218) (subC [1, 1, 1, 1, 1, 0, 1, 1, 1] (bodyOf Tryz.f218)) (kLoop (keepL (kp 218) (subC [1, 1, 1, 1, 1, 0, 1, 1, 1] (bodyOf Tryz.f218))) (kBlock 0 (kSeq (wpE Tryz.prog kp (kp 218) (subC [1, 1, 1, 1, 1, 1] (bodyOf Tryz.f218))) (retE Tryz.prog Tryz.f218 R))) X0) (F218.T0 a0 a1 a2 x) H_3 := by kernel_rfl
theorem F218.L0_of (a0 : AV) (a1 : AV) (a2 : AV) (R : AV → AHeap → Prop) (J : Nat → AV → AHeap → Prop) (step : ∀ nn xx HH, J nn xx HH → ∀ XX : Tm → AHeap → Prop, (∀ mm yy H', mm < nn → J mm yy H' → XX (F218.T0 a0 a1 a2 yy) H') → F218.B0 a0 a1 a2 R XX xx HH) : ∀ nn xx HH, J nn xx HH → F218.L0 a0 a1 a2 R xx HH :=
  loop_rule (F218.T0 a0 a1 a2) (F218.B0 a0 a1 a2 R) (F218.B0_eq a0 a1 a2 R) J step
theorem F218.L0_un (a0 : AV) (a1 : AV) (a2 : AV) (R : AV → AHeap → Prop) (xx : AV) (HH : AHeap) (hh : ∀ XX : Tm → AHeap → Prop, (∀ yy H', F218.L0 a0 a1 a2 R yy H' → XX (F218.T0 a0 a1 a2 yy) H') → F218.B0 a0 a1 a2 R XX xx HH) : F218.L0 a0 a1 a2 R xx HH :=
  loop_once (F218.T0 a0 a1 a2) (F218.B0 a0 a1 a2 R) (F218.B0_eq a0 a1 a2 R) xx HH hh
def F218 (a0 a1 a2 : AV) (H : AHeap) (R : AV → AHeap → Prop) : Prop :=
  Ca Tryz.prog kp 155 [a2] H fun t12 H_1 =>
  Pu (aUn .not t12) fun t13 =>
  Br t13 (
    R (.tup [(.int .u8 0), (.int .i64 2)]) H_1)
  (
    Pu (bdL 1 [.int .u8 0] [(0, 1, (.int .u8 112))]) fun t15 =>
    Ca Tryz.prog kp 141 [a0, t15] H_1 fun t16 H_2 =>
    Pu (aBin Tryz.prog .neq 35 t16 (.int .i64 0)) fun t18 =>
    Br t18 (
      R (.tup [(.int .u8 0), t16]) H_2)
    (
      F218.L0 a0 a1 a2 R ((.int .i64 0)) H_2))
theorem F218.eq (a0 a1 a2 : AV) (H : AHeap) (R : AV → AHeap → Prop) : F218 a0 a1 a2 H R = wpE Tryz.prog kp (kp 218) (bodyOf Tryz.f218) (retE Tryz.prog Tryz.f218 R) (argsT [a0, a1, a2] 0 .nil) H := by kernel_rfl
theorem F218.ca {a0 a1 a2 : AV} {H : AHeap} {R : AV → AHeap → Prop} (h : F218 a0 a1 a2 H R) : Ca Tryz.prog kp 218 [a0, a1, a2] H R :=
  Ca.intro (P := Tryz.prog) (kp := kp) (f := 218) (fn := Tryz.f218) (args := [a0, a1, a2]) Tryz.func218 (by kernel_rfl) (Eq.mp (F218.eq a0 a1 a2 H R) h)

-- (*incunable/wire.Wire).one
def F223 (a0 a1 : AV) (H : AHeap) (R : AV → AHeap → Prop) : Prop :=
  Nb (bxA 2 a1) H fun t3 H_1 =>
  Ca Tryz.prog kp 109 [a0] H_1 fun t9 H_2 =>
  Pu (aUn .not t9) fun t10 =>
  Br t10 (
    R (.tup [(.int .u8 0), (.int .i64 1)]) H_2)
  (
    Cq (hUp H_2 11) fun H_3 =>
    Pu (nilC a0) fun t13 =>
    Pu (fdP 1 t13) fun t14 =>
    Pu (ldS H_3 t14) fun t15 =>
    Pu (ldG 2 H_3 t3) fun t16 =>
    Ca Tryz.prog kp 274 [t15, t16] H_3 fun t17 H_4 =>
    Pu (exT t17 0) fun t18 =>
    Pu (exT t17 1) fun t19 =>
    ((StG 2 t3 t16 H_3 ∧ True) ∧ (StS t14 t15 H_3 ∧ True) ∧ True) ∧
    Pu (aBin Tryz.prog .eql 35 t19 (.int .i64 20)) fun t21 =>
    Jn (fun (H_6 : AHeap) =>
      Pu (aBin Tryz.prog .neq 35 t19 (.int .i64 0)) fun t29 =>
      Br t29 (
        R (.tup [(.int .u8 0), t19]) H_6)
      (
        Pu (fdP 0 t3) fun t31 =>
        Pu (ldS H_6 t31) fun t32 =>
        Pu (aBin Tryz.prog .eql 3 t32 (.int .i64 4)) fun t33 =>
        Jn (fun (H_8 : AHeap) =>
          Cq (hUp H_8 8) fun H_9 =>
          Pu (nilC a0) fun t37 =>
          Pu (fdP 0 t37) fun t38 =>
          Pu (fdP 0 t38) fun t39 =>
          Pu (ldS H_9 t39) fun t40 =>
          Pu (ldG 2 H_9 t3) fun t41 =>
          Pu (bdL 1 [.int .i64 0, .int .u8 0] [(0, 2, t41)]) fun t42 =>
          Ca Tryz.prog kp 276 [t40, t42] H_9 fun t43 H_10 =>
          ((StG 2 t3 t41 H_9 ∧ True) ∧ (StS t39 t40 H_9 ∧ True) ∧ True) ∧
          R (.tup [t18, (.int .i64 0)]) H_10) fun J_1 =>
        Br t33 (
          Pu (fdP 1 t3) fun t35 =>
          Pu (stA 1 H_6 t35 t18) fun H_7 =>
          J_1 H_7)
        (
          J_1 H_6))) fun J =>
    Br t21 (
      Pu (nilC a0) fun t23 =>
      Pu (fdP 0 t23) fun t24 =>
      Pu (fdP 0 t24) fun t25 =>
      Pu (ldS H_4 t25) fun t26 =>
      Ca Tryz.prog kp 275 [t26, (.str ⟨#[112, 111, 119, 101, 114]⟩)] H_4 fun t27 H_5 =>
      J H_5)
    (
      J H_4))
theorem F223.eq (a0 a1 : AV) (H : AHeap) (R : AV → AHeap → Prop) : F223 a0 a1 H R = wpE Tryz.prog kp (kp 223) (bodyOf Tryz.f223) (retE Tryz.prog Tryz.f223 R) (argsT [a0, a1] 0 .nil) H := by kernel_rfl
theorem F223.ca {a0 a1 : AV} {H : AHeap} {R : AV → AHeap → Prop} (h : F223 a0 a1 H R) : Ca Tryz.prog kp 223 [a0, a1] H R :=
  Ca.intro (P := Tryz.prog) (kp := kp) (f := 223) (fn := Tryz.f223) (args := [a0, a1]) Tryz.func223 (by kernel_rfl) (Eq.mp (F223.eq a0 a1 H R) h)

-- incunable/ident.fields
def F226 (a0 : AV) (H : AHeap) (R : AV → AHeap → Prop) : Prop :=
  Nw (.cells 7 [.nilp, .nilp, .nilp, .nilp, .nilp, .nilp, .nilp]) (fun h => (.ptr h 0)) H fun t2 H_1 =>
  Cq (hUp H_1 23) fun H_2 =>
  Pu (nilC a0) fun t4 =>
  Pu (fdP 0 t4) fun t5 =>
  Pu (nilC a0) fun t7 =>
  Pu (fdP 1 t7) fun t8 =>
  Pu (nilC a0) fun t10 =>
  Pu (fdP 2 t10) fun t11 =>
  Pu (nilC a0) fun t13 =>
  Pu (fdP 3 t13) fun t14 =>
  Pu (nilC a0) fun t16 =>
  Pu (fdP 4 t16) fun t17 =>
  Pu (nilC a0) fun t19 =>
  Pu (fdP 5 t19) fun t20 =>
  Pu (nilC a0) fun t22 =>
  Pu (fdP 6 t22) fun t23 =>
  Pu (aBuild Tryz.prog 315 [(0, t5), (1, t8), (2, t11), (3, t14), (4, t17), (5, t20), (6, t23)]) fun t24 =>
  Pu (stA 7 H_2 t2 t24) fun H_3 =>
  (True) ∧
  Pu (resC [ldG 7 H_3 t2]) fun v =>
  R v H_3
theorem F226.eq (a0 : AV) (H : AHeap) (R : AV → AHeap → Prop) : F226 a0 H R = wpE Tryz.prog kp (kp 226) (bodyOf Tryz.f226) (retE Tryz.prog Tryz.f226 R) (argsT [a0] 0 .nil) H := by kernel_rfl
set_option maxHeartbeats 2000000 in
theorem F226.ca {a0 : AV} {H : AHeap} {R : AV → AHeap → Prop} (h : F226 a0 H R) : Ca Tryz.prog kp 226 [a0] H R :=
  Ca.intro (P := Tryz.prog) (kp := kp) (f := 226) (fn := Tryz.f226) (args := [a0]) Tryz.func226 (by kernel_rfl) (Eq.mp (F226.eq a0 H R) h)

-- incunable/choice.Right
def F227.T0 (t2 : AV) (t3 : AV) (t26 : AV) (x : AV) : Tm := tmL [(2, t2), (3, t3), (26, t26), (27, x)]
def F227.B0 (R : AV → AHeap → Prop) (t2 : AV) (t3 : AV) (t26 : AV) (X0 : Tm → AHeap → Prop) (x : AV) (H_4 : AHeap) : Prop :=
  Pu (aBin Tryz.prog .lss 3 x (.int .i64 5)) fun t28 =>
  Br t28 (
    Pu (aIndex Tryz.prog 359 t26 x) fun t29 =>
    Pu (aBin Tryz.prog .gtr 3 t29 (.int .i64 4096)) fun t31 =>
    Br t31 (
      R (.bool false) H_4)
    (
      Pu (aBin Tryz.prog .add 3 x (.int .i64 1)) fun t32 =>
      X0 (F227.T0 t2 t3 t26 (t32)) H_4))
  (
    Pu (fdP 0 t3) fun t33 =>
    Pu (ldS H_4 t33) fun t34 =>
    Ca Tryz.prog kp 229 [t34, (.fn (.func 277) [] [])] H_4 fun t35 H_5 =>
    Gd t35 false (Pu (fdP 2 t3)) fun t37 =>
    Gd t35 false (Pu (ldS H_5 t37)) fun t38 =>
    Gd t35 false (Pu (some (.fn (.func 280) [] [t2]))) fun t39 =>
    Gd2 t35 false H_5 (Ca Tryz.prog kp 279 [t38, t39] H_5) fun t40 H_6 =>
    Pu (pickA t35 (.bool true) t40) fun t41 =>
    Pu (aUn .not t41) fun t43 =>
    Gd t43 true (Pu (fdP 1 t3)) fun t45 =>
    Gd t43 true (Pu (ldS H_6 t45)) fun t46 =>
    Gd2 t43 true H_6 (Ca Tryz.prog kp 281 [t46, (.int .i64 4611686018427387904)] H_6) fun t47 H_7 =>
    Pu (pickA t43 t47 (.bool false)) fun t48 =>
    Gd t48 true (Pu (fdP 5 t3)) fun t50 =>
    Gd t48 true (Pu (ldS H_7 t50)) fun t51 =>
    Gd t48 true (Pu (fdP 1 t2)) fun t52 =>
    Gd t48 true (Pu (ldS H_7 t52)) fun t53 =>
    Gd t48 true (Pu (aBin Tryz.prog .sub 3 t53 (.int .i64 1))) fun t54 =>
    Gd2 t48 true H_7 (Ca Tryz.prog kp 281 [t51, t54] H_7) fun t55 H_8 =>
    Pu (pickA t48 t55 (.bool false)) fun t56 =>
    Gd t56 true (Pu (fdP 3 t3)) fun t58 =>
    Gd t56 true (Pu (ldS H_8 t58)) fun t59 =>
    Gd2 t56 true H_8 (Ca Tryz.prog kp 278 [t59, (.int .i64 (-1)), (.int .i64 16777216)] H_8) fun t60 H_9 =>
    Pu (pickA t56 t60 (.bool false)) fun t61 =>
    R t61 H_9)
def F227.L0 (R : AV → AHeap → Prop) (t2 : AV) (t3 : AV) (t26 : AV) (x : AV) (H_4 : AHeap) : Prop := loopW (kp 227) (subC [1, 1, 0, 1, 1, 1] (bodyOf Tryz.f227)) (wpE Tryz.prog kp (kp 227) (subC [1, 1, 0, 1, 1, 1] (bodyOf Tryz.f227))) (kBlock 0 (kSeq (wpE Tryz.prog kp (kp 227) (subC [1, 1, 1] (bodyOf Tryz.f227))) (retE Tryz.prog Tryz.f227 R))) (F227.T0 t2 t3 t26 x) H_4
theorem F227.B0_eq (R : AV → AHeap → Prop) (t2 : AV) (t3 : AV) (t26 : AV) (X0 : Tm → AHeap → Prop) (x : AV) (H_4 : AHeap) : F227.B0 R t2 t3 t26 X0 x H_4 = wpE Tryz.prog kp (kp 227) (subC [1, 1, 0, 1, 1, 1] (bodyOf Tryz.f227)) (kLoop (keepL (kp 227) (subC [1, 1, 0, 1, 1, 1] (bodyOf Tryz.f227))) (kBlock 0 (kSeq (wpE Tryz.prog kp (kp 227) (subC [1, 1, 1] (bodyOf Tryz.f227))) (retE Tryz.prog Tryz.f227 R))) X0) (F227.T0 t2 t3 t26 x) H_4 := by kernel_rfl
theorem F227.L0_of (R : AV → AHeap → Prop) (t2 : AV) (t3 : AV) (t26 : AV) (J : Nat → AV → AHeap → Prop) (step : ∀ nn xx HH, J nn xx HH → ∀ XX : Tm → AHeap → Prop, (∀ mm yy H', mm < nn → J mm yy H' → XX (F227.T0 t2 t3 t26 yy) H') → F227.B0 R t2 t3 t26 XX xx HH) : ∀ nn xx HH, J nn xx HH → F227.L0 R t2 t3 t26 xx HH :=
  loop_rule (F227.T0 t2 t3 t26) (F227.B0 R t2 t3 t26) (F227.B0_eq R t2 t3 t26) J step
theorem F227.L0_un (R : AV → AHeap → Prop) (t2 : AV) (t3 : AV) (t26 : AV) (xx : AV) (HH : AHeap) (hh : ∀ XX : Tm → AHeap → Prop, (∀ yy H', F227.L0 R t2 t3 t26 yy H' → XX (F227.T0 t2 t3 t26 yy) H') → F227.B0 R t2 t3 t26 XX xx HH) : F227.L0 R t2 t3 t26 xx HH :=
  loop_once (F227.T0 t2 t3 t26) (F227.B0 R t2 t3 t26) (F227.B0_eq R t2 t3 t26) xx HH hh
def F227 (a0 a1 : AV) (H : AHeap) (R : AV → AHeap → Prop) : Prop :=
  Nb (bxA 7 a0) H fun t2 H_1 =>
  Nb (bxA 6 a1) H_1 fun t3 H_2 =>
  Pu (ldG 7 H_2 t2) fun t8 =>
  Ca Tryz.prog kp 144 [t8] H_2 fun t9 H_3 =>
  Pu (aBin Tryz.prog .neq 35 t9 (.int .i64 0)) fun t10 =>
  Br t10 (
    R (.bool false) H_3)
  (
    Pu (fdP 0 t3) fun t11 =>
    Pu (ldS H_3 t11) fun t12 =>
    Pu (lnS t12) fun t13 =>
    Pu (fdP 1 t3) fun t14 =>
    Pu (ldS H_3 t14) fun t15 =>
    Pu (lnS t15) fun t16 =>
    Pu (fdP 2 t3) fun t17 =>
    Pu (ldS H_3 t17) fun t18 =>
    Pu (lnS t18) fun t19 =>
    Pu (fdP 4 t3) fun t20 =>
    Pu (ldS H_3 t20) fun t21 =>
    Pu (lnS t21) fun t22 =>
    Pu (fdP 5 t3) fun t23 =>
    Pu (ldS H_3 t23) fun t24 =>
    Pu (lnS t24) fun t25 =>
    Pu (aBuild Tryz.prog 359 [(0, t13), (1, t16), (2, t19), (3, t22), (4, t25)]) fun t26 =>
    F227.L0 R t2 t3 t26 ((.int .i64 0)) H_3)
theorem F227.eq (a0 a1 : AV) (H : AHeap) (R : AV → AHeap → Prop) : F227 a0 a1 H R = wpE Tryz.prog kp (kp 227) (bodyOf Tryz.f227) (retE Tryz.prog Tryz.f227 R) (argsT [a0, a1] 0 .nil) H := by kernel_rfl
theorem F227.ca {a0 a1 : AV} {H : AHeap} {R : AV → AHeap → Prop} (h : F227 a0 a1 H R) : Ca Tryz.prog kp 227 [a0, a1] H R :=
  Ca.intro (P := Tryz.prog) (kp := kp) (f := 227) (fn := Tryz.f227) (args := [a0, a1]) Tryz.func227 (by kernel_rfl) (Eq.mp (F227.eq a0 a1 H R) h)

-- slices.Clone[[]int,int]
def F228 (a0 : AV) (H : AHeap) (R : AV → AHeap → Prop) : Prop :=
  Pu (aBin Tryz.prog .eql 24 a0 .nils) fun t4 =>
  Br t4 (
    R .nils H)
  (
    Pu (bdL 0 [] []) fun t5 =>
    Pp (appendA Tryz.prog H #[24, 24] [t5, a0]) fun t7 H_1 =>
    R t7 H_1)
theorem F228.eq (a0 : AV) (H : AHeap) (R : AV → AHeap → Prop) : F228 a0 H R = wpE Tryz.prog kp (kp 228) (bodyOf Tryz.f228) (retE Tryz.prog Tryz.f228 R) (argsT [a0] 0 .nil) H := by kernel_rfl
theorem F228.ca {a0 : AV} {H : AHeap} {R : AV → AHeap → Prop} (h : F228 a0 H R) : Ca Tryz.prog kp 228 [a0] H R :=
  Ca.intro (P := Tryz.prog) (kp := kp) (f := 228) (fn := Tryz.f228) (args := [a0]) Tryz.func228 (by kernel_rfl) (Eq.mp (F228.eq a0 H R) h)

-- slices.ContainsFunc[[]int,int]
def F229 (a0 a1 : AV) (H : AHeap) (R : AV → AHeap → Prop) : Prop :=
  Ca Tryz.prog kp 282 [a0, a1] H fun t7 H_1 =>
  Pu (aBin Tryz.prog .geq 3 t7 (.int .i64 0)) fun t8 =>
  R t8 H_1
theorem F229.eq (a0 a1 : AV) (H : AHeap) (R : AV → AHeap → Prop) : F229 a0 a1 H R = wpE Tryz.prog kp (kp 229) (bodyOf Tryz.f229) (retE Tryz.prog Tryz.f229 R) (argsT [a0, a1] 0 .nil) H := by kernel_rfl
theorem F229.ca {a0 a1 : AV} {H : AHeap} {R : AV → AHeap → Prop} (h : F229 a0 a1 H R) : Ca Tryz.prog kp 229 [a0, a1] H R :=
  Ca.intro (P := Tryz.prog) (kp := kp) (f := 229) (fn := Tryz.f229) (args := [a0, a1]) Tryz.func229 (by kernel_rfl) (Eq.mp (F229.eq a0 a1 H R) h)

-- incunable/array.New$1
def F230 (a0 a1 : AV) (H : AHeap) (R : AV → AHeap → Prop) : Prop :=
  Pu (aBin Tryz.prog .lss 3 a0 (.int .i64 0)) fun t5 =>
  Gd t5 false (Pu (some a0)) fun t7 =>
  Gd t5 false (Pu (fdP 1 a1)) fun t8 =>
  Gd t5 false (Pu (ldS H t8)) fun t9 =>
  Gd t5 false (Pu (aBin Tryz.prog .geq 3 t7 t9)) fun t10 =>
  Pu (pickA t5 (.bool true) t10) fun t11 =>
  R t11 H
theorem F230.eq (a0 a1 : AV) (H : AHeap) (R : AV → AHeap → Prop) : F230 a0 a1 H R = wpE Tryz.prog kp (kp 230) (bodyOf Tryz.f230) (retE Tryz.prog Tryz.f230 R) (argsT [a0, a1] 0 .nil) H := by kernel_rfl
theorem F230.ca {a0 a1 : AV} {H : AHeap} {R : AV → AHeap → Prop} (h : F230 a0 a1 H R) : Ca Tryz.prog kp 230 [a0, a1] H R :=
  Ca.intro (P := Tryz.prog) (kp := kp) (f := 230) (fn := Tryz.f230) (args := [a0, a1]) Tryz.func230 (by kernel_rfl) (Eq.mp (F230.eq a0 a1 H R) h)

-- (*incunable/array.cells).take
def F231 (a0 a1 : AV) (H : AHeap) (R : AV → AHeap → Prop) : Prop :=
  Ca Tryz.prog kp 166 [a1] H fun t6 H_1 =>
  Pu (nilC a0) fun t7 =>
  Pu (fdP 0 t7) fun t8 =>
  Pu (stA 1 H_1 t8 t6) fun H_2 =>
  R (.tup []) H_2
theorem F231.eq (a0 a1 : AV) (H : AHeap) (R : AV → AHeap → Prop) : F231 a0 a1 H R = wpE Tryz.prog kp (kp 231) (bodyOf Tryz.f231) (retE Tryz.prog Tryz.f231 R) (argsT [a0, a1] 0 .nil) H := by kernel_rfl
theorem F231.ca {a0 a1 : AV} {H : AHeap} {R : AV → AHeap → Prop} (h : F231 a0 a1 H R) : Ca Tryz.prog kp 231 [a0, a1] H R :=
  Ca.intro (P := Tryz.prog) (kp := kp) (f := 231) (fn := Tryz.f231) (args := [a0, a1]) Tryz.func231 (by kernel_rfl) (Eq.mp (F231.eq a0 a1 H R) h)

-- (*incunable/wire.Wire).Address
def F232 (a0 a1 : AV) (H : AHeap) (R : AV → AHeap → Prop) : Prop :=
  Ca Tryz.prog kp 136 [(.int .i64 2), a1] H fun t7 H_1 =>
  Ca Tryz.prog kp 217 [a0, t7] H_1 fun t8 H_2 =>
  R t8 H_2
theorem F232.eq (a0 a1 : AV) (H : AHeap) (R : AV → AHeap → Prop) : F232 a0 a1 H R = wpE Tryz.prog kp (kp 232) (bodyOf Tryz.f232) (retE Tryz.prog Tryz.f232 R) (argsT [a0, a1] 0 .nil) H := by kernel_rfl
theorem F232.ca {a0 a1 : AV} {H : AHeap} {R : AV → AHeap → Prop} (h : F232 a0 a1 H R) : Ca Tryz.prog kp 232 [a0, a1] H R :=
  Ca.intro (P := Tryz.prog) (kp := kp) (f := 232) (fn := Tryz.f232) (args := [a0, a1]) Tryz.func232 (by kernel_rfl) (Eq.mp (F232.eq a0 a1 H R) h)

-- incunable/geom.Number
def F233 (a0 : AV) (H : AHeap) (R : AV → AHeap → Prop) : Prop :=
  Pu (lnS a0) fun t5 =>
  Pu (aBin Tryz.prog .neq 3 t5 (.int .i64 2)) fun t6 =>
  Br t6 (
    R (.tup [(.int .i64 0), (.bool false)]) H)
  (
    Cq (hUp H 12) fun H_1 =>
    Pu (ixS 1 a0 (.int .i64 0)) fun t8 =>
    Pu (ldS H_1 t8) fun t9 =>
    Pu (cvI .i64 t9) fun t10 =>
    Pu (ixS 1 a0 (.int .i64 1)) fun t12 =>
    Pu (ldS H_1 t12) fun t13 =>
    Pu (cvI .i64 t13) fun t14 =>
    Pu (aBin Tryz.prog .shl 3 t14 (.int .u64 8)) fun t15 =>
    Pu (aBin Tryz.prog .or 3 t10 t15) fun t16 =>
    ((StS t12 t13 H_1 ∧ True) ∧ (StS t8 t9 H_1 ∧ True) ∧ True) ∧
    R (.tup [t16, (.bool true)]) H_1)
theorem F233.eq (a0 : AV) (H : AHeap) (R : AV → AHeap → Prop) : F233 a0 H R = wpE Tryz.prog kp (kp 233) (bodyOf Tryz.f233) (retE Tryz.prog Tryz.f233 R) (argsT [a0] 0 .nil) H := by kernel_rfl
theorem F233.ca {a0 : AV} {H : AHeap} {R : AV → AHeap → Prop} (h : F233 a0 H R) : Ca Tryz.prog kp 233 [a0] H R :=
  Ca.intro (P := Tryz.prog) (kp := kp) (f := 233) (fn := Tryz.f233) (args := [a0]) Tryz.func233 (by kernel_rfl) (Eq.mp (F233.eq a0 H R) h)

-- (*incunable/judge.Judge).drop
def F234 (a0 : AV) (H : AHeap) (R : AV → AHeap → Prop) : Prop :=
  Ca Tryz.prog kp 283 [a0] H fun t3 H_1 =>
  Pu (nilC a0) fun t12 =>
  Pu (fdP 9 t12) fun t13 =>
  Pu (stA 1 H_1 t13 .nils) fun H_2 =>
  Pu (nilC a0) fun t14 =>
  Pu (fdP 10 t14) fun t15 =>
  Pu (stA 1 H_2 t15 (.int .i64 0)) fun H_3 =>
  Pu (nilC a0) fun t16 =>
  Pu (fdP 11 t16) fun t17 =>
  Pu (stA 1 H_3 t17 (.bool false)) fun H_4 =>
  Pu (nilC a0) fun t18 =>
  Pu (fdP 12 t18) fun t19 =>
  Pu (stA 1 H_4 t19 (.bool false)) fun H_5 =>
  Pu (nilC a0) fun t20 =>
  Pu (fdP 13 t20) fun t21 =>
  Pu (stA 1 H_5 t21 (.bool false)) fun H_6 =>
  Pu (nilC a0) fun t22 =>
  Pu (fdP 16 t22) fun t23 =>
  Pu (stA 1 H_6 t23 (.bool false)) fun H_7 =>
  Pu (nilC a0) fun t24 =>
  Pu (fdP 17 t24) fun t25 =>
  Pu (stA 1 H_7 t25 .nils) fun H_8 =>
  Pu (nilC a0) fun t26 =>
  Pu (fdP 18 t26) fun t27 =>
  Pu (stA 1 H_8 t27 .nils) fun H_9 =>
  R (.tup []) H_9
theorem F234.eq (a0 : AV) (H : AHeap) (R : AV → AHeap → Prop) : F234 a0 H R = wpE Tryz.prog kp (kp 234) (bodyOf Tryz.f234) (retE Tryz.prog Tryz.f234 R) (argsT [a0] 0 .nil) H := by kernel_rfl
theorem F234.ca {a0 : AV} {H : AHeap} {R : AV → AHeap → Prop} (h : F234 a0 H R) : Ca Tryz.prog kp 234 [a0] H R :=
  Ca.intro (P := Tryz.prog) (kp := kp) (f := 234) (fn := Tryz.f234) (args := [a0]) Tryz.func234 (by kernel_rfl) (Eq.mp (F234.eq a0 H R) h)

-- (*incunable/judge.Judge).start
def F235 (a0 : AV) (H : AHeap) (R : AV → AHeap → Prop) : Prop :=
  Pu (nilC a0) fun t6 =>
  Pu (fdP 12 t6) fun t7 =>
  Pu (stA 1 H t7 (.bool true)) fun H_1 =>
  Pu (nilC a0) fun t8 =>
  Pu (fdP 8 t8) fun t9 =>
  Pu (stA 1 H_1 t9 (.int .i64 1)) fun H_2 =>
  Pu (nilC a0) fun t10 =>
  Pu (fdP 9 t10) fun t11 =>
  Pu (stA 1 H_2 t11 .nils) fun H_3 =>
  Pu (nilC a0) fun t12 =>
  Pu (fdP 10 t12) fun t13 =>
  Pu (stA 1 H_3 t13 (.int .i64 0)) fun H_4 =>
  R (.tup []) H_4
theorem F235.eq (a0 : AV) (H : AHeap) (R : AV → AHeap → Prop) : F235 a0 H R = wpE Tryz.prog kp (kp 235) (bodyOf Tryz.f235) (retE Tryz.prog Tryz.f235 R) (argsT [a0] 0 .nil) H := by kernel_rfl
theorem F235.ca {a0 : AV} {H : AHeap} {R : AV → AHeap → Prop} (h : F235 a0 H R) : Ca Tryz.prog kp 235 [a0] H R :=
  Ca.intro (P := Tryz.prog) (kp := kp) (f := 235) (fn := Tryz.f235) (args := [a0]) Tryz.func235 (by kernel_rfl) (Eq.mp (F235.eq a0 H R) h)

-- (*incunable/judge.Judge).left
def F236 (a0 : AV) (H : AHeap) (R : AV → AHeap → Prop) : Prop :=
  Pu (nilC a0) fun t5 =>
  Pu (fdP 8 t5) fun t6 =>
  Pu (stA 1 H t6 (.int .i64 1)) fun H_1 =>
  Pu (nilC a0) fun t7 =>
  Pu (fdP 9 t7) fun t8 =>
  Pu (stA 1 H_1 t8 .nils) fun H_2 =>
  Pu (nilC a0) fun t9 =>
  Pu (fdP 10 t9) fun t10 =>
  Pu (stA 1 H_2 t10 (.int .i64 0)) fun H_3 =>
  R (.tup []) H_3
theorem F236.eq (a0 : AV) (H : AHeap) (R : AV → AHeap → Prop) : F236 a0 H R = wpE Tryz.prog kp (kp 236) (bodyOf Tryz.f236) (retE Tryz.prog Tryz.f236 R) (argsT [a0] 0 .nil) H := by kernel_rfl
theorem F236.ca {a0 : AV} {H : AHeap} {R : AV → AHeap → Prop} (h : F236 a0 H R) : Ca Tryz.prog kp 236 [a0] H R :=
  Ca.intro (P := Tryz.prog) (kp := kp) (f := 236) (fn := Tryz.f236) (args := [a0]) Tryz.func236 (by kernel_rfl) (Eq.mp (F236.eq a0 H R) h)

-- (*incunable/judge.Judge).poll
def F237 (a0 a1 : AV) (H : AHeap) (R : AV → AHeap → Prop) : Prop :=
  Pu (aBin Tryz.prog .and 5 a1 (.int .u8 64)) fun t6 =>
  Pu (aBin Tryz.prog .neq 5 t6 (.int .u8 0)) fun t7 =>
  Jn (fun (H_7 : AHeap) =>
    R (.bool true) H_7) fun J =>
  Br t7 (
    Pu (nilC a0) fun t9 =>
    Pu (fdP 12 t9) fun t10 =>
    Pu (ldS H t10) fun t11 =>
    Gd t11 true (Pu (some a1)) fun t13 =>
    Gd t11 true (Pu (aBin Tryz.prog .and 5 t13 (.int .u8 1))) fun t14 =>
    Gd t11 true (Pu (aBin Tryz.prog .neq 5 t14 (.int .u8 0))) fun t15 =>
    Pu (pickA t11 t15 (.bool false)) fun t16 =>
    Jn (fun (H_2 : AHeap) =>
      Pu (nilC a0) fun t21 =>
      Pu (fdP 12 t21) fun t22 =>
      Pu (stA 1 H_2 t22 (.bool false)) fun H_3 =>
      Pu (nilC a0) fun t23 =>
      Pu (fdP 19 t23) fun t24 =>
      Pu (stA 1 H_3 t24 .nils) fun H_4 =>
      Pu (aBin Tryz.prog .and 5 a1 (.int .u8 32)) fun t26 =>
      Pu (aBin Tryz.prog .neq 5 t26 (.int .u8 0)) fun t27 =>
      Jn (fun (H_6 : AHeap) =>
        J H_6) fun J_2 =>
      Br t27 (
        Pu (nilC a0) fun t29 =>
        Pu (fdP 13 t29) fun t30 =>
        Pu (stA 1 H_4 t30 (.bool false)) fun H_5 =>
        J_2 H_5)
      (
        J_2 H_4)) fun J_1 =>
    Br t16 (
      Ca Tryz.prog kp 283 [a0] H fun t18 H_1 =>
      J_1 H_1)
    (
      J_1 H))
  (
    J H)
theorem F237.eq (a0 a1 : AV) (H : AHeap) (R : AV → AHeap → Prop) : F237 a0 a1 H R = wpE Tryz.prog kp (kp 237) (bodyOf Tryz.f237) (retE Tryz.prog Tryz.f237 R) (argsT [a0, a1] 0 .nil) H := by kernel_rfl
theorem F237.ca {a0 a1 : AV} {H : AHeap} {R : AV → AHeap → Prop} (h : F237 a0 a1 H R) : Ca Tryz.prog kp 237 [a0, a1] H R :=
  Ca.intro (P := Tryz.prog) (kp := kp) (f := 237) (fn := Tryz.f237) (args := [a0, a1]) Tryz.func237 (by kernel_rfl) (Eq.mp (F237.eq a0 a1 H R) h)

-- (*incunable/judge.Judge).command
def F238 (a0 a1 : AV) (H : AHeap) (R : AV → AHeap → Prop) : Prop :=
  Cq (hUp H 14) fun H_1 =>
  Pu (nilC a0) fun t8 =>
  Pu (fdP 9 t8) fun t9 =>
  Pu (ldS H_1 t9) fun t10 =>
  Pu (lnS t10) fun t11 =>
  Pu (aBin Tryz.prog .eql 3 t11 (.int .i64 4)) fun t12 =>
  Pu (nilC a0) fun t14 =>
  Pu (fdP 9 t14) fun t15 =>
  Pu (ldS H_1 t15) fun t16 =>
  Pu (lnS t16) fun t17 =>
  Pu (aBin Tryz.prog .eql 3 t17 (.int .i64 2)) fun t18 =>
  ((StS t15 t16 H_1 ∧ True) ∧ (StS t9 t10 H_1 ∧ True) ∧ True) ∧
  Pu (nilC a0) fun t21 =>
  Pu (fdP 8 t21) fun t22 =>
  Pu (ldS H_1 t22) fun t23 =>
  Pu (aBin Tryz.prog .eql 3 t23 (.int .i64 8)) fun t24 =>
  Gd t24 true (Pu (some t12)) fun t26 =>
  Pu (pickA t24 t26 (.bool false)) fun t27 =>
  Gd t27 true (Pu (some a0)) fun t29 =>
  Gd t27 true (Pu (nilC t29)) fun t30 =>
  Gd t27 true (Pu (fdP 10 t30)) fun t31 =>
  Gd t27 true (Pu (ldS H_1 t31)) fun t32 =>
  Gd t27 true (Pu (aBin Tryz.prog .gtr 3 t32 (.int .i64 0))) fun t33 =>
  Pu (pickA t27 t33 (.bool false)) fun t34 =>
  Br t34 (
    Ca Tryz.prog kp 284 [a0, a1] H_1 fun t37 H_2 =>
    R t37 H_2)
  (
    Pu (nilC a0) fun t40 =>
    Pu (fdP 8 t40) fun t41 =>
    Pu (ldS H_1 t41) fun t42 =>
    Pu (aBin Tryz.prog .eql 3 t42 (.int .i64 9)) fun t43 =>
    Gd t43 true (Pu (some t18)) fun t45 =>
    Pu (pickA t43 t45 (.bool false)) fun t46 =>
    Br t46 (
      Ca Tryz.prog kp 285 [a0, a1] H_1 fun t49 H_3 =>
      R t49 H_3)
    (
      Pu (nilC a0) fun t52 =>
      Pu (fdP 8 t52) fun t53 =>
      Pu (ldS H_1 t53) fun t54 =>
      Pu (aBin Tryz.prog .eql 3 t54 (.int .i64 5)) fun t55 =>
      Gd t55 true (Pu (some t12)) fun t57 =>
      Pu (pickA t55 t57 (.bool false)) fun t58 =>
      Br t58 (
        Pu (aBin Tryz.prog .neq 5 a1 (.int .u8 48)) fun t60 =>
        Br t60 (
          R (.bool false) H_1)
        (
          Ca Tryz.prog kp 286 [a0, (.int .i64 0)] H_1 fun t64 H_4 =>
          Pu (nilC a0) fun t65 =>
          Pu (fdP 15 t65) fun t66 =>
          Pu (stA 1 H_4 t66 t64) fun H_5 =>
          Pu (nilC a0) fun t67 =>
          Pu (fdP 16 t67) fun t68 =>
          Pu (stA 1 H_5 t68 (.bool true)) fun H_6 =>
          Ca Tryz.prog kp 235 [a0] H_6 fun t70 H_7 =>
          R (.bool true) H_7))
      (
        Pu (nilC a0) fun t73 =>
        Pu (fdP 8 t73) fun t74 =>
        Pu (ldS H_1 t74) fun t75 =>
        Pu (aBin Tryz.prog .eql 3 t75 (.int .i64 7)) fun t76 =>
        Gd t76 true (Pu (some t18)) fun t78 =>
        Pu (pickA t76 t78 (.bool false)) fun t79 =>
        Br t79 (
          Pu (aBin Tryz.prog .neq 5 a1 (.int .u8 224)) fun t81 =>
          Br t81 (
            R (.bool false) H_1)
          (
            Ca Tryz.prog kp 286 [a0, (.int .i64 0)] H_1 fun t86 H_8 =>
            Pu (nilC a0) fun t87 =>
            Pu (fdP 15 t87) fun t88 =>
            Pu (stA 1 H_8 t88 t86) fun H_9 =>
            Pu (nilC a0) fun t89 =>
            Pu (fdP 8 t89) fun t90 =>
            Pu (stA 1 H_9 t90 (.int .i64 6)) fun H_10 =>
            Pu (nilC a0) fun t91 =>
            Pu (fdP 9 t91) fun t92 =>
            Pu (stA 1 H_10 t92 .nils) fun H_11 =>
            R (.bool true) H_11))
        (
          Pu (nilC a0) fun t95 =>
          Pu (fdP 8 t95) fun t96 =>
          Pu (ldS H_1 t96) fun t97 =>
          Pu (aBin Tryz.prog .eql 3 t97 (.int .i64 1)) fun t98 =>
          Gd t98 false (Pu (some a0)) fun t100 =>
          Gd t98 false (Pu (nilC t100)) fun t101 =>
          Gd t98 false (Pu (fdP 8 t101)) fun t102 =>
          Gd t98 false (Pu (ldS H_1 t102)) fun t103 =>
          Gd t98 false (Pu (aBin Tryz.prog .eql 3 t103 (.int .i64 6))) fun t104 =>
          Pu (pickA t98 (.bool true) t104) fun t105 =>
          Gd t105 false (Pu (some a0)) fun t107 =>
          Gd t105 false (Pu (nilC t107)) fun t108 =>
          Gd t105 false (Pu (fdP 8 t108)) fun t109 =>
          Gd t105 false (Pu (ldS H_1 t109)) fun t110 =>
          Gd t105 false (Pu (aBin Tryz.prog .eql 3 t110 (.int .i64 2))) fun t111 =>
          Gd t105 false (Pu (some t111)) fun t112 =>
          Gd t112 true (Pu (some a0)) fun t113 =>
          Gd t112 true (Pu (nilC t113)) fun t114 =>
          Gd t112 true (Pu (fdP 9 t114)) fun t115 =>
          Gd t112 true (Pu (ldS H_1 t115)) fun t116 =>
          Gd t112 true (Pu (lnS t116)) fun t117 =>
          Gd t112 true (Pu (aBin Tryz.prog .eql 3 t117 (.int .i64 1))) fun t118 =>
          Gd t105 false (Pu (pickA t112 t118 (.bool false))) fun t119 =>
          Pu (pickA t105 (.bool true) t119) fun t120 =>
          Gd t120 false (Pu (some a0)) fun t122 =>
          Gd t120 false (Pu (nilC t122)) fun t123 =>
          Gd t120 false (Pu (fdP 8 t123)) fun t124 =>
          Gd t120 false (Pu (ldS H_1 t124)) fun t125 =>
          Gd t120 false (Pu (aBin Tryz.prog .eql 3 t125 (.int .i64 5))) fun t126 =>
          Gd t120 false (Pu (some t126)) fun t127 =>
          Gd t127 true (Pu (some a0)) fun t128 =>
          Gd t127 true (Pu (nilC t128)) fun t129 =>
          Gd t127 true (Pu (fdP 9 t129)) fun t130 =>
          Gd t127 true (Pu (ldS H_1 t130)) fun t131 =>
          Gd t127 true (Pu (lnS t131)) fun t132 =>
          Gd t127 true (Pu (aBin Tryz.prog .eql 3 t132 (.int .i64 0))) fun t133 =>
          Gd t120 false (Pu (pickA t127 t133 (.bool false))) fun t134 =>
          Gd t120 false (Pu (some t134)) fun t135 =>
          Gd t135 true (Pu (some a0)) fun t136 =>
          Gd t135 true (Pu (nilC t136)) fun t137 =>
          Gd t135 true (Pu (fdP 16 t137)) fun t138 =>
          Gd t135 true (Pu (ldS H_1 t138)) fun t139 =>
          Gd t120 false (Pu (pickA t135 t139 (.bool false))) fun t140 =>
          Pu (pickA t120 (.bool true) t140) fun t141 =>
          Br t141 (
            Ca Tryz.prog kp 287 [a0, a1] H_1 fun t144 H_12 =>
            R t144 H_12)
          (
            R (.bool false) H_1)))))
theorem F238.eq (a0 a1 : AV) (H : AHeap) (R : AV → AHeap → Prop) : F238 a0 a1 H R = wpE Tryz.prog kp (kp 238) (bodyOf Tryz.f238) (retE Tryz.prog Tryz.f238 R) (argsT [a0, a1] 0 .nil) H := by kernel_rfl
theorem F238.ca {a0 a1 : AV} {H : AHeap} {R : AV → AHeap → Prop} (h : F238 a0 a1 H R) : Ca Tryz.prog kp 238 [a0, a1] H R :=
  Ca.intro (P := Tryz.prog) (kp := kp) (f := 238) (fn := Tryz.f238) (args := [a0, a1]) Tryz.func238 (by kernel_rfl) (Eq.mp (F238.eq a0 a1 H R) h)

-- (*incunable/judge.Judge).address
def F239 (a0 a1 : AV) (H : AHeap) (R : AV → AHeap → Prop) : Prop :=
  Pu (nilC a0) fun t8 =>
  Pu (fdP 8 t8) fun t9 =>
  Pu (ldS H t9) fun t10 =>
  Pu (aBin Tryz.prog .eql 3 t10 (.int .i64 5)) fun t12 =>
  Jn (fun (t11 : AV) (H_1 : AHeap) =>
    Jn (fun (t5_2 : AV) (H_7 : AHeap) =>
      Pu (nilC a0) fun t22 =>
      Pu (fdP 9 t22) fun t23 =>
      Pu (ldS H_7 t23) fun t24 =>
      Pu (lnS t24) fun t25 =>
      Pu (aBin Tryz.prog .geq 3 t25 t5_2) fun t27 =>
      Br t27 (
        R (.bool false) H_7)
      (
        Pu (aBin Tryz.prog .eql 3 t5_2 (.int .i64 1)) fun t29 =>
        Jn (fun (H_9 : AHeap) =>
          Pu (nilC a0) fun t39 =>
          Pu (fdP 8 t39) fun t40 =>
          Pu (ldS H_9 t40) fun t41 =>
          Pu (aBin Tryz.prog .eql 3 t41 (.int .i64 5)) fun t42 =>
          Jn (fun (H_11 : AHeap) =>
            Pu (nilC a0) fun t48 =>
            Pu (fdP 9 t48) fun t49 =>
            Pu (ldS H_11 t49) fun t50 =>
            Pu (bdL 1 [.int .u8 0] [(0, 1, a1)]) fun t52 =>
            Pp (appendA Tryz.prog H_11 #[26, 26] [t50, t52]) fun t53 H_12 =>
            Pu (nilC a0) fun t54 =>
            Pu (fdP 9 t54) fun t55 =>
            Pu (stA 1 H_12 t55 t53) fun H_13 =>
            Pu (nilC a0) fun t57 =>
            Pu (fdP 8 t57) fun t58 =>
            Pu (ldS H_13 t58) fun t59 =>
            Pu (aBin Tryz.prog .eql 3 t59 (.int .i64 3)) fun t60 =>
            Jn (fun (H_17 : AHeap) =>
              Ca Tryz.prog kp 288 [a0] H_17 fun t70 H_18 =>
              R t70 H_18) fun J_10 =>
            Br t60 (
              Pu (nilC a0) fun t63 =>
              Pu (fdP 15 t63) fun t64 =>
              Pu (stA 1 H_13 t64 (.int .i64 0)) fun H_14 =>
              Pu (nilC a0) fun t65 =>
              Pu (fdP 16 t65) fun t66 =>
              Pu (stA 1 H_14 t66 (.bool true)) fun H_15 =>
              Ca Tryz.prog kp 235 [a0] H_15 fun t68 H_16 =>
              J_10 H_16)
            (
              J_10 H_13)) fun J_9 =>
          Br t42 (
            Pu (nilC a0) fun t44 =>
            Pu (fdP 16 t44) fun t45 =>
            Pu (stA 1 H_9 t45 (.bool false)) fun H_10 =>
            J_9 H_10)
          (
            J_9 H_9)) fun J_7 =>
        Br t29 (
          Pu (nilC a0) fun t31 =>
          Pu (fdP 8 t31) fun t32 =>
          Pu (ldS H_7 t32) fun t33 =>
          Pu (aBin Tryz.prog .eql 3 t33 (.int .i64 4)) fun t34 =>
          Jn (fun (t6 : AV) (H_8 : AHeap) =>
            Pu (aBin Tryz.prog .neq 5 a1 t6) fun t37 =>
            Br t37 (
              R (.bool false) H_8)
            (
              J_7 H_8)) fun J_8 =>
          Br t34 (
            J_8 (.int .u8 137) H_7)
          (
            J_8 (.int .u8 0) H_7))
        (
          J_7 H_7))) fun J_1 =>
    Br t11 (
      J_1 (.int .i64 4) H_1)
    (
      Pu (aBin Tryz.prog .eql 3 t10 (.int .i64 7)) fun t15 =>
      Jn (fun (t14 : AV) (H_2 : AHeap) =>
        Jn (fun (t5_1 : AV) (H_6 : AHeap) =>
          J_1 t5_1 H_6) fun J_3 =>
        Br t14 (
          J_3 (.int .i64 2) H_2)
        (
          Pu (aBin Tryz.prog .eql 3 t10 (.int .i64 2)) fun t18 =>
          Jn (fun (t17_1 : AV) (H_4 : AHeap) =>
            Jn (fun (t5 : AV) (H_5 : AHeap) =>
              J_3 t5 H_5) fun J_6 =>
            Br t17_1 (
              J_6 (.int .i64 1) H_4)
            (
              J_6 (.int .i64 0) H_4)) fun J_4 =>
          Br t18 (
            J_4 t18 H_2)
          (
            Pu (aBin Tryz.prog .eql 3 t10 (.int .i64 3)) fun t19 =>
            Jn (fun (t17 : AV) (H_3 : AHeap) =>
              J_4 t17 H_3) fun J_5 =>
            Br t19 (
              J_5 t19 H_2)
            (
              Pu (aBin Tryz.prog .eql 3 t10 (.int .i64 4)) fun t20 =>
              J_5 t20 H_2)))) fun J_2 =>
      Br t15 (
        J_2 t15 H_1)
      (
        Pu (aBin Tryz.prog .eql 3 t10 (.int .i64 9)) fun t16 =>
        J_2 t16 H_1))) fun J =>
  Br t12 (
    J t12 H)
  (
    Pu (aBin Tryz.prog .eql 3 t10 (.int .i64 8)) fun t13 =>
    J t13 H)
theorem F239.eq (a0 a1 : AV) (H : AHeap) (R : AV → AHeap → Prop) : F239 a0 a1 H R = wpE Tryz.prog kp (kp 239) (bodyOf Tryz.f239) (retE Tryz.prog Tryz.f239 R) (argsT [a0, a1] 0 .nil) H := by kernel_rfl
theorem F239.ca {a0 a1 : AV} {H : AHeap} {R : AV → AHeap → Prop} (h : F239 a0 a1 H R) : Ca Tryz.prog kp 239 [a0, a1] H R :=
  Ca.intro (P := Tryz.prog) (kp := kp) (f := 239) (fn := Tryz.f239) (args := [a0, a1]) Tryz.func239 (by kernel_rfl) (Eq.mp (F239.eq a0 a1 H R) h)

-- (*incunable/judge.Judge).read
def F241 (a0 : AV) (H : AHeap) (R : AV → AHeap → Prop) : Prop :=
  Jn (fun (H_3 : AHeap) =>
    Pu (nilC a0) fun t59 =>
    Pu (fdP 15 t59) fun t60 =>
    Pu (ldS H_3 t60) fun t61 =>
    Pu (aBin Tryz.prog .add 3 t61 (.int .i64 1)) fun t62 =>
    Pu (nilC a0) fun t63 =>
    Pu (fdP 15 t63) fun t64 =>
    Pu (stA 1 H_3 t64 t62) fun H_4 =>
    Cq (hUp H_4 11) fun H_5 =>
    Pu (nilC a0) fun t66 =>
    Pu (fdP 15 t66) fun t67 =>
    Pu (ldS H_5 t67) fun t68 =>
    Pu (nilC a0) fun t70 =>
    Pu (fdP 0 t70) fun t71 =>
    Pu (ldG 7 H_5 t71) fun t72 =>
    Ca Tryz.prog kp 123 [t72] H_5 fun t73 H_6 =>
    Pu (aBin Tryz.prog .leq 3 t68 t73) fun t74 =>
    ((StG 7 t71 t72 H_5 ∧ True) ∧ (StS t67 t68 H_5 ∧ StS t67 t68 H_6 ∧ True) ∧ True) ∧
    R t74 H_6) fun J =>
  Pu (nilC a0) fun t5 =>
  Pu (fdP 8 t5) fun t6 =>
  Pu (ldS H t6) fun t7 =>
  Pu (aBin Tryz.prog .eql 3 t7 (.int .i64 2)) fun t8 =>
  Gd t8 true (Pu (some a0)) fun t10 =>
  Gd t8 true (Pu (nilC t10)) fun t11 =>
  Gd t8 true (Pu (fdP 9 t11)) fun t12 =>
  Gd t8 true (Pu (ldS H t12)) fun t13 =>
  Gd t8 true (Pu (lnS t13)) fun t14 =>
  Gd t8 true (Pu (aBin Tryz.prog .eql 3 t14 (.int .i64 1))) fun t15 =>
  Pu (pickA t8 t15 (.bool false)) fun t16 =>
  Br t16 (
    Pu (nilC a0) fun t44 =>
    Pu (fdP 10 t44) fun t45 =>
    Pu (ldS H t45) fun t46 =>
    Pu (aBin Tryz.prog .add 3 t46 (.int .i64 1)) fun t47 =>
    Pu (nilC a0) fun t48 =>
    Pu (fdP 10 t48) fun t49 =>
    Pu (stA 1 H t49 t47) fun H_1 =>
    Pu (nilC a0) fun t51 =>
    Pu (fdP 10 t51) fun t52 =>
    Pu (ldS H_1 t52) fun t53 =>
    Pu (aBin Tryz.prog .leq 3 t53 (.int .i64 5)) fun t54 =>
    R t54 H_1)
  (
    Pu (nilC a0) fun t19 =>
    Pu (fdP 8 t19) fun t20 =>
    Pu (ldS H t20) fun t21 =>
    Pu (aBin Tryz.prog .eql 3 t21 (.int .i64 5)) fun t22 =>
    Gd t22 true (Pu (some a0)) fun t24 =>
    Gd t22 true (Pu (nilC t24)) fun t25 =>
    Gd t22 true (Pu (fdP 9 t25)) fun t26 =>
    Gd t22 true (Pu (ldS H t26)) fun t27 =>
    Gd t22 true (Pu (lnS t27)) fun t28 =>
    Gd t22 true (Pu (aBin Tryz.prog .eql 3 t28 (.int .i64 0))) fun t29 =>
    Pu (pickA t22 t29 (.bool false)) fun t30 =>
    Gd t30 true (Pu (some a0)) fun t32 =>
    Gd t30 true (Pu (nilC t32)) fun t33 =>
    Gd t30 true (Pu (fdP 16 t33)) fun t34 =>
    Gd t30 true (Pu (ldS H t34)) fun t35 =>
    Pu (pickA t30 t35 (.bool false)) fun t36 =>
    Br t36 (
      Pu (nilC a0) fun t56 =>
      Pu (fdP 8 t56) fun t57 =>
      Pu (stA 1 H t57 (.int .i64 6)) fun H_2 =>
      J H_2)
    (
      Pu (nilC a0) fun t39 =>
      Pu (fdP 8 t39) fun t40 =>
      Pu (ldS H t40) fun t41 =>
      Pu (aBin Tryz.prog .eql 3 t41 (.int .i64 6)) fun t42 =>
      Br t42 (
        J H)
      (
        R (.bool false) H)))
theorem F241.eq (a0 : AV) (H : AHeap) (R : AV → AHeap → Prop) : F241 a0 H R = wpE Tryz.prog kp (kp 241) (bodyOf Tryz.f241) (retE Tryz.prog Tryz.f241 R) (argsT [a0] 0 .nil) H := by kernel_rfl
theorem F241.ca {a0 : AV} {H : AHeap} {R : AV → AHeap → Prop} (h : F241 a0 H R) : Ca Tryz.prog kp 241 [a0] H R :=
  Ca.intro (P := Tryz.prog) (kp := kp) (f := 241) (fn := Tryz.f241) (args := [a0]) Tryz.func241 (by kernel_rfl) (Eq.mp (F241.eq a0 H R) h)

-- (*incunable/chip.Chip).Do
def F274 (a0 a1 : AV) (H : AHeap) (R : AV → AHeap → Prop) : Prop :=
  Nb (bxA 2 a1) H fun t3 H_1 =>
  Ca Tryz.prog kp 148 [a0] H_1 fun t8 H_2 =>
  Pu (aUn .not t8) fun t9 =>
  Br t9 (
    R (.tup [(.int .u8 0), (.int .i64 1)]) H_2)
  (
    Pu (nilC a0) fun t12 =>
    Pu (fdP 9 t12) fun t13 =>
    Pu (ldS H_2 t13) fun t14 =>
    Br t14 (
      R (.tup [(.int .u8 255), (.int .i64 20)]) H_2)
    (
      Pu (ldG 2 H_2 t3) fun t16 =>
      Ca Tryz.prog kp 310 [t16] H_2 fun t17 H_3 =>
      Pu (aUn .not t17) fun t18 =>
      Br t18 (
        R (.tup [(.int .u8 0), (.int .i64 2)]) H_3)
      (
        Pu (nilC a0) fun t20 =>
        Pu (fdP 10 t20) fun t21 =>
        Pu (ldS H_3 t21) fun t22 =>
        Pu (aBin Tryz.prog .eql 3 t22 (.int .i64 0)) fun t23 =>
        Br t23 (
          Ca Tryz.prog kp 311 [a0] H_3 fun t25 H_4 =>
          Pu (nilC a0) fun t27 =>
          Pu (fdP 9 t27) fun t28 =>
          Pu (stA 1 H_4 t28 (.bool true)) fun H_5 =>
          R (.tup [(.int .u8 255), (.int .i64 20)]) H_5)
        (
          Pu (nilC a0) fun t31 =>
          Pu (fdP 10 t31) fun t32 =>
          Pu (ldS H_3 t32) fun t33 =>
          Pu (aBin Tryz.prog .sub 3 t33 (.int .i64 1)) fun t34 =>
          Pu (foldA aMax2 t34 [(.int .i64 (-1))]) fun t35 =>
          Pu (nilC a0) fun t36 =>
          Pu (fdP 10 t36) fun t37 =>
          Pu (stA 1 H_3 t37 t35) fun H_6 =>
          Pu (nilC a0) fun t39 =>
          Pu (fdP 11 t39) fun t40 =>
          Pu (ldS H_6 t40) fun t41 =>
          Pu (aBin Tryz.prog .add 3 t41 (.int .i64 1)) fun t42 =>
          Pu (nilC a0) fun t43 =>
          Pu (fdP 11 t43) fun t44 =>
          Pu (stA 1 H_6 t44 t42) fun H_7 =>
          Pu (ldG 2 H_7 t3) fun t46 =>
          Ca Tryz.prog kp 312 [a0, t46] H_7 fun t47 H_8 =>
          R (.tup [t47, (.int .i64 0)]) H_8))))
theorem F274.eq (a0 a1 : AV) (H : AHeap) (R : AV → AHeap → Prop) : F274 a0 a1 H R = wpE Tryz.prog kp (kp 274) (bodyOf Tryz.f274) (retE Tryz.prog Tryz.f274 R) (argsT [a0, a1] 0 .nil) H := by kernel_rfl
theorem F274.ca {a0 a1 : AV} {H : AHeap} {R : AV → AHeap → Prop} (h : F274 a0 a1 H R) : Ca Tryz.prog kp 274 [a0, a1] H R :=
  Ca.intro (P := Tryz.prog) (kp := kp) (f := 274) (fn := Tryz.f274) (args := [a0, a1]) Tryz.func274 (by kernel_rfl) (Eq.mp (F274.eq a0 a1 H R) h)

-- (*incunable/trace.Recorder).Mark
def F275 (a0 a1 : AV) (H : AHeap) (R : AV → AHeap → Prop) : Prop :=
  Ca Tryz.prog kp 199 [a0] H fun t5 H_1 =>
  Jn (fun (H_4 : AHeap) =>
    R (.tup []) H_4) fun J =>
  Br t5 (
    Cq (hUp H_1 11) fun H_2 =>
    Pu (nilC a0) fun t7 =>
    Pu (fdP 2 t7) fun t8 =>
    Pu (ldS H_2 t8) fun t9 =>
    Pu (nilC a0) fun t12 =>
    Pu (fdP 0 t12) fun t13 =>
    Pu (ldS H_2 t13) fun t14 =>
    Pu (lnS t14) fun t15 =>
    Pp ((mapUpdateA Tryz.prog H_2 291 t9 a1 t15).map fun h => (undefA, h)) fun _ H_3 =>
    ((StS t13 t14 H_2 ∧ True) ∧ (StS t8 t9 H_2 ∧ True) ∧ True) ∧
    J H_3)
  (
    J H_1)
theorem F275.eq (a0 a1 : AV) (H : AHeap) (R : AV → AHeap → Prop) : F275 a0 a1 H R = wpE Tryz.prog kp (kp 275) (bodyOf Tryz.f275) (retE Tryz.prog Tryz.f275 R) (argsT [a0, a1] 0 .nil) H := by kernel_rfl
theorem F275.ca {a0 a1 : AV} {H : AHeap} {R : AV → AHeap → Prop} (h : F275 a0 a1 H R) : Ca Tryz.prog kp 275 [a0, a1] H R :=
  Ca.intro (P := Tryz.prog) (kp := kp) (f := 275) (fn := Tryz.f275) (args := [a0, a1]) Tryz.func275 (by kernel_rfl) (Eq.mp (F275.eq a0 a1 H R) h)

-- (*incunable/trace.Recorder).Add
def F276 (a0 a1 : AV) (H : AHeap) (R : AV → AHeap → Prop) : Prop :=
  Ca Tryz.prog kp 199 [a0] H fun t5 H_1 =>
  Pu (aUn .not t5) fun t6 =>
  Br t6 (
    R (.tup []) H_1)
  (
    Pu (nilC a0) fun t8 =>
    Pu (fdP 1 t8) fun t9 =>
    Pu (ldS H_1 t9) fun t10 =>
    Pu (lnS a1) fun t12 =>
    Pu (aBin Tryz.prog .add 3 t10 t12) fun t13 =>
    Pu (nilC a0) fun t14 =>
    Pu (fdP 1 t14) fun t15 =>
    Pu (stA 1 H_1 t15 t13) fun H_2 =>
    Cq (hUp H_2 20) fun H_3 =>
    Pu (nilC a0) fun t18 =>
    Pu (fdP 0 t18) fun t19 =>
    Pu (ldS H_3 t19) fun t20 =>
    Pu (lnS a1) fun t23 =>
    Pu (nilC a0) fun t25 =>
    Pu (fdP 0 t25) fun t26 =>
    Pu (ldS H_3 t26) fun t27 =>
    Pu (lnS t27) fun t28 =>
    Pu (aBin Tryz.prog .sub 3 (.int .i64 16777216) t28) fun t29 =>
    Pu (foldA aMin2 t23 [t29]) fun t30 =>
    Pu (aSlice Tryz.prog 43 a1 none (some t30) none) fun t31 =>
    Pp (appendA Tryz.prog H_3 #[43, 43] [t20, t31]) fun t32 H_4 =>
    Pu (nilC a0) fun t33 =>
    Pu (fdP 0 t33) fun t34 =>
    Pu (stA 1 H_4 t34 t32) fun H_5 =>
    ((StS t26 t27 H_3 ∧ True) ∧ (StS t19 t20 H_3 ∧ True) ∧ True) ∧
    R (.tup []) H_5)
theorem F276.eq (a0 a1 : AV) (H : AHeap) (R : AV → AHeap → Prop) : F276 a0 a1 H R = wpE Tryz.prog kp (kp 276) (bodyOf Tryz.f276) (retE Tryz.prog Tryz.f276 R) (argsT [a0, a1] 0 .nil) H := by kernel_rfl
theorem F276.ca {a0 a1 : AV} {H : AHeap} {R : AV → AHeap → Prop} (h : F276 a0 a1 H R) : Ca Tryz.prog kp 276 [a0, a1] H R :=
  Ca.intro (P := Tryz.prog) (kp := kp) (f := 276) (fn := Tryz.f276) (args := [a0, a1]) Tryz.func276 (by kernel_rfl) (Eq.mp (F276.eq a0 a1 H R) h)

-- incunable/choice.Right$1
def F277 (a0 : AV) (H : AHeap) (R : AV → AHeap → Prop) : Prop :=
  Ca Tryz.prog kp 278 [a0, (.int .i64 0), (.int .i64 65536)] H fun t4 H_1 =>
  Pu (aUn .not t4) fun t5 =>
  R t5 H_1
theorem F277.eq (a0 : AV) (H : AHeap) (R : AV → AHeap → Prop) : F277 a0 H R = wpE Tryz.prog kp (kp 277) (bodyOf Tryz.f277) (retE Tryz.prog Tryz.f277 R) (argsT [a0] 0 .nil) H := by kernel_rfl
theorem F277.ca {a0 : AV} {H : AHeap} {R : AV → AHeap → Prop} (h : F277 a0 H R) : Ca Tryz.prog kp 277 [a0] H R :=
  Ca.intro (P := Tryz.prog) (kp := kp) (f := 277) (fn := Tryz.f277) (args := [a0]) Tryz.func277 (by kernel_rfl) (Eq.mp (F277.eq a0 H R) h)

-- incunable/choice.within
def F278 (a0 a1 a2 : AV) (H : AHeap) (R : AV → AHeap → Prop) : Prop :=
  Pu (aBin Tryz.prog .geq 3 a0 a1) fun t9 =>
  Gd t9 true (Pu (some a0)) fun t11 =>
  Gd t9 true (Pu (some a2)) fun t12 =>
  Gd t9 true (Pu (aBin Tryz.prog .leq 3 t11 t12)) fun t13 =>
  Pu (pickA t9 t13 (.bool false)) fun t14 =>
  R t14 H
theorem F278.eq (a0 a1 a2 : AV) (H : AHeap) (R : AV → AHeap → Prop) : F278 a0 a1 a2 H R = wpE Tryz.prog kp (kp 278) (bodyOf Tryz.f278) (retE Tryz.prog Tryz.f278 R) (argsT [a0, a1, a2] 0 .nil) H := by kernel_rfl
theorem F278.ca {a0 a1 a2 : AV} {H : AHeap} {R : AV → AHeap → Prop} (h : F278 a0 a1 a2 H R) : Ca Tryz.prog kp 278 [a0, a1, a2] H R :=
  Ca.intro (P := Tryz.prog) (kp := kp) (f := 278) (fn := Tryz.f278) (args := [a0, a1, a2]) Tryz.func278 (by kernel_rfl) (Eq.mp (F278.eq a0 a1 a2 H R) h)

-- slices.ContainsFunc[[]incunable/api.Turn,incunable/api.Turn]
def F279 (a0 a1 : AV) (H : AHeap) (R : AV → AHeap → Prop) : Prop :=
  Ca Tryz.prog kp 313 [a0, a1] H fun t7 H_1 =>
  Pu (aBin Tryz.prog .geq 3 t7 (.int .i64 0)) fun t8 =>
  R t8 H_1
theorem F279.eq (a0 a1 : AV) (H : AHeap) (R : AV → AHeap → Prop) : F279 a0 a1 H R = wpE Tryz.prog kp (kp 279) (bodyOf Tryz.f279) (retE Tryz.prog Tryz.f279 R) (argsT [a0, a1] 0 .nil) H := by kernel_rfl
theorem F279.ca {a0 a1 : AV} {H : AHeap} {R : AV → AHeap → Prop} (h : F279 a0 a1 H R) : Ca Tryz.prog kp 279 [a0, a1] H R :=
  Ca.intro (P := Tryz.prog) (kp := kp) (f := 279) (fn := Tryz.f279) (args := [a0, a1]) Tryz.func279 (by kernel_rfl) (Eq.mp (F279.eq a0 a1 H R) h)

-- incunable/choice.Right$2
def F280 (a0 a1 : AV) (H : AHeap) (R : AV → AHeap → Prop) : Prop :=
  Nb (bxA 3 a0) H fun t2 H_1 =>
  Cq (hUp H_1 30) fun H_2 =>
  Pu (fdP 0 t2) fun t4 =>
  Pu (ldS H_2 t4) fun t5 =>
  Pu (fdP 1 a1) fun t6 =>
  Pu (ldS H_2 t6) fun t7 =>
  Pu (fdP 2 a1) fun t8 =>
  Pu (ldS H_2 t8) fun t9 =>
  Pu (aBin Tryz.prog .mul 3 t7 t9) fun t10 =>
  Pu (aBin Tryz.prog .sub 3 t10 (.int .i64 1)) fun t11 =>
  Ca Tryz.prog kp 278 [t5, (.int .i64 0), t11] H_2 fun t12 H_3 =>
  Pu (aUn .not t12) fun t13 =>
  Gd t13 false (Pu (fdP 1 t2)) fun t15 =>
  GdR t13 false (fun C => Pu (ldS H_3 t15) fun v => C v (some (.load 3 t15))) fun t16 r12 =>
  Gd t13 false (Pu (fdP 5 a1)) fun t17 =>
  GdR t13 false (fun C => Pu (ldS H_3 t17) fun v => C v (some (.load 3 t17))) fun t18 r14 =>
  Gd t13 false (Pu (aBin Tryz.prog .sub 3 t18 (.int .i64 1))) fun t19 =>
  Gd2 t13 false H_3 (Ca Tryz.prog kp 278 [t16, (.int .i64 0), t19] H_3) fun t20 H_4 =>
  Gd t13 false (Pu (aUn .not t20)) fun t21 =>
  Pu (pickA t13 (.bool true) t21) fun t22 =>
  Gd t22 false (Pu (fdP 2 t2)) fun t24 =>
  GdR t22 false (fun C => Pu (ldS H_4 t24) fun v => C v (some (.load 3 t24))) fun t25 r21 =>
  GdR t22 false (fun C => Pu (ldG 7 H_4 a1) fun v => C v (some (.load 23 a1))) fun t26 r22 =>
  Gd2 t22 false H_4 (Ca Tryz.prog kp 123 [t26] H_4) fun t27 H_5 =>
  Gd t22 false (Pu (aBin Tryz.prog .mul 3 (.int .i64 8) t27)) fun t28 =>
  Gd t22 false (Pu (aBin Tryz.prog .sub 3 t28 (.int .i64 1))) fun t29 =>
  Gd2 t22 false H_5 (Ca Tryz.prog kp 278 [t25, (.int .i64 0), t29] H_5) fun t30 H_6 =>
  Gd t22 false (Pu (aUn .not t30)) fun t31 =>
  Pu (pickA t22 (.bool true) t31) fun t32 =>
  ((True ∧ True ∧ Still Tryz.prog r22 t26 H_4 ∧ True) ∧ (True ∧ True ∧ Still Tryz.prog r21 t25 H_4 ∧ Still Tryz.prog r21 t25 H_5 ∧ True) ∧ (True ∧ Still Tryz.prog r14 t18 H_3 ∧ True) ∧ (True ∧ Still Tryz.prog r12 t16 H_3 ∧ True) ∧ (StS t8 t9 H_2 ∧ True) ∧ (StS t6 t7 H_2 ∧ True) ∧ (StS t4 t5 H_2 ∧ True) ∧ True) ∧
  R t32 H_6
theorem F280.eq (a0 a1 : AV) (H : AHeap) (R : AV → AHeap → Prop) : F280 a0 a1 H R = wpE Tryz.prog kp (kp 280) (bodyOf Tryz.f280) (retE Tryz.prog Tryz.f280 R) (argsT [a0, a1] 0 .nil) H := by kernel_rfl
theorem F280.ca {a0 a1 : AV} {H : AHeap} {R : AV → AHeap → Prop} (h : F280 a0 a1 H R) : Ca Tryz.prog kp 280 [a0, a1] H R :=
  Ca.intro (P := Tryz.prog) (kp := kp) (f := 280) (fn := Tryz.f280) (args := [a0, a1]) Tryz.func280 (by kernel_rfl) (Eq.mp (F280.eq a0 a1 H R) h)

-- incunable/choice.rising
def F281.T0 (a0 : AV) (a1 : AV) (t9 : AV) (x : AV × AV) : Tm := tmL [(1, a1), (5, x.1), (8, a0), (9, t9), (10, x.2)]
def F281.B0 (a0 : AV) (a1 : AV) (R : AV → AHeap → Prop) (t9 : AV) (X0 : Tm → AHeap → Prop) (x : AV × AV) (H_1 : AHeap) : Prop :=
  Pu (aBin Tryz.prog .lss 3 x.2 t9) fun t11 =>
  Br t11 (
    Pu (ixS 1 a0 x.2) fun t12 =>
    Pu (ldS H_1 t12) fun t13 =>
    Pu (aBin Tryz.prog .leq 3 t13 x.1) fun t16 =>
    Gd t16 false (Pu (some t13)) fun t18 =>
    Gd t16 false (Pu (some a1)) fun t19 =>
    Gd t16 false (Pu (aBin Tryz.prog .gtr 3 t18 t19)) fun t20 =>
    Pu (pickA t16 (.bool true) t20) fun t21 =>
    Br t21 (
      R (.bool false) H_1)
    (
      Pu (aBin Tryz.prog .add 3 x.2 (.int .i64 1)) fun t23 =>
      X0 (F281.T0 a0 a1 t9 (t13, t23)) H_1))
  (
    R (.bool true) H_1)
def F281.L0 (a0 : AV) (a1 : AV) (R : AV → AHeap → Prop) (t9 : AV) (x : AV × AV) (H_1 : AHeap) : Prop := loopW (kp 281) (subC [1, 1, 0, 1, 1, 1] (bodyOf Tryz.f281)) (wpE Tryz.prog kp (kp 281) (subC [1, 1, 0, 1, 1, 1] (bodyOf Tryz.f281))) (kBlock 0 (kSeq (wpE Tryz.prog kp (kp 281) (subC [1, 1, 1] (bodyOf Tryz.f281))) (retE Tryz.prog Tryz.f281 R))) (F281.T0 a0 a1 t9 x) H_1
theorem F281.B0_eq (a0 : AV) (a1 : AV) (R : AV → AHeap → Prop) (t9 : AV) (X0 : Tm → AHeap → Prop) (x : AV × AV) (H_1 : AHeap) : F281.B0 a0 a1 R t9 X0 x H_1 = wpE Tryz.prog kp (kp 281) (subC [1, 1, 0, 1, 1, 1] (bodyOf Tryz.f281)) (kLoop (keepL (kp 281) (subC [1, 1, 0, 1, 1, 1] (bodyOf Tryz.f281))) (kBlock 0 (kSeq (wpE Tryz.prog kp (kp 281) (subC [1, 1, 1] (bodyOf Tryz.f281))) (retE Tryz.prog Tryz.f281 R))) X0) (F281.T0 a0 a1 t9 x) H_1 := by kernel_rfl
theorem F281.L0_of (a0 : AV) (a1 : AV) (R : AV → AHeap → Prop) (t9 : AV) (J : Nat → (AV × AV) → AHeap → Prop) (step : ∀ nn xx HH, J nn xx HH → ∀ XX : Tm → AHeap → Prop, (∀ mm yy H', mm < nn → J mm yy H' → XX (F281.T0 a0 a1 t9 yy) H') → F281.B0 a0 a1 R t9 XX xx HH) : ∀ nn xx HH, J nn xx HH → F281.L0 a0 a1 R t9 xx HH :=
  loop_rule (F281.T0 a0 a1 t9) (F281.B0 a0 a1 R t9) (F281.B0_eq a0 a1 R t9) J step
theorem F281.L0_un (a0 : AV) (a1 : AV) (R : AV → AHeap → Prop) (t9 : AV) (xx : AV × AV) (HH : AHeap) (hh : ∀ XX : Tm → AHeap → Prop, (∀ yy H', F281.L0 a0 a1 R t9 yy H' → XX (F281.T0 a0 a1 t9 yy) H') → F281.B0 a0 a1 R t9 XX xx HH) : F281.L0 a0 a1 R t9 xx HH :=
  loop_once (F281.T0 a0 a1 t9) (F281.B0 a0 a1 R t9) (F281.B0_eq a0 a1 R t9) xx HH hh
def F281 (a0 a1 : AV) (H : AHeap) (R : AV → AHeap → Prop) : Prop :=
  Pu (lnS a0) fun t9 =>
  F281.L0 a0 a1 R t9 ((.int .i64 (-1)), (.int .i64 0)) H
theorem F281.eq (a0 a1 : AV) (H : AHeap) (R : AV → AHeap → Prop) : F281 a0 a1 H R = wpE Tryz.prog kp (kp 281) (bodyOf Tryz.f281) (retE Tryz.prog Tryz.f281 R) (argsT [a0, a1] 0 .nil) H := by kernel_rfl
theorem F281.ca {a0 a1 : AV} {H : AHeap} {R : AV → AHeap → Prop} (h : F281 a0 a1 H R) : Ca Tryz.prog kp 281 [a0, a1] H R :=
  Ca.intro (P := Tryz.prog) (kp := kp) (f := 281) (fn := Tryz.f281) (args := [a0, a1]) Tryz.func281 (by kernel_rfl) (Eq.mp (F281.eq a0 a1 H R) h)

-- slices.IndexFunc[[]int,int]
def F282.T0 (a0 : AV) (a1 : AV) (t7 : AV) (x : AV) : Tm := tmL [(0, a0), (1, a1), (7, t7), (8, x)]
def F282.B0 (a0 : AV) (a1 : AV) (R : AV → AHeap → Prop) (t7 : AV) (X0 : Tm → AHeap → Prop) (x : AV) (H_1 : AHeap) : Prop :=
  Pu (aBin Tryz.prog .lss 3 x t7) fun t9 =>
  Br t9 (
    Pu (ixS 1 a0 x) fun t14 =>
    Pu (ldS H_1 t14) fun t15 =>
    callF Tryz.prog kp a1 [t15] H_1 fun t16 H_2 =>
    Br t16 (
      R x H_2)
    (
      Pu (aBin Tryz.prog .add 3 x (.int .i64 1)) fun t18 =>
      X0 (F282.T0 a0 a1 t7 (t18)) H_2))
  (
    R (.int .i64 (-1)) H_1)
def F282.L0 (a0 : AV) (a1 : AV) (R : AV → AHeap → Prop) (t7 : AV) (x : AV) (H_1 : AHeap) : Prop := loopW (kp 282) (subC [1, 0, 1, 1, 1] (bodyOf Tryz.f282)) (wpE Tryz.prog kp (kp 282) (subC [1, 0, 1, 1, 1] (bodyOf Tryz.f282))) (kBlock 0 (kSeq (wpE Tryz.prog kp (kp 282) (subC [1, 1] (bodyOf Tryz.f282))) (retE Tryz.prog Tryz.f282 R))) (F282.T0 a0 a1 t7 x) H_1
theorem F282.B0_eq (a0 : AV) (a1 : AV) (R : AV → AHeap → Prop) (t7 : AV) (X0 : Tm → AHeap → Prop) (x : AV) (H_1 : AHeap) : F282.B0 a0 a1 R t7 X0 x H_1 = wpE Tryz.prog kp (kp 282) (subC [1, 0, 1, 1, 1] (bodyOf Tryz.f282)) (kLoop (keepL (kp 282) (subC [1, 0, 1, 1, 1] (bodyOf Tryz.f282))) (kBlock 0 (kSeq (wpE Tryz.prog kp (kp 282) (subC [1, 1] (bodyOf Tryz.f282))) (retE Tryz.prog Tryz.f282 R))) X0) (F282.T0 a0 a1 t7 x) H_1 := by kernel_rfl
theorem F282.L0_of (a0 : AV) (a1 : AV) (R : AV → AHeap → Prop) (t7 : AV) (J : Nat → AV → AHeap → Prop) (step : ∀ nn xx HH, J nn xx HH → ∀ XX : Tm → AHeap → Prop, (∀ mm yy H', mm < nn → J mm yy H' → XX (F282.T0 a0 a1 t7 yy) H') → F282.B0 a0 a1 R t7 XX xx HH) : ∀ nn xx HH, J nn xx HH → F282.L0 a0 a1 R t7 xx HH :=
  loop_rule (F282.T0 a0 a1 t7) (F282.B0 a0 a1 R t7) (F282.B0_eq a0 a1 R t7) J step
theorem F282.L0_un (a0 : AV) (a1 : AV) (R : AV → AHeap → Prop) (t7 : AV) (xx : AV) (HH : AHeap) (hh : ∀ XX : Tm → AHeap → Prop, (∀ yy H', F282.L0 a0 a1 R t7 yy H' → XX (F282.T0 a0 a1 t7 yy) H') → F282.B0 a0 a1 R t7 XX xx HH) : F282.L0 a0 a1 R t7 xx HH :=
  loop_once (F282.T0 a0 a1 t7) (F282.B0 a0 a1 R t7) (F282.B0_eq a0 a1 R t7) xx HH hh
def F282 (a0 a1 : AV) (H : AHeap) (R : AV → AHeap → Prop) : Prop :=
  Pu (lnS a0) fun t7 =>
  F282.L0 a0 a1 R t7 ((.int .i64 0)) H
theorem F282.eq (a0 a1 : AV) (H : AHeap) (R : AV → AHeap → Prop) : F282 a0 a1 H R = wpE Tryz.prog kp (kp 282) (bodyOf Tryz.f282) (retE Tryz.prog Tryz.f282 R) (argsT [a0, a1] 0 .nil) H := by kernel_rfl
theorem F282.ca {a0 a1 : AV} {H : AHeap} {R : AV → AHeap → Prop} (h : F282 a0 a1 H R) : Ca Tryz.prog kp 282 [a0, a1] H R :=
  Ca.intro (P := Tryz.prog) (kp := kp) (f := 282) (fn := Tryz.f282) (args := [a0, a1]) Tryz.func282 (by kernel_rfl) (Eq.mp (F282.eq a0 a1 H R) h)

-- (*incunable/judge.Judge).lost
def F283.T0 (a0 : AV) (t7 : AV) (t8 : AV) (x : AV) : Tm := tmL [(0, a0), (7, t7), (8, t8), (9, x)]
def F283.B0 (a0 : AV) (R : AV → AHeap → Prop) (t7 : AV) (t8 : AV) (X0 : Tm → AHeap → Prop) (x : AV) (H_1 : AHeap) : Prop :=
  Pu (aBin Tryz.prog .lss 3 x t8) fun t10 =>
  Br t10 (
    Pu (ixS 1 t7 x) fun t11 =>
    Pu (ldS H_1 t11) fun t12 =>
    Pu (nilC a0) fun t14 =>
    Pu (fdP 7 t14) fun t15 =>
    Pu (ldS H_1 t15) fun t16 =>
    Pu (ixS 3 t16 t12) fun t18 =>
    Pu (fdP 0 t18) fun t19 =>
    Pu (stA 1 H_1 t19 (.bool false)) fun H_2 =>
    Pu (aBin Tryz.prog .add 3 x (.int .i64 1)) fun t20 =>
    X0 (F283.T0 a0 t7 t8 (t20)) H_2)
  (
    Pu (nilC a0) fun t22 =>
    Pu (fdP 19 t22) fun t23 =>
    Pu (stA 1 H_1 t23 .nils) fun H_3 =>
    R (.tup []) H_3)
def F283.L0 (a0 : AV) (R : AV → AHeap → Prop) (t7 : AV) (t8 : AV) (x : AV) (H_1 : AHeap) : Prop := loopW (kp 283) (subC [0, 1, 1, 1] (bodyOf Tryz.f283)) (wpE Tryz.prog kp (kp 283) (subC [0, 1, 1, 1] (bodyOf Tryz.f283))) (kBlock 0 (kSeq (wpE Tryz.prog kp (kp 283) (subC [1] (bodyOf Tryz.f283))) (retE Tryz.prog Tryz.f283 R))) (F283.T0 a0 t7 t8 x) H_1
theorem F283.B0_eq (a0 : AV) (R : AV → AHeap → Prop) (t7 : AV) (t8 : AV) (X0 : Tm → AHeap → Prop) (x : AV) (H_1 : AHeap) : F283.B0 a0 R t7 t8 X0 x H_1 = wpE Tryz.prog kp (kp 283) (subC [0, 1, 1, 1] (bodyOf Tryz.f283)) (kLoop (keepL (kp 283) (subC [0, 1, 1, 1] (bodyOf Tryz.f283))) (kBlock 0 (kSeq (wpE Tryz.prog kp (kp 283) (subC [1] (bodyOf Tryz.f283))) (retE Tryz.prog Tryz.f283 R))) X0) (F283.T0 a0 t7 t8 x) H_1 := by kernel_rfl
theorem F283.L0_of (a0 : AV) (R : AV → AHeap → Prop) (t7 : AV) (t8 : AV) (J : Nat → AV → AHeap → Prop) (step : ∀ nn xx HH, J nn xx HH → ∀ XX : Tm → AHeap → Prop, (∀ mm yy H', mm < nn → J mm yy H' → XX (F283.T0 a0 t7 t8 yy) H') → F283.B0 a0 R t7 t8 XX xx HH) : ∀ nn xx HH, J nn xx HH → F283.L0 a0 R t7 t8 xx HH :=
  loop_rule (F283.T0 a0 t7 t8) (F283.B0 a0 R t7 t8) (F283.B0_eq a0 R t7 t8) J step
theorem F283.L0_un (a0 : AV) (R : AV → AHeap → Prop) (t7 : AV) (t8 : AV) (xx : AV) (HH : AHeap) (hh : ∀ XX : Tm → AHeap → Prop, (∀ yy H', F283.L0 a0 R t7 t8 yy H' → XX (F283.T0 a0 t7 t8 yy) H') → F283.B0 a0 R t7 t8 XX xx HH) : F283.L0 a0 R t7 t8 xx HH :=
  loop_once (F283.T0 a0 t7 t8) (F283.B0 a0 R t7 t8) (F283.B0_eq a0 R t7 t8) xx HH hh
def F283 (a0 : AV) (H : AHeap) (R : AV → AHeap → Prop) : Prop :=
  Pu (nilC a0) fun t5 =>
  Pu (fdP 19 t5) fun t6 =>
  Pu (ldS H t6) fun t7 =>
  Pu (lnS t7) fun t8 =>
  F283.L0 a0 R t7 t8 ((.int .i64 0)) H
theorem F283.eq (a0 : AV) (H : AHeap) (R : AV → AHeap → Prop) : F283 a0 H R = wpE Tryz.prog kp (kp 283) (bodyOf Tryz.f283) (retE Tryz.prog Tryz.f283 R) (argsT [a0] 0 .nil) H := by kernel_rfl
theorem F283.ca {a0 : AV} {H : AHeap} {R : AV → AHeap → Prop} (h : F283 a0 H R) : Ca Tryz.prog kp 283 [a0] H R :=
  Ca.intro (P := Tryz.prog) (kp := kp) (f := 283) (fn := Tryz.f283) (args := [a0]) Tryz.func283 (by kernel_rfl) (Eq.mp (F283.eq a0 H R) h)

-- (*incunable/judge.Judge).begin
def F287 (a0 a1 : AV) (H : AHeap) (R : AV → AHeap → Prop) : Prop :=
  Pu (nilC a0) fun t8 =>
  Pu (fdP 13 t8) fun t9 =>
  Pu (ldS H t9) fun t10 =>
  Gd t10 false (Pu (some a0)) fun t12 =>
  Gd t10 false (Pu (nilC t12)) fun t13 =>
  Gd t10 false (Pu (fdP 17 t13)) fun t14 =>
  Gd t10 false (Pu (ldS H t14)) fun t15 =>
  Gd t10 false (Pu (lnS t15)) fun t16 =>
  Gd t10 false (Pu (aBin Tryz.prog .gtr 3 t16 (.int .i64 0))) fun t17 =>
  Pu (pickA t10 (.bool true) t17) fun t18 =>
  Jn (fun (t5_1 : AV) (H_2 : AHeap) =>
    Pu (aBin Tryz.prog .neq 5 t5_1 (.int .u8 0)) fun t27 =>
    Gd t27 true (Pu (some a1)) fun t29 =>
    Gd t27 true (Pu (some t5_1)) fun t30 =>
    Gd t27 true (Pu (aBin Tryz.prog .neq 5 t29 t30)) fun t31 =>
    Pu (pickA t27 t31 (.bool false)) fun t32 =>
    Br t32 (
      R (.bool false) H_2)
    (
      Pu (nilC a0) fun t35 =>
      Pu (fdP 9 t35) fun t36 =>
      Pu (stA 1 H_2 t36 .nils) fun H_3 =>
      Pu (nilC a0) fun t37 =>
      Pu (fdP 10 t37) fun t38 =>
      Pu (stA 1 H_3 t38 (.int .i64 0)) fun H_4 =>
      Pu (aBin Tryz.prog .eql 5 a1 (.int .u8 144)) fun t41 =>
      Jn (fun (H_22 : AHeap) =>
        R (.bool true) H_22) fun J_2 =>
      Br t41 (
        Pu (nilC a0) fun t44 =>
        Pu (fdP 8 t44) fun t45 =>
        Pu (stA 1 H_4 t45 (.int .i64 2)) fun H_5 =>
        Pu (nilC a0) fun t46 =>
        Pu (fdP 16 t46) fun t47 =>
        Pu (stA 1 H_5 t47 (.bool false)) fun H_6 =>
        J_2 H_6)
      (
        Pu (aBin Tryz.prog .eql 5 a1 (.int .u8 236)) fun t49 =>
        Jn (fun (H_21 : AHeap) =>
          J_2 H_21) fun J_3 =>
        Br t49 (
          Pu (nilC a0) fun t52 =>
          Pu (fdP 8 t52) fun t53 =>
          Pu (stA 1 H_4 t53 (.int .i64 3)) fun H_7 =>
          Pu (nilC a0) fun t54 =>
          Pu (fdP 16 t54) fun t55 =>
          Pu (stA 1 H_7 t55 (.bool false)) fun H_8 =>
          J_3 H_8)
        (
          Pu (aBin Tryz.prog .eql 5 a1 (.int .u8 239)) fun t57 =>
          Jn (fun (H_20 : AHeap) =>
            J_3 H_20) fun J_4 =>
          Br t57 (
            Pu (nilC a0) fun t60 =>
            Pu (fdP 8 t60) fun t61 =>
            Pu (stA 1 H_4 t61 (.int .i64 4)) fun H_9 =>
            Pu (nilC a0) fun t62 =>
            Pu (fdP 16 t62) fun t63 =>
            Pu (stA 1 H_9 t63 (.bool false)) fun H_10 =>
            J_4 H_10)
          (
            Pu (aBin Tryz.prog .eql 5 a1 (.int .u8 0)) fun t65 =>
            Jn (fun (H_19 : AHeap) =>
              J_4 H_19) fun J_5 =>
            Br t65 (
              Pu (nilC a0) fun t67 =>
              Pu (fdP 8 t67) fun t68 =>
              Pu (stA 1 H_4 t68 (.int .i64 5)) fun H_11 =>
              J_5 H_11)
            (
              Pu (aBin Tryz.prog .eql 5 a1 (.int .u8 5)) fun t70 =>
              Jn (fun (H_18 : AHeap) =>
                J_5 H_18) fun J_6 =>
              Br t70 (
                Pu (nilC a0) fun t72 =>
                Pu (fdP 16 t72) fun t73 =>
                Pu (ldS H_4 t73) fun t74 =>
                Pu (aUn .not t74) fun t75 =>
                Br t75 (
                  R (.bool false) H_4)
                (
                  Pu (nilC a0) fun t77 =>
                  Pu (fdP 8 t77) fun t78 =>
                  Pu (stA 1 H_4 t78 (.int .i64 7)) fun H_12 =>
                  J_6 H_12))
              (
                Pu (aBin Tryz.prog .eql 5 a1 (.int .u8 128)) fun t80 =>
                Jn (fun (H_17 : AHeap) =>
                  J_6 H_17) fun J_7 =>
                Br t80 (
                  Pu (nilC a0) fun t83 =>
                  Pu (fdP 8 t83) fun t84 =>
                  Pu (stA 1 H_4 t84 (.int .i64 8)) fun H_13 =>
                  Pu (nilC a0) fun t85 =>
                  Pu (fdP 16 t85) fun t86 =>
                  Pu (stA 1 H_13 t86 (.bool false)) fun H_14 =>
                  J_7 H_14)
                (
                  Pu (aBin Tryz.prog .eql 5 a1 (.int .u8 96)) fun t88 =>
                  Br t88 (
                    Pu (nilC a0) fun t91 =>
                    Pu (fdP 8 t91) fun t92 =>
                    Pu (stA 1 H_4 t92 (.int .i64 9)) fun H_15 =>
                    Pu (nilC a0) fun t93 =>
                    Pu (fdP 16 t93) fun t94 =>
                    Pu (stA 1 H_15 t94 (.bool false)) fun H_16 =>
                    J_7 H_16)
                  (
                    R (.bool false) H_4))))))))) fun J =>
  Br t18 (
    J (.int .u8 128) H)
  (
    Pu (nilC a0) fun t21 =>
    Pu (fdP 18 t21) fun t22 =>
    Pu (ldS H t22) fun t23 =>
    Pu (lnS t23) fun t24 =>
    Pu (aBin Tryz.prog .gtr 3 t24 (.int .i64 0)) fun t25 =>
    Jn (fun (t5 : AV) (H_1 : AHeap) =>
      J t5 H_1) fun J_1 =>
    Br t25 (
      J_1 (.int .u8 96) H)
    (
      J_1 (.int .u8 0) H))
theorem F287.eq (a0 a1 : AV) (H : AHeap) (R : AV → AHeap → Prop) : F287 a0 a1 H R = wpE Tryz.prog kp (kp 287) (bodyOf Tryz.f287) (retE Tryz.prog Tryz.f287 R) (argsT [a0, a1] 0 .nil) H := by kernel_rfl
theorem F287.ca {a0 a1 : AV} {H : AHeap} {R : AV → AHeap → Prop} (h : F287 a0 a1 H R) : Ca Tryz.prog kp 287 [a0, a1] H R :=
  Ca.intro (P := Tryz.prog) (kp := kp) (f := 287) (fn := Tryz.f287) (args := [a0, a1]) Tryz.func287 (by kernel_rfl) (Eq.mp (F287.eq a0 a1 H R) h)

end Go.Proofs.YtdjmoojonkjafaaGreat
