/- Contract: the statement of layer 18, IdentChecks. -/
import Derived.Test.YtdjmoojonkjafaaGreatGx
set_option linter.unusedSimpArgs false
set_option linter.unusedVariables false
set_option maxRecDepth 100000
set_option maxHeartbeats 2000000
namespace Go.Proofs.YtdjmoojonkjafaaGreat
open Go.AM Go.Proofs
attribute [local irreducible] Pu Br Gd Gd2 GdR Nb Cq Pp callF Jn StS StG Still loopW Ca Is

section
variable {H : AHeap} {R : AV → AHeap → Prop}

/-- the three arguments' own variables -/
structure IdV (H : AHeap) (g other : Geom) (s : Scr) (b : Int) (x y z : Nat) : Prop where
  y3 : At H x (.cells 7 g.L)
  y4 : At H y (.cells 7 other.L)
  y5 : At H z (.cells 7 [s.busy, s.fails, s.turns, .int .i64 s.cut, s.torn, s.marked, .int .i64 b])
theorem IdV.fr {H' : AHeap} {g other : Geom} {s : Scr} {b : Int} {x y z : Nat} {F : List Nat} (v : IdV H g other s b x y z) (e : Fr F H H') (h : ∀ f ∈ F, f ≠ x ∧ f ≠ y ∧ f ≠ z) : IdV H' g other s b x y z :=
  ⟨v.y3.fr e (fun q => (h _ q).1 rfl), v.y4.fr e (fun q => (h _ q).2.1 rfl), v.y5.fr e (fun q => (h _ q).2.2 rfl)⟩
theorem IdV.ext {H' : AHeap} {g other : Geom} {s : Scr} {b : Int} {x y z : Nat} (v : IdV H g other s b x y z) (e : Ext H H') : IdV H' g other s b x y z := v.fr e (by simp)
theorem IdV.l {g other : Geom} {s : Scr} {b : Int} {x y z : Nat} (v : IdV H g other s b x y z) : ldG 7 H (.ptr x 0) = some (.agg g.L) ∧ ldG 7 H (.ptr y 0) = some (.agg other.L) ∧ ldG 6 H (.ptr z 0) = some (.agg s.L) ∧ ldS H (.ptr z 6) = some (.int .i64 b)
    ∧ ldS H (.ptr z 3) = some (.int .i64 s.cut) ∧ ldS H (.ptr z 0) = some s.busy ∧ ldS H (.ptr x 0) = some (.int .i64 g.Planes) := by
  refine ⟨by rw [ldG_p, v.y3.g]; rfl, by rw [ldG_p, v.y4.g]; rfl, by rw [ldG_p, v.y5.g]; rfl, by rw [ldS_p, v.y5.g]; rfl, by rw [ldS_p, v.y5.g]; rfl, by rw [ldS_p, v.y5.g]; rfl, by rw [ldS_p, v.y3.g]; rfl⟩

/-- the end of every road: the judge runs over the trace -/
def IdTl (x w : Nat) (R : AV → AHeap → Prop) (H_36 : AHeap) : Prop :=
  Pu (ldG 7 H_36 (.ptr x 0)) fun t167_2 =>
  Ca Tryz.prog kp 20 [.ptr w 0] H_36 fun t169_2 H_37 =>
  Ca Tryz.prog kp 49 [t167_2, t169_2] H_37 fun t170_2 H_38 =>
  Pu (exT t170_2 0) fun t171_2 =>
  Pu (exT t170_2 1) fun t172_2 =>
  ((StG 7 (.ptr x 0) t167_2 H_36 ∧ StG 7 (.ptr x 0) t167_2 H_37 ∧ True) ∧ True) ∧
  R t172_2 H_38
def IdTail (x w : Nat) (R : AV → AHeap → Prop) (H : AHeap) : Prop := Cq (hUp H 9) (IdTl x w R)

theorem id_tl {g : Geom} {x w r : Nat} {p : ChP} {s : ChQ} {l : List (Int × Int)} {O : List Nat} {jf : JQ} (ok : g.Ok) (y : At H x (.cells 7 g.L)) (a : WireAt H w r p s l O) (hl : l.length ≤ 2 ^ 24) (hr : jrun g jq0 l = some jf) (k : ∀ H', R (.bool true) H') : IdTl x w R H := by
  unfold IdTl
  have hg : ∀ {H' : AHeap}, At H' x (.cells 7 g.L) → ldG 7 H' (.ptr x 0) = some (.agg g.L) := fun h => by rw [ldG_p, h.g]; rfl
  have y1 := hg y
  refine rr1 @y1 ?_
  refine wire_Trace a hl (fun v H2 gv e2 => ?_)
  have y2 := hg (y.ext e2)
  refine judge_Run ok gv.sl (by omega) gv.al hr (fun H3 e3 => ?_)
  refine rr2 @y1 @y2 ?_
  exact k _

def IdLow (x z w : Nat) (R : AV → AHeap → Prop) (H : AHeap) : Prop :=
        Ca Tryz.prog kp 47 [.ptr w 0] H fun t125_1 H_27 =>
        Pu (exT t125_1 0) fun t126_1 =>
        Pu (exT t125_1 1) fun t127_1 =>
        Pu (fdP 6 (.ptr z 0)) fun t130_1 =>
        Pu (ldS H_27 t130_1) fun t131_1 =>
        Ca Tryz.prog kp 48 [.ptr w 0, t131_1] H_27 fun t132_1 H_28 =>
        Pu (exT t132_1 0) fun t133_1 =>
        Pu (exT t132_1 1) fun t134_1 =>
        Nw (.cells 7 [.int .i64 0, .int .i64 0, .int .i64 0, .int .i64 0, .int .i64 0, .int .i64 0, .int .i64 0]) (fun h => (.ptr h 0)) H_28 fun t18_1 H_29 =>
        Pu (stA 7 H_29 t18_1 t133_1) fun H_30 =>
        Cq (hUp H_30 31) fun H_31 =>
        Pu (aBin Tryz.prog .neq 35 t127_1 (.int .i64 0)) fun t136_1 =>
        Gd t136_1 false (Pu (some t134_1)) fun t138_1 =>
        Gd t136_1 false (Pu (aBin Tryz.prog .neq 35 t138_1 (.int .i64 0))) fun t139_1 =>
        Pu (pickA t136_1 (.bool true) t139_1) fun t140_1 =>
        GdR t140_1 false (fun C => Pu (ldG 7 H_31 t18_1) fun v => C v (some (.load 23 t18_1))) fun t142_1 r7_1 =>
        GdR t140_1 false (fun C => Pu (ldG 7 H_31 (.ptr x 0)) fun v => C v (some (.load 23 (.ptr x 0)))) fun t143_1 r8_1 =>
        Gd t140_1 false (Pu (aBin Tryz.prog .neq 23 t142_1 t143_1)) fun t144_1 =>
        Pu (pickA t140_1 (.bool true) t144_1) fun t145_1 =>
        Gd t145_1 false (Pu (some t126_1)) fun t147_1 =>
        Gd t145_1 false (Pu (lnS t147_1)) fun t148_1 =>
        Gd t145_1 false (Pu (aBin Tryz.prog .neq 3 t148_1 (.int .i64 5))) fun t149_1 =>
        Pu (pickA t145_1 (.bool true) t149_1) fun t150_1 =>
        Gd t150_1 false (Pu (some t126_1)) fun t152_1 =>
        Gd t150_1 false (Pu (ixS 1 t152_1 (.int .i64 0))) fun t153_1 =>
        GdR t150_1 false (fun C => Pu (ldS H_31 t153_1) fun v => C v (some (.load 5 t153_1))) fun t154_1 r19_1 =>
        Gd t150_1 false (Pu (aBin Tryz.prog .neq 5 t154_1 (.int .u8 73))) fun t155_1 =>
        Pu (pickA t150_1 (.bool true) t155_1) fun t156_1 =>
        Gd t156_1 false (Pu (some t126_1)) fun t158_1 =>
        Gd t156_1 false (Pu (ixS 1 t158_1 (.int .i64 2))) fun t159_1 =>
        GdR t156_1 false (fun C => Pu (ldS H_31 t159_1) fun v => C v (some (.load 5 t159_1))) fun t160_1 r25_1 =>
        Gd t156_1 false (Pu (cvI .i64 t160_1)) fun t161_1 =>
        Gd t156_1 false (Pu (fdP 0 (.ptr x 0))) fun t162_1 =>
        GdR t156_1 false (fun C => Pu (ldS H_31 t162_1) fun v => C v (some (.load 3 t162_1))) fun t163_1 r28_1 =>
        Gd t156_1 false (Pu (aBin Tryz.prog .neq 3 t161_1 t163_1)) fun t164_1 =>
        Pu (pickA t156_1 (.bool true) t164_1) fun t165_1 =>
        ((Still Tryz.prog r28_1 t163_1 H_31 ∧ True) ∧ (Still Tryz.prog r25_1 t160_1 H_31 ∧ True) ∧ (Still Tryz.prog r19_1 t154_1 H_31 ∧ True) ∧ (Still Tryz.prog r8_1 t143_1 H_31 ∧ True) ∧ (Still Tryz.prog r7_1 t142_1 H_31 ∧ True) ∧ True) ∧
        Br t165_1 (
          R (.bool false) H_31)
        (
          IdTail x w R H_31)

theorem cvp {a : Int} (h : 0 ≤ a ∧ a ≤ 255) : cvI .i64 (.int .u8 a) = some (.int .i64 a) := by
  simp only [cvI]; rw [w64 (by omega)]

theorem id_low {g other : Geom} {sc : Scr} {n N x y z w r : Nat} {p : ChP} {s : ChQ} {j : JQ} {l : List (Int × Int)} {O : List Nat} (ok : g.Ok) (hpg : p.g = g) (v : IdV H g other sc n x y z) (nx : ∀ f ∈ O, f ≠ x ∧ f ≠ y ∧ f ≠ z) (a : WireAt H w r p s l O)
    (hbs : ∀ n ∈ p.bs, 0 ≤ n ∧ n ≤ 65536) (hd : ∀ d ∈ p.bs, d < n) (hn : 1 ≤ n ∧ n ≤ 65536) (rg : s.Rng N) (hN : N + n + 25 ≤ 2 ^ 30) (hoff : s.off = false) (hb : s.busy = 0) (hc : s.cut = -1) (hl : l.length + n + 25 ≤ 2 ^ 24) (hr : jrun g jq0 l = some j) (jr : JR j)
    (k : ∀ H', R (.bool true) H') : IdLow x z w R H := by
  subst hpg
  have okp := ok
  obtain ⟨f1, f2, f3, f4⟩ := idP_facts (s := s) okp hb
  have h0 := (f3 hc).1
  obtain ⟨c1, c2, c3, c4⟩ := f2 h0
  have rg2 := idP_rng okp hbs rg (by omega) hb h0
  obtain ⟨p1, p2, p3, p4⟩ := parP_facts (n := n) okp hbs hn.1 c1
  have h1 := (p3 (f3 hc).2 hd).1
  obtain ⟨j1, r1, r2⟩ := jrun_id (g := p.g) (p := p) hb jr
  obtain ⟨j2, r3, r4⟩ := jrun_par (g := p.g) (p := p) (n := n) ok hn.1 c1 (r2 h0)
  unfold IdLow
  refine ident_ID a hbs rg (by omega) hoff hb (by omega) (fun v1 H1 O1 t1 gv => ?_)
  obtain ⟨g1, g2⟩ := gv h0
  have v2 := v.fr t1.fr nx
  obtain ⟨l1, l2, l3, l4, l5, l6, l7⟩ := v2.l
  rw [h0]
  refine rr1 @l4 ?_
  refine ident_Parameters (n := n) t1.at_ hbs rg2 (by omega) (by rw [c2]; exact hoff) c1 (by simp; omega) hn (fun H2 O2 t2 => ?_)
  have t12 := t1.trans t2
  have v3 := v.fr t12.fr nx
  have g3 := g1.fr t2.fr (fun h hh => (g2 h hh).1)
  have hpl : p.g.L.length = 7 := rfl
  have htp : List.take 7 p.g.L = p.g.L := rfl
  have hst : ∀ H5 : AHeap, stA 7 (H5.push (.cells 7 [.int .i64 0, .int .i64 0, .int .i64 0, .int .i64 0, .int .i64 0, .int .i64 0, .int .i64 0])) (.ptr H5.n 0) (.agg p.g.L) = some ((H5.push (.cells 7 [.int .i64 0, .int .i64 0, .int .i64 0, .int .i64 0, .int .i64 0, .int .i64 0, .int .i64 0])).set H5.n (.cells 7 p.g.L)) := by
    intro H5
    rw [stA_p, get_push_c, stB_c, if_pos ⟨rfl, by simp, rfl⟩]; rfl
  rw [h1, if_pos rfl]
  refine rr1 @hst ?_
  generalize hH5 : hUp (AHeap.set (AHeap.push H2 _) H2.n _) 31 = H5
  have e5 : Ext H2 H5 := hH5 ▸ by exact fa
  have z5 : ldG 7 H5 (.ptr H2.n 0) = some (.agg p.g.L) := by rw [← hH5, ldG_p, get_hUp, get_set_c]; rfl
  clear hH5
  obtain ⟨m1, m2, m3, m4, m5, m6, m7⟩ := (v3.ext e5).l
  have s5 := (g3.ext e5).sl
  obtain ⟨q0, i0, d0, _⟩ := s5.ix (k := .i64) (i := 0) (by omega) (by omega) (by omega)
  obtain ⟨q2, i2, d2, _⟩ := s5.ix (k := .i64) (i := 2) (by omega) (by omega) (by omega)
  rw [c4] at d0 d2
  simp [by8, idL] at d0 d2
  have hpp := okp.p1
  have hpp2 := okp.p2
  have cv := cvp (a := p.g.Planes) (by omega)
  have hd : aBin Tryz.prog .neq 23 (.agg p.g.L) (.agg p.g.L) = some (.bool false) := by rw [neq23, decide_eq_false (by simp)]
  refine rr11 @z5 @htp @m1 @hd @s5.ln @i0 @d0 @i2 @d2 @cv @m7 ?_
  refine X_Cq (id_tl (jf := j2) ok ((v3.ext e5).y3.ext (by exact fa)) ((t12.at_.ext e5).ext (by exact fa)) (by simp; omega) ?_ k)
  rw [jrun_append, jrun_append, hr]
  simp only [Option.bind_some, r1, r3]

theorem id_loop {g other : Geom} {sc : Scr} {n N x y z w r : Nat} {p : ChP} {s : ChQ} {jf : JQ} {l : List (Int × Int)} {O : List Nat} {busy : List Int} {e1 : Int} (ok : g.Ok) (hpg : p.g = g) (v : IdV H g other sc n x y z) (nx : ∀ f ∈ O, f ≠ x ∧ f ≠ y ∧ f ≠ z) (a : WireAt H w r p s l O)
    (sb : Sl H 1 sc.busy busy.length (in64 busy)) (hbl : busy.length ≤ 4096) (hbe : p.bs = busy) (hbs : ∀ n ∈ p.bs, 0 ≤ n ∧ n ≤ 65536) (hn : 1 ≤ n ∧ n ≤ 65536) (hN : N + n + 25 ≤ 2 ^ 30) (hl : l.length + n + 25 ≤ 2 ^ 24) (hr : jrun g jq0 l = some jf)
    (ho : other.Ok → e1 = 0 → g = other) (hno : ¬ other.Ok → e1 = 2)
    (low : sc.cut < 0 → (∀ d ∈ busy, d < n) → s.Rng N ∧ s.off = false ∧ s.busy = 0 ∧ s.cut = -1 ∧ JR jf ∧ (other.Ok → e1 = if g = other then 0 else 23))
    (k : ∀ H', R (.bool true) H') : F4.L1 R (.ptr x 0) (.ptr y 0) (.ptr z 0) (.ptr w 0) (.int .i64 e1) sc.busy (.int .i64 busy.length) (.bool (decide (sc.cut < 0)), .int .i64 0) H := by
  obtain ⟨l1, l2, l3, l4, l5, l6, l7⟩ := v.l
  have tail : ∀ {H5 : AHeap}, Ext H H5 → IdTl x w R (hUp H5 9) := fun e => id_tl (jf := jf) ok (v.y3.ext e.hUp) (a.ext e.hUp) (by omega) hr k
  refine F4.L1_of _ _ _ _ _ _ _ _ (fun m xx H' => ∃ (i : Nat) (lw : Bool), m + i = busy.length ∧ xx = (.bool lw, .int .i64 i) ∧ H' = H ∧ (lw = true ↔ sc.cut < 0 ∧ ∀ d ∈ busy.take i, d < (n : Int))) ?_ busy.length _ _ ⟨0, decide (sc.cut < 0), rfl, rfl, rfl, by simp⟩
  rintro m xx H' ⟨i, lw, hm, rfl, rfl, hlw⟩ X hX
  unfold F4.B1
  by_cases hi : i < busy.length
  · obtain ⟨q, q1, q2, _⟩ := sb.ix (k := .i64) (i := i) (by omega) (by omega) (by omega)
    rw [Int.toNat_natCast, Nat.mul_one, in64_get, List.getElem?_eq_getElem hi] at q2
    simp only [Option.map_some] at q2
    have hx : (i : Int) + 1 = ((i + 1 : Nat) : Int) := by omega
    have htk : busy.take (i + 1) = busy.take i ++ [busy[i]] := by rw [List.take_add_one, List.getElem?_eq_getElem hi]; rfl
    cases lw with
    | true =>
      have hP := hlw.1 rfl
      have hd : aBin Tryz.prog .lss 3 (.int .i64 busy[i]) (.int .i64 n) = some (.bool (decide (busy[i] < (n : Int)))) := by simp
      refine rr3 @q1 @q2 @l4 ?_
      refine X_Pu (by rw [hd]; exact Is_rfl) ?_
      (with_reducible first | apply X_Pu | apply X_Nb | apply X_Pp); (case h => first | ((try simp) <;> (with_reducible exact Is_rfl)) | ((try simp (disch := (first | assumption | omega | (simp <;> omega) | fail)) [SW, SA, SV, if_pos, if_neg, dec_t, dec_f]) <;> (with_reducible exact Is_rfl)))
      refine rr0 ?_
      rw [hx]
      refine hX (m - 1) _ _ (by omega) ⟨i + 1, decide (busy[i] < (n : Int)), by omega, rfl, rfl, ?_⟩
      rw [htk, decide_eq_true_iff]
      constructor
      · intro h
        refine ⟨hP.1, fun d hd => ?_⟩
        rcases List.mem_append.1 hd with q | q
        · exact hP.2 d q
        · rw [List.mem_singleton.1 q]; exact h
      · intro h
        exact h.2 _ (List.mem_append_right _ (List.mem_singleton.2 rfl))
    | false =>
      refine rr3 @q1 @q2 @l4 ?_
      rw [hx]
      refine hX (m - 1) _ _ (by omega) ⟨i + 1, false, by omega, rfl, rfl, ?_⟩
      rw [htk]
      constructor
      · intro h; cases h
      · intro h
        exact hlw.2 ⟨h.1, fun d hd => h.2 d (List.mem_append_left _ hd)⟩
  · have : i = busy.length := by omega
    subst this
    rw [List.take_length] at hlw
    refine rr1 @l2 ?_
    refine ref_Right (fun oko H5 e5 => ?_) (fun nok H5 e5 => ?_)
    · obtain ⟨l1, l2, l3, l4, l5, l6, l7⟩ := (v.ext e5).l
      by_cases hP : lw = true
      · have hL := hlw.1 hP
        obtain ⟨w1, w2, w3, w4, w5, w6⟩ := low hL.1 hL.2
        replace w6 := w6 oko
        subst hP
        have fin := id_low (R := R) (H := H5) (j := jf) ok hpg (v.ext e5) nx (a.ext e5) hbs (by rw [hbe]; exact hL.2) hn w1 hN w2 w3 w4 hl hr w5 k
        by_cases hg : g = other
        · rw [if_pos hg] at w6
          subst hg w6
          have d1 : aBin Tryz.prog .neq 23 (.agg g.L) (.agg g.L) = some (.bool false) := by rw [neq23, decide_eq_false (by simp)]
          have d2 : aBin Tryz.prog .eql 23 (.agg g.L) (.agg g.L) = some (.bool true) := by rw [eql23, decide_eq_true rfl]
          refine rr4 @l1 @l2 @d1 @d2 ?_
          exact fin
        · rw [if_neg hg] at w6
          subst w6
          have hg' : other ≠ g := fun h => hg h.symm
          have d1 : aBin Tryz.prog .neq 23 (.agg other.L) (.agg g.L) = some (.bool true) := by rw [neq23, decide_eq_true hg']
          have d2 : aBin Tryz.prog .eql 23 (.agg other.L) (.agg g.L) = some (.bool false) := by rw [eql23, decide_eq_false hg']
          refine rr4 @l1 @l2 @d1 @d2 ?_
          exact fin
      · replace hP : lw = false := by simpa using hP
        subst hP
        by_cases he : e1 = 0
        · have hg := ho oko he
          subst he hg
          have d1 : aBin Tryz.prog .neq 23 (.agg g.L) (.agg g.L) = some (.bool false) := by rw [neq23, decide_eq_false (by simp)]
          refine rr3 @l1 @l2 @d1 ?_
          exact tail e5
        · have d1 : aBin Tryz.prog .eql 35 (.int .i64 e1) (.int .i64 0) = some (.bool false) := by simp [he]
          refine rr3 @l1 @l2 @d1 ?_
          exact tail e5
    · obtain ⟨l1, l2, l3, l4, l5, l6, l7⟩ := (v.ext e5).l
      have he := hno nok
      subst he
      by_cases hP : lw = true
      · have hL := hlw.1 hP
        obtain ⟨w1, w2, w3, w4, w5, w6⟩ := low hL.1 hL.2
        subst hP
        have fin := id_low (R := R) (H := H5) (j := jf) ok hpg (v.ext e5) nx (a.ext e5) hbs (by rw [hbe]; exact hL.2) hn w1 hN w2 w3 w4 hl hr w5 k
        refine rr0 ?_
        exact fin
      · replace hP : lw = false := by simpa using hP
        subst hP
        refine rr0 ?_
        exact tail e5

theorem IdentChecks_ca {g other : Geom} {s : Scr} {b : Int} {busy fails : List Int} {turns : List Turn} {torn marked : List Int} (sc : ScrAt H s busy fails turns torn marked)
    (k : ∀ H', R (.bool true) H') : Ca Tryz.prog kp 4 [.agg g.L, .agg other.L, .agg [s.busy, s.fails, s.turns, .int .i64 s.cut, s.torn, s.marked, .int .i64 b]] H R := by
  have hg7 : g.L.length = 7 := rfl
  have hgt : List.take 7 g.L = g.L := rfl
  have ho7 : other.L.length = 7 := rfl
  have hot : List.take 7 other.L = other.L := rfl
  apply F4.ca
  unfold F4
  refine rr4 @hg7 @hgt @ho7 @hot ?_
  generalize hH1 : AHeap.push (AHeap.push (AHeap.push H _) _) _ = H1
  have e1 : Ext H H1 := hH1 ▸ by exact fa
  have v1 : IdV H1 g other s b H.n (H.n + 1) (H.n + 2) := hH1 ▸ ⟨(At.push (H := H)).ext (by exact fa), (At.push (H := H.push (.cells 7 g.L))).ext (by exact fa), At.push⟩
  have n1 : H1.n = H.n + 3 := by rw [← hH1]; rfl
  clear hH1
  simp only [AHeap.n_push]
  have nx : ∀ {O : List Nat}, (∀ h ∈ O, H1.n ≤ h) → ∀ f ∈ O, f ≠ H.n ∧ f ≠ H.n + 1 ∧ f ≠ H.n + 2 := fun hO f hf => by have := hO f hf; omega
  refine law18_awake (fun H4 e4 => ?_)
  have v4 := v1.ext e4
  obtain ⟨l1, l2, l3, l4, l5, l6, l7⟩ := v4.l
  refine rr1 @l1 ?_
  have hz : H.n + 1 + 1 = H.n + 2 := rfl
  rw [hz]
  refine law13_Small (fun H5 e5 => ?_) (fun H5 e5 => ?_)
  rotate_left
  · refine rr0 ?_
    exact k _
  have v5 := v4.ext e5
  obtain ⟨l1, l2, l3, l4, l5, l6, l7⟩ := v5.l
  have e05 := (e1.ext e4).ext e5
  refine rr1 @l3 ?_
  refine law12_Few (sc.ext e05) (fun few H6 e6 => ?_) (fun H6 e6 => ?_)
  rotate_left
  · refine rr0 ?_
    exact k _
  have v6 := v5.ext e6
  have sm : busy.length ≤ 2 ^ 30 ∧ fails.length ≤ 2 ^ 30 ∧ turns.length ≤ 2 ^ 30 ∧ torn.length ≤ 2 ^ 30 ∧ marked.length ≤ 2 ^ 30 := by omega
  obtain ⟨l1, l2, l3, l4, l5, l6, l7⟩ := v6.l
  have e06 := e05.ext e6
  refine rr1 @l4 ?_
  refine bb0 ?_ ?_
  · intro hb; try simp only [decide_eq_true_eq, decide_eq_false_iff_not, Decidable.not_not, Int.not_lt, Int.not_le, Bool.not_eq_true, Bool.not_eq_false, Bool.not_eq_eq_eq_not, Bool.not_true, Bool.not_false] at hb
    refine rr0 ?_
    exact k _
  intro hb; try simp only [decide_eq_true_eq, decide_eq_false_iff_not, Decidable.not_not, Int.not_lt, Int.not_le, Bool.not_eq_true, Bool.not_eq_false, Bool.not_eq_eq_eq_not, Bool.not_true, Bool.not_false] at hb
  refine rr2 @l1 @l3 ?_
  have h75 : aBin Tryz.prog .eql 75 .nilp .nilp = some (.bool true) := by kernel_rfl
  refine chip_New (sc.ext e06) sm (fun sok H7 p O7 hpg hpb ch7 e7 hO7 => ?_) (fun H7 e7 => ?_)
  rotate_left
  · refine rr1 @h75 ?_
    exact k _
  have v7 := v6.ext e7
  have e16 := (e4.ext e5).ext e6
  refine rr0 ?_
  refine wire_New ch7 (fun H8 w r O8 a8 e8 hO8 => ?_)
  have v8 := v7.ext e8
  obtain ⟨l1, l2, l3, l4, l5, l6, l7⟩ := v8.l
  have nO8 : ∀ h ∈ O8, H1.n ≤ h := by
    intro h hh
    have n6 := e16.n
    have n7 := e7.n
    rcases hO8 h hh with q | q
    · have := hO7 h q; omega
    · omega
  refine rr1 @l4 ?_
  have okp : p.g.Ok := hpg ▸ sok.ok
  have hbs : ∀ n ∈ p.bs, 0 ≤ n ∧ n ≤ 65536 := by rw [hpb]; exact sok.b
  by_cases hbr : 1 ≤ b ∧ b ≤ 65536
  rotate_left
  · refine poll_Reset_no a8 hbr ?_
    refine rr0 ?_
    exact id_tl (jf := jq0) sok.ok (v8.y3.ext (by exact fa)) (a8.ext (by exact fa)) (by simp) rfl k
  obtain ⟨n, rfl⟩ : ∃ n : Nat, b = n := ⟨b.toNat, by omega⟩
  have rg0 : (chNew s.cut g.raw.toNat).Rng 0 := by
    have := sok.c
    refine ⟨by simp [chNew], by simp [chNew], by simp [chNew], by simp [chNew], by simp [chNew], by simp [chNew], by simp [chNew], this.1, this.2, by omega, ?_⟩
    have := sok.ok.raw
    unfold Geom.raw at *; simp [chNew]; omega
  refine poll_Reset (n := n) a8 hbs rg0 (by omega) rfl (by simp; omega) (by omega) (fun H9 O9 t9 => ?_)
  have v9 := v8.fr t9.fr (nx nO8)
  obtain ⟨l1, l2, l3, l4, l5, l6, l7⟩ := v9.l
  have nO9 : ∀ h ∈ O9, H1.n ≤ h := by
    intro h hh
    have n6 := e16.n
    have n7 := e7.n
    have n8 := e8.n
    rcases t9.sub h hh with q | q
    · exact nO8 h q
    · omega
  obtain ⟨r1, r2, r3, r4⟩ := resetP_facts (n := n) (s := chNew s.cut g.raw.toNat) okp hbs (by have := sok.c; show 0 ≤ s.cut ∨ s.cut = -1; omega)
  obtain ⟨j1, q1, q2⟩ := jrun_reset (g := g) (p := p) (n := n) (s := chNew s.cut g.raw.toNat) (j := jq0)
  by_cases hz : (resetP p n (chNew s.cut g.raw.toNat)).2.2 = 0
  rotate_left
  · have d1 : aBin Tryz.prog .eql 35 (.int .i64 (resetP p n (chNew s.cut g.raw.toNat)).2.2) (.int .i64 0) = some (.bool false) := by simp [hz]
    refine rr1 @d1 ?_
    exact id_tl (jf := j1) sok.ok (v9.y3.ext (by exact fa)) (t9.at_.ext (by exact fa)) (by simp; omega) q1 k
  obtain ⟨c1, c2⟩ := r1 hz
  have jr := q2 hz
  rw [hz]
  refine rr2 @l2 @l4 ?_
  have rg9 := r4 0 rg0 (by omega) hz
  have cf := chkP_facts (g := other) (g0 := g) (n := n) (s := (resetP p n (chNew s.cut g.raw.toNat)).1) (j := j1) sok.ok okp hbs (by omega) c1 jr
  have sb0 := fun (H' : AHeap) (e : Ext H H') => sc.b.ext e
  have e09 : Ext H H9 := ((e06.ext e7).ext e8).cut t9.fr (fun h hh => by have := nO8 h hh; omega)
  obtain ⟨⟨j2, s1, s2⟩, s3, s4, s5, s6⟩ := cf
  have hc0 : s.cut < 0 → s.cut = -1 := by have := sok.c; omega
  have hl1 : busy.length ≤ 4096 := by omega
  have run : ∀ {H10 : AHeap}, Ext H9 H10 → Ext H H10 → ¬ other.Ok → F4.L1 R (.ptr H.n 0) (.ptr (H.n + 1) 0) (.ptr (H.n + 2) 0) (.ptr w 0) (.int .i64 2) s.busy (.int .i64 busy.length) (.bool (decide (s.cut < 0)), .int .i64 0) H10 := by
    intro H10 e10 e010 no
    refine id_loop (N := n + 2) (n := n) (jf := j1) sok.ok hpg (v9.ext e10) (nx nO9) (t9.at_.ext e10) (sb0 _ e010) hl1 hpb hbs (by omega) (by omega) (by simp; omega) q1 (fun h => absurd h no) (fun _ => rfl) (fun hc hd => ?_) k
    exact ⟨rg9.mono (by omega) (by omega), c2, c1, r2 (hc0 hc), jr, fun h => absurd h no⟩
  by_cases oko : other.Ok
  · refine ident_Check (g := other) (n := n) oko t9.at_ hbs rg9 (by omega) c2 c1 (by simp; omega) (by omega) (fun H10 O10 t10 => ?_)
    have v10 := v9.fr t10.fr (nx nO9)
    obtain ⟨l1, l2, l3, l4, l5, l6, l7⟩ := v10.l
    have sb10 : Sl H10 1 s.busy busy.length (in64 busy) := sb0 _ (e09.cut t10.fr (fun h hh => by have := nO9 h hh; omega))
    have nO10 : ∀ h ∈ O10, H1.n ≤ h := by
      intro h hh
      have n6 := e16.n
      have n7 := e7.n
      have n8 := e8.n
      have n9 := t9.fr.n
      rcases t10.sub h hh with q | q
      · exact nO9 h q
      · omega
    refine rr1 @l5 ?_
    (with_reducible first | apply X_Pu | apply X_Nb | apply X_Pp); (case h => first | ((try simp) <;> (with_reducible exact Is_rfl)) | ((try simp (disch := (first | assumption | omega | (simp <;> omega) | fail)) [SW, SA, SV, if_pos, if_neg, dec_t, dec_f]) <;> (with_reducible exact Is_rfl)))
    refine rr2 @l6 @sb10.ln ?_
    refine id_loop (N := 2 * n + 27) (n := n) (jf := j2) sok.ok hpg v10 (nx nO10) t10.at_ sb10 hl1 hpb hbs (by omega) (by omega) (by simp; omega) (by rw [jrun_append]; simp only [List.nil_append]; rw [q1]; exact s1) (fun _ h => by rw [← hpg]; exact s3 h) (fun h => absurd oko h) (fun hc hd => ?_) k
    have hd' : ∀ d ∈ p.bs, d < (n : Int) := by rw [hpb]; exact hd
    obtain ⟨u1, u2, u3, u4⟩ := s4 (r2 (hc0 hc)) hd'
    exact ⟨(s6 _ rg9 (by omega) (r2 (hc0 hc)) hd').mono (by omega) (by omega), by rw [u3, c2]; rfl, u2, u4, s2 (r2 (hc0 hc)) hd', fun _ => by rw [u1, hpg]⟩
  · refine ident_Check_no oko (fun H10 e10 => ?_)
    have v10 := v9.ext e10
    obtain ⟨l1, l2, l3, l4, l5, l6, l7⟩ := v10.l
    have e010 : Ext H H10 := e09.ext e10
    have sb10 := sb0 _ e010
    refine rr1 @l5 ?_
    (with_reducible first | apply X_Pu | apply X_Nb | apply X_Pp); (case h => first | ((try simp) <;> (with_reducible exact Is_rfl)) | ((try simp (disch := (first | assumption | omega | (simp <;> omega) | fail)) [SW, SA, SV, if_pos, if_neg, dec_t, dec_f]) <;> (with_reducible exact Is_rfl)))
    refine rr2 @l6 @sb10.ln ?_
    exact run e10 e010 oko
end
end Go.Proofs.YtdjmoojonkjafaaGreat
