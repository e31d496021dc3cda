/- Contracts: the chip while nothing is queued, fifth part: what a cycle does. -/
import Derived.Test.YtdjmoojonkjafaaGreatGg
set_option linter.unusedSimpArgs false
set_option linter.unusedVariables false
set_option maxRecDepth 100000
set_option maxHeartbeats 2000000
namespace Go.Proofs.YtdjmoojonkjafaaGreat
open Go.AM Go.Proofs
attribute [local irreducible] Pu Br Gd Gd2 GdR Nb Cq Pp callF Jn StS StG Still loopW Ca Is

theorem cycle_Right {kd b : Int} {H : AHeap} {R : AV → AHeap → Prop} (hk : 1 ≤ kd ∧ kd ≤ 4) (k : ∀ H', Ext H H' → R (.bool true) H') : Ca Tryz.prog kp 310 [.agg [.int .i64 kd, .int .u8 b]] H R := by
  apply F310.ca
  unfold F310
  refine rr0 ?_
  exact k _ (by exact fa)

/-- what a cycle does to a chip on which nothing is queued: within what is sent to find out its name -/
def ChQ.hear (p : ChP) (s : ChQ) (kd b : Int) : Option (ChQ × Int) :=
  if kd = 1 then
    if b = 255 then some ({ s with busy := nextB p s, asked := s.asked + 1, state := 0 }, 0)
    else if b = 112 then some ({ s with state := 1 }, 0)
    else if s.busy = 0 then
      if b = 144 then some ({ s with state := 2 }, 0) else if b = 236 then some ({ s with state := 4 }, 0) else if b = 0 then some ({ s with state := 5 }, 0) else none
    else none
  else if kd = 2 then
    if s.busy = 0 ∧ b = 0 then
      if s.state = 2 then some ({ s with state := 3, column := 0 }, 0)
      else if s.state = 4 then some ({ s with reg := parL p.g, column := 0, busy := nextB p s, asked := s.asked + 1, state := 1 }, 0)
      else none
    else none
  else if kd = 4 then
    if s.state = 1 then (if 0 < s.busy then some ({ s with busy := s.busy - 1 }, 128) else some (s, 224))
    else if s.busy = 0 then
      if s.state = 3 then some ({ s with column := s.column + 1 }, atB (idL p.g) s.column)
      else if s.state = 5 ∨ s.state = 6 then some ({ s with state := 6, column := s.column + 1 }, atB s.reg s.column)
      else none
    else none
  else none

/-- from a chip to a chip -/
structure ChTo (p : ChP) (s' : ChQ) (H H' : AHeap) (O O' : List Nat) : Prop where
  at_ : ChAt H' p s' O'
  fr : Fr [p.c, p.t] H H'
  sub : ∀ h ∈ O', h ∈ O ∨ H.n ≤ h
theorem ChTo.of {p : ChP} {s' : ChQ} {H H1 H2 : AHeap} {O O' F : List Nat} (e1 : Fr F H H1) (t : ChTo p s' H1 H2 O O') (hF : ∀ g ∈ F, g = p.c ∨ g = p.t ∨ H.n ≤ g) : ChTo p s' H H2 O O' :=
  ⟨t.at_, (e1.mono (G := [p.c, p.t]) (fun g hg => by rcases hF g hg with h | h | h <;> simp [h])).trans t.fr (by simp), fun h hh => by
    have := e1.n
    rcases t.sub h hh with h1 | h1
    · exact .inl h1
    · exact .inr (by omega)⟩

theorem chip_hear {H : AHeap} {p : ChP} {s s' : ChQ} {O : List Nat} {kd b r : Int} {N : Nat} {R : AV → AHeap → Prop} (a : ChAt H p s O) (rg : s.Rng N) (hs : s.hear p kd b = some (s', r)) (k : ∀ H' O', ChTo p s' H H' O O' → R (.int .u8 r) H') :
    Ca Tryz.prog kp 312 [.ptr p.c 0, .agg [.int .i64 kd, .int .u8 b]] H R := by
  obtain ⟨rv, h1, h2, h3, h4, h5⟩ := a.ex
  have hg := h1.g
  have hgl := h1.l
  have hne := a.ct
  obtain ⟨c1, c2, y1, y2, a2, b1, b2, u1, u2, hn, hr⟩ := rg
  have ha : s.asked ≤ 2 ^ 30 := by omega
  unfold chL at hg
  apply F312.ca
  unfold F312
  refine rr1 @hg ?_
  generalize hH1 : AHeap.push H _ = H1
  have e1 : Ext H H1 := hH1 ▸ by exact fa
  have n1 := e1.n
  have w : At H1 H.n (.cells 2 [.int .i64 kd, .int .u8 b]) := hH1 ▸ At.push
  clear hH1
  have a1 := a.ext e1
  have g1 := (h1.ext e1).g
  unfold chL at g1
  -- is it engaged?
  have eng : ∀ (K : AV → AHeap → Prop), (∀ H2, Ext H1 H2 → K (.bool (decide (0 < s.busy))) H2) → (Pu (aBin Tryz.prog .gtr 3 (.int .i64 s.busy) (.int .i64 0)) fun t11 =>
      Gd t11 false (Pu (some (.ptr p.c 0))) fun t13 =>
      Gd t11 false (Pu (nilC t13)) fun t14 =>
      Gd t11 false (Pu (fdP 20 t14)) fun t15 =>
      Gd t11 false (Pu (ldG 3 H1 t15)) fun t16 =>
      Gd2 t11 false H1 (Ca Tryz.prog kp 332 [t16] H1) fun t17 H_2 =>
      Pu (pickA t11 (.bool true) t17) fun t18 => K t18 H_2) := by
    intro K hK
    refine bb0 ?_ ?_
    · intro q; try simp only [decide_eq_true_eq, decide_eq_false_iff_not, Decidable.not_not, Int.not_lt, Int.not_le, Bool.not_eq_true, Bool.not_eq_false, Bool.not_eq_eq_eq_not, Bool.not_true, Bool.not_false] at q
      refine rr0 ?_
      have := hK _ (.refl)
      rw [decide_eq_true q] at this
      exact this
    · intro q; try simp only [decide_eq_true_eq, decide_eq_false_iff_not, Decidable.not_not, Int.not_lt, Int.not_le, Bool.not_eq_true, Bool.not_eq_false, Bool.not_eq_eq_eq_not, Bool.not_true, Bool.not_false] at q
      have hq : decide (0 < s.busy) = false := by simp; omega
      rw [hq] at hK
      refine rr1 @g1 ?_
      refine work_some (fun H2 e2 => ?_)
      refine rr0 ?_
      exact hK _ e2
  refine eng _ (fun H2 e2 => ?_)
  clear eng
  have a2 := a1.ext e2
  have w2 := w.ext e2
  have h12 := (h1.ext e1).ext e2
  have g2 := h12.g
  have e02 : Ext H H2 := e1.ext e2
  have n02 := e02.n
  have gl2 := h12.l
  have t2 := a2.tel.g
  have wg := w2.g
  unfold chL at g2
  clear g1 hg e1 e2 w w2 a1 n1
  unfold ChQ.hear at hs
  split at hs
  · rename_i hk; subst hk
    split at hs
    · rename_i hb; subst hb
      cases hs
      refine rr1 @wg ?_
      refine chip_abort a2 (fun H3 a3 e3 => ?_)
      refine chip_clear a3 (fun H4 a4 e4 => ?_)
      obtain ⟨rv4, h41, _⟩ := a4.ex
      have g4 := h41.g
      have gl4 := h41.l
      have t4 := a4.tel.g
      unfold chL at g4
      refine rr1 @g4 ?_
      generalize hH5 : AHeap.set _ p.c _ = H5
      have e5 : Fr [p.c] H4 H5 := hH5 ▸ by exact fa
      have a5 : ChAt H5 p s O := a4.upd (e5.mono (by simp)) h41 (by rw [← hH5]; simp [chL]) (by rw [← hH5]; simp (disch := (first | assumption | omega | (simp <;> omega) | fail)) [SW, SA, SV, if_pos, if_neg, dec_t, dec_f, t4]) rfl
      have g5 : H5.get p.c = some (.cells 27 (chL p s rv4)) := by rw [← hH5]; simp [chL]
      unfold chL at g5
      clear hH5
      refine rr1 @g5 ?_
      refine teller_Busy a5 ha (fun H6 a6 e6 => ?_)
      obtain ⟨rv6, h61, _⟩ := a6.ex
      have g6 := h61.g
      have gl6 := h61.l
      have t6 := a6.tel.g
      unfold chL at g6
      refine rr1 @g6 ?_
      refine k _ O ⟨a6.upd (by exact fa) h61 (by simp [chL]) (by simp (disch := (first | assumption | omega | (simp <;> omega) | fail)) [SW, SA, SV, if_pos, if_neg, dec_t, dec_f, t6]) rfl, ?_, fun h hh => .inl hh⟩
      have f1 : Fr [p.c, p.t] H H6 := (((e02.mono (by simp) : Fr [p.c, p.t] H H2).trans e3 (by simp)).trans e4 (by simp)).trans e5 (by simp) |>.trans e6 (by simp)
      exact f1.trans (by exact fa : Fr [p.c] H6 _) (by simp)
    · split at hs
      · rename_i hb; subst hb
        cases hs
        refine rr2 @wg @g2 ?_
        refine k _ O ⟨a2.upd (by exact fa) h12 (by simp [chL]) (by simp (disch := (first | assumption | omega | (simp <;> omega) | fail)) [SW, SA, SV, if_pos, if_neg, dec_t, dec_f, t2]) rfl, ?_, fun h hh => .inl hh⟩
        exact (e02.mono (by simp) : Fr [p.c, p.t] H H2).trans (by exact fa : Fr [p.c] H2 _) (by simp)
      · split at hs
        · rename_i hb
          have com : ∀ st : Int, (b = 144 ∧ st = 2 ∨ b = 236 ∧ st = 4 ∨ b = 0 ∧ st = 5) → some ({ s with state := st }, (0 : Int)) = some (s', r) → Ca Tryz.prog kp 335 [.ptr p.c 0, .int .u8 b] H2 fun t92 H_12 => R (.int .u8 0) H_12 := by
            intro st hst h
            cases h
            exact chip_command a2 hst fun H3 a3 e3 => k _ O ⟨a3, (e02.mono (by simp) : Fr [p.c, p.t] H H2).trans e3 (by simp), fun h hh => .inl hh⟩
          rw [decide_eq_false (show ¬ 0 < s.busy by omega)]
          refine rr2 @wg @g2 ?_
          split at hs
          · rename_i hq; exact com 2 (.inl ⟨hq, rfl⟩) hs
          · split at hs
            · rename_i hq; exact com 4 (.inr (.inl ⟨hq, rfl⟩)) hs
            · split at hs
              · rename_i hq; exact com 5 (.inr (.inr ⟨hq, rfl⟩)) hs
              · cases hs
        · cases hs
  · split at hs
    · rename_i hk; subst hk
      split at hs
      · rename_i hq
        obtain ⟨hb0, rfl⟩ := hq
        rw [decide_eq_false (show ¬ 0 < s.busy by omega)]
        refine rr2 @wg @g2 ?_
        split at hs
        · rename_i h2
          cases hs
          refine chip_address a2 ha (.inl h2) (fun _ H3 a3 e3 => ?_) (fun h => by omega)
          refine rr0 ?_
          exact k _ O ⟨a3, (e02.mono (by simp) : Fr [p.c, p.t] H H2).trans e3 (by simp), fun h hh => .inl hh⟩
        · split at hs
          · rename_i h4
            cases hs
            refine chip_address a2 ha (.inr h4) (fun h => by omega) (fun _ H3 O3 a3 e3 f3 => ?_)
            refine rr0 ?_
            exact k _ O3 (ChTo.of e02 ⟨a3, e3, f3⟩ (by simp))
          · cases hs
      · cases hs
    · split at hs
      · rename_i hk; subst hk
        have fin : ∀ (s'' : ChQ) (v : Int), (s.state = 1 → ¬ 0 < s.busy → s.busy = 0) → some (s'', v) = some (s', r) → ∀ H3, ChAt H3 p s'' O → Fr [p.c] H2 H3 → R (.int .u8 v) H3 := by
          intro s'' v _ h H3 a3 e3
          cases h
          exact k _ O ⟨a3, (e02.mono (by simp) : Fr [p.c, p.t] H H2).trans e3 (by simp), fun h hh => .inl hh⟩
        split at hs
        · rename_i h1s
          split at hs
          · rename_i hb0
            rw [decide_eq_true (show 0 < s.busy by omega)]
            refine rr2 @wg @g2 ?_
            exact chip_read a2 ⟨c1, by omega⟩ ⟨b1, b2⟩ hr (.inl h1s) (fun _ _ => fin _ _ (by omega) hs) (fun _ h => by omega) (fun h => by omega) (fun h => by omega)
          · rename_i hb0
            rw [decide_eq_false (show ¬ 0 < s.busy by omega)]
            refine rr2 @wg @g2 ?_
            exact chip_read a2 ⟨c1, by omega⟩ ⟨b1, b2⟩ hr (.inl h1s) (fun _ h => by omega) (fun _ _ => fin _ _ (by omega) hs) (fun h => by omega) (fun h => by omega)
        · rename_i h1s
          split at hs
          · rename_i hb0
            rw [decide_eq_false (show ¬ 0 < s.busy by omega)]
            split at hs
            · rename_i h3s
              refine rr2 @wg @g2 ?_
              exact chip_read a2 ⟨c1, by omega⟩ ⟨b1, b2⟩ hr (.inr (.inl h3s)) (fun h => by omega) (fun h => by omega) (fun _ => fin _ _ (by omega) hs) (fun h => by omega)
            · split at hs
              · rename_i h5s
                refine rr2 @wg @g2 ?_
                exact chip_read a2 ⟨c1, by omega⟩ ⟨b1, b2⟩ hr (.inr (.inr h5s)) (fun h => by omega) (fun h => by omega) (fun h => by omega) (fun _ => fin _ _ (by omega) hs)
              · cases hs
          · cases hs
      · cases hs

theorem nextB_rng {p : ChP} {s : ChQ} (hb : ∀ n ∈ p.bs, 0 ≤ n ∧ n ≤ 65536) : 0 ≤ nextB p s ∧ nextB p s ≤ 65536 := by
  unfold nextB
  cases h : p.bs[s.asked]? with
  | none => simp
  | some n => exact hb n (List.mem_of_getElem? h)

theorem hear_cut {p : ChP} {s s' : ChQ} {kd b r x y : Int} (hs : s.hear p kd b = some (s', r)) : ChQ.hear p { s with cut := x, cycles := y } kd b = some ({ s' with cut := x, cycles := y }, r) := by
  unfold ChQ.hear nextB at hs ⊢
  dsimp only at hs ⊢
  by_cases k1 : kd = 1
  · rw [if_pos k1] at hs ⊢
    by_cases k2 : b = 255
    · rw [if_pos k2] at hs ⊢; cases hs; rfl
    rw [if_neg k2] at hs ⊢
    by_cases k3 : b = 112
    · rw [if_pos k3] at hs ⊢; cases hs; rfl
    rw [if_neg k3] at hs ⊢
    by_cases k4 : s.busy = 0
    · rw [if_pos k4] at hs ⊢
      by_cases k5 : b = 144
      · rw [if_pos k5] at hs ⊢; cases hs; rfl
      rw [if_neg k5] at hs ⊢
      by_cases k6 : b = 236
      · rw [if_pos k6] at hs ⊢; cases hs; rfl
      rw [if_neg k6] at hs ⊢
      by_cases k7 : b = 0
      · rw [if_pos k7] at hs ⊢; cases hs; rfl
      rw [if_neg k7] at hs; cases hs
    rw [if_neg k4] at hs; cases hs
  rw [if_neg k1] at hs ⊢
  by_cases k2 : kd = 2
  · rw [if_pos k2] at hs ⊢
    by_cases k3 : s.busy = 0 ∧ b = 0
    · rw [if_pos k3] at hs ⊢
      by_cases k4 : s.state = 2
      · rw [if_pos k4] at hs ⊢; cases hs; rfl
      rw [if_neg k4] at hs ⊢
      by_cases k5 : s.state = 4
      · rw [if_pos k5] at hs ⊢; cases hs; rfl
      rw [if_neg k5] at hs; cases hs
    rw [if_neg k3] at hs; cases hs
  rw [if_neg k2] at hs ⊢
  by_cases k3 : kd = 4
  · rw [if_pos k3] at hs ⊢
    by_cases k4 : s.state = 1
    · rw [if_pos k4] at hs ⊢
      by_cases k5 : 0 < s.busy
      · rw [if_pos k5] at hs ⊢; cases hs; rfl
      rw [if_neg k5] at hs ⊢; cases hs; rfl
    rw [if_neg k4] at hs ⊢
    by_cases k5 : s.busy = 0
    · rw [if_pos k5] at hs ⊢
      by_cases k6 : s.state = 3
      · rw [if_pos k6] at hs ⊢; cases hs; rfl
      rw [if_neg k6] at hs ⊢
      by_cases k7 : s.state = 5 ∨ s.state = 6
      · rw [if_pos k7] at hs ⊢; cases hs; rfl
      rw [if_neg k7] at hs; cases hs
    rw [if_neg k5] at hs; cases hs
  rw [if_neg k3] at hs; cases hs

/-- Do: a cycle, with the power -/
theorem chip_Do {H : AHeap} {p : ChP} {s s' : ChQ} {O : List Nat} {kd b r : Int} {N : Nat} {R : AV → AHeap → Prop} (a : ChAt H p s O) (rg : s.Rng N) (hN : N + 1 ≤ 2 ^ 30) (hoff : s.off = false) (hk : 1 ≤ kd ∧ kd ≤ 4)
    (hs : s.hear p kd b = some (s', r))
    (k0 : s.cut = 0 → ∀ H', ChAt H' p { s with off := true } O → Fr [p.c, p.t] H H' → R (.tup [.int .u8 255, .int .i64 20]) H')
    (k1 : s.cut ≠ 0 → ∀ H' O', ChTo p { s' with cut := max (s.cut - 1) (-1), cycles := s.cycles + 1 } H H' O O' → R (.tup [.int .u8 r, .int .i64 0]) H') :
    Ca Tryz.prog kp 274 [.ptr p.c 0, .agg [.int .i64 kd, .int .u8 b]] H R := by
  obtain ⟨rv, h1, h2, h3, h4, h5⟩ := a.ex
  have hg := h1.g
  have hgl := h1.l
  have hne := a.ct
  obtain ⟨c1, c2, y1, y2, a2, b1, b2, u1, u2, hn, hr⟩ := rg
  unfold chL at hg
  rw [hoff] at hg
  apply F274.ca
  unfold F274
  refine rr0 ?_
  generalize hH1 : AHeap.push H _ = H1
  have e1 : Ext H H1 := hH1 ▸ by exact fa
  have n1 := e1.n
  have w : At H1 H.n (.cells 2 [.int .i64 kd, .int .u8 b]) := hH1 ▸ At.push
  clear hH1
  have a1 := a.ext e1
  have h11 := h1.ext e1
  have g1 := h11.g
  have gl1 := h11.l
  have t1 := a1.tel.g
  unfold chL at g1
  rw [hoff] at g1
  refine chip_is a1 ?_
  refine rr2 @g1 @w.g ?_
  refine cycle_Right hk (fun H2 e2 => ?_)
  have a2 := a1.ext e2
  have h12 := h11.ext e2
  have g2 := h12.g
  have gl2 := h12.l
  have t2 := a2.tel.g
  have w2 := w.ext e2
  have e02 := e1.ext e2
  have n02 := e02.n
  unfold chL at g2
  rw [hoff] at g2
  refine rr1 @g2 ?_
  refine bb0 ?_ ?_
  · intro q; try simp only [decide_eq_true_eq, decide_eq_false_iff_not, Decidable.not_not, Int.not_lt, Int.not_le, Bool.not_eq_true, Bool.not_eq_false, Bool.not_eq_eq_eq_not, Bool.not_true, Bool.not_false] at q
    refine rr0 ?_
    refine chip_abort a2 (fun H3 a3 e3 => ?_)
    obtain ⟨rv3, h31, _⟩ := a3.ex
    have g3 := h31.g
    have gl3 := h31.l
    have t3 := a3.tel.g
    unfold chL at g3
    refine rr1 @g3 ?_
    refine k0 q _ (a3.upd (by exact fa) h31 (by simp [chL]) (by simp (disch := (first | assumption | omega | (simp <;> omega) | fail)) [SW, SA, SV, if_pos, if_neg, dec_t, dec_f, t3]) rfl) ?_
    exact ((e02.mono (by simp) : Fr [p.c, p.t] H H2).trans e3 (by simp)).trans (by exact fa : Fr [p.c] H3 _) (by simp)
  · intro q; try simp only [decide_eq_true_eq, decide_eq_false_iff_not, Decidable.not_not, Int.not_lt, Int.not_le, Bool.not_eq_true, Bool.not_eq_false, Bool.not_eq_eq_eq_not, Bool.not_true, Bool.not_false] at q
    have hmax : foldA aMax2 (.int .i64 (s.cut - 1)) [.int .i64 (-1)] = some (.int .i64 (max (s.cut - 1) (-1))) := by
      simp only [foldA, aMax2, Int.max_def]
      congr 2; split <;> split <;> omega
    refine rr2 @g2 @hmax ?_
    generalize hH3 : AHeap.set (AHeap.set _ p.c _) p.c _ = H3
    have e3 : Fr [p.c] H2 H3 := hH3 ▸ by exact fa
    have n3 := e3.n
    have a3 : ChAt H3 p { s with cut := max (s.cut - 1) (-1), cycles := s.cycles + 1 } O := a2.upd (e3.mono (by simp)) h12 (by rw [← hH3]; simp [chL, hoff]) (by rw [← hH3]; simp (disch := (first | assumption | omega | (simp <;> omega) | fail)) [SW, SA, SV, if_pos, if_neg, dec_t, dec_f, t2]) rfl
    have w3 := w2.fr e3 (by simp; omega)
    clear hH3
    refine rr1 @w3.g ?_
    have hs3 := hear_cut (x := max (s.cut - 1) (-1)) (y := s.cycles + 1) hs
    refine chip_hear a3 (N := N + 1) ⟨c1, by show s.column ≤ ((N + 1 : Nat) : Int); omega, by show 0 ≤ s.cycles + 1; omega, by show s.cycles + 1 ≤ ((N + 1 : Nat) : Int); omega, by show s.asked ≤ N + 1; omega, b1, b2, ?_, ?_, hN, hr⟩ hs3 (fun H4 O4 t4 => ?_)
    · show -1 ≤ max (s.cut - 1) (-1); omega
    · show max (s.cut - 1) (-1) ≤ 16777216; omega
    refine rr0 ?_
    exact k1 q _ _ (ChTo.of ((e02.mono (by simp) : Fr [p.c] H H2).trans e3 (by simp)) t4 (by simp))
end Go.Proofs.YtdjmoojonkjafaaGreat
