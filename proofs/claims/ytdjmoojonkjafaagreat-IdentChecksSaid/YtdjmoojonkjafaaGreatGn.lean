/- Contracts: package ident on a quiet chip, third part. -/
import Derived.Test.YtdjmoojonkjafaaGreatGm
set_option linter.unusedSimpArgs false
set_option linter.unusedVariables false
set_option maxRecDepth 100000
set_option maxHeartbeats 2000000
namespace Go.Proofs.YtdjmoojonkjafaaGreat
open Go.AM Go.Proofs
attribute [local irreducible] Pu Br Gd Gd2 GdR Nb Cq Pp callF Jn StS StG Still loopW Ca Is

/-- numbers that are all the same, one by one -/
def eqCh : List (Int × Int) → Option Bool
  | [] => some true
  | x :: r => match x.1 == x.2 with
    | true => eqCh r
    | false => some false
theorem eqCh_eq : ∀ {l : List (Int × Int)}, eqCh l = some (decide (∀ x ∈ l, x.1 = x.2))
  | [] => by simp [eqCh]
  | x :: r => by
    simp only [eqCh]
    split
    · rename_i h
      have := eq_of_beq h
      rw [eqCh_eq]; congr 1; simp [this]
    · rename_i h
      have := ne_of_beq_false h
      congr 1; simp [this]
theorem e23 {a0 a1 a2 a3 a4 a5 a6 b0 b1 b2 b3 b4 b5 b6 : Int} : aEq Tryz.prog eqDepth 23 (.agg [.int .i64 a0, .int .i64 a1, .int .i64 a2, .int .i64 a3, .int .i64 a4, .int .i64 a5, .int .i64 a6]) (.agg [.int .i64 b0, .int .i64 b1, .int .i64 b2, .int .i64 b3, .int .i64 b4, .int .i64 b5, .int .i64 b6])
  = eqCh [(a0, b0), (a1, b1), (a2, b2), (a3, b3), (a4, b4), (a5, b5), (a6, b6)] := by kernel_rfl
theorem gu23 : Tryz.prog.eqGuardType Tryz.prog.depth 23 = false := by kernel_rfl
theorem e23g {g h : Geom} : aEq Tryz.prog eqDepth 23 (.agg g.L) (.agg h.L) = some (decide (g = h)) := by
  unfold Geom.L
  rw [e23, eqCh_eq]
  congr 1
  rw [decide_eq_decide]
  cases g; cases h
  simp
theorem eql23 {g h : Geom} : aBin Tryz.prog .eql 23 (.agg g.L) (.agg h.L) = some (.bool (decide (g = h))) := by
  simp only [aBin, gu23]; rw [e23g]; rfl
theorem neq23 {g h : Geom} : aBin Tryz.prog .neq 23 (.agg g.L) (.agg h.L) = some (.bool (decide (g ≠ h))) := by
  simp only [aBin, gu23]; rw [e23g]; simp

/-- what polls leave -/
structure Polled (p : ChP) (n : Nat) (s : ChQ) (f : ChQ × List Int × Int) : Prop where
  reg : f.1.reg = s.reg
  col : f.1.column = s.column
  ask : f.1.asked = s.asked
  ok : f.2.2 = 0 → f.1.busy = 0 ∧ f.1.off = s.off ∧ f.1.state = s.state
  er : f.2.2 = 0 ∨ f.2.2 = 20 ∨ f.2.2 = 21
  cut : s.cut = -1 → f.1.cut = -1 ∧ f.2.2 ≠ 20
  low : s.cut = -1 → s.busy < n → f.2.2 = 0
theorem pollP_facts {p : ChP} : ∀ {n : Nat} {s : ChQ}, 0 ≤ s.busy → Polled p n s (pollP p n s)
  | 0, s, hb => ⟨rfl, rfl, rfl, by simp [pollP], by simp [pollP], by simp [pollP], by intro _ h; omega⟩
  | n + 1, s, hb => by
    simp only [pollP]
    split
    · rename_i h; exact ⟨rfl, rfl, rfl, by simp, by simp, by omega, by omega⟩
    · split
      · rename_i h1 h2
        obtain ⟨q1, q2, q3, q4, q5, q6, q7⟩ := pollP_facts (p := p) (n := n) (s := s.tick { s with busy := s.busy - 1 }) (by show 0 ≤ s.busy - 1; omega)
        refine ⟨q1, q2, q3, q4, q5, fun h => q6 ?_, fun h hlt => q7 ?_ ?_⟩
        · show max (s.cut - 1) (-1) = -1; omega
        · show max (s.cut - 1) (-1) = -1; omega
        · show s.busy - 1 < n; omega
      · rename_i h1 h2
        refine ⟨rfl, rfl, rfl, fun _ => ⟨by show s.busy = 0; omega, rfl, rfl⟩, .inl rfl, fun h => ⟨by show max (s.cut - 1) (-1) = -1; omega, by simp⟩, fun _ _ => rfl⟩
theorem ChQ.Rng.mono {s : ChQ} {N M : Nat} (rg : s.Rng N) (h : N ≤ M) (hM : M ≤ 2 ^ 30) : s.Rng M := by
  obtain ⟨c1, c2, y1, y2, a2, b1, b2, u1, u2, hn, hr⟩ := rg
  exact ⟨c1, by omega, y1, by omega, by omega, b1, b2, u1, u2, hM, hr⟩
theorem pollP_rng {p : ChP} (ok : p.g.Ok) (hbs : ∀ n ∈ p.bs, 0 ≤ n ∧ n ≤ 65536) : ∀ {n N : Nat} {s : ChQ}, s.Rng N → s.state = 1 → N + n ≤ 2 ^ 30 → (pollP p n s).1.Rng (N + n)
  | 0, N, s, rg, hs, hN => rg
  | n + 1, N, s, rg, hs, hN => by
    have up : s.Rng (N + (n + 1)) := by obtain ⟨c1, c2, y1, y2, a2, b1, b2, u1, u2, hn, hr⟩ := rg; exact ⟨c1, by omega, y1, by omega, by omega, b1, b2, u1, u2, hN, hr⟩
    simp only [pollP]
    split
    · obtain ⟨c1, c2, y1, y2, a2, b1, b2, u1, u2, hn, hr⟩ := up
      exact ⟨c1, c2, y1, y2, a2, b1, b2, u1, u2, hn, hr⟩
    · split
      · rename_i h1 h2
        have := pollP_rng ok hbs (n := n) (N := N + 1) (s := s.tick { s with busy := s.busy - 1 }) (tick_rng ok hbs rg (by omega) (show s.hear p 4 0 = some (_, 128) by simp [ChQ.hear, hs, h2])) hs (by omega)
        rw [show N + (n + 1) = N + 1 + n by omega]
        exact this
      · rename_i h1 h2
        have t := tick_rng ok hbs rg (by omega) (show s.hear p 4 0 = some (s, 224) by simp [ChQ.hear, hs, h2])
        exact t.mono (by omega) hN

section
variable {H : AHeap} {w r : Nat} {p : ChP} {s s' : ChQ} {l : List (Int × Int)} {O : List Nat} {N : Nat} {R : AV → AHeap → Prop}

def geo0 : Geom := ⟨0, 0, 0, 0, 0, 0, 0⟩
def parP (p : ChP) (n : Nat) (s : ChQ) : ChQ × List (Int × Int) × Int :=
  if (askP p 236 s).2.2 = 0 then
    if (waitP p n (askS p 236 s)).2.2 = 0 then
      if (waitP p n (askS p 236 s)).1.cut = 0 then ((waitP p n (askS p 236 s)).1.dead, [(1, 236), (2, 0)] ++ (waitP p n (askS p 236 s)).2.1, 20)
      else (((readP p 14 ((waitP p n (askS p 236 s)).1.tick { (waitP p n (askS p 236 s)).1 with state := 5 })).getD (s, [])).1,
        [(1, 236), (2, 0)] ++ (waitP p n (askS p 236 s)).2.1 ++ [(1, 0)] ++ rd ((readP p 14 ((waitP p n (askS p 236 s)).1.tick { (waitP p n (askS p 236 s)).1 with state := 5 })).getD (s, [])).2,
        if ((readP p 14 ((waitP p n (askS p 236 s)).1.tick { (waitP p n (askS p 236 s)).1 with state := 5 })).getD (s, [])).2.length = 14 then 0 else 20)
    else ((waitP p n (askS p 236 s)).1, [(1, 236), (2, 0)] ++ (waitP p n (askS p 236 s)).2.1, (waitP p n (askS p 236 s)).2.2)
  else askP p 236 s

theorem waitP_ok {n : Nat} (h : (waitP p n s).2.2 = 0) : s.cut ≠ 0 ∧ waitP p n s = ((pollP p n (s.tick { s with state := 1 })).1, (1, 112) :: rd (pollP p n (s.tick { s with state := 1 })).2.1, 0) ∧ (pollP p n (s.tick { s with state := 1 })).2.2 = 0 := by
  unfold waitP at h ⊢
  split at h
  · simp at h
  · rename_i h0; rw [if_neg h0]; simp at h; exact ⟨h0, by rw [h], h⟩

theorem at_parL {g : Geom} (ok : g.Ok) : (List.range 14).map (fun (i : Nat) => atB (parL g) (0 + i)) = (numL g).flatMap two := by
  have h := (parL_len ok).2.1
  have e : parL g = (numL g).flatMap two ++ List.replicate (g.raw.toNat - 14) 255 := rfl
  rw [e]
  have : List.range 14 = [0, 1, 2, 3, 4, 5, 6, 7, 8, 9, 10, 11, 12, 13] := by decide
  rw [this]
  simp [numL, two, atB]

theorem ident_Parameters {n : Nat} (a : WireAt H w r p s l O) (hbs : ∀ n ∈ p.bs, 0 ≤ n ∧ n ≤ 65536) (rg : s.Rng N) (hN : N + n + 18 ≤ 2 ^ 30) (hoff : s.off = false) (hb : s.busy = 0) (hl : l.length + n + 18 ≤ 2 ^ 24) (hn : 1 ≤ n ∧ n ≤ 65536)
    (k : ∀ H' O', WTo w r p (parP p n s).1 (l ++ (parP p n s).2.1) H H' O O' → R (.tup [.agg (if (parP p n s).2.2 = 0 then p.g.L else geo0.L), .int .i64 (parP p n s).2.2]) H') :
    Ca Tryz.prog kp 48 [.ptr w 0, .int .i64 n] H R := by
  have ok : p.g.Ok := by obtain ⟨Oc, Or, _, h2, _⟩ := a.ex; exact h2.ok
  apply F48.ca
  unfold F48
  refine rr0 ?_
  generalize hH1 : AHeap.push H _ = H1
  have e1 : Ext H H1 := hH1 ▸ by exact fa
  have n1 := e1.n
  have y : At H1 H.n (.cells 7 [.int .i64 0, .int .i64 0, .int .i64 0, .int .i64 0, .int .i64 0, .int .i64 0, .int .i64 0]) := hH1 ▸ At.push
  clear hH1
  have yl := y.l
  have nO : ∀ h ∈ O, h ≠ H.n := fun h hh => by have := a.al h hh; omega
  -- the variable that bears the answer
  have nt : ∀ {H2 : AHeap} {O2 : List Nat} {sf : ChQ} {cs : List (Int × Int)}, WTo w r p sf cs H1 H2 O O2 → ∀ h ∈ O2, h ≠ H.n := by
    intro H2 O2 sf cs t h hh
    rcases t.sub h hh with q | q
    · exact nO h q
    · omega
  have fin : ∀ {H2 : AHeap} {O2 : List Nat} {sf : ChQ} {cs : List (Int × Int)} {b : ABlk}, WTo w r p sf cs H1 H2 O O2 → WTo w r p sf cs H (H2.set H.n b) O O2 := by
    intro H2 O2 sf cs b t
    have f : Fr [H.n] H2 (H2.set H.n b) := by exact fa
    have t' := WTo.of e1 t
    exact ⟨t'.at_.fr f (fun h hh => by simp [nt t h hh]), t'.fr.trans f (by simp), t'.sub⟩
  have z0 : geo0.L = [.int .i64 0, .int .i64 0, .int .i64 0, .int .i64 0, .int .i64 0, .int .i64 0, .int .i64 0] := rfl
  have a1 := a.ext e1
  refine ident_ask (.inr rfl) a1 hbs rg (by omega) hoff hb (by omega) (fun H2 O2 t2 => ?_)
  have y2 := y.fr t2.fr (fun h => nO _ h rfl)
  have yg2 := y2.g
  by_cases h0 : (askP p 236 s).2.2 = 0
  · obtain ⟨hp, h1, h2⟩ := askP_ok h0
    rw [hp] at t2 ⊢
    have rg2 := askS_rng (.inr rfl) ok hbs rg (by omega) hb
    have off2 : (askS p 236 s).off = false := by simp [askS, ChQ.tick, hoff]
    refine rr0 ?_
    refine poll_Ready (n := n) t2.at_ hbs rg2 (by omega) off2 (by simp; omega) hn (fun H3 O3 t3 => ?_)
    have t23 := t2.trans t3
    rw [List.append_assoc] at t23
    have y3 := y.fr t23.fr (fun h => nO _ h rfl)
    have yg3 := y3.g
    by_cases h3 : (waitP p n (askS p 236 s)).2.2 = 0
    · rw [h3]
      obtain ⟨w1, w2, w3⟩ := waitP_ok h3
      have hs1 : (waitP p n (askS p 236 s)).1 = (pollP p n ((askS p 236 s).tick { (askS p 236 s) with state := 1 })).1 := by rw [w2]
      have hh112 : (askS p 236 s).hear p 1 112 = some ({ (askS p 236 s) with state := 1 }, 0) := by simp [ChQ.hear]
      have rg3 : (waitP p n (askS p 236 s)).1.Rng (N + 3 + n) := by
        rw [hs1]
        exact pollP_rng ok hbs (N := N + 3) (tick_rng ok hbs rg2 (by omega) hh112) rfl (by omega)
      have nb := nextB_rng (s := s) hbs
      obtain ⟨f1, f2, f3, f4, f5, f6, f7⟩ := pollP_facts (p := p) (n := n) (s := (askS p 236 s).tick { (askS p 236 s) with state := 1 }) (by simp only [askS, ChQ.tick]; exact nb.1)
      obtain ⟨g1, g2, g3⟩ := f4 w3
      rw [← hs1] at f1 f2 g1 g2
      have off3 : (waitP p n (askS p 236 s)).1.off = false := by rw [g2]; exact off2
      have hh0 : (waitP p n (askS p 236 s)).1.hear p 1 0 = some ({ (waitP p n (askS p 236 s)).1 with state := 5 }, 0) := by simp [ChQ.hear, g1]
      have b4 : bdL 1 [.int .u8 0] [(0, 1, (.int .u8 0))] = some (.lit [.int .u8 0] 1 true) := by rfl
      refine rr1 @b4 ?_
      have hlen3 : ((waitP p n (askS p 236 s)).2.1).length ≤ n + 1 := by
        rw [w2]; simp [rd]; exact pollP_len
      refine wire_Command1 t23.at_ rg3 (by omega) off3 hh0 (by simp; omega) (fun hc H4 O4 t4 => ?_) (fun hc H4 O4 t4 => ?_)
      · have hpp : parP p n s = ((waitP p n (askS p 236 s)).1.dead, [(1, 236), (2, 0)] ++ (waitP p n (askS p 236 s)).2.1, 20) := by
          unfold parP; rw [if_pos h0, if_pos h3, if_pos hc]
        rw [hpp] at k
        have t := t23.trans t4
        have yg4 := (y.fr t.fr (fun h => nO _ h rfl)).g
        refine rd1 @yg4 ?_
        have := k _ _ (fin (b := .cells 7 geo0.L) t)
        rw [z0] at this
        exact this
      · obtain ⟨sf, bs, q1, q2, q3, q4⟩ := readP_told (p := p) (n := 14) (s := (waitP p n (askS p 236 s)).1.tick { (waitP p n (askS p 236 s)).1 with state := 5 }) g1 (.inr (.inl rfl)) (by show 0 ≤ (waitP p n (askS p 236 s)).1.column; rw [f2]; simp [askS, ChQ.tick])
        have hpp : parP p n s = (sf, [(1, 236), (2, 0)] ++ (waitP p n (askS p 236 s)).2.1 ++ [(1, 0)] ++ rd bs, if bs.length = 14 then 0 else 20) := by
          unfold parP; rw [if_pos h0, if_pos h3, if_neg hc, q1]; rfl
        rw [hpp] at k
        have t := t23.trans t4
        refine rr0 ?_
        have rg4 := tick_rng ok hbs rg3 (by omega) hh0
        refine wire_Read (n := 14) t.at_ hbs rg4 (by omega) off3 q1 (by simp; omega) (fun hlt H5 O5 t5 => ?_) (fun heq v H5 O5 t5 g5 v5 => ?_)
        · have tt := t.trans t5
          rw [List.append_assoc, List.append_assoc] at tt
          have yg5 := (y.fr tt.fr (fun h => nO _ h rfl)).g
          rw [if_neg (by omega)] at k
          refine rd1 @yg5 ?_
          have := k _ _ (by simpa [rd] using fin (b := .cells 7 geo0.L) tt)
          rw [z0] at this
          simpa using this
        · have tt := t.trans t5
          rw [List.append_assoc, List.append_assoc] at tt
          have yy5 := y.fr tt.fr (fun h => nO _ h rfl)
          have yg5 := yy5.g
          rw [if_pos heq] at k
          have hreg : bs = (numL p.g).flatMap two := by
            rw [heq] at q2
            rw [q2, ← at_parL ok]
            apply List.map_congr_left
            intro i _
            have e1 : ((waitP p n (askS p 236 s)).1.tick { (waitP p n (askS p 236 s)).1 with state := 5 }).column = 0 := by
              show (waitP p n (askS p 236 s)).1.column = 0
              rw [f2]; simp [askS, ChQ.tick]
            have e2 : ((waitP p n (askS p 236 s)).1.tick { (waitP p n (askS p 236 s)).1 with state := 5 }).reg = parL p.g := by
              show (waitP p n (askS p 236 s)).1.reg = parL p.g
              rw [f1]; simp [askS, ChQ.tick]
            rw [e1, e2]
            rfl
          rw [hreg] at g5
          refine rr0 ?_
          refine ident_Take ok g5.sl (fun H6 e6 => ?_)
          have t6 := tt.ext e6
          have yg6 := (yy5.ext e6).g
          have hgl : p.g.L.length = 7 := rfl
          have hst : stA 7 H6 (.ptr H.n 0) (.agg p.g.L) = some (H6.set H.n (.cells 7 p.g.L)) := by
            rw [stA_p, yg6, stB_c, if_pos ⟨rfl, by simp, rfl⟩]; rfl
          have hld : ldG 7 (H6.set H.n (.cells 7 p.g.L)) (.ptr H.n 0) = some (.agg p.g.L) := by
            rw [ldG_p, get_set_c]; rfl
          refine rr2 @hst @hld ?_
          have := k _ _ (by simpa [rd] using fin (b := .cells 7 p.g.L) t6)
          simpa using this
    · have hpp : parP p n s = ((waitP p n (askS p 236 s)).1, [(1, 236), (2, 0)] ++ (waitP p n (askS p 236 s)).2.1, (waitP p n (askS p 236 s)).2.2) := by
        unfold parP; rw [if_pos h0, if_neg h3]
      rw [hpp] at k
      dsimp only at k
      rw [if_neg h3] at k
      refine rd2 @h3 @yg3 ?_
      have := k _ _ (fin (b := .cells 7 geo0.L) t23)
      rw [z0] at this
      exact this
  · have hpp : parP p n s = askP p 236 s := by unfold parP; rw [if_neg h0]
    rw [hpp, if_neg h0] at k
    refine rd2 @h0 @yg2 ?_
    have := k _ _ (fin (b := .cells 7 geo0.L) t2)
    rw [z0] at this
    exact this
end
end Go.Proofs.YtdjmoojonkjafaaGreat
