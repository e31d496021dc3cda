/- Contracts: waiting for a quiet chip; asking it. -/
import Derived.Test.YtdjmoojonkjafaaGreatGj
set_option linter.unusedSimpArgs false
set_option linter.unusedVariables false
set_option maxRecDepth 100000
set_option maxHeartbeats 2000000
namespace Go.Proofs.YtdjmoojonkjafaaGreat
open Go.AM Go.Proofs
attribute [local irreducible] Pu Br Gd Gd2 GdR Nb Cq Pp callF Jn StS StG Still loopW Ca Is

/-- polls: the chip behind, what was read, the error -/
def pollP (p : ChP) : Nat → ChQ → ChQ × List Int × Int
  | 0, s => (s, [], 21)
  | n + 1, s =>
    if s.cut = 0 then (s.dead, [], 20)
    else if 0 < s.busy then ((pollP p n (s.tick { s with busy := s.busy - 1 })).1, 128 :: (pollP p n (s.tick { s with busy := s.busy - 1 })).2.1, (pollP p n (s.tick { s with busy := s.busy - 1 })).2.2)
    else (s.tick s, [224], 0)

theorem and128 : aBin Tryz.prog .and 5 (.int .u8 128) (.int .u8 96) = some (.int .u8 0) := by kernel_rfl
theorem and224 : aBin Tryz.prog .and 5 (.int .u8 224) (.int .u8 96) = some (.int .u8 96) := by kernel_rfl
theorem pollP_len {p : ChP} : ∀ {n : Nat} {s : ChQ}, (pollP p n s).2.1.length ≤ n
  | 0, s => by simp [pollP]
  | n + 1, s => by
    simp only [pollP]
    split
    · simp
    split
    · have := pollP_len (p := p) (n := n) (s := s.tick { s with busy := s.busy - 1 }); simp; omega
    · simp

section
variable {H : AHeap} {w r : Nat} {p : ChP} {s s' : ChQ} {l : List (Int × Int)} {O : List Nat} {N : Nat} {R : AV → AHeap → Prop}

def rd (bs : List Int) : List (Int × Int) := bs.map fun b => (4, b)

theorem poll_loop {n : Nat} {i : Int} {b : Nat} (a : WireAt H w r p s l O) (hbs : ∀ n ∈ p.bs, 0 ≤ n ∧ n ≤ 65536) (rg : s.Rng N) (hN : N + n ≤ 2 ^ 30) (hoff : s.off = false) (hs : s.state = 1) (hl : l.length + n ≤ 2 ^ 24) (hi : 0 ≤ i) (hb : b ≤ 65536) (hn : i + n = b)
    (k : ∀ H' O', WTo w r p (pollP p n s).1 (l ++ rd (pollP p n s).2.1) H H' O O' → R (.tup [.int .u8 (if (pollP p n s).2.2 = 0 then 224 else 0), .int .i64 (pollP p n s).2.2]) H') :
    F218.L0 (.ptr w 0) (.int .u8 96) (.int .i64 b) R (.int .i64 i) H := by
  induction n generalizing H s l O i N with
  | zero =>
    apply F218.L0_un
    intro X hX
    unfold F218.B0
    refine rr0 ?_
    simpa [pollP, rd] using k H O (by simpa [pollP, rd] using WTo.refl a)
  | succ n ih =>
    have ok : p.g.Ok := by obtain ⟨Oc, Or, _, h2, _⟩ := a.ex; exact h2.ok
    obtain ⟨x, sx, hh⟩ : ∃ x sx, s.hear p 4 0 = some (sx, x) ∧ ((0 < s.busy ∧ x = 128 ∧ sx = { s with busy := s.busy - 1 }) ∨ (¬ 0 < s.busy ∧ x = 224 ∧ s = sx)) := by
      by_cases hbu : 0 < s.busy
      · exact ⟨128, { s with busy := s.busy - 1 }, by simp [ChQ.hear, hs, hbu], .inl ⟨hbu, rfl, rfl⟩⟩
      · exact ⟨224, s, by simp [ChQ.hear, hs, hbu], .inr ⟨hbu, rfl, rfl⟩⟩
    obtain ⟨hh, hx⟩ := hh
    apply F218.L0_un
    intro X hX
    unfold F218.B0
    refine rr0 ?_
    by_cases hc : s.cut = 0
    · have hr : readP p 1 s = some (s.dead, []) := by simp [readP, hh, hc]
      have hp : pollP p (n + 1) s = (s.dead, [], 20) := by simp [pollP, hc]
      rw [hp] at k
      refine wire_Read (n := 1) a hbs rg (by omega) hoff hr (by omega) (fun _ H2 O2 t2 => ?_) (fun h => by simp at h)
      refine rr0 ?_
      exact k _ _ t2
    · have hr : readP p 1 s = some (s.tick sx, [x]) := by simp [readP, hh, hc]
      refine wire_Read (n := 1) a hbs rg (by omega) hoff hr (by omega) (fun h => by simp at h) (fun _ v H2 O2 t2 g2 f2 => ?_)
      obtain ⟨q, hq1, hq2, _⟩ := g2.sl.ix (k := .i64) (i := 0) (by omega) (by omega) (by omega)
      simp [by8] at hq2
      rcases hx with ⟨hbu, rfl, rfl⟩ | ⟨hbu, rfl, rfl⟩
      · have hp : pollP p (n + 1) s = ((pollP p n (s.tick { s with busy := s.busy - 1 })).1, 128 :: (pollP p n (s.tick { s with busy := s.busy - 1 })).2.1, (pollP p n (s.tick { s with busy := s.busy - 1 })).2.2) := by
          simp only [pollP]; rw [if_neg hc, if_pos hbu]
        rw [hp] at k
        refine rr3 @hq1 @hq2 @and128 ?_
        apply hX; clear hX X
        refine ih t2.at_ (N := N + 1) (tick_rng ok hbs rg (by omega) hh) (by omega) hoff hs (by simp; omega) (by omega) (by omega) (fun H' O' t' => ?_)
        refine k H' O' ?_
        have := t2.trans t'
        simpa [rd] using this
      · have hp : pollP p (n + 1) s = (s.tick s, [224], 0) := by
          simp only [pollP]; rw [if_neg hc, if_neg hbu]
        rw [hp] at k
        refine rr3 @hq1 @hq2 @and224 ?_
        exact k _ _ t2

/-- a wait for a chip to be ready: the chip behind, the cycles, the error -/
def waitP (p : ChP) (n : Nat) (s : ChQ) : ChQ × List (Int × Int) × Int :=
  if s.cut = 0 then (s.dead, [], 20)
  else ((pollP p n (s.tick { s with state := 1 })).1, (1, 112) :: rd (pollP p n (s.tick { s with state := 1 })).2.1, (pollP p n (s.tick { s with state := 1 })).2.2)

theorem poll_Ready {n : Nat} (a : WireAt H w r p s l O) (hbs : ∀ n ∈ p.bs, 0 ≤ n ∧ n ≤ 65536) (rg : s.Rng N) (hN : N + n + 1 ≤ 2 ^ 30) (hoff : s.off = false) (hl : l.length + n + 1 ≤ 2 ^ 24) (hn : 1 ≤ n ∧ n ≤ 65536)
    (k : ∀ H' O', WTo w r p (waitP p n s).1 (l ++ (waitP p n s).2.1) H H' O O' → R (.tup [.int .u8 (if (waitP p n s).2.2 = 0 then 224 else 0), .int .i64 (waitP p n s).2.2]) H') :
    Ca Tryz.prog kp 156 [.ptr w 0, .int .i64 n] H R := by
  have ok : p.g.Ok := by obtain ⟨Oc, Or, _, h2, _⟩ := a.ex; exact h2.ok
  apply F156.ca
  unfold F156
  apply F218.ca
  unfold F218
  refine poll_may ?_
  rw [decide_eq_true (show (1 : Int) ≤ n ∧ (n : Int) ≤ 65536 by omega)]
  have hh : s.hear p 1 112 = some ({ s with state := 1 }, 0) := by simp [ChQ.hear]
  have b3 : bdL 1 [.int .u8 0] [(0, 1, (.int .u8 112))] = some (.lit [.int .u8 112] 1 true) := by rfl
  refine rr1 @b3 ?_
  refine wire_Command1 a rg (by omega) hoff hh (by omega) (fun hc H2 O2 t2 => ?_) (fun hc H2 O2 t2 => ?_)
  · have hp : waitP p n s = (s.dead, [], 20) := by simp [waitP, hc]
    rw [hp] at k
    refine rr0 ?_
    exact k _ _ (by simpa using t2)
  · have hp : waitP p n s = ((pollP p n (s.tick { s with state := 1 })).1, (1, 112) :: rd (pollP p n (s.tick { s with state := 1 })).2.1, (pollP p n (s.tick { s with state := 1 })).2.2) := by simp [waitP, hc]
    rw [hp] at k
    refine rr0 ?_
    refine poll_loop (n := n) t2.at_ hbs (N := N + 1) (tick_rng ok hbs rg (by omega) hh) (by omega) hoff rfl (by simp; omega) (by omega) (by omega) (by omega) (fun H3 O3 t3 => ?_)
    refine rr0 ?_
    refine k H3 O3 ?_
    have := t2.trans t3
    simpa [rd] using this

def resetP (p : ChP) (n : Nat) (s : ChQ) : ChQ × List (Int × Int) × Int :=
  if s.cut = 0 then (s.dead, [], 20)
  else ((waitP p n (s.tick { s with busy := nextB p s, asked := s.asked + 1, state := 0 })).1, (1, 255) :: (waitP p n (s.tick { s with busy := nextB p s, asked := s.asked + 1, state := 0 })).2.1, (waitP p n (s.tick { s with busy := nextB p s, asked := s.asked + 1, state := 0 })).2.2)

theorem poll_Reset_no {b : Int} (a : WireAt H w r p s l O) (hb : ¬ (1 ≤ b ∧ b ≤ 65536)) (k : R (.int .i64 2) H) : Ca Tryz.prog kp 44 [.ptr w 0, .int .i64 b] H R := by
  apply F44.ca
  unfold F44
  refine poll_may ?_
  rw [decide_eq_false hb]
  refine rr0 ?_
  exact k

theorem poll_Reset {n : Nat} (a : WireAt H w r p s l O) (hbs : ∀ n ∈ p.bs, 0 ≤ n ∧ n ≤ 65536) (rg : s.Rng N) (hN : N + n + 2 ≤ 2 ^ 30) (hoff : s.off = false) (hl : l.length + n + 2 ≤ 2 ^ 24) (hn : 1 ≤ n ∧ n ≤ 65536)
    (k : ∀ H' O', WTo w r p (resetP p n s).1 (l ++ (resetP p n s).2.1) H H' O O' → R (.int .i64 (resetP p n s).2.2) H') :
    Ca Tryz.prog kp 44 [.ptr w 0, .int .i64 n] H R := by
  have ok : p.g.Ok := by obtain ⟨Oc, Or, _, h2, _⟩ := a.ex; exact h2.ok
  apply F44.ca
  unfold F44
  refine poll_may ?_
  rw [decide_eq_true (show (1 : Int) ≤ n ∧ (n : Int) ≤ 65536 by omega)]
  have hh : s.hear p 1 255 = some ({ s with busy := nextB p s, asked := s.asked + 1, state := 0 }, 0) := by simp [ChQ.hear]
  have b3 : bdL 1 [.int .u8 0] [(0, 1, (.int .u8 255))] = some (.lit [.int .u8 255] 1 true) := by rfl
  refine rr1 @b3 ?_
  refine wire_Command1 a rg (by omega) hoff hh (by omega) (fun hc H2 O2 t2 => ?_) (fun hc H2 O2 t2 => ?_)
  · have hp : resetP p n s = (s.dead, [], 20) := by simp [resetP, hc]
    rw [hp] at k
    refine rr0 ?_
    exact k _ _ (by simpa using t2)
  · have hp : resetP p n s = ((waitP p n (s.tick { s with busy := nextB p s, asked := s.asked + 1, state := 0 })).1, (1, 255) :: (waitP p n (s.tick { s with busy := nextB p s, asked := s.asked + 1, state := 0 })).2.1, (waitP p n (s.tick { s with busy := nextB p s, asked := s.asked + 1, state := 0 })).2.2) := by simp [resetP, hc]
    rw [hp] at k
    refine rr0 ?_
    refine poll_Ready (n := n) t2.at_ hbs (N := N + 1) (tick_rng ok hbs rg (by omega) hh) (by omega) hoff (by simp; omega) hn (fun H3 O3 t3 => ?_)
    refine rr0 ?_
    refine k H3 O3 ?_
    have := t2.trans t3
    simpa using this
end
end Go.Proofs.YtdjmoojonkjafaaGreat
