/- Contracts: the chip while nothing is queued, third part: its cycles. -/
import Derived.Test.YtdjmoojonkjafaaGreatGe
set_option linter.unusedSimpArgs false
set_option linter.unusedVariables false
set_option maxRecDepth 100000
set_option maxHeartbeats 2000000
namespace Go.Proofs.YtdjmoojonkjafaaGreat
open Go.AM Go.Proofs
attribute [local irreducible] Pu Br Gd Gd2 GdR Nb Cq Pp callF Jn StS StG Still loopW Ca Is

theorem b408 {x0 x1 x2 x3 x4 x5 x6 y0 y1 y2 y3 y4 y5 y6 : Int} : aBuildSlice Tryz.prog 408 7 [(0, .agg [.int .i64 x0, .int .i64 y0]), (1, .agg [.int .i64 x1, .int .i64 y1]), (2, .agg [.int .i64 x2, .int .i64 y2]), (3, .agg [.int .i64 x3, .int .i64 y3]), (4, .agg [.int .i64 x4, .int .i64 y4]), (5, .agg [.int .i64 x5, .int .i64 y5]), (6, .agg [.int .i64 x6, .int .i64 y6])]
  = some (.lit [.int .i64 x0, .int .i64 y0, .int .i64 x1, .int .i64 y1, .int .i64 x2, .int .i64 y2, .int .i64 x3, .int .i64 y3, .int .i64 x4, .int .i64 y4, .int .i64 x5, .int .i64 y5, .int .i64 x6, .int .i64 y6] 7 true) := by kernel_rfl

theorem chip_begin {H : AHeap} {p : ChP} {s : ChQ} {O : List Nat} {R : AV → AHeap → Prop} (a : ChAt H p s O) {b st : Int} (hb : b = 144 ∧ st = 2 ∨ b = 236 ∧ st = 4 ∨ b = 0 ∧ st = 5) (k : ∀ H', ChAt H' p { s with state := st } O → Fr [p.c] H H' → R (.tup []) H') :
    Ca Tryz.prog kp 351 [.ptr p.c 0, .int .u8 b] H R := by
  obtain ⟨rv, h1, h2, h3, h4, h5⟩ := a.ex
  have hg := h1.g
  have hl := h1.l
  have ht := a.tel.g
  have htl := a.tel.l
  have hne := a.ct
  unfold chL at hg
  apply F351.ca
  unfold F351
  rcases hb with ⟨rfl, rfl⟩ | ⟨rfl, rfl⟩ | ⟨rfl, rfl⟩
  · refine rd1 @b408 ?_
    apply F351.L0_un
    intro X hX
    unfold F351.B0
    refine rr1 @hg ?_
    refine k _ (a.upd (by exact fa) h1 (by simp [chL]) ?_ rfl) (by exact fa)
    simp (disch := (first | assumption | omega | (simp <;> omega) | fail)) [SW, SA, SV, if_pos, if_neg, dec_t, dec_f, ht]
  · refine rd1 @b408 ?_
    iterate 2
      try (apply hX; clear hX X)
      apply F351.L0_un
      intro X hX
      unfold F351.B0
      refine rr1 @hg ?_
    refine k _ (a.upd (by exact fa) h1 (by simp [chL]) ?_ rfl) (by exact fa)
    simp (disch := (first | assumption | omega | (simp <;> omega) | fail)) [SW, SA, SV, if_pos, if_neg, dec_t, dec_f, ht]
  · refine rd1 @b408 ?_
    iterate 4
      try (apply hX; clear hX X)
      apply F351.L0_un
      intro X hX
      unfold F351.B0
      refine rr1 @hg ?_
    refine k _ (a.upd (by exact fa) h1 (by simp [chL]) ?_ rfl) (by exact fa)
    simp (disch := (first | assumption | omega | (simp <;> omega) | fail)) [SW, SA, SV, if_pos, if_neg, dec_t, dec_f, ht]

theorem chip_command {H : AHeap} {p : ChP} {s : ChQ} {O : List Nat} {R : AV → AHeap → Prop} (a : ChAt H p s O) {b st : Int} (hb : b = 144 ∧ st = 2 ∨ b = 236 ∧ st = 4 ∨ b = 0 ∧ st = 5) (k : ∀ H', ChAt H' p { s with state := st } O → Fr [p.c] H H' → R (.tup []) H') :
    Ca Tryz.prog kp 335 [.ptr p.c 0, .int .u8 b] H R := by
  obtain ⟨rv, h1, h2, h3, h4, h5⟩ := a.ex
  have hg := h1.g
  unfold chL at hg
  apply F335.ca
  unfold F335
  have go : Ca Tryz.prog kp 351 [.ptr p.c 0, .int .u8 b] (hUp H 14) fun t22 H_12 => R (.tup []) H_12 :=
    chip_begin (a.ext (by exact fa)) hb fun H' c e => k H' c ((by exact fa : Fr [p.c] H (hUp H 14)).trans e (by simp))
  refine rr1 @hg ?_
  refine bb0 ?_ ?_
  · intro q0; try simp only [decide_eq_true_eq, decide_eq_false_iff_not, Decidable.not_not, Int.not_lt, Int.not_le, Bool.not_eq_true, Bool.not_eq_false, Bool.not_eq_eq_eq_not, Bool.not_true, Bool.not_false] at q0
    refine rr1 @hg ?_
    exact go
  intro q0; try simp only [decide_eq_true_eq, decide_eq_false_iff_not, Decidable.not_not, Int.not_lt, Int.not_le, Bool.not_eq_true, Bool.not_eq_false, Bool.not_eq_eq_eq_not, Bool.not_true, Bool.not_false] at q0
  refine rr1 @hg ?_
  refine bb0 ?_ ?_
  · intro q1; try simp only [decide_eq_true_eq, decide_eq_false_iff_not, Decidable.not_not, Int.not_lt, Int.not_le, Bool.not_eq_true, Bool.not_eq_false, Bool.not_eq_eq_eq_not, Bool.not_true, Bool.not_false] at q1
    refine rr1 @hg ?_
    exact go
  intro q1; try simp only [decide_eq_true_eq, decide_eq_false_iff_not, Decidable.not_not, Int.not_lt, Int.not_le, Bool.not_eq_true, Bool.not_eq_false, Bool.not_eq_eq_eq_not, Bool.not_true, Bool.not_false] at q1
  refine rr1 @hg ?_
  refine bb0 ?_ ?_
  · intro q2; try simp only [decide_eq_true_eq, decide_eq_false_iff_not, Decidable.not_not, Int.not_lt, Int.not_le, Bool.not_eq_true, Bool.not_eq_false, Bool.not_eq_eq_eq_not, Bool.not_true, Bool.not_false] at q2
    refine rr1 @hg ?_
    exact go
  intro q2; try simp only [decide_eq_true_eq, decide_eq_false_iff_not, Decidable.not_not, Int.not_lt, Int.not_le, Bool.not_eq_true, Bool.not_eq_false, Bool.not_eq_eq_eq_not, Bool.not_true, Bool.not_false] at q2
  refine rr1 @hg ?_
  refine bb0 ?_ ?_
  · intro q3; try simp only [decide_eq_true_eq, decide_eq_false_iff_not, Decidable.not_not, Int.not_lt, Int.not_le, Bool.not_eq_true, Bool.not_eq_false, Bool.not_eq_eq_eq_not, Bool.not_true, Bool.not_false] at q3
    refine rr1 @hg ?_
    exact go
  intro q3; try simp only [decide_eq_true_eq, decide_eq_false_iff_not, Decidable.not_not, Int.not_lt, Int.not_le, Bool.not_eq_true, Bool.not_eq_false, Bool.not_eq_eq_eq_not, Bool.not_true, Bool.not_false] at q3
  refine rr1 @hg ?_
  exact go

def atB (l : List Int) (c : Int) : Int := (l[c.toNat]?).getD 255
theorem chip_at {H : AHeap} {p : ChP} {s : ChQ} {O : List Nat} {R : AV → AHeap → Prop} (a : ChAt H p s O) {v : AV} {l : List Int} (sl : Sl H 1 v l.length (by8 l)) (hv : ∀ h ∈ fp v, h ≠ p.c) (hc : 0 ≤ s.column ∧ s.column ≤ 2 ^ 31) (hl : l.length ≤ 2 ^ 30)
    (k : ∀ H', ChAt H' p { s with column := s.column + 1 } O → Fr [p.c] H H' → R (.int .u8 (atB l s.column)) H') : Ca Tryz.prog kp 354 [.ptr p.c 0, v] H R := by
  obtain ⟨rv, h1, h2, h3, h4, h5⟩ := a.ex
  have hg := h1.g
  have hgl := h1.l
  have ht := a.tel.g
  have htl := a.tel.l
  have hne := a.ct
  unfold chL at hg
  apply F354.ca
  unfold F354
  refine rr2 @hg @sl.ln ?_
  refine bb1 @sl.ln ?_ ?_
  · intro q; try simp only [decide_eq_true_eq, decide_eq_false_iff_not, Decidable.not_not, Int.not_lt, Int.not_le, Bool.not_eq_true, Bool.not_eq_false, Bool.not_eq_eq_eq_not, Bool.not_true, Bool.not_false] at q
    refine rr0 ?_
    have : atB l s.column = 255 := by unfold atB; rw [List.getElem?_eq_none (by omega)]; rfl
    rw [this] at k
    refine k _ (a.upd (by exact fa) h1 (by simp [chL]) ?_ rfl) (by exact fa)
    simp (disch := (first | assumption | omega | (simp <;> omega) | fail)) [SW, SA, SV, if_pos, if_neg, dec_t, dec_f, ht]
  · intro q; try simp only [decide_eq_true_eq, decide_eq_false_iff_not, Decidable.not_not, Int.not_lt, Int.not_le, Bool.not_eq_true, Bool.not_eq_false, Bool.not_eq_eq_eq_not, Bool.not_true, Bool.not_false] at q
    generalize hH2 : AHeap.set H p.c _ = H2
    have e2 : Fr [p.c] H H2 := hH2 ▸ by exact fa
    have b : ChAt H2 p { s with column := s.column + 1 } O := a.upd (e2.mono (by simp)) h1 (by rw [← hH2]; simp [chL]) (by rw [← hH2]; simp (disch := (first | assumption | omega | (simp <;> omega) | fail)) [SW, SA, SV, if_pos, if_neg, dec_t, dec_f, ht]) rfl
    clear hH2
    obtain ⟨rv2, h21, _⟩ := b.ex
    have g2 := h21.g
    unfold chL at g2
    have sl2 := sl.fr e2 (fun h hh => by simp [hv h hh])
    obtain ⟨r, hr1, hr2, _⟩ := sl2.ix (k := .i64) (i := s.column) (by omega) (by omega) (by omega)
    have hx : (by8 l)[s.column.toNat]? = some (.int .u8 (atB l s.column)) := by
      rw [by8_get]; unfold atB
      rw [List.getElem?_eq_getElem (by omega)]; rfl
    simp [hx] at hr2
    have he : s.column + 1 - 1 = s.column := by omega
    refine rr4 @g2 @he @hr1 @hr2 ?_
    exact k _ b e2

def idL (g : Geom) : List Int := [73, 78, g.Planes, g.Rungs, g.Partial]
def two (n : Int) : List Int := [n % 256, n / 256]
def numL (g : Geom) : List Int := [g.Planes, g.Blocks, g.Pages, g.Chunks, g.Chunk, g.Rungs, g.Partial]
def parL (g : Geom) : List Int := (numL g).flatMap two ++ List.replicate (g.raw.toNat - 14) 255

theorem b26_5 {a b c : Int} : aBuildSlice Tryz.prog 26 5 [(0, (.int .u8 73)), (1, (.int .u8 78)), (2, .int .u8 a), (3, .int .u8 b), (4, .int .u8 c)] = some (.lit [.int .u8 73, .int .u8 78, .int .u8 a, .int .u8 b, .int .u8 c] 5 true) := by kernel_rfl

theorem chip_read {H : AHeap} {p : ChP} {s : ChQ} {O : List Nat} {R : AV → AHeap → Prop} (a : ChAt H p s O) (hc : 0 ≤ s.column ∧ s.column ≤ 2 ^ 31) (hb : 0 ≤ s.busy ∧ s.busy ≤ 65536) (hr : s.reg.length ≤ 2 ^ 30) (hs : s.state = 1 ∨ s.state = 3 ∨ s.state = 5 ∨ s.state = 6)
    (k1 : s.state = 1 → 0 < s.busy → ∀ H', ChAt H' p { s with busy := s.busy - 1 } O → Fr [p.c] H H' → R (.int .u8 128) H')
    (k2 : s.state = 1 → s.busy = 0 → ∀ H', ChAt H' p s O → Fr [p.c] H H' → R (.int .u8 224) H')
    (k3 : s.state = 3 → ∀ H', ChAt H' p { s with column := s.column + 1 } O → Fr [p.c] H H' → R (.int .u8 (atB (idL p.g) s.column)) H')
    (k4 : s.state = 5 ∨ s.state = 6 → ∀ H', ChAt H' p { s with state := 6, column := s.column + 1 } O → Fr [p.c] H H' → R (.int .u8 (atB s.reg s.column)) H') : Ca Tryz.prog kp 338 [.ptr p.c 0] H R := by
  obtain ⟨rv, h1, h2, h3, h4, h5⟩ := a.ex
  have hg := h1.g
  have hgl := h1.l
  have ht := a.tel.g
  have htl := a.tel.l
  have hne := a.ct
  have ok := a.ok
  unfold chL at hg
  apply F338.ca
  unfold F338
  rcases hs with hs | hs | hs
  · refine rr1 @hg ?_
    exact chip_poll a hb (k1 hs) (k2 hs)
  · have w1 : cvI .u8 (.int .i64 p.g.Planes) = some (.int .u8 p.g.Planes) := by simp only [cvI]; rw [w8 (by have := ok.p1; have := ok.p2; omega)]
    have w2 : cvI .u8 (.int .i64 p.g.Rungs) = some (.int .u8 p.g.Rungs) := by simp only [cvI]; rw [w8 (by have := ok.r1; have := ok.r2; omega)]
    have w3 : cvI .u8 (.int .i64 p.g.Partial) = some (.int .u8 p.g.Partial) := by simp only [cvI]; rw [w8 (by have := ok.t1; have := ok.t2; omega)]
    refine rr5 @hg @w1 @w2 @w3 @b26_5 ?_
    refine chip_at (a.ext (by exact fa)) (l := idL p.g) (Sl.lit rfl rfl) (by simp [fp]) hc (by simp [idL]) (fun H' c e => ?_)
    refine rr1 @hg ?_
    exact k3 hs _ c ((by exact fa : Fr [p.c] H (hUp H 22)).trans e (by simp))
  · rcases hs with hs | hs
    · refine rr1 @hg ?_
      generalize hH2 : AHeap.set H p.c _ = H2
      have e2 : Fr [p.c] H H2 := hH2 ▸ by exact fa
      have b : ChAt H2 p { s with state := 6 } O := a.upd (e2.mono (by simp)) h1 (by rw [← hH2]; simp [chL]) (by rw [← hH2]; simp (disch := (first | assumption | omega | (simp <;> omega) | fail)) [SW, SA, SV, if_pos, if_neg, dec_t, dec_f, ht]) rfl
      have g2 : H2.get p.c = some (.cells 27 (chL p { s with state := 6 } rv)) := by rw [← hH2]; simp [chL]
      unfold chL at g2
      clear hH2
      have sl2 := h4.fr e2 (fun h hh => by simp [h5 h hh])
      refine rr1 @g2 ?_
      exact chip_at b sl2 (fun h hh => (h5 h hh).2.1) hc hr (fun H' c e => k4 (.inl hs) _ c (e2.trans e (by simp)))
    · refine rr1 @hg ?_
      exact chip_at a h4 (fun h hh => (h5 h hh).2.1) hc hr (fun H' c e => k4 (.inr hs) _ (by rw [← hs]; exact c) e)
end Go.Proofs.YtdjmoojonkjafaaGreat
