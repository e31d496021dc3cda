/- Contracts: the chip while nothing is queued, second part. -/
import Derived.Test.YtdjmoojonkjafaaGreatGd
set_option linter.unusedSimpArgs false
set_option linter.unusedVariables false
set_option maxRecDepth 100000
set_option maxHeartbeats 2000000
namespace Go.Proofs.YtdjmoojonkjafaaGreat
open Go.AM Go.Proofs
attribute [local irreducible] Pu Br Gd Gd2 GdR Nb Cq Pp callF Jn StS StG Still loopW Ca Is

theorem chip_clear {H : AHeap} {p : ChP} {s : ChQ} {O : List Nat} {R : AV → AHeap → Prop} (a : ChAt H p s O) (k : ∀ H', ChAt H' p s O → Fr [p.c] H H' → R (.tup []) H') : Ca Tryz.prog kp 333 [.ptr p.c 0] H R := by
  obtain ⟨rv, h1, h2, h3, h4, h5⟩ := a.ex
  have hg := h1.g
  have hl := h1.l
  have ht := a.tel.g
  have hne := a.ct
  unfold chL at hg
  apply F333.ca
  unfold F333
  refine rr1 @hg ?_
  refine k _ (a.upd (by exact fa) h1 (by simp [chL]) ?_ rfl) (by exact fa)
  simp (disch := (first | assumption | omega | (simp <;> omega) | fail)) [SW, SA, SV, if_pos, if_neg, dec_t, dec_f, ht]

theorem work_some {H : AHeap} {R : AV → AHeap → Prop} (k : ∀ H', Ext H H' → R (.bool false) H') : Ca Tryz.prog kp 332 [.agg [.nils, .nils, .nils]] H R := by
  apply F332.ca
  unfold F332
  refine rr0 ?_
  exact k _ (by exact fa)

theorem jobs_Grow {H : AHeap} {R : AV → AHeap → Prop} (k : R .nils H) : Ca Tryz.prog kp 342 [.nils, .int .i64 0] H R := by
  apply F342.ca
  unfold F342
  have h1 : aCap Tryz.prog 223 .nils = some (.int .i64 0) := by kernel_rfl
  refine rr1 @h1 ?_
  exact k

theorem jobs_Concat {H : AHeap} {R : AV → AHeap → Prop} (k : ∀ H', Ext H H' → R .nils H') : Ca Tryz.prog kp 328 [.lit [.nils, .nils] 2 true] H R := by
  apply F328.ca
  unfold F328
  refine rr0 ?_
  apply F328.L0_un
  intro X hX
  unfold F328.B0
  refine rr0 ?_
  apply hX; clear hX X
  apply F328.L0_un
  intro X hX
  unfold F328.B0
  refine rr0 ?_
  apply hX; clear hX X
  apply F328.L0_un
  intro X hX
  unfold F328.B0
  refine rr0 ?_
  refine jobs_Grow ?_
  refine rr0 ?_
  have ap : ∀ (H : AHeap) (K : AV → AHeap → Prop), K .nils H → Pp (appendA Tryz.prog H #[223, 223] [.nils, .nils]) K := by
    intro H K hK
    refine X_Pp (v := .nils) (H := H) ?_ hK
    have : appendA Tryz.prog H #[223, 223] [.nils, .nils] = some (.nils, H) := by kernel_rfl
    rw [this]; exact Is_rfl
  apply F328.L1_un
  intro X hX
  unfold F328.B1
  refine rr0 ?_
  refine ap _ _ ?_
  refine rr0 ?_
  apply hX; clear hX X
  apply F328.L1_un
  intro X hX
  unfold F328.B1
  refine rr0 ?_
  refine ap _ _ ?_
  refine rr0 ?_
  apply hX; clear hX X
  apply F328.L1_un
  intro X hX
  unfold F328.B1
  refine rr0 ?_
  exact k _ .refl

theorem chip_abort {H : AHeap} {p : ChP} {s : ChQ} {O : List Nat} {R : AV → AHeap → Prop} (a : ChAt H p s O) (k : ∀ H', ChAt H' p s O → Fr [p.c] H H' → R (.tup []) H') : Ca Tryz.prog kp 311 [.ptr p.c 0] H R := by
  have a0 := a
  obtain ⟨rv, h1, h2, h3, h4, h5⟩ := a.ex
  have hg := h1.g
  have hl := h1.l
  unfold chL at hg
  apply F311.ca
  unfold F311
  refine rd1 @hg ?_
  refine jobs_Concat (fun H2 e2 => ?_)
  have e3 : Ext H H2 := Fr.ext (by exact fa) e2
  clear e2
  have n3 := e3.n
  have b := a.ext e3
  have g1 := h1.ext e3
  have g3 := g1.g
  have gl := g1.l
  have ht := b.tel.g
  have hne := b.ct
  unfold chL at g3
  refine rr1 @hg ?_
  apply F311.L0_un
  intro X hX
  unfold F311.B0
  refine rr1 @g3 ?_
  apply F311.L1_un
  intro X hX
  unfold F311.B1
  refine rd1 @g3 ?_
  refine k _ (b.upd (by exact fa) g1 (by simp [chL]) ?_ rfl) (by exact fa)
  simp (disch := (first | assumption | omega | (simp <;> omega) | fail)) [SW, SA, SV, if_pos, if_neg, dec_t, dec_f, ht]

theorem chip_settle {H : AHeap} {p : ChP} {s : ChQ} {O : List Nat} {R : AV → AHeap → Prop} (a : ChAt H p s O) (k : ∀ H', Ext H H' → R (.tup []) H') : Ca Tryz.prog kp 358 [.ptr p.c 0] H R := by
  obtain ⟨rv, h1, h2, h3, h4, h5⟩ := a.ex
  have hg := h1.g
  have hl := h1.l
  unfold chL at hg
  apply F358.ca
  unfold F358
  refine rr1 @hg ?_
  refine work_some (fun H2 e2 => ?_)
  refine rr0 ?_
  exact k _ (Fr.ext (by exact fa) e2)

theorem chip_past {H : AHeap} {p : ChP} {s : ChQ} {O : List Nat} {R : AV → AHeap → Prop} (a : ChAt H p s O) (k : ∀ H', ChAt H' p s O → Fr [p.c] H H' → R (.tup []) H') : Ca Tryz.prog kp 357 [.ptr p.c 0] H R := by
  obtain ⟨rv, h1, h2, h3, h4, h5⟩ := a.ex
  have hg := h1.g
  have hl := h1.l
  have ht := a.tel.g
  have hne := a.ct
  unfold chL at hg
  apply F357.ca
  unfold F357
  refine rr1 @hg ?_
  apply F357.L0_un
  intro X hX
  unfold F357.B0
  refine rr1 @hg ?_
  refine k _ (a.upd (by exact fa) h1 (by simp [chL]) ?_ rfl) (by exact fa)
  simp (disch := (first | assumption | omega | (simp <;> omega) | fail)) [SW, SA, SV, if_pos, if_neg, dec_t, dec_f, ht]

theorem or_u8 {a b c : Int} (h : IntKind.u8.wrap (BitVec.ofInt 8 a ||| BitVec.ofInt 8 b).toNat = c) : aBin Tryz.prog .or 5 (.int .u8 a) (.int .u8 b) = some (.int .u8 c) := by rw [b_or]; rw [← h]; rfl

theorem chip_poll {H : AHeap} {p : ChP} {s : ChQ} {O : List Nat} {R : AV → AHeap → Prop} (a : ChAt H p s O) (hb : 0 ≤ s.busy ∧ s.busy ≤ 65536) (k1 : 0 < s.busy → ∀ H', ChAt H' p { s with busy := s.busy - 1 } O → Fr [p.c] H H' → R (.int .u8 128) H')
    (k2 : s.busy = 0 → ∀ H', ChAt H' p s O → Fr [p.c] H H' → R (.int .u8 224) H') : Ca Tryz.prog kp 353 [.ptr p.c 0] H R := by
  obtain ⟨rv, h1, h2, h3, h4, h5⟩ := a.ex
  have hg := h1.g
  have hl := h1.l
  have ht := a.tel.g
  have hne := a.ct
  unfold chL at hg
  apply F353.ca
  unfold F353
  by_cases hs : 0 < s.busy
  · refine rr1 @hg ?_
    refine k1 hs _ (a.upd (by exact fa) h1 (by simp [chL]) ?_ rfl) (by exact fa)
    simp (disch := (first | assumption | omega | (simp <;> omega) | fail)) [SW, SA, SV, if_pos, if_neg, dec_t, dec_f, ht]
  · refine rr1 @hg ?_
    refine chip_settle a (fun H2 e2 => ?_)
    have b := a.ext e2
    have g2 := (h1.ext e2).g
    unfold chL at g2
    refine rr1 @g2 ?_
    refine chip_past b (fun H3 c e3 => ?_)
    obtain ⟨rv3, h31, _⟩ := c.ex
    have g3 := h31.g
    unfold chL at g3
    have o1 : aBin Tryz.prog .or 5 (.int .u8 224) (.int .u8 0) = some (.int .u8 224) := or_u8 (by decide)
    refine rr2 @g3 @o1 ?_
    exact k2 (by omega) _ c (e2.mono (by simp) |>.trans e3 (by simp))

theorem chip_start {H : AHeap} {p : ChP} {s : ChQ} {O : List Nat} {R : AV → AHeap → Prop} (a : ChAt H p s O) (ha : s.asked ≤ 2 ^ 30) (k : ∀ H', ChAt H' p { s with busy := nextB p s, asked := s.asked + 1, state := 1 } O → Fr [p.c, p.t] H H' → R (.tup []) H') :
    Ca Tryz.prog kp 350 [.ptr p.c 0, .agg [.nils, .nils, .nils]] H R := by
  obtain ⟨rv, h1, h2, h3, h4, h5⟩ := a.ex
  have hg := h1.g
  have hl := h1.l
  have ht := a.tel.g
  have htl := a.tel.l
  have hne := a.ct
  unfold chL at hg
  apply F350.ca
  unfold F350
  refine rr1 @hg ?_
  generalize hH2 : (hUp _ 18) = H2
  have e2 : Fr [p.c] H H2 := hH2 ▸ by exact fa
  have n2 := e2.n
  have b : ChAt H2 p s O := a.upd (e2.mono (by simp)) h1 (by rw [← hH2]; simp (disch := (first | assumption | omega | (simp <;> omega) | fail)) [SW, SA, SV, if_pos, if_neg, dec_t, dec_f, chL]) (by rw [← hH2]; simp (disch := (first | assumption | omega | (simp <;> omega) | fail)) [SW, SA, SV, if_pos, if_neg, dec_t, dec_f, ht]) rfl
  have w : At H2 H.n (.cells 3 [.nils, .nils, .nils]) := ⟨by rw [← hH2]; simp (disch := (first | assumption | omega | (simp <;> omega) | fail)) [SW, SA, SV, if_pos, if_neg, dec_t, dec_f], by rw [← hH2]; simp; omega⟩
  clear hH2
  obtain ⟨rv2, h21, _⟩ := b.ex
  have g2 := h21.g
  unfold chL at g2
  refine rr2 @w.g @g2 ?_
  refine teller_Busy b ha (fun H3 c e3 => ?_)
  have w3 := w.fr e3 (by simp; omega)
  have t3 := c.tel.g
  have hl3 := c.ex
  obtain ⟨rv3, h31, _⟩ := hl3
  have g3 := h31.g
  have gl3 := h31.l
  unfold chL at g3
  refine rr4 @w3.g @g3 @w.g @g2 ?_
  exact k _ (c.upd (by exact fa) h31 (by simp [chL]) (by simp (disch := (first | assumption | omega | (simp <;> omega) | fail)) [SW, SA, SV, if_pos, if_neg, dec_t, dec_f, t3]) rfl) ((e2.mono (by simp) |>.trans e3 (by simp) : Fr [p.c, p.t] H _).trans (by exact fa : Fr [p.c, p.t] H3 _) (by simp))
end Go.Proofs.YtdjmoojonkjafaaGreat
