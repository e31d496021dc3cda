/- Contracts of package geom, second part; copies of slices; cycles. -/
import Derived.Test.YtdjmoojonkjafaaGreatGa
import Derived.Test.YtdjmoojonkjafaaGreatFty
set_option linter.unusedSimpArgs false
set_option linter.unusedVariables false
set_option maxRecDepth 100000
set_option maxHeartbeats 2000000
namespace Go.Proofs.YtdjmoojonkjafaaGreat
open Go.AM Go.Proofs
attribute [local irreducible] Pu Br Gd Gd2 GdR Nb Cq Pp callF Jn StS StG Still loopW Ca Is

def Geom.raw (g : Geom) : Int := g.Chunks * (g.Chunk + 2) + 31
theorem Geom.Ok.raw {g : Geom} (h : g.Ok) : 0 ≤ g.Chunks * (g.Chunk + 2) ∧ g.Chunks * (g.Chunk + 2) ≤ 8224 := by
  obtain ⟨_, _, _, _, _, _, c1, c2, k1, k2, _⟩ := h
  refine ⟨Int.mul_nonneg (by omega) (by omega), ?_⟩
  calc g.Chunks * (g.Chunk + 2) ≤ 16 * (g.Chunk + 2) := Int.mul_le_mul_of_nonneg_right c2 (by omega)
    _ ≤ 8224 := by omega
theorem Geom.Ok.rows {g : Geom} (h : g.Ok) : 8 ≤ g.Blocks * g.Pages ∧ g.Blocks * g.Pages ≤ 16384 := by
  obtain ⟨_, _, b1, b2, g1, g2, _⟩ := h
  constructor
  · calc (8 : Int) ≤ 2 * g.Pages := by omega
      _ ≤ g.Blocks * g.Pages := Int.mul_le_mul_of_nonneg_right b1 (by omega)
  · calc g.Blocks * g.Pages ≤ 256 * g.Pages := Int.mul_le_mul_of_nonneg_right b2 (by omega)
      _ ≤ 16384 := by omega

theorem geom_within {a b : Int} {H : AHeap} {R : AV → AHeap → Prop} (k : R (.bool (decide (0 ≤ a ∧ a < b))) H) : Ca Tryz.prog kp 215 [.int .i64 a, .int .i64 b] H R := by
  apply F215.ca
  unfold F215
  refine bb0 ?_ ?_
  · intro h; try simp only [decide_eq_true_eq, decide_eq_false_iff_not, Decidable.not_not, Int.not_lt, Int.not_le, Bool.not_eq_true, Bool.not_eq_false, Bool.not_eq_eq_eq_not, Bool.not_true, Bool.not_false] at h
    refine rr0 ?_
    (with_reducible first | apply X_Pu | apply X_Nb | apply X_Pp); (case h => first | ((try simp) <;> (with_reducible exact Is_rfl)) | ((try simp (disch := (first | assumption | omega | (simp <;> omega) | fail)) [SW, SA, SV, if_pos, if_neg, dec_t, dec_f]) <;> (with_reducible exact Is_rfl)))
    (with_reducible first | apply X_Pu | apply X_Nb | apply X_Pp); (case h => first | ((try simp) <;> (with_reducible exact Is_rfl)) | ((try simp (disch := (first | assumption | omega | (simp <;> omega) | fail)) [SW, SA, SV, if_pos, if_neg, dec_t, dec_f]) <;> (with_reducible exact Is_rfl)))
    simpa [h] using k
  · intro h; try simp only [decide_eq_true_eq, decide_eq_false_iff_not, Decidable.not_not, Int.not_lt, Int.not_le, Bool.not_eq_true, Bool.not_eq_false, Bool.not_eq_eq_eq_not, Bool.not_true, Bool.not_false] at h
    refine rr0 ?_
    have : decide (0 ≤ a ∧ a < b) = false := by simp; omega
    rw [this] at k
    exact k

theorem geom_Raw {g : Geom} {H : AHeap} {R : AV → AHeap → Prop} (ok : g.Ok) (k : ∀ H', Ext H H' → R (.int .i64 g.raw) H') : Ca Tryz.prog kp 123 [.agg g.L] H R := by
  apply F123.ca
  unfold F123
  repeat (first | (with_reducible first | refine X_Jn ?_ | refine X_BrT ?_ | refine X_BrF ?_ | refine X_Nw ?_ | refine X_Cq ?_ | refine X_Gtt ?_ | refine X_Gff ?_ | refine X_Gtf ?_ | refine X_Gft ?_ | refine X_Gu ?_ | refine X_G2tt ?_ | refine X_G2ff ?_ | refine X_G2tf ?_ | refine X_G2ft ?_ | refine X_G2u ?_ | refine X_GRtt ?_ | refine X_GRff ?_ | refine X_GRtf ?_ | refine X_GRft ?_ | refine X_GRu ?_ | refine X_fn ?_) | ((with_reducible first | apply X_Pu | apply X_Nb | apply X_Pp); (case h => first | ((try simp [Geom.L]) <;> (with_reducible first | exact (Is_rfl : Is (some (AV.bool true)) _) | exact (Is_rfl : Is (some (AV.bool false)) _) | ((fail_if_success exact Is_b); exact Is_rfl))) | ((try simp (disch := (first | assumption | omega | (simp <;> omega) | fail)) [SW, SA, SV, if_pos, if_neg, dec_t, dec_f, Geom.L]) <;> (with_reducible first | exact (Is_rfl : Is (some (AV.bool true)) _) | exact (Is_rfl : Is (some (AV.bool false)) _) | ((fail_if_success exact Is_b); exact Is_rfl))))) | ((with_reducible apply X_And); (case h => first | (simp [Geom.L]; done) | (simp (disch := (first | assumption | omega | (simp <;> omega) | fail)) [SW, SA, SV, if_pos, if_neg, dec_t, dec_f, Geom.L]; done))))
  generalize hH1 : H.push _ = H1
  have a1 : At H1 H.n (.cells 7 g.L) := hH1 ▸ At.push
  have e1 : Ext H H1 := hH1 ▸ by exact fa
  clear hH1
  refine geom_Check (fun _ H2 e2 => ?_) (fun h => absurd ok h)
  have a2 := a1.ext e2
  unfold Geom.L at a2
  have hb := ok.raw
  have ok2 := ok
  obtain ⟨_, _, b1, b2, g1, g2, c1, c2, k1, k2, _⟩ := ok2
  refine rr1 @a2.g ?_
  have : g.Chunks * (g.Chunk + 2) + 28 + 2 + 1 = g.raw := by unfold Geom.raw; omega
  rw [this]
  exact k _ (e1.ext e2)

theorem geom_Split {g : Geom} {row : Int} {H : AHeap} {R : AV → AHeap → Prop} (ok : g.Ok) (k1 : 0 ≤ row → row < g.Blocks * g.Pages → ∀ H', Ext H H' → R (.tup [.int .i64 (row / g.Pages), .int .i64 (row % g.Pages), .bool true]) H')
    (k2 : ¬ (0 ≤ row ∧ row < g.Blocks * g.Pages) → ∀ H', Ext H H' → R (.tup [.int .i64 0, .int .i64 0, .bool false]) H') : Ca Tryz.prog kp 121 [.agg g.L, .int .i64 row] H R := by
  apply F121.ca
  unfold F121
  repeat (first | (with_reducible first | refine X_Jn ?_ | refine X_BrT ?_ | refine X_BrF ?_ | refine X_Nw ?_ | refine X_Cq ?_ | refine X_Gtt ?_ | refine X_Gff ?_ | refine X_Gtf ?_ | refine X_Gft ?_ | refine X_Gu ?_ | refine X_G2tt ?_ | refine X_G2ff ?_ | refine X_G2tf ?_ | refine X_G2ft ?_ | refine X_G2u ?_ | refine X_GRtt ?_ | refine X_GRff ?_ | refine X_GRtf ?_ | refine X_GRft ?_ | refine X_GRu ?_ | refine X_fn ?_) | ((with_reducible first | apply X_Pu | apply X_Nb | apply X_Pp); (case h => first | ((try simp [Geom.L]) <;> (with_reducible first | exact (Is_rfl : Is (some (AV.bool true)) _) | exact (Is_rfl : Is (some (AV.bool false)) _) | ((fail_if_success exact Is_b); exact Is_rfl))) | ((try simp (disch := (first | assumption | omega | (simp <;> omega) | fail)) [SW, SA, SV, if_pos, if_neg, dec_t, dec_f, Geom.L]) <;> (with_reducible first | exact (Is_rfl : Is (some (AV.bool true)) _) | exact (Is_rfl : Is (some (AV.bool false)) _) | ((fail_if_success exact Is_b); exact Is_rfl))))) | ((with_reducible apply X_And); (case h => first | (simp [Geom.L]; done) | (simp (disch := (first | assumption | omega | (simp <;> omega) | fail)) [SW, SA, SV, if_pos, if_neg, dec_t, dec_f, Geom.L]; done))))
  generalize hH1 : H.push _ = H1
  have a1 : At H1 H.n (.cells 7 g.L) := hH1 ▸ At.push
  have e1 : Ext H H1 := hH1 ▸ by exact fa
  clear hH1
  refine geom_Check (fun _ H2 e2 => ?_) (fun h => absurd ok h)
  have a2 := a1.ext e2
  unfold Geom.L at a2
  have hb := ok.rows
  have ok2 := ok
  obtain ⟨_, _, b1, b2, g1, g2, _⟩ := ok2
  refine rr1 @a2.g ?_
  refine geom_within ?_
  by_cases hr : 0 ≤ row ∧ row < g.Blocks * g.Pages
  · have hq := Int.tdiv_eq_ediv_of_nonneg (b := g.Pages) hr.1
    have hm := Int.tmod_eq_emod_of_nonneg (b := g.Pages) hr.1
    have hp : g.Pages ≠ 0 := by omega
    have q1 : 0 ≤ row / g.Pages := Int.ediv_nonneg hr.1 (by omega)
    have q2 : row / g.Pages ≤ row := Int.ediv_le_self _ hr.1
    rw [decide_eq_true hr]
    refine rr4 @a2.g @hq @hm @hp ?_
    exact k1 hr.1 hr.2 _ (e1.ext (by exact fa))
  · rw [decide_eq_false hr]
    refine rr1 @a2.g ?_
    exact k2 hr _ (e1.ext (by exact fa))

theorem geom_Row {g : Geom} {b p : Int} {H : AHeap} {R : AV → AHeap → Prop} (ok : g.Ok) (k1 : 0 ≤ b ∧ b < g.Blocks → 0 ≤ p ∧ p < g.Pages → ∀ H', Ext H H' → R (.tup [.int .i64 (b * g.Pages + p), .bool true]) H')
    (k2 : ¬ ((0 ≤ b ∧ b < g.Blocks) ∧ (0 ≤ p ∧ p < g.Pages)) → ∀ H', Ext H H' → R (.tup [.int .i64 0, .bool false]) H') : Ca Tryz.prog kp 133 [.agg g.L, .int .i64 b, .int .i64 p] H R := by
  apply F133.ca
  unfold F133
  repeat (first | (with_reducible first | refine X_Jn ?_ | refine X_BrT ?_ | refine X_BrF ?_ | refine X_Nw ?_ | refine X_Cq ?_ | refine X_Gtt ?_ | refine X_Gff ?_ | refine X_Gtf ?_ | refine X_Gft ?_ | refine X_Gu ?_ | refine X_G2tt ?_ | refine X_G2ff ?_ | refine X_G2tf ?_ | refine X_G2ft ?_ | refine X_G2u ?_ | refine X_GRtt ?_ | refine X_GRff ?_ | refine X_GRtf ?_ | refine X_GRft ?_ | refine X_GRu ?_ | refine X_fn ?_) | ((with_reducible first | apply X_Pu | apply X_Nb | apply X_Pp); (case h => first | ((try simp [Geom.L]) <;> (with_reducible first | exact (Is_rfl : Is (some (AV.bool true)) _) | exact (Is_rfl : Is (some (AV.bool false)) _) | ((fail_if_success exact Is_b); exact Is_rfl))) | ((try simp (disch := (first | assumption | omega | (simp <;> omega) | fail)) [SW, SA, SV, if_pos, if_neg, dec_t, dec_f, Geom.L]) <;> (with_reducible first | exact (Is_rfl : Is (some (AV.bool true)) _) | exact (Is_rfl : Is (some (AV.bool false)) _) | ((fail_if_success exact Is_b); exact Is_rfl))))) | ((with_reducible apply X_And); (case h => first | (simp [Geom.L]; done) | (simp (disch := (first | assumption | omega | (simp <;> omega) | fail)) [SW, SA, SV, if_pos, if_neg, dec_t, dec_f, Geom.L]; done))))
  generalize hH1 : H.push _ = H1
  have a1 : At H1 H.n (.cells 7 g.L) := hH1 ▸ At.push
  have e1 : Ext H H1 := hH1 ▸ by exact fa
  clear hH1
  refine geom_Check (fun _ H2 e2 => ?_) (fun h => absurd ok h)
  have a2 := a1.ext e2
  unfold Geom.L at a2
  have hb := ok.rows
  have ok2 := ok
  obtain ⟨_, _, b1, b2, g1, g2, _⟩ := ok2
  refine rr1 @a2.g ?_
  refine geom_within ?_
  by_cases hr : 0 ≤ b ∧ b < g.Blocks
  · rw [decide_eq_true hr]
    refine rr1 @a2.g ?_
    refine geom_within ?_
    by_cases hp : 0 ≤ p ∧ p < g.Pages
    · rw [decide_eq_true hp]
      have h1 : 0 ≤ b * g.Pages := Int.mul_nonneg hr.1 (by omega)
      have h2 : b * g.Pages ≤ g.Blocks * g.Pages := Int.mul_le_mul_of_nonneg_right (by omega) (by omega)
      refine rr1 @a2.g ?_
      exact k1 hr hp _ (e1.ext (by exact fa))
    · rw [decide_eq_false hp]
      refine rr1 @a2.g ?_
      exact k2 (fun h => hp h.2) _ (e1.ext (by exact fa))
  · rw [decide_eq_false hr]
    refine rr1 @a2.g ?_
    exact k2 (fun h => hr h.1) _ (e1.ext (by exact fa))
end Go.Proofs.YtdjmoojonkjafaaGreat
