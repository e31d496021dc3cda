/- Contracts of package geom. -/
import Derived.Test.YtdjmoojonkjafaaGreatFa
import Derived.Test.YtdjmoojonkjafaaGreatFb
import Derived.Test.YtdjmoojonkjafaaGreatFc
set_option linter.unusedSimpArgs false
set_option linter.unusedVariables false
set_option maxRecDepth 100000
set_option maxHeartbeats 2000000
namespace Go.Proofs.YtdjmoojonkjafaaGreat
open Go.AM Go.Proofs
attribute [local irreducible] Pu Br Gd Gd2 GdR Nb Cq Pp callF Jn StS StG Still loopW Ca Is

structure Geom where
  (Planes Blocks Pages Chunks Chunk Rungs Partial : Int)
  deriving DecidableEq

def Geom.L (g : Geom) : List AV := [.int .i64 g.Planes, .int .i64 g.Blocks, .int .i64 g.Pages, .int .i64 g.Chunks, .int .i64 g.Chunk, .int .i64 g.Rungs, .int .i64 g.Partial]

theorem b308 {x0 x1 x2 x3 x4 x5 x6 y0 y1 y2 y3 y4 y5 y6 z0 z1 z2 z3 z4 z5 z6 : AV} : aBuild Tryz.prog 308 [(0, .agg [x0, y0, z0]), (1, .agg [x1, y1, z1]), (2, .agg [x2, y2, z2]), (3, .agg [x3, y3, z3]), (4, .agg [x4, y4, z4]), (5, .agg [x5, y5, z5]), (6, .agg [x6, y6, z6])]
  = some (.agg [x0, y0, z0, x1, y1, z1, x2, y2, z2, x3, y3, z3, x4, y4, z4, x5, y5, z5, x6, y6, z6]) := by kernel_rfl
/-- an array's element, as it stands in a value -/
def ixV (len n : Nat) (x i : AV) : Option AV :=
  match x, i with
  | .agg cs, .int _ i => if 0 ≤ i ∧ i < len then (if i.toNat * n + n ≤ cs.length then some (.agg ((cs.drop (i.toNat * n)).take n)) else none) else none
  | _, _ => none
theorem i308 {cs : List AV} {k : IntKind} {i : Int} : aIndex Tryz.prog 308 (.agg cs) (.int k i) = ixV 7 3 (.agg cs) (.int k i) := by kernel_rfl

structure Geom.Ok (g : Geom) : Prop where
  (p1 : 1 ≤ g.Planes) (p2 : g.Planes ≤ 4) (b1 : 2 ≤ g.Blocks) (b2 : g.Blocks ≤ 256) (g1 : 4 ≤ g.Pages) (g2 : g.Pages ≤ 64) (c1 : 1 ≤ g.Chunks) (c2 : g.Chunks ≤ 16)
  (k1 : 4 ≤ g.Chunk) (k2 : g.Chunk ≤ 512) (r1 : 1 ≤ g.Rungs) (r2 : g.Rungs ≤ 8) (t1 : 1 ≤ g.Partial) (t2 : g.Partial ≤ 8) (m1 : g.Blocks % g.Planes = 0) (m2 : g.Pages % 2 = 0)

set_option maxHeartbeats 4000000 in
theorem geom_Check {g : Geom} {H : AHeap} {R : AV → AHeap → Prop} (k0 : g.Ok → ∀ H', Ext H H' → R (.int .i64 0) H') (k2 : ¬ g.Ok → ∀ H', Ext H H' → R (.int .i64 2) H') : Ca Tryz.prog kp 144 [.agg g.L] H R := by
  apply F144.ca
  unfold F144
  repeat (first | (with_reducible first | refine X_Jn ?_ | refine X_BrT ?_ | refine X_BrF ?_ | refine X_Nw ?_ | refine X_Cq ?_ | refine X_Gtt ?_ | refine X_Gff ?_ | refine X_Gtf ?_ | refine X_Gft ?_ | refine X_Gu ?_ | refine X_G2tt ?_ | refine X_G2ff ?_ | refine X_G2tf ?_ | refine X_G2ft ?_ | refine X_G2u ?_ | refine X_GRtt ?_ | refine X_GRff ?_ | refine X_GRtf ?_ | refine X_GRft ?_ | refine X_GRu ?_ | refine X_fn ?_) | ((with_reducible first | apply X_Pu | apply X_Nb | apply X_Pp); (case h => first | ((try simp [Geom.L, bdS, b308]) <;> (with_reducible first | exact (Is_rfl : Is (some (AV.bool true)) _) | exact (Is_rfl : Is (some (AV.bool false)) _) | ((fail_if_success exact Is_b); exact Is_rfl))) | ((try simp (disch := (first | assumption | omega | (simp <;> omega) | fail)) [SW, SA, SV, if_pos, if_neg, dec_t, dec_f, Geom.L, bdS, b308]) <;> (with_reducible first | exact (Is_rfl : Is (some (AV.bool true)) _) | exact (Is_rfl : Is (some (AV.bool false)) _) | ((fail_if_success exact Is_b); exact Is_rfl))))) | ((with_reducible apply X_And); (case h => first | (simp [Geom.L, bdS, b308]; done) | (simp (disch := (first | assumption | omega | (simp <;> omega) | fail)) [SW, SA, SV, if_pos, if_neg, dec_t, dec_f, Geom.L, bdS, b308]; done))))
  generalize hH1 : H.push _ = H1
  have a1 : At H1 H.n (.cells 7 g.L) := hH1 ▸ At.push
  have e1 : Ext H H1 := hH1 ▸ by exact fa
  clear hH1
  have e2 : Ext H1 H1 := Fr.refl
  apply F144.L0_un
  intro X hX
  unfold F144.B0
  repeat (first | (with_reducible first | refine X_Jn ?_ | refine X_BrT ?_ | refine X_BrF ?_ | refine X_Nw ?_ | refine X_Cq ?_ | refine X_Gtt ?_ | refine X_Gff ?_ | refine X_Gtf ?_ | refine X_Gft ?_ | refine X_Gu ?_ | refine X_G2tt ?_ | refine X_G2ff ?_ | refine X_G2tf ?_ | refine X_G2ft ?_ | refine X_G2u ?_ | refine X_GRtt ?_ | refine X_GRff ?_ | refine X_GRtf ?_ | refine X_GRft ?_ | refine X_GRu ?_ | refine X_fn ?_) | ((with_reducible first | apply X_Pu | apply X_Nb | apply X_Pp); (case h => first | ((try simp [i308, ixV]) <;> (with_reducible first | exact (Is_rfl : Is (some (AV.bool true)) _) | exact (Is_rfl : Is (some (AV.bool false)) _) | ((fail_if_success exact Is_b); exact Is_rfl))) | ((try simp (disch := (first | assumption | omega | (simp <;> omega) | fail)) [SW, SA, SV, if_pos, if_neg, dec_t, dec_f, i308, ixV]) <;> (with_reducible first | exact (Is_rfl : Is (some (AV.bool true)) _) | exact (Is_rfl : Is (some (AV.bool false)) _) | ((fail_if_success exact Is_b); exact Is_rfl))))) | ((with_reducible apply X_And); (case h => first | (simp [i308, ixV]; done) | (simp (disch := (first | assumption | omega | (simp <;> omega) | fail)) [SW, SA, SV, if_pos, if_neg, dec_t, dec_f, i308, ixV]; done))))
  refine bb0 ?_ ?_
  · intro h; try simp only [decide_eq_true_eq, decide_eq_false_iff_not, Decidable.not_not, Int.not_lt, Int.not_le, Bool.not_eq_true, Bool.not_eq_false, Bool.not_eq_eq_eq_not, Bool.not_true, Bool.not_false] at h
    refine rr0 ?_
    exact k2 (by rintro ⟨⟩; omega) _ (e1.ext (by exact fa))
  intro p0; try simp only [decide_eq_true_eq, decide_eq_false_iff_not, Decidable.not_not, Int.not_lt, Int.not_le, Bool.not_eq_true, Bool.not_eq_false, Bool.not_eq_eq_eq_not, Bool.not_true, Bool.not_false] at p0
  refine rr0 ?_
  refine bb0 ?_ ?_
  · intro h; try simp only [decide_eq_true_eq, decide_eq_false_iff_not, Decidable.not_not, Int.not_lt, Int.not_le, Bool.not_eq_true, Bool.not_eq_false, Bool.not_eq_eq_eq_not, Bool.not_true, Bool.not_false] at h
    refine rr0 ?_
    exact k2 (by rintro ⟨⟩; omega) _ (e1.ext (by exact fa))
  intro q0; try simp only [decide_eq_true_eq, decide_eq_false_iff_not, Decidable.not_not, Int.not_lt, Int.not_le, Bool.not_eq_true, Bool.not_eq_false, Bool.not_eq_eq_eq_not, Bool.not_true, Bool.not_false] at q0
  refine rr0 ?_
  apply hX; clear hX X
  refine genH (P := F144.L0 _ _ _ _) (F := []) (H0 := H1) (by exact fa) ?_; intro H2 e2; have e2n := e2.n
  apply F144.L0_un
  intro X hX
  unfold F144.B0
  repeat (first | (with_reducible first | refine X_Jn ?_ | refine X_BrT ?_ | refine X_BrF ?_ | refine X_Nw ?_ | refine X_Cq ?_ | refine X_Gtt ?_ | refine X_Gff ?_ | refine X_Gtf ?_ | refine X_Gft ?_ | refine X_Gu ?_ | refine X_G2tt ?_ | refine X_G2ff ?_ | refine X_G2tf ?_ | refine X_G2ft ?_ | refine X_G2u ?_ | refine X_GRtt ?_ | refine X_GRff ?_ | refine X_GRtf ?_ | refine X_GRft ?_ | refine X_GRu ?_ | refine X_fn ?_) | ((with_reducible first | apply X_Pu | apply X_Nb | apply X_Pp); (case h => first | ((try simp [i308, ixV]) <;> (with_reducible first | exact (Is_rfl : Is (some (AV.bool true)) _) | exact (Is_rfl : Is (some (AV.bool false)) _) | ((fail_if_success exact Is_b); exact Is_rfl))) | ((try simp (disch := (first | assumption | omega | (simp <;> omega) | fail)) [SW, SA, SV, if_pos, if_neg, dec_t, dec_f, i308, ixV]) <;> (with_reducible first | exact (Is_rfl : Is (some (AV.bool true)) _) | exact (Is_rfl : Is (some (AV.bool false)) _) | ((fail_if_success exact Is_b); exact Is_rfl))))) | ((with_reducible apply X_And); (case h => first | (simp [i308, ixV]; done) | (simp (disch := (first | assumption | omega | (simp <;> omega) | fail)) [SW, SA, SV, if_pos, if_neg, dec_t, dec_f, i308, ixV]; done))))
  refine bb0 ?_ ?_
  · intro h; try simp only [decide_eq_true_eq, decide_eq_false_iff_not, Decidable.not_not, Int.not_lt, Int.not_le, Bool.not_eq_true, Bool.not_eq_false, Bool.not_eq_eq_eq_not, Bool.not_true, Bool.not_false] at h
    refine rr0 ?_
    exact k2 (by rintro ⟨⟩; omega) _ (e1.ext (by exact fa))
  intro p1; try simp only [decide_eq_true_eq, decide_eq_false_iff_not, Decidable.not_not, Int.not_lt, Int.not_le, Bool.not_eq_true, Bool.not_eq_false, Bool.not_eq_eq_eq_not, Bool.not_true, Bool.not_false] at p1
  refine rr0 ?_
  refine bb0 ?_ ?_
  · intro h; try simp only [decide_eq_true_eq, decide_eq_false_iff_not, Decidable.not_not, Int.not_lt, Int.not_le, Bool.not_eq_true, Bool.not_eq_false, Bool.not_eq_eq_eq_not, Bool.not_true, Bool.not_false] at h
    refine rr0 ?_
    exact k2 (by rintro ⟨⟩; omega) _ (e1.ext (by exact fa))
  intro q1; try simp only [decide_eq_true_eq, decide_eq_false_iff_not, Decidable.not_not, Int.not_lt, Int.not_le, Bool.not_eq_true, Bool.not_eq_false, Bool.not_eq_eq_eq_not, Bool.not_true, Bool.not_false] at q1
  refine rr0 ?_
  apply hX; clear hX X
  refine genH (P := F144.L0 _ _ _ _) (F := []) (H0 := H1) (by exact fa) ?_; intro H2 e2; have e2n := e2.n
  apply F144.L0_un
  intro X hX
  unfold F144.B0
  repeat (first | (with_reducible first | refine X_Jn ?_ | refine X_BrT ?_ | refine X_BrF ?_ | refine X_Nw ?_ | refine X_Cq ?_ | refine X_Gtt ?_ | refine X_Gff ?_ | refine X_Gtf ?_ | refine X_Gft ?_ | refine X_Gu ?_ | refine X_G2tt ?_ | refine X_G2ff ?_ | refine X_G2tf ?_ | refine X_G2ft ?_ | refine X_G2u ?_ | refine X_GRtt ?_ | refine X_GRff ?_ | refine X_GRtf ?_ | refine X_GRft ?_ | refine X_GRu ?_ | refine X_fn ?_) | ((with_reducible first | apply X_Pu | apply X_Nb | apply X_Pp); (case h => first | ((try simp [i308, ixV]) <;> (with_reducible first | exact (Is_rfl : Is (some (AV.bool true)) _) | exact (Is_rfl : Is (some (AV.bool false)) _) | ((fail_if_success exact Is_b); exact Is_rfl))) | ((try simp (disch := (first | assumption | omega | (simp <;> omega) | fail)) [SW, SA, SV, if_pos, if_neg, dec_t, dec_f, i308, ixV]) <;> (with_reducible first | exact (Is_rfl : Is (some (AV.bool true)) _) | exact (Is_rfl : Is (some (AV.bool false)) _) | ((fail_if_success exact Is_b); exact Is_rfl))))) | ((with_reducible apply X_And); (case h => first | (simp [i308, ixV]; done) | (simp (disch := (first | assumption | omega | (simp <;> omega) | fail)) [SW, SA, SV, if_pos, if_neg, dec_t, dec_f, i308, ixV]; done))))
  refine bb0 ?_ ?_
  · intro h; try simp only [decide_eq_true_eq, decide_eq_false_iff_not, Decidable.not_not, Int.not_lt, Int.not_le, Bool.not_eq_true, Bool.not_eq_false, Bool.not_eq_eq_eq_not, Bool.not_true, Bool.not_false] at h
    refine rr0 ?_
    exact k2 (by rintro ⟨⟩; omega) _ (e1.ext (by exact fa))
  intro p2; try simp only [decide_eq_true_eq, decide_eq_false_iff_not, Decidable.not_not, Int.not_lt, Int.not_le, Bool.not_eq_true, Bool.not_eq_false, Bool.not_eq_eq_eq_not, Bool.not_true, Bool.not_false] at p2
  refine rr0 ?_
  refine bb0 ?_ ?_
  · intro h; try simp only [decide_eq_true_eq, decide_eq_false_iff_not, Decidable.not_not, Int.not_lt, Int.not_le, Bool.not_eq_true, Bool.not_eq_false, Bool.not_eq_eq_eq_not, Bool.not_true, Bool.not_false] at h
    refine rr0 ?_
    exact k2 (by rintro ⟨⟩; omega) _ (e1.ext (by exact fa))
  intro q2; try simp only [decide_eq_true_eq, decide_eq_false_iff_not, Decidable.not_not, Int.not_lt, Int.not_le, Bool.not_eq_true, Bool.not_eq_false, Bool.not_eq_eq_eq_not, Bool.not_true, Bool.not_false] at q2
  refine rr0 ?_
  apply hX; clear hX X
  refine genH (P := F144.L0 _ _ _ _) (F := []) (H0 := H1) (by exact fa) ?_; intro H2 e2; have e2n := e2.n
  apply F144.L0_un
  intro X hX
  unfold F144.B0
  repeat (first | (with_reducible first | refine X_Jn ?_ | refine X_BrT ?_ | refine X_BrF ?_ | refine X_Nw ?_ | refine X_Cq ?_ | refine X_Gtt ?_ | refine X_Gff ?_ | refine X_Gtf ?_ | refine X_Gft ?_ | refine X_Gu ?_ | refine X_G2tt ?_ | refine X_G2ff ?_ | refine X_G2tf ?_ | refine X_G2ft ?_ | refine X_G2u ?_ | refine X_GRtt ?_ | refine X_GRff ?_ | refine X_GRtf ?_ | refine X_GRft ?_ | refine X_GRu ?_ | refine X_fn ?_) | ((with_reducible first | apply X_Pu | apply X_Nb | apply X_Pp); (case h => first | ((try simp [i308, ixV]) <;> (with_reducible first | exact (Is_rfl : Is (some (AV.bool true)) _) | exact (Is_rfl : Is (some (AV.bool false)) _) | ((fail_if_success exact Is_b); exact Is_rfl))) | ((try simp (disch := (first | assumption | omega | (simp <;> omega) | fail)) [SW, SA, SV, if_pos, if_neg, dec_t, dec_f, i308, ixV]) <;> (with_reducible first | exact (Is_rfl : Is (some (AV.bool true)) _) | exact (Is_rfl : Is (some (AV.bool false)) _) | ((fail_if_success exact Is_b); exact Is_rfl))))) | ((with_reducible apply X_And); (case h => first | (simp [i308, ixV]; done) | (simp (disch := (first | assumption | omega | (simp <;> omega) | fail)) [SW, SA, SV, if_pos, if_neg, dec_t, dec_f, i308, ixV]; done))))
  refine bb0 ?_ ?_
  · intro h; try simp only [decide_eq_true_eq, decide_eq_false_iff_not, Decidable.not_not, Int.not_lt, Int.not_le, Bool.not_eq_true, Bool.not_eq_false, Bool.not_eq_eq_eq_not, Bool.not_true, Bool.not_false] at h
    refine rr0 ?_
    exact k2 (by rintro ⟨⟩; omega) _ (e1.ext (by exact fa))
  intro p3; try simp only [decide_eq_true_eq, decide_eq_false_iff_not, Decidable.not_not, Int.not_lt, Int.not_le, Bool.not_eq_true, Bool.not_eq_false, Bool.not_eq_eq_eq_not, Bool.not_true, Bool.not_false] at p3
  refine rr0 ?_
  refine bb0 ?_ ?_
  · intro h; try simp only [decide_eq_true_eq, decide_eq_false_iff_not, Decidable.not_not, Int.not_lt, Int.not_le, Bool.not_eq_true, Bool.not_eq_false, Bool.not_eq_eq_eq_not, Bool.not_true, Bool.not_false] at h
    refine rr0 ?_
    exact k2 (by rintro ⟨⟩; omega) _ (e1.ext (by exact fa))
  intro q3; try simp only [decide_eq_true_eq, decide_eq_false_iff_not, Decidable.not_not, Int.not_lt, Int.not_le, Bool.not_eq_true, Bool.not_eq_false, Bool.not_eq_eq_eq_not, Bool.not_true, Bool.not_false] at q3
  refine rr0 ?_
  apply hX; clear hX X
  refine genH (P := F144.L0 _ _ _ _) (F := []) (H0 := H1) (by exact fa) ?_; intro H2 e2; have e2n := e2.n
  apply F144.L0_un
  intro X hX
  unfold F144.B0
  repeat (first | (with_reducible first | refine X_Jn ?_ | refine X_BrT ?_ | refine X_BrF ?_ | refine X_Nw ?_ | refine X_Cq ?_ | refine X_Gtt ?_ | refine X_Gff ?_ | refine X_Gtf ?_ | refine X_Gft ?_ | refine X_Gu ?_ | refine X_G2tt ?_ | refine X_G2ff ?_ | refine X_G2tf ?_ | refine X_G2ft ?_ | refine X_G2u ?_ | refine X_GRtt ?_ | refine X_GRff ?_ | refine X_GRtf ?_ | refine X_GRft ?_ | refine X_GRu ?_ | refine X_fn ?_) | ((with_reducible first | apply X_Pu | apply X_Nb | apply X_Pp); (case h => first | ((try simp [i308, ixV]) <;> (with_reducible first | exact (Is_rfl : Is (some (AV.bool true)) _) | exact (Is_rfl : Is (some (AV.bool false)) _) | ((fail_if_success exact Is_b); exact Is_rfl))) | ((try simp (disch := (first | assumption | omega | (simp <;> omega) | fail)) [SW, SA, SV, if_pos, if_neg, dec_t, dec_f, i308, ixV]) <;> (with_reducible first | exact (Is_rfl : Is (some (AV.bool true)) _) | exact (Is_rfl : Is (some (AV.bool false)) _) | ((fail_if_success exact Is_b); exact Is_rfl))))) | ((with_reducible apply X_And); (case h => first | (simp [i308, ixV]; done) | (simp (disch := (first | assumption | omega | (simp <;> omega) | fail)) [SW, SA, SV, if_pos, if_neg, dec_t, dec_f, i308, ixV]; done))))
  refine bb0 ?_ ?_
  · intro h; try simp only [decide_eq_true_eq, decide_eq_false_iff_not, Decidable.not_not, Int.not_lt, Int.not_le, Bool.not_eq_true, Bool.not_eq_false, Bool.not_eq_eq_eq_not, Bool.not_true, Bool.not_false] at h
    refine rr0 ?_
    exact k2 (by rintro ⟨⟩; omega) _ (e1.ext (by exact fa))
  intro p4; try simp only [decide_eq_true_eq, decide_eq_false_iff_not, Decidable.not_not, Int.not_lt, Int.not_le, Bool.not_eq_true, Bool.not_eq_false, Bool.not_eq_eq_eq_not, Bool.not_true, Bool.not_false] at p4
  refine rr0 ?_
  refine bb0 ?_ ?_
  · intro h; try simp only [decide_eq_true_eq, decide_eq_false_iff_not, Decidable.not_not, Int.not_lt, Int.not_le, Bool.not_eq_true, Bool.not_eq_false, Bool.not_eq_eq_eq_not, Bool.not_true, Bool.not_false] at h
    refine rr0 ?_
    exact k2 (by rintro ⟨⟩; omega) _ (e1.ext (by exact fa))
  intro q4; try simp only [decide_eq_true_eq, decide_eq_false_iff_not, Decidable.not_not, Int.not_lt, Int.not_le, Bool.not_eq_true, Bool.not_eq_false, Bool.not_eq_eq_eq_not, Bool.not_true, Bool.not_false] at q4
  refine rr0 ?_
  apply hX; clear hX X
  refine genH (P := F144.L0 _ _ _ _) (F := []) (H0 := H1) (by exact fa) ?_; intro H2 e2; have e2n := e2.n
  apply F144.L0_un
  intro X hX
  unfold F144.B0
  repeat (first | (with_reducible first | refine X_Jn ?_ | refine X_BrT ?_ | refine X_BrF ?_ | refine X_Nw ?_ | refine X_Cq ?_ | refine X_Gtt ?_ | refine X_Gff ?_ | refine X_Gtf ?_ | refine X_Gft ?_ | refine X_Gu ?_ | refine X_G2tt ?_ | refine X_G2ff ?_ | refine X_G2tf ?_ | refine X_G2ft ?_ | refine X_G2u ?_ | refine X_GRtt ?_ | refine X_GRff ?_ | refine X_GRtf ?_ | refine X_GRft ?_ | refine X_GRu ?_ | refine X_fn ?_) | ((with_reducible first | apply X_Pu | apply X_Nb | apply X_Pp); (case h => first | ((try simp [i308, ixV]) <;> (with_reducible first | exact (Is_rfl : Is (some (AV.bool true)) _) | exact (Is_rfl : Is (some (AV.bool false)) _) | ((fail_if_success exact Is_b); exact Is_rfl))) | ((try simp (disch := (first | assumption | omega | (simp <;> omega) | fail)) [SW, SA, SV, if_pos, if_neg, dec_t, dec_f, i308, ixV]) <;> (with_reducible first | exact (Is_rfl : Is (some (AV.bool true)) _) | exact (Is_rfl : Is (some (AV.bool false)) _) | ((fail_if_success exact Is_b); exact Is_rfl))))) | ((with_reducible apply X_And); (case h => first | (simp [i308, ixV]; done) | (simp (disch := (first | assumption | omega | (simp <;> omega) | fail)) [SW, SA, SV, if_pos, if_neg, dec_t, dec_f, i308, ixV]; done))))
  refine bb0 ?_ ?_
  · intro h; try simp only [decide_eq_true_eq, decide_eq_false_iff_not, Decidable.not_not, Int.not_lt, Int.not_le, Bool.not_eq_true, Bool.not_eq_false, Bool.not_eq_eq_eq_not, Bool.not_true, Bool.not_false] at h
    refine rr0 ?_
    exact k2 (by rintro ⟨⟩; omega) _ (e1.ext (by exact fa))
  intro p5; try simp only [decide_eq_true_eq, decide_eq_false_iff_not, Decidable.not_not, Int.not_lt, Int.not_le, Bool.not_eq_true, Bool.not_eq_false, Bool.not_eq_eq_eq_not, Bool.not_true, Bool.not_false] at p5
  refine rr0 ?_
  refine bb0 ?_ ?_
  · intro h; try simp only [decide_eq_true_eq, decide_eq_false_iff_not, Decidable.not_not, Int.not_lt, Int.not_le, Bool.not_eq_true, Bool.not_eq_false, Bool.not_eq_eq_eq_not, Bool.not_true, Bool.not_false] at h
    refine rr0 ?_
    exact k2 (by rintro ⟨⟩; omega) _ (e1.ext (by exact fa))
  intro q5; try simp only [decide_eq_true_eq, decide_eq_false_iff_not, Decidable.not_not, Int.not_lt, Int.not_le, Bool.not_eq_true, Bool.not_eq_false, Bool.not_eq_eq_eq_not, Bool.not_true, Bool.not_false] at q5
  refine rr0 ?_
  apply hX; clear hX X
  refine genH (P := F144.L0 _ _ _ _) (F := []) (H0 := H1) (by exact fa) ?_; intro H2 e2; have e2n := e2.n
  apply F144.L0_un
  intro X hX
  unfold F144.B0
  repeat (first | (with_reducible first | refine X_Jn ?_ | refine X_BrT ?_ | refine X_BrF ?_ | refine X_Nw ?_ | refine X_Cq ?_ | refine X_Gtt ?_ | refine X_Gff ?_ | refine X_Gtf ?_ | refine X_Gft ?_ | refine X_Gu ?_ | refine X_G2tt ?_ | refine X_G2ff ?_ | refine X_G2tf ?_ | refine X_G2ft ?_ | refine X_G2u ?_ | refine X_GRtt ?_ | refine X_GRff ?_ | refine X_GRtf ?_ | refine X_GRft ?_ | refine X_GRu ?_ | refine X_fn ?_) | ((with_reducible first | apply X_Pu | apply X_Nb | apply X_Pp); (case h => first | ((try simp [i308, ixV]) <;> (with_reducible first | exact (Is_rfl : Is (some (AV.bool true)) _) | exact (Is_rfl : Is (some (AV.bool false)) _) | ((fail_if_success exact Is_b); exact Is_rfl))) | ((try simp (disch := (first | assumption | omega | (simp <;> omega) | fail)) [SW, SA, SV, if_pos, if_neg, dec_t, dec_f, i308, ixV]) <;> (with_reducible first | exact (Is_rfl : Is (some (AV.bool true)) _) | exact (Is_rfl : Is (some (AV.bool false)) _) | ((fail_if_success exact Is_b); exact Is_rfl))))) | ((with_reducible apply X_And); (case h => first | (simp [i308, ixV]; done) | (simp (disch := (first | assumption | omega | (simp <;> omega) | fail)) [SW, SA, SV, if_pos, if_neg, dec_t, dec_f, i308, ixV]; done))))
  refine bb0 ?_ ?_
  · intro h; try simp only [decide_eq_true_eq, decide_eq_false_iff_not, Decidable.not_not, Int.not_lt, Int.not_le, Bool.not_eq_true, Bool.not_eq_false, Bool.not_eq_eq_eq_not, Bool.not_true, Bool.not_false] at h
    refine rr0 ?_
    exact k2 (by rintro ⟨⟩; omega) _ (e1.ext (by exact fa))
  intro p6; try simp only [decide_eq_true_eq, decide_eq_false_iff_not, Decidable.not_not, Int.not_lt, Int.not_le, Bool.not_eq_true, Bool.not_eq_false, Bool.not_eq_eq_eq_not, Bool.not_true, Bool.not_false] at p6
  refine rr0 ?_
  refine bb0 ?_ ?_
  · intro h; try simp only [decide_eq_true_eq, decide_eq_false_iff_not, Decidable.not_not, Int.not_lt, Int.not_le, Bool.not_eq_true, Bool.not_eq_false, Bool.not_eq_eq_eq_not, Bool.not_true, Bool.not_false] at h
    refine rr0 ?_
    exact k2 (by rintro ⟨⟩; omega) _ (e1.ext (by exact fa))
  intro q6; try simp only [decide_eq_true_eq, decide_eq_false_iff_not, Decidable.not_not, Int.not_lt, Int.not_le, Bool.not_eq_true, Bool.not_eq_false, Bool.not_eq_eq_eq_not, Bool.not_true, Bool.not_false] at q6
  refine rr0 ?_
  apply hX; clear hX X
  refine genH (P := F144.L0 _ _ _ _) (F := []) (H0 := H1) (by exact fa) ?_; intro H2 e2; have e2n := e2.n
  apply F144.L0_un
  intro X hX
  unfold F144.B0
  have hb : g.Planes ≠ 0 := by omega
  have a2 := a1.ext e2
  unfold Geom.L at a2
  have hB := Int.tmod_eq_emod_of_nonneg (b := g.Planes) (show 0 ≤ g.Blocks by omega)
  have hP := Int.tmod_eq_emod_of_nonneg (b := 2) (show 0 ≤ g.Pages by omega)
  refine rr3 @a2.g @hB @hb ?_
  refine bb0 ?_ ?_
  · intro h; try simp only [decide_eq_true_eq, decide_eq_false_iff_not, Decidable.not_not, Int.not_lt, Int.not_le, Bool.not_eq_true, Bool.not_eq_false, Bool.not_eq_eq_eq_not, Bool.not_true, Bool.not_false] at h
    refine rr0 ?_
    exact k2 (by rintro ⟨⟩; omega) _ (e1.ext (by exact fa))
  intro m1; try simp only [decide_eq_true_eq, decide_eq_false_iff_not, Decidable.not_not, Int.not_lt, Int.not_le, Bool.not_eq_true, Bool.not_eq_false, Bool.not_eq_eq_eq_not, Bool.not_true, Bool.not_false] at m1
  refine rr2 @a2.g @hP ?_
  refine bb0 ?_ ?_
  · intro h; try simp only [decide_eq_true_eq, decide_eq_false_iff_not, Decidable.not_not, Int.not_lt, Int.not_le, Bool.not_eq_true, Bool.not_eq_false, Bool.not_eq_eq_eq_not, Bool.not_true, Bool.not_false] at h
    refine rr0 ?_
    exact k2 (by rintro ⟨⟩; omega) _ (e1.ext (by exact fa))
  intro m2; try simp only [decide_eq_true_eq, decide_eq_false_iff_not, Decidable.not_not, Int.not_lt, Int.not_le, Bool.not_eq_true, Bool.not_eq_false, Bool.not_eq_eq_eq_not, Bool.not_true, Bool.not_false] at m2
  refine rr0 ?_
  exact k0 ⟨p0, q0, p1, q1, p2, q2, p3, q3, p4, q4, p5, q5, p6, q6, m1, m2⟩ _ (e1.ext (by exact fa))
end Go.Proofs.YtdjmoojonkjafaaGreat
