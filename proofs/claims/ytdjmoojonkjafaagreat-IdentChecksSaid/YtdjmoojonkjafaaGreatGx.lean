/- Contracts: what the statement of layer 18 calls besides. -/
import Derived.Test.YtdjmoojonkjafaaGreatGw
set_option linter.unusedSimpArgs false
set_option linter.unusedVariables false
set_option maxRecDepth 100000
set_option maxHeartbeats 2000000
namespace Go.Proofs.YtdjmoojonkjafaaGreat
open Go.AM Go.Proofs
attribute [local irreducible] Pu Br Gd Gd2 GdR Nb Cq Pp callF Jn StS StG Still loopW Ca Is

section
variable {H : AHeap} {R : AV → AHeap → Prop}

theorem ident_Put {g : Geom} (ok : g.Ok) (k : ∀ v H', Gro H' 1 v 14 (by8 ((numL g).flatMap two)) → Ext H H' → R (.tup [v, .int .i64 0]) H') : Ca Tryz.prog kp 149 [.agg g.L] H R := by
  have hgl : g.L.length = 7 := rfl
  have hgt : List.take 7 g.L = g.L := rfl
  apply F149.ca
  unfold F149
  refine rr2 @hgl @hgt ?_
  generalize hH1 : AHeap.push H _ = H1
  have e1 : Ext H H1 := hH1 ▸ by exact fa
  have n1 := e1.n
  have y1 : At H1 H.n (.cells 7 g.L) := hH1 ▸ At.push
  clear hH1
  refine geom_Check (fun _ H2 e2 => ?_) (fun h => absurd ok h)
  have y2 := y1.ext e2
  refine rr0 ?_
  refine ident_fields (fun H3 e3 => ?_)
  have y3 := y2.ext e3
  have e03 := (e1.ext e2).ext e3
  refine F149.L0_of _ _ (fun m x H' => ∃ (i : Nat) (v : AV), m + i = 7 ∧ x = (v, .int .i64 i) ∧ Ext H H' ∧ At H' H.n (.cells 7 g.L) ∧ Gro H' 1 v (2 * i) (by8 (((numL g).take i).flatMap two)) ∧ ∀ h ∈ fp v, H.n < h) ?_ 7 _ _ ⟨0, .nils, rfl, rfl, e03, y3, .nil, by simp [fp]⟩
  rintro m x H' ⟨i, v, hm, rfl, e, ya, gv, hf⟩ X hX
  have yg := ya.g
  have yl := ya.l
  unfold F149.B0
  by_cases hi : i < 7
  · have hin : i < (numL g).length := by simpa [numL] using hi
    obtain ⟨a, ha⟩ : ∃ a, (numL g)[i]? = some a := ⟨_, List.getElem?_eq_getElem hin⟩
    have has := numL_small ok a (List.mem_of_getElem? ha)
    have hp : aIndex Tryz.prog 315 (.agg (ptrs H.n)) (.int .i64 i) = some (.ptr H.n i) := by
      rw [i315, if_pos (by omega), Int.toNat_natCast, Nat.mul_one]
      have : i = 0 ∨ i = 1 ∨ i = 2 ∨ i = 3 ∨ i = 4 ∨ i = 5 ∨ i = 6 := by omega
      rcases this with rfl | rfl | rfl | rfl | rfl | rfl | rfl <;> rfl
    have hld : ldS H' (.ptr H.n i) = some (.int .i64 a) := by
      rw [ldS_p, yg, ldB_c]
      have : g.L = (numL g).map (.int .i64) := rfl
      rw [this, List.getElem?_map, ha]; rfl
    refine rr2 @hp @hld ?_
    refine geom_Address has ?_
    refine X_app ap26 (k := 2) gv (Sl.lit (by rw [by8_len]; rfl) by8_sc) (by omega) (fun v' H2' g' e' f' _ => ?_)
    refine rr0 ?_
    have hx : (i : Int) + 1 = ((i + 1 : Nat) : Int) := by omega
    rw [hx]
    refine hX (m - 1) _ _ (by omega) ⟨i + 1, v', by omega, rfl, e.cut e' (fun h hh => by have := hf h hh; omega), ya.fr e' (fun hh => by have := hf _ hh; omega), ?_, ?_⟩
    · rw [List.take_add_one, ha]
      have hap : ∀ l m : List Int, by8 (l ++ m) = by8 l ++ by8 m := fun l m => by simp [by8]
      simp only [List.flatMap_append, hap, Option.toList, List.flatMap_cons, List.flatMap_nil, List.append_nil]
      exact g'
    · intro h hh
      rcases f' h hh with q | q
      · exact hf h q
      · omega
  · have : i = 7 := by omega
    subst this
    refine rr0 ?_
    have : (numL g).take 7 = numL g := rfl
    rw [this] at gv
    exact k _ _ gv e

def plainG : Geom := ⟨1, 2, 4, 1, 300, 1, 1⟩
theorem b23 {x0 x1 x2 x3 x4 x5 x6 : Int} : aBuild Tryz.prog 23 [(0, .int .i64 x0), (1, .int .i64 x1), (2, .int .i64 x2), (3, .int .i64 x3), (4, .int .i64 x4), (5, .int .i64 x5), (6, .int .i64 x6)]
  = some (.agg [.int .i64 x0, .int .i64 x1, .int .i64 x2, .int .i64 x3, .int .i64 x4, .int .i64 x5, .int .i64 x6]) := by kernel_rfl

theorem law18_awake (k : ∀ H', Ext H H' → R (.bool true) H') : Ca Tryz.prog kp 39 [] H R := by
  apply F39.ca
  unfold F39
  apply F150.ca
  unfold F150
  refine rr1 @b23 ?_
  generalize hH2 : AHeap.set (AHeap.push H _) _ _ = H2
  have e2 : Ext H H2 := hH2 ▸ by exact fa
  clear hH2
  have okp : plainG.Ok := by constructor <;> decide
  refine ident_Put (g := plainG) okp (fun v H3 gv e3 => ?_)
  have sv := gv.sl
  obtain ⟨p, hp1, hp2, _⟩ := sv.ix (k := .i64) (i := 8) (by omega) (by omega) (by omega)
  obtain ⟨q, hq1, hq2, _⟩ := sv.ix (k := .i64) (i := 9) (by omega) (by omega) (by omega)
  have hl : (numL plainG).flatMap two = [1, 0, 2, 0, 4, 0, 1, 0, 44, 1, 1, 0, 1, 0] := by decide
  rw [hl] at hp2 hq2
  simp [by8] at hp2 hq2
  refine rr5 @sv.ln @hp1 @hp2 @hq1 @hq2 ?_
  exact k _ (e2.ext e3)

theorem law13_Small {g : Geom} (k1 : ∀ H', Ext H H' → R (.bool true) H') (k2 : ∀ H', Ext H H' → R (.bool false) H') : Ca Tryz.prog kp 40 [.agg g.L] H R := by
  have hgl : g.L.length = 7 := rfl
  have hgt : List.take 7 g.L = g.L := rfl
  have gL : g.L = [.int .i64 g.Planes, .int .i64 g.Blocks, .int .i64 g.Pages, .int .i64 g.Chunks, .int .i64 g.Chunk, .int .i64 g.Rungs, .int .i64 g.Partial] := rfl
  apply F40.ca
  unfold F40
  refine rr2 @hgl @hgt ?_
  generalize hH1 : AHeap.push H _ = H1
  have e1 : Ext H H1 := hH1 ▸ by exact fa
  have y1 : At H1 H.n (.cells 7 g.L) := hH1 ▸ At.push
  clear hH1
  have small8 : ∀ (K : AV → AHeap → Prop), (∀ b H2, Ext H1 H2 → K (.bool b) H2) → Ca Tryz.prog kp 151 [.agg g.L] H1 K := by
    intro K hK
    apply F151.ca
    unfold F151
    rw [gL]
    refine rr0 ?_
    refine bb0 ?_ ?_
    · intro q; try simp only [decide_eq_true_eq, decide_eq_false_iff_not, Decidable.not_not, Int.not_lt, Int.not_le, Bool.not_eq_true, Bool.not_eq_false, Bool.not_eq_eq_eq_not, Bool.not_true, Bool.not_false] at q
      refine rr0 ?_
      refine bb0 ?_ ?_
      · intro q2; try simp only [decide_eq_true_eq, decide_eq_false_iff_not, Decidable.not_not, Int.not_lt, Int.not_le, Bool.not_eq_true, Bool.not_eq_false, Bool.not_eq_eq_eq_not, Bool.not_true, Bool.not_false] at q2
        refine rr0 ?_
        refine bb0 ?_ ?_
        · intro q3; try simp only [decide_eq_true_eq, decide_eq_false_iff_not, Decidable.not_not, Int.not_lt, Int.not_le, Bool.not_eq_true, Bool.not_eq_false, Bool.not_eq_eq_eq_not, Bool.not_true, Bool.not_false] at q3
          refine rr0 ?_
          refine bb0 ?_ ?_
          · intro q4; try simp only [decide_eq_true_eq, decide_eq_false_iff_not, Decidable.not_not, Int.not_lt, Int.not_le, Bool.not_eq_true, Bool.not_eq_false, Bool.not_eq_eq_eq_not, Bool.not_true, Bool.not_false] at q4
            refine rr0 ?_
            exact hK true _ (by exact fa)
          · intro q4; try simp only [decide_eq_true_eq, decide_eq_false_iff_not, Decidable.not_not, Int.not_lt, Int.not_le, Bool.not_eq_true, Bool.not_eq_false, Bool.not_eq_eq_eq_not, Bool.not_true, Bool.not_false] at q4
            refine rr0 ?_
            exact hK false _ (by exact fa)
        · intro q3; try simp only [decide_eq_true_eq, decide_eq_false_iff_not, Decidable.not_not, Int.not_lt, Int.not_le, Bool.not_eq_true, Bool.not_eq_false, Bool.not_eq_eq_eq_not, Bool.not_true, Bool.not_false] at q3
          refine rr0 ?_
          exact hK false _ (by exact fa)
      · intro q2; try simp only [decide_eq_true_eq, decide_eq_false_iff_not, Decidable.not_not, Int.not_lt, Int.not_le, Bool.not_eq_true, Bool.not_eq_false, Bool.not_eq_eq_eq_not, Bool.not_true, Bool.not_false] at q2
        refine rr0 ?_
        exact hK false _ (by exact fa)
    · intro q; try simp only [decide_eq_true_eq, decide_eq_false_iff_not, Decidable.not_not, Int.not_lt, Int.not_le, Bool.not_eq_true, Bool.not_eq_false, Bool.not_eq_eq_eq_not, Bool.not_true, Bool.not_false] at q
      refine rr0 ?_
      exact hK false _ (by exact fa)
  refine small8 _ (fun b H2 e2 => ?_)
  have yg := (y1.ext e2).g
  rw [gL] at yg
  have e02 := e1.ext e2
  cases b with
  | false => 
    refine rr0 ?_
    exact k2 _ e02
  | true =>
    refine rr1 @yg ?_
    refine bb0 ?_ ?_
    · intro q; try simp only [decide_eq_true_eq, decide_eq_false_iff_not, Decidable.not_not, Int.not_lt, Int.not_le, Bool.not_eq_true, Bool.not_eq_false, Bool.not_eq_eq_eq_not, Bool.not_true, Bool.not_false] at q
      refine rr1 @yg ?_
      refine bb0 ?_ ?_
      · intro q2; try simp only [decide_eq_true_eq, decide_eq_false_iff_not, Decidable.not_not, Int.not_lt, Int.not_le, Bool.not_eq_true, Bool.not_eq_false, Bool.not_eq_eq_eq_not, Bool.not_true, Bool.not_false] at q2
        refine rr0 ?_
        exact k1 _ e02
      · intro q2; try simp only [decide_eq_true_eq, decide_eq_false_iff_not, Decidable.not_not, Int.not_lt, Int.not_le, Bool.not_eq_true, Bool.not_eq_false, Bool.not_eq_eq_eq_not, Bool.not_true, Bool.not_false] at q2
        refine rr0 ?_
        exact k2 _ e02
    · intro q; try simp only [decide_eq_true_eq, decide_eq_false_iff_not, Decidable.not_not, Int.not_lt, Int.not_le, Bool.not_eq_true, Bool.not_eq_false, Bool.not_eq_eq_eq_not, Bool.not_true, Bool.not_false] at q
      refine rr0 ?_
      exact k2 _ e02

theorem law12_Few {s : Scr} {busy fails : List Int} {turns : List Turn} {torn marked : List Int} (sc : ScrAt H s busy fails turns torn marked)
    (k1 : busy.length ≤ 200 ∧ fails.length ≤ 50 ∧ turns.length ≤ 100 ∧ torn.length ≤ 200 ∧ marked.length ≤ 50 → ∀ H', Ext H H' → R (.bool true) H') (k2 : ∀ H', Ext H H' → R (.bool false) H') : Ca Tryz.prog kp 41 [.agg s.L] H R := by
  apply F41.ca
  unfold F41
  unfold Scr.L
  refine rr5 @sc.b.ln @sc.f.ln @sc.t.ln @sc.o.ln @sc.m.ln ?_
  refine bb0 ?_ ?_
  · intro q; try simp only [decide_eq_true_eq, decide_eq_false_iff_not, Decidable.not_not, Int.not_lt, Int.not_le, Bool.not_eq_true, Bool.not_eq_false, Bool.not_eq_eq_eq_not, Bool.not_true, Bool.not_false] at q
    refine rr5 @sc.b.ln @sc.f.ln @sc.t.ln @sc.o.ln @sc.m.ln ?_
    refine bb0 ?_ ?_
    · intro q2; try simp only [decide_eq_true_eq, decide_eq_false_iff_not, Decidable.not_not, Int.not_lt, Int.not_le, Bool.not_eq_true, Bool.not_eq_false, Bool.not_eq_eq_eq_not, Bool.not_true, Bool.not_false] at q2
      refine rr5 @sc.b.ln @sc.f.ln @sc.t.ln @sc.o.ln @sc.m.ln ?_
      refine bb0 ?_ ?_
      · intro q3; try simp only [decide_eq_true_eq, decide_eq_false_iff_not, Decidable.not_not, Int.not_lt, Int.not_le, Bool.not_eq_true, Bool.not_eq_false, Bool.not_eq_eq_eq_not, Bool.not_true, Bool.not_false] at q3
        refine rr5 @sc.b.ln @sc.f.ln @sc.t.ln @sc.o.ln @sc.m.ln ?_
        refine bb0 ?_ ?_
        · intro q4; try simp only [decide_eq_true_eq, decide_eq_false_iff_not, Decidable.not_not, Int.not_lt, Int.not_le, Bool.not_eq_true, Bool.not_eq_false, Bool.not_eq_eq_eq_not, Bool.not_true, Bool.not_false] at q4
          refine rr5 @sc.b.ln @sc.f.ln @sc.t.ln @sc.o.ln @sc.m.ln ?_
          refine bb0 ?_ ?_
          · intro q5; try simp only [decide_eq_true_eq, decide_eq_false_iff_not, Decidable.not_not, Int.not_lt, Int.not_le, Bool.not_eq_true, Bool.not_eq_false, Bool.not_eq_eq_eq_not, Bool.not_true, Bool.not_false] at q5
            refine rr0 ?_
            exact k1 (by omega) _ (by exact fa)
          · intro q5; try simp only [decide_eq_true_eq, decide_eq_false_iff_not, Decidable.not_not, Int.not_lt, Int.not_le, Bool.not_eq_true, Bool.not_eq_false, Bool.not_eq_eq_eq_not, Bool.not_true, Bool.not_false] at q5
            refine rr0 ?_
            exact k2 _ (by exact fa)
        · intro q4; try simp only [decide_eq_true_eq, decide_eq_false_iff_not, Decidable.not_not, Int.not_lt, Int.not_le, Bool.not_eq_true, Bool.not_eq_false, Bool.not_eq_eq_eq_not, Bool.not_true, Bool.not_false] at q4
          refine rr0 ?_
          exact k2 _ (by exact fa)
      · intro q3; try simp only [decide_eq_true_eq, decide_eq_false_iff_not, Decidable.not_not, Int.not_lt, Int.not_le, Bool.not_eq_true, Bool.not_eq_false, Bool.not_eq_eq_eq_not, Bool.not_true, Bool.not_false] at q3
        refine rr0 ?_
        exact k2 _ (by exact fa)
    · intro q2; try simp only [decide_eq_true_eq, decide_eq_false_iff_not, Decidable.not_not, Int.not_lt, Int.not_le, Bool.not_eq_true, Bool.not_eq_false, Bool.not_eq_eq_eq_not, Bool.not_true, Bool.not_false] at q2
      refine rr0 ?_
      exact k2 _ (by exact fa)
  · intro q; try simp only [decide_eq_true_eq, decide_eq_false_iff_not, Decidable.not_not, Int.not_lt, Int.not_le, Bool.not_eq_true, Bool.not_eq_false, Bool.not_eq_eq_eq_not, Bool.not_true, Bool.not_false] at q
    refine rr0 ?_
    exact k2 _ (by exact fa)

theorem ref_from {a b c : Int} (k : R (.bool (decide (b ≤ a ∧ a ≤ c))) H) : Ca Tryz.prog kp 158 [.int .i64 a, .int .i64 b, .int .i64 c] H R := by
  apply F158.ca
  unfold F158
  refine bb0 ?_ ?_
  · intro h; try simp only [decide_eq_true_eq, decide_eq_false_iff_not, Decidable.not_not, Int.not_lt, Int.not_le, Bool.not_eq_true, Bool.not_eq_false, Bool.not_eq_eq_eq_not, Bool.not_true, Bool.not_false] at h
    refine rr0 ?_
    (with_reducible first | apply X_Pu | apply X_Nb | apply X_Pp); (case h => first | ((try simp) <;> (with_reducible exact Is_rfl)) | ((try simp (disch := (first | assumption | omega | (simp <;> omega) | fail)) [SW, SA, SV, if_pos, if_neg, dec_t, dec_f]) <;> (with_reducible exact Is_rfl)))
    (with_reducible first | apply X_Pu | apply X_Nb | apply X_Pp); (case h => first | ((try simp) <;> (with_reducible exact Is_rfl)) | ((try simp (disch := (first | assumption | omega | (simp <;> omega) | fail)) [SW, SA, SV, if_pos, if_neg, dec_t, dec_f]) <;> (with_reducible exact Is_rfl)))
    simpa [h] using k
  · intro h; try simp only [decide_eq_true_eq, decide_eq_false_iff_not, Decidable.not_not, Int.not_lt, Int.not_le, Bool.not_eq_true, Bool.not_eq_false, Bool.not_eq_eq_eq_not, Bool.not_true, Bool.not_false] at h
    refine rr0 ?_
    have : decide (b ≤ a ∧ a ≤ c) = false := by simp; omega
    rw [this] at k
    exact k

theorem ref_Right {g : Geom} (k1 : g.Ok → ∀ H', Ext H H' → R (.bool true) H') (k2 : ¬ g.Ok → ∀ H', Ext H H' → R (.bool false) H') : Ca Tryz.prog kp 46 [.agg g.L] H R := by
  have gL : g.L = [.int .i64 g.Planes, .int .i64 g.Blocks, .int .i64 g.Pages, .int .i64 g.Chunks, .int .i64 g.Chunk, .int .i64 g.Rungs, .int .i64 g.Partial] := rfl
  apply F46.ca
  unfold F46
  rw [gL]
  refine rr0 ?_
  generalize hH1 : AHeap.push H _ = H1
  have e1 : Ext H H1 := hH1 ▸ by exact fa
  have y1 : H1.get H.n = some (.cells 7 [.int .i64 g.Planes, .int .i64 g.Blocks, .int .i64 g.Pages, .int .i64 g.Chunks, .int .i64 g.Chunk, .int .i64 g.Rungs, .int .i64 g.Partial]) := hH1 ▸ get_push_c
  clear hH1
  refine rr1 @y1 ?_
  refine ref_from ?_
  refine Decidable.byCases (p := ¬ (1 ≤ g.Planes ∧ g.Planes ≤ 4)) (fun h1 => ?_) (fun h1 => ?_)
  · rw [decide_eq_false h1]
    refine rr0 ?_
    exact k2 (by rintro ⟨⟩; omega) _ (by exact fa)
  replace h1 := Decidable.not_not.mp h1
  rw [decide_eq_true h1]
  refine rr1 @y1 ?_
  refine ref_from ?_
  refine Decidable.byCases (p := ¬ (2 ≤ g.Blocks ∧ g.Blocks ≤ 256)) (fun h2 => ?_) (fun h2 => ?_)
  · rw [decide_eq_false h2]
    refine rr0 ?_
    exact k2 (by rintro ⟨⟩; omega) _ (by exact fa)
  replace h2 := Decidable.not_not.mp h2
  rw [decide_eq_true h2]
  refine rr1 @y1 ?_
  refine ref_from ?_
  refine Decidable.byCases (p := ¬ (4 ≤ g.Pages ∧ g.Pages ≤ 64)) (fun h3 => ?_) (fun h3 => ?_)
  · rw [decide_eq_false h3]
    refine rr0 ?_
    exact k2 (by rintro ⟨⟩; omega) _ (by exact fa)
  replace h3 := Decidable.not_not.mp h3
  rw [decide_eq_true h3]
  refine rr1 @y1 ?_
  refine ref_from ?_
  refine Decidable.byCases (p := ¬ (1 ≤ g.Chunks ∧ g.Chunks ≤ 16)) (fun h4 => ?_) (fun h4 => ?_)
  · rw [decide_eq_false h4]
    refine rr0 ?_
    exact k2 (by rintro ⟨⟩; omega) _ (by exact fa)
  replace h4 := Decidable.not_not.mp h4
  rw [decide_eq_true h4]
  refine rr1 @y1 ?_
  refine ref_from ?_
  refine Decidable.byCases (p := ¬ (4 ≤ g.Chunk ∧ g.Chunk ≤ 512)) (fun h5 => ?_) (fun h5 => ?_)
  · rw [decide_eq_false h5]
    refine rr0 ?_
    exact k2 (by rintro ⟨⟩; omega) _ (by exact fa)
  replace h5 := Decidable.not_not.mp h5
  rw [decide_eq_true h5]
  refine rr1 @y1 ?_
  refine ref_from ?_
  refine Decidable.byCases (p := ¬ (1 ≤ g.Rungs ∧ g.Rungs ≤ 8)) (fun h6 => ?_) (fun h6 => ?_)
  · rw [decide_eq_false h6]
    refine rr0 ?_
    exact k2 (by rintro ⟨⟩; omega) _ (by exact fa)
  replace h6 := Decidable.not_not.mp h6
  rw [decide_eq_true h6]
  refine rr1 @y1 ?_
  refine ref_from ?_
  refine Decidable.byCases (p := ¬ (1 ≤ g.Partial ∧ g.Partial ≤ 8)) (fun h7 => ?_) (fun h7 => ?_)
  · rw [decide_eq_false h7]
    refine rr0 ?_
    exact k2 (by rintro ⟨⟩; omega) _ (by exact fa)
  replace h7 := Decidable.not_not.mp h7
  rw [decide_eq_true h7]
  have hp : g.Planes ≠ 0 := by omega
  refine rr1 @y1 ?_
  have d1 := Int.tdiv_eq_ediv_of_nonneg (b := g.Planes) (show 0 ≤ g.Blocks by omega)
  have d2 := Int.tdiv_eq_ediv_of_nonneg (b := 2) (show 0 ≤ g.Pages by omega)
  have q1 : 0 ≤ g.Blocks / g.Planes := Int.ediv_nonneg (by omega) (by omega)
  have q2 : g.Blocks / g.Planes ≤ g.Blocks := Int.ediv_le_self _ (by omega)
  have q3 := Int.ediv_mul_add_emod g.Blocks g.Planes
  have q4 : 0 ≤ g.Blocks % g.Planes := Int.emod_nonneg _ hp
  have q5 : 0 ≤ g.Blocks / g.Planes * g.Planes := Int.mul_nonneg q1 (by omega)
  have q6 : g.Blocks / g.Planes * g.Planes ≤ g.Blocks := by omega
  have dw : IntKind.i64.wrap (IntKind.i64.wrap (g.Blocks.tdiv g.Planes) * g.Planes) = g.Blocks / g.Planes * g.Planes := by
    rw [d1, w64 (n := g.Blocks / g.Planes) (by omega), w64 (by omega)]
  refine rr4 @y1 @hp @d1 @d2 ?_
  refine bb0 ?_ ?_
  · intro b1; try simp only [decide_eq_true_eq, decide_eq_false_iff_not, Decidable.not_not, Int.not_lt, Int.not_le, Bool.not_eq_true, Bool.not_eq_false, Bool.not_eq_eq_eq_not, Bool.not_true, Bool.not_false] at b1
    rw [dw] at b1
    refine rr2 @y1 @d2 ?_
    refine bb0 ?_ ?_
    · intro b2; try simp only [decide_eq_true_eq, decide_eq_false_iff_not, Decidable.not_not, Int.not_lt, Int.not_le, Bool.not_eq_true, Bool.not_eq_false, Bool.not_eq_eq_eq_not, Bool.not_true, Bool.not_false] at b2
      refine rr1 @y1 ?_
      exact k1 ⟨h1.1, h1.2, h2.1, h2.2, h3.1, h3.2, h4.1, h4.2, h5.1, h5.2, h6.1, h6.2, h7.1, h7.2, by omega, by omega⟩ _ (by exact fa)
    · intro b2; try simp only [decide_eq_true_eq, decide_eq_false_iff_not, Decidable.not_not, Int.not_lt, Int.not_le, Bool.not_eq_true, Bool.not_eq_false, Bool.not_eq_eq_eq_not, Bool.not_true, Bool.not_false] at b2
      refine rr1 @y1 ?_
      exact k2 (by rintro ⟨⟩; omega) _ (by exact fa)
  · intro b1; try simp only [decide_eq_true_eq, decide_eq_false_iff_not, Decidable.not_not, Int.not_lt, Int.not_le, Bool.not_eq_true, Bool.not_eq_false, Bool.not_eq_eq_eq_not, Bool.not_true, Bool.not_false] at b1
    rw [dw] at b1
    refine rr2 @y1 @d2 ?_
    exact k2 (by rintro ⟨⟩; omega) _ (by exact fa)
end
end Go.Proofs.YtdjmoojonkjafaaGreat

/- Contracts: what the statement of layer 18 asks for (IdentChecks). -/
set_option linter.unusedSimpArgs false
set_option linter.unusedVariables false
set_option maxRecDepth 100000
set_option maxHeartbeats 2000000
namespace Go.Proofs.YtdjmoojonkjafaaGreat
open Go.AM Go.Proofs
attribute [local irreducible] Pu Br Gd Gd2 GdR Nb Cq Pp callF Jn StS StG Still loopW Ca Is

section
variable {g : Geom} {p : ChP} {n N : Nat} {s : ChQ} {j : JQ}

structure Resetd (p : ChP) (n : Nat) (s : ChQ) (f : ChQ × List (Int × Int) × Int) : Prop where
  ok : f.2.2 = 0 → f.1.busy = 0 ∧ f.1.off = s.off
  cut : s.cut = -1 → f.1.cut = -1
  len : f.2.1.length ≤ n + 2
  rng : ∀ N, s.Rng N → N + n + 2 ≤ 2 ^ 30 → f.2.2 = 0 → f.1.Rng (N + n + 2)

theorem resetP_facts (okp : p.g.Ok) (hbs : ∀ n ∈ p.bs, 0 ≤ n ∧ n ≤ 65536) (hs : 0 ≤ s.cut ∨ s.cut = -1) : Resetd p n s (resetP p n s) := by
  have nb := nextB_rng (s := s) hbs
  unfold resetP
  by_cases h0 : s.cut = 0
  · rw [if_pos h0]
    exact ⟨by simp, by simp [h0], by simp, by simp⟩
  rw [if_neg h0]
  generalize hq : (s.tick { s with busy := nextB p s, asked := s.asked + 1, state := 0 }) = q
  have qb : q.busy = nextB p s := by rw [← hq]; rfl
  have qo : q.off = s.off := by rw [← hq]; rfl
  have qc : s.cut = -1 → q.cut = -1 := by intro h; rw [← hq]; show max (s.cut - 1) (-1) = -1; omega
  have qr : ∀ N, s.Rng N → N + 1 ≤ 2 ^ 30 → q.Rng (N + 1) := by
    intro N rg hN
    rw [← hq]
    exact tick_rng okp hbs rg hN (kd := 1) (b := 255) (r := 0) (by simp [ChQ.hear])
  have wl : ((waitP p n q).2.1).length ≤ n + 1 := by
    unfold waitP; split
    · simp
    · simp [rd]; exact pollP_len
  obtain ⟨f1, f2, f3, f4, f5, f6, f7⟩ := pollP_facts (p := p) (n := n) (s := q.tick { q with state := 1 }) (by show 0 ≤ q.busy; rw [qb]; exact nb.1)
  refine ⟨fun h => ?_, fun h => ?_, by simp; omega, fun N rg hN h => ?_⟩
  · obtain ⟨w1, w2, w3⟩ := waitP_ok h
    obtain ⟨g1, g2, g3⟩ := f4 w3
    rw [w2]
    exact ⟨g1, by rw [g2]; exact qo⟩
  · have := qc h
    have hc : (q.tick { q with state := 1 }).cut = -1 := by show max (q.cut - 1) (-1) = -1; omega
    unfold waitP
    rw [if_neg (by omega)]
    exact (f6 hc).1
  · obtain ⟨w1, w2, w3⟩ := waitP_ok h
    rw [w2]
    have rq := qr N rg (by omega)
    have := pollP_rng okp hbs (n := n) (N := N + 1 + 1) (tick_rng (s := q) (s' := { q with state := 1 }) (kd := 1) (b := 112) (r := 0) okp hbs rq (by omega) (by simp [ChQ.hear])) rfl (by omega)
    exact this.mono (by omega) (by omega)

theorem readP_rng (okp : p.g.Ok) (hbs : ∀ n ∈ p.bs, 0 ≤ n ∧ n ≤ 65536) : ∀ (n N : Nat) (s sf : ChQ) (bs : List Int), s.Rng N → N + n ≤ 2 ^ 30 → readP p n s = some (sf, bs) → sf.Rng (N + n) := by
  intro n
  induction n with
  | zero => intro N s sf bs rg hN h; simp [readP] at h; obtain ⟨rfl, _⟩ := h; exact rg
  | succ n ih =>
    intro N s sf bs rg hN h
    simp only [readP] at h
    split at h
    · cases h
    rename_i s' x hh
    split at h
    · cases h
      obtain ⟨c1, c2, y1, y2, a2, b1, b2, u1, u2, hn, hr⟩ := rg.mono (show N ≤ N + (n + 1) by omega) hN
      exact ⟨c1, c2, y1, y2, a2, b1, b2, u1, u2, hn, hr⟩
    · simp only [Option.map_eq_some_iff] at h
      obtain ⟨y, hy, he⟩ := h
      cases he
      have := ih (N + 1) _ _ _ (tick_rng okp hbs rg (by omega) hh) (by omega) hy
      rw [show N + (n + 1) = N + 1 + n by omega]
      exact this

theorem parP_rng (okp : p.g.Ok) (hbs : ∀ n ∈ p.bs, 0 ≤ n ∧ n ≤ 65536) (rg : s.Rng N) (hN : N + n + 18 ≤ 2 ^ 30) (hb : s.busy = 0) (h : (parP p n s).2.2 = 0) : (parP p n s).1.Rng (N + n + 18) := by
  have nb := nextB_rng (s := s) hbs
  by_cases h0 : (askP p 236 s).2.2 = 0
  · have rg2 := askS_rng (.inr rfl) okp hbs rg (by omega) hb
    by_cases h3 : (waitP p n (askS p 236 s)).2.2 = 0
    · obtain ⟨w1, w2, w3⟩ := waitP_ok h3
      have hs1 : (waitP p n (askS p 236 s)).1 = (pollP p n ((askS p 236 s).tick { (askS p 236 s) with state := 1 })).1 := by rw [w2]
      have rg3 : (waitP p n (askS p 236 s)).1.Rng (N + 3 + n) := by
        rw [hs1]
        exact pollP_rng okp hbs (N := N + 3) (tick_rng okp hbs rg2 (by omega) (show (askS p 236 s).hear p 1 112 = some ({ (askS p 236 s) with state := 1 }, 0) by simp [ChQ.hear])) rfl (by omega)
      obtain ⟨f1, f2, f3, f4, f5, f6, f7⟩ := pollP_facts (p := p) (n := n) (s := (askS p 236 s).tick { (askS p 236 s) with state := 1 }) (by simp only [askS, ChQ.tick]; exact nb.1)
      obtain ⟨g1, g2, g3⟩ := f4 w3
      rw [← hs1] at f1 f2 g1 g2
      by_cases hc : (waitP p n (askS p 236 s)).1.cut = 0
      · have hpp : parP p n s = ((waitP p n (askS p 236 s)).1.dead, [(1, 236), (2, 0)] ++ (waitP p n (askS p 236 s)).2.1, 20) := by
          unfold parP; rw [if_pos h0, if_pos h3, if_pos hc]
        rw [hpp] at h; simp at h
      · have rg4 := tick_rng okp hbs rg3 (by omega) (show (waitP p n (askS p 236 s)).1.hear p 1 0 = some ({ (waitP p n (askS p 236 s)).1 with state := 5 }, 0) by simp [ChQ.hear, g1])
        obtain ⟨sf, bs, q1, q2, q3, q4⟩ := readP_told (p := p) (n := 14) (s := (waitP p n (askS p 236 s)).1.tick { (waitP p n (askS p 236 s)).1 with state := 5 }) g1 (.inr (.inl rfl)) (by show 0 ≤ (waitP p n (askS p 236 s)).1.column; rw [f2]; simp [askS, ChQ.tick])
        have hpp : parP p n s = (sf, [(1, 236), (2, 0)] ++ (waitP p n (askS p 236 s)).2.1 ++ [(1, 0)] ++ rd bs, if bs.length = 14 then 0 else 20) := by
          unfold parP; rw [if_pos h0, if_pos h3, if_neg hc, q1]; rfl
        rw [hpp]
        exact (readP_rng okp hbs 14 (N + 3 + n + 1) _ _ _ rg4 (by omega) q1).mono (by omega) (by omega)
    · have hpp : parP p n s = ((waitP p n (askS p 236 s)).1, [(1, 236), (2, 0)] ++ (waitP p n (askS p 236 s)).2.1, (waitP p n (askS p 236 s)).2.2) := by
        unfold parP; rw [if_pos h0, if_neg h3]
      rw [hpp] at h; exact absurd h h3
  · have hpp : parP p n s = askP p 236 s := by unfold parP; rw [if_neg h0]
    rw [hpp] at h; exact absurd h h0

theorem idL_geo {g h : Geom} (e : g = h) : idL g = idL h := by rw [e]

/-- what a check leaves -/
structure Chkd (g0 : Geom) (p : ChP) (g : Geom) (n : Nat) (s : ChQ) (j : JQ) (f : ChQ × List (Int × Int) × Int) : Prop where
  run : ∃ j', jrun g0 j f.2.1 = some j' ∧ (s.cut = -1 → (∀ d ∈ p.bs, d < n) → JR j')
  same : f.2.2 = 0 → p.g = g
  low : s.cut = -1 → (∀ d ∈ p.bs, d < n) → f.2.2 = (if p.g = g then 0 else 23) ∧ f.1.busy = 0 ∧ f.1.off = s.off ∧ f.1.cut = -1
  len : f.2.1.length ≤ n + 25
  rng : ∀ N, s.Rng N → N + n + 25 ≤ 2 ^ 30 → s.cut = -1 → (∀ d ∈ p.bs, d < n) → f.1.Rng (N + n + 25)
theorem chkP_facts {g0 : Geom} (ok0 : g0.Ok) (okp : p.g.Ok) (hbs : ∀ n ∈ p.bs, 0 ≤ n ∧ n ≤ 65536) (hn : 1 ≤ n) (hb : s.busy = 0) (hj : JR j) : Chkd g0 p g n s j (chkP p g n s) := by
  obtain ⟨f1, f2, f3, f4⟩ := idP_facts (s := s) okp hb
  obtain ⟨j1, r1, r2⟩ := jrun_id (g := g0) (p := p) hb hj
  by_cases h0 : (idP p s).2.2.1 = 0
  · obtain ⟨c1, c2, c3, c4⟩ := f2 h0
    by_cases he : (idP p s).2.2.2 = idL g
    · obtain ⟨p1, p2, p3, p4⟩ := parP_facts (n := n) okp hbs hn c1
      obtain ⟨j2, r3, r4⟩ := jrun_par (g := g0) (p := p) (n := n) ok0 hn c1 (r2 h0)
      by_cases h1 : (parP p n (idP p s).1).2.2 = 0
      · have hk : chkP p g n s = ((parP p n (idP p s).1).1, (idP p s).2.1 ++ (parP p n (idP p s).1).2.1, if p.g = g then 0 else 23) := by
          unfold chkP; rw [if_pos h0, if_pos he, if_pos h1]
        rw [hk]
        refine ⟨⟨j2, by rw [jrun_append, r1]; exact r3, fun _ _ => r4 h1⟩, fun h => ?_, fun hc hd => ⟨rfl, (p2 h1).1, by rw [(p2 h1).2, c2], (p3 (f3 hc).2 hd).2⟩, by simp; omega, fun N rg hN hc hd => ?_⟩
        · by_cases hg : p.g = g
          · exact hg
          · dsimp only at h; rw [if_neg hg] at h; simp at h
        · exact (parP_rng okp hbs (idP_rng okp hbs rg (by omega) hb h0) (by omega) c1 h1).mono (by omega) (by omega)
      · have hk : chkP p g n s = ((parP p n (idP p s).1).1, (idP p s).2.1 ++ (parP p n (idP p s).1).2.1, (parP p n (idP p s).1).2.2) := by
          unfold chkP; rw [if_pos h0, if_pos he, if_neg h1]
        rw [hk]
        exact ⟨⟨j2, by rw [jrun_append, r1]; exact r3, fun hc hd => absurd (p3 (f3 hc).2 hd).1 h1⟩, fun h => absurd h h1, fun hc hd => absurd (p3 (f3 hc).2 hd).1 h1, by simp; omega, fun N rg hN hc hd => absurd (p3 (f3 hc).2 hd).1 h1⟩
    · have hk : chkP p g n s = ((idP p s).1, (idP p s).2.1, 23) := by unfold chkP; rw [if_pos h0, if_neg he]
      rw [hk]
      have hne : p.g ≠ g := fun h => he (by rw [c4, h])
      exact ⟨⟨j1, r1, fun _ _ => r2 h0⟩, by simp, fun hc hd => ⟨by rw [if_neg hne], c1, c2, (f3 hc).2⟩, by dsimp only; omega, fun N rg hN hc hd => (idP_rng okp hbs rg (by omega) hb h0).mono (by omega) (by omega)⟩
  · have hk : chkP p g n s = ((idP p s).1, (idP p s).2.1, (idP p s).2.2.1) := by unfold chkP; rw [if_neg h0]
    rw [hk]
    exact ⟨⟨j1, r1, fun hc _ => absurd (f3 hc).1 h0⟩, fun h => absurd h h0, fun hc hd => absurd (f3 hc).1 h0, by dsimp only; omega, fun N rg hN hc hd => absurd (f3 hc).1 h0⟩
end
end Go.Proofs.YtdjmoojonkjafaaGreat
