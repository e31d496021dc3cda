/- Contracts: a new array of cells (that it is made), a new chip, a new wire. -/
import Derived.Test.YtdjmoojonkjafaaGreatGu
set_option linter.unusedSimpArgs false
set_option linter.unusedVariables false
set_option maxRecDepth 100000
set_option maxHeartbeats 2000000
namespace Go.Proofs.YtdjmoojonkjafaaGreat
open Go.AM Go.Proofs
attribute [local irreducible] Pu Br Gd Gd2 GdR Nb Cq Pp callF Jn StS StG Still loopW Ca Is

section
variable {H : AHeap} {R : AV → AHeap → Prop}

/-- a row's bytes are replaced by a copy -/
theorem cells_take {h o : Nat} {v : AV} {len : Nat} {cs bs : List AV} {sz : Nat} (at_ : At H h (.cells sz cs)) (ho : o < cs.length) (sv : Sl H 1 v len bs) (hl : len ≤ 2 ^ 30)
    (k : ∀ v' H1 H', Gro H1 1 v' len bs → Ext H H1 → (∀ h ∈ fp v', H.n ≤ h) → (len = 0 ∨ ∃ h, v' = .sl h 0 len (.gr 1)) → H' = H1.set h (.cells sz (cs.set o v')) → R (.tup []) H') : Ca Tryz.prog kp 231 [.ptr h o, v] H R := by
  apply F231.ca
  unfold F231
  refine clone8s sv hl (fun v' H1 g e f sh => ?_)
  obtain ⟨c1, c2⟩ := g.one
  have ag := (at_.ext e).g
  have hst : stA 1 H1 (.ptr h o) v' = some (H1.set h (.cells sz (cs.set o v'))) := by
    rw [stA_p, ag, stB_c, c1, if_pos ⟨rfl, by omega, by simp [c2]⟩, putCells_1]
  refine rr1 @hst ?_
  exact k v' H1 _ g e f sh rfl

theorem new1 {g : Geom} {x : Int} {tg : Nat} (at_ : At H tg (.cells 7 g.L)) {K : AV → AHeap → Prop} (k : ∀ b H2, Ext H H2 → (b = true → ¬ (0 ≤ x ∧ x < g.Blocks)) → (b = false → 0 ≤ x ∧ x < g.Blocks) → K (.bool b) H2) :
    callF Tryz.prog kp (.fn (.func 230) [] [.ptr tg 0]) [.int .i64 x] H K := by
  have ag := at_.g
  unfold Geom.L at ag
  refine rr0 ?_
  apply F230.ca
  unfold F230
  refine bb0 ?_ ?_
  · intro q; try simp only [decide_eq_true_eq, decide_eq_false_iff_not, Decidable.not_not, Int.not_lt, Int.not_le, Bool.not_eq_true, Bool.not_eq_false, Bool.not_eq_eq_eq_not, Bool.not_true, Bool.not_false] at q
    refine rr0 ?_
    exact k true _ .refl (fun _ => by omega) (fun h => by cases h)
  · intro q; try simp only [decide_eq_true_eq, decide_eq_false_iff_not, Decidable.not_not, Int.not_lt, Int.not_le, Bool.not_eq_true, Bool.not_eq_false, Bool.not_eq_eq_eq_not, Bool.not_true, Bool.not_false] at q
    refine rr1 @ag ?_
    refine bb0 ?_ ?_
    · intro q2; try simp only [decide_eq_true_eq, decide_eq_false_iff_not, Decidable.not_not, Int.not_lt, Int.not_le, Bool.not_eq_true, Bool.not_eq_false, Bool.not_eq_eq_eq_not, Bool.not_true, Bool.not_false] at q2
      refine rr0 ?_
      exact k true _ .refl (fun _ => by omega) (fun h => by cases h)
    · intro q2; try simp only [decide_eq_true_eq, decide_eq_false_iff_not, Decidable.not_not, Int.not_lt, Int.not_le, Bool.not_eq_true, Bool.not_eq_false, Bool.not_eq_eq_eq_not, Bool.not_true, Bool.not_false] at q2
      refine rr0 ?_
      exact k false _ .refl (fun h => by cases h) (fun _ => by omega)

/-- so many rows have a block of their own, of N bytes -/
def RowsOk (H : AHeap) (lo N i : Nat) (cs : List AV) : Prop := ∀ k, k < i → ∃ h bs, cs[k * 3]? = some (.sl h 0 N (.gr 1)) ∧ At H h (.cells 1 bs) ∧ bs.length = N ∧ lo ≤ h
theorem RowsOk.fr {H' : AHeap} {lo N i : Nat} {cs : List AV} {F : List Nat} (r : RowsOk H lo N i cs) (e : Fr F H H') (hF : ∀ f ∈ F, f < lo) : RowsOk H' lo N i cs := by
  intro k hk
  obtain ⟨h, bs, h1, h2, h3, h4⟩ := r k hk
  exact ⟨h, bs, h1, h2.fr e (fun hf => by have := hF h hf; omega), h3, h4⟩

theorem array_New {g : Geom} {v : AV} {marked : List Int} (ok : g.Ok) (sv : Sl H 1 v marked.length (in64 marked)) (hm : ∀ n ∈ marked, 0 ≤ n ∧ n ≤ g.Blocks - 1) (hml : marked.length ≤ 2 ^ 30)
    (k : ∀ H' a, H.n ≤ a → Ext H H' → R (.tup [.ptr a 0, .int .i64 0]) H') : Ca Tryz.prog kp 153 [.agg g.L, v] H R := by
  have hgl : g.L.length = 7 := rfl
  have hgt : List.take 7 g.L = g.L := rfl
  have hr := ok.rows
  obtain ⟨_, _, b1, b2, g1, g2, _⟩ := id ok
  obtain ⟨nr, hnr⟩ : ∃ nr : Nat, g.Blocks * g.Pages = nr := ⟨(g.Blocks * g.Pages).toNat, by omega⟩
  obtain ⟨nb, hnb⟩ : ∃ nb : Nat, g.Blocks = nb := ⟨g.Blocks.toNat, by omega⟩
  obtain ⟨N, hN⟩ : ∃ N : Nat, g.raw = N := ⟨g.raw.toNat, by have := (parL_len ok).2.1; omega⟩
  have hN1 := (parL_len ok).2
  apply F153.ca
  unfold F153
  refine rr2 @hgl @hgt ?_
  generalize hH1 : AHeap.push H _ = H1
  have e1 : Ext H H1 := hH1 ▸ by exact fa
  have n1 := e1.n
  have y1 : At H1 H.n (.cells 7 g.L) := hH1 ▸ At.push
  clear hH1
  refine geom_Check (fun _ H2 e2 => ?_) (fun h => absurd ok h)
  have e02 := e1.ext e2
  have y2 := y1.ext e2
  refine rr0 ?_
  refine has64 (P := fun x => ¬ (0 ≤ x ∧ x < g.Blocks)) (Q := fun _ => True) (sv.ext e02) hml (fun x _ H3 K e3 hK => new1 (y2.ext e3) (fun b H4 e4 h1 h2 => hK b H4 e4 h1 (fun _ => trivial))) (fun hx => ?_) (fun _ H3 e3 => ?_)
  · obtain ⟨x, hx, hx2⟩ := hx
    have := hm x hx
    omega
  have e03 := e02.ext e3
  have n03 := e03.n
  have y3 := y2.ext e3
  have y3l := y3.l
  have yg := y3.g
  unfold Geom.L at yg
  refine rd1 @yg ?_
  rw [hnr, hnb, Int.toNat_natCast, Int.toNat_natCast]
  generalize hH6 : AHeap.set (AHeap.set (AHeap.set _ (H3.n + 6) _) (H3.n + 9) _) (H3.n + 11) _ = H6
  have e6 : Ext H H6 := hH6 ▸ by exact fa
  have n6 : H6.n = H3.n + 13 := by rw [← hH6]; simp
  have q6 : H6.get (H3.n + 11) = some (.cells 9 [.int .i64 g.Planes, .int .i64 nb, .int .i64 g.Pages, .int .i64 g.Chunks, .int .i64 g.Chunk, .int .i64 g.Rungs, .int .i64 g.Partial, .sl (H3.n + 6) 0 nr (.gr 3), .sl (H3.n + 9) 0 nb (.gr 1)]) := by
    rw [← hH6]; simp [hnb]
  have c6 : At H6 (H3.n + 6) (.cells 3 (repA [.nils, .int .i64 0, .bool false] nr)) := ⟨by rw [← hH6]; simp (disch := (first | assumption | omega | (simp <;> omega) | fail)) [SW, SA, SV, if_pos, if_neg, dec_t, dec_f], by omega⟩
  have y6 : At H6 H.n (.cells 7 g.L) := ⟨by rw [← hH6]; simp (disch := (first | assumption | omega | (simp <;> omega) | fail)) [SW, SA, SV, if_pos, if_neg, dec_t, dec_f, y3.g], by omega⟩
  clear hH6
  refine F153.L0_of _ _ _ _ _ _ (fun m x H' => ∃ (i : Nat) (cs : List AV), m + i = nr ∧ x = .int .i64 i ∧ Ext H H' ∧ H3.n + 13 ≤ H'.n ∧ At H' H.n (.cells 7 g.L) ∧ H'.get (H3.n + 11) = H6.get (H3.n + 11) ∧ At H' (H3.n + 6) (.cells 3 cs) ∧ cs.length = nr * 3 ∧ RowsOk H' (H3.n + 13) N i cs) ?_ nr _ _
    ⟨0, _, by omega, rfl, e6, by omega, y6, rfl, c6, by rw [repA_len]; rfl, by intro k hk; omega⟩
  rintro m x H' ⟨i, cs, hmi, rfl, e, n', ya, qa, ca, cl, ro⟩ X hX
  rw [q6] at qa
  have ygg := ya.g
  have ygl := ya.l
  have cg := ca.g
  unfold Geom.L at ygg
  unfold F153.B0
  by_cases hi : i < nr
  · refine rr2 @qa @ygg ?_
    have e8 : Ext H' (hUp H' 10) := by exact fa
    refine page_Erased (g := g) ok (fun h H9 hh a9 e9 => ?_)
    have e89 := e8.ext e9
    have n9 := e89.n
    have hlen : (List.replicate g.raw.toNat (255 : Int)).length = N := by simp; omega
    have g9 : Gro H9 1 (.sl h 0 g.raw.toNat (.gr 1)) N (by8 (List.replicate g.raw.toNat 255)) := by
      have : g.raw.toNat = N := by omega
      rw [this] at a9 ⊢
      exact .gr (by rw [by8_len]; simp) a9 by8_sc
    refine cells_take (ca.ext e89) (by omega) g9.sl (by omega) (fun v' H10 H11 gv e10 fv sh hH11 => ?_)
    have e810 := e89.ext e10
    have n10 := e810.n
    have f11 : Fr [H3.n + 6] H10 H11 := hH11 ▸ by exact fa
    have c11 : At H11 (H3.n + 6) (.cells 3 (cs.set (i * 3) v')) := by rw [hH11]; exact (ca.ext e810).set
    have n11 := f11.n
    have n11e : H11.n = H10.n := by rw [hH11]; simp
    clear hH11
    have gv11 := gv.fr f11 (fun h hh => by have := fv h hh; simp; omega)
    obtain ⟨hv, rfl⟩ : ∃ h, v' = .sl h 0 N (.gr 1) := by
      rcases sh with h | h
      · omega
      · exact h
    have fv1 := fv hv (by simp [fp])
    have av : ∃ bs, At H11 hv (.cells 1 bs) ∧ bs.length = N := by
      cases gv11 with
      | gr hl a sc => exact ⟨_, a, by simpa using hl⟩
    have fall : Fr [H3.n + 6] H' H11 := (e810.mono (by simp)).trans f11 (by simp)
    have z1 : (hUp H' 10).get (H3.n + 11) = H6.get (H3.n + 11) := by rw [get_hUp, qa, q6]
    have y10 : H'.n ≤ H10.n := n10
    have ygU := ygg
    have q9 : H9.get (H3.n + 11) = H'.get (H3.n + 11) := by rw [e89.eq _ (by omega) (by simp)]
    have q9' := q9
    rw [qa] at q9'
    refine rr3 @qa @ygg @q9' ?_
    have hx : (i : Int) + 1 = ((i + 1 : Nat) : Int) := by omega
    rw [hx]
    refine hX (m - 1) _ _ (by omega) ⟨i + 1, cs.set (i * 3) (.sl hv 0 N (.gr 1)), by omega, rfl, Fr.cut e fall (by simp; omega), by omega, ya.fr fall (by simp; omega), ?_, c11, by simp [cl], ?_⟩
    · rw [fall.eq _ (by omega) (by simp), qa, q6]
    · intro k hk
      by_cases hki : k = i
      · subst hki
        obtain ⟨bs, hb1, hb2⟩ := av
        exact ⟨hv, bs, by rw [List.getElem?_set, if_pos rfl, if_pos (by omega)], hb1, hb2, by omega⟩
      · obtain ⟨h, bs, h1, h2, h3, h4⟩ := ro k (by omega)
        refine ⟨h, bs, by rw [List.getElem?_set_ne (by omega)]; exact h1, h2.fr fall (by simp; omega), h3, h4⟩
  · have : i = nr := by omega
    subst this
    refine rr1 @sv.ln ?_
    refine F153.L1_of _ _ _ _ _ _ (fun m x H'' => ∃ (j : Nat), m + j = marked.length ∧ x = .int .i64 j ∧ Ext H H'' ∧ H3.n + 13 ≤ H''.n ∧ At H'' H.n (.cells 7 g.L) ∧ H''.get (H3.n + 11) = H6.get (H3.n + 11) ∧ At H'' (H3.n + 6) (.cells 3 cs) ∧ RowsOk H'' (H3.n + 13) N i cs) ?_ marked.length _ _
      ⟨0, by omega, rfl, e, n', ya, by rw [qa, q6], ca, ro⟩
    clear hX X ya qa ca ro e n' ygg ygl cg
    rintro m x H'' ⟨j, hmj, rfl, e, n', ya, qa, ca, ro⟩ X hX
    rw [q6] at qa
    have ygg := ya.g
    have ygl := ya.l
    have cg := ca.g
    unfold Geom.L at ygg
    unfold F153.B1
    by_cases hj : j < marked.length
    · have sv' := sv.ext e
      obtain ⟨p, hp1, hp2, _⟩ := sv'.ix (k := .i64) (i := j) (by omega) (by omega) (by omega)
      rw [Int.toNat_natCast, Nat.mul_one, in64_get, List.getElem?_eq_getElem hj] at hp2
      simp at hp2
      have hmb := hm _ (List.getElem_mem hj)
      obtain ⟨b, hb⟩ : ∃ b : Nat, marked[j] = b := ⟨marked[j].toNat, by omega⟩
      obtain ⟨pg, hpg⟩ : ∃ pg : Nat, g.Pages = pg := ⟨g.Pages.toNat, by omega⟩
      rw [hb] at hp2 hmb
      have hbp : b * pg < i := by
        have h1 : (b : Int) * pg + pg ≤ g.Blocks * g.Pages := by
          have : ((b : Int) + 1) * pg ≤ g.Blocks * pg := Int.mul_le_mul_of_nonneg_right (by omega) (by omega)
          rw [Int.add_mul] at this
          rw [hpg]; omega
        have h2 : ((b * pg : Nat) : Int) = (b : Int) * pg := by simp
        omega
      have hbp2 : (b : Int) * g.Pages = ((b * pg : Nat) : Int) := by rw [hpg]; simp
      generalize hz : b * pg = z at hbp hbp2
      obtain ⟨h, bs, r1, r2, r3, r4⟩ := ro z hbp
      have rg := r2.g
      have rl := r2.l
      have w1 : aBin Tryz.prog .mul 3 (.int .i64 b) (.int .i64 g.Pages) = some (.int .i64 z) := by
        rw [b_mul, hbp2, w64 (by omega)]
      have ix : ∀ (k : IntKind), ixS 3 (.sl (H3.n + 6) 0 i (.gr 3)) (.int k z) = some (.ptr (H3.n + 6) (z * 3)) := by
        intro k
        simp only [ixS]
        rw [if_pos ⟨by omega, by omega⟩, Int.toNat_natCast]; simp
      have ld : ∀ H : AHeap, H.get (H3.n + 6) = some (.cells 3 cs) → ldS H (.ptr (H3.n + 6) (z * 3)) = some (.sl h 0 N (.gr 1)) := by
        intro H hh
        rw [ldS_p, hh, ldB_c, r1]
      have ld2 := ld (hUp H'' 13) (by rw [get_hUp]; exact cg)
      have ixl : ixS 1 (.sl h 0 N (.gr 1)) (.int .i64 ((N : Int) - 1)) = some (.ptr h (N - 1)) := by
        simp only [ixS]
        rw [if_pos ⟨by omega, by omega⟩]
        congr 2
        omega
      have hst : stA 1 (hUp H'' 13) (.ptr h (N - 1)) (.int .u8 0) = some ((hUp H'' 13).set h (.cells 1 (bs.set (N - 1) (.int .u8 0)))) := by
        rw [stA_p, get_hUp, rg, stB_c, if_pos ⟨rfl, by omega, rfl⟩]; rfl
      have fd : ∀ o, fdP 0 (.ptr (H3.n + 6) o) = some (.ptr (H3.n + 6) o) := fun o => rfl
      refine rr10 @hp1 @hp2 @qa @ygg @w1 @ix @fd @ld2 @ixl @hst ?_
      have hx : (j : Int) + 1 = ((j + 1 : Nat) : Int) := by omega
      rw [hx]
      have f1 : Fr [h] H'' ((hUp H'' 13).set h (.cells 1 (bs.set (N - 1) (.int .u8 0)))) := by exact fa
      refine hX (m - 1) _ _ (by omega) ⟨j + 1, by omega, rfl, Fr.cut e f1 (by simp; omega), by simp; omega, ya.fr f1 (by simp; omega), ?_, ca.fr f1 (by simp; omega), ?_⟩
      · rw [f1.eq _ (by omega) (by simp; omega), qa, q6]
      · intro k hk
        obtain ⟨h', bs', h1, h2, h3, h4⟩ := ro k hk
        by_cases hh : h' = h
        · subst hh
          exact ⟨h', bs.set (N - 1) (.int .u8 0), h1, ⟨by simp, by simp; omega⟩, by rw [List.length_set]; exact r3, h4⟩
        · exact ⟨h', bs', h1, h2.fr f1 (by simp [hh]), h3, h4⟩
    · refine rr0 ?_
      exact k _ (H3.n + 11) (by omega) e

theorem b227 {a b c d e : AV} : aBuild Tryz.prog 227 [(0, a), (1, b), (2, c), (4, d), (8, e)] = bdS [.int .i64 0, .int .i64 0, .int .i64 0, .int .i64 0, .int .i64 0, .int .i64 0, .int .i64 0, .nilp, .nilp, .bool false, .int .i64 0, .int .i64 0, .int .i64 0, .nils, .nils, .int .i64 0, .int .i64 0, .nils, .nils, .int .i64 0, .nils, .nils, .nils, .nils, .int .i64 0, .bool false, .bool false] [(0, 7, a), (7, 1, b), (8, 1, c), (10, 1, d), (14, 1, e)] := by kernel_rfl

/-- a chip as it is made -/
def chNew (cut : Int) (N : Nat) : ChQ := ⟨false, cut, 0, 0, List.replicate N 255, 0, 0, 0⟩

theorem chip_New {g : Geom} {s : Scr} {busy fails : List Int} {turns : List Turn} {torn marked : List Int} (sc : ScrAt H s busy fails turns torn marked) (sm : busy.length ≤ 2 ^ 30 ∧ fails.length ≤ 2 ^ 30 ∧ turns.length ≤ 2 ^ 30 ∧ torn.length ≤ 2 ^ 30 ∧ marked.length ≤ 2 ^ 30)
    (k1 : Scr.Ok g s busy fails turns torn marked → ∀ H' p O', p.g = g → p.bs = busy → ChAt H' p (chNew s.cut g.raw.toNat) O' → Ext H H' → (∀ h ∈ O', H.n ≤ h) → R (.tup [.ptr p.c 0, .int .i64 0]) H') (k2 : ∀ H', Ext H H' → R (.tup [.nilp, .int .i64 2]) H') :
    Ca Tryz.prog kp 42 [.agg g.L, .agg s.L] H R := by
  have hgl : g.L.length = 7 := rfl
  have hgt : List.take 7 g.L = g.L := rfl
  have hsl : s.L.length = 6 := rfl
  have hst : List.take 6 s.L = s.L := rfl
  apply F42.ca
  unfold F42
  refine rr4 @hgl @hgt @hsl @hst ?_
  generalize hH2 : AHeap.push (AHeap.push H _) _ = H2
  have e2 : Ext H H2 := hH2 ▸ by exact fa
  have n2 : H2.n = H.n + 2 := by rw [← hH2]; simp
  have hn : (AHeap.push H (.cells 7 g.L)).n = H.n + 1 := rfl
  rw [hn]
  have y2 : At H2 H.n (.cells 7 g.L) := ⟨by rw [← hH2]; simp (disch := (first | assumption | omega | (simp <;> omega) | fail)) [SW, SA, SV, if_pos, if_neg, dec_t, dec_f], by omega⟩
  have z2 : At H2 (H.n + 1) (.cells 6 s.L) := ⟨by rw [← hH2]; simp (disch := (first | assumption | omega | (simp <;> omega) | fail)) [SW, SA, SV, if_pos, if_neg, dec_t, dec_f], by omega⟩
  clear hH2
  refine choice_New (sc.ext e2) sm (fun ok H3 t bv fv tv m O3 tn e3 f3 => ?_) (fun H3 e3 => ?_)
  · have e03 := e2.ext e3
    have n03 := e03.n
    have y3 := y2.ext e3
    have z3 := z2.ext e3
    have yg3 := y3.g
    have zg3 := z3.g
    unfold Scr.L at zg3
    have s3 := sc.ext e03
    refine rr4 @yg3 @zg3 @hgl @hgt ?_
    refine array_New ok.ok s3.m ok.m.1 (by have := ok.l; omega) (fun H4 a ha e4 => ?_)
    have e04 := e03.ext e4
    have n4 := e4.n
    have y4 := y3.ext e4
    have z4 := z3.ext e4
    have yg4 := y4.g
    have zg4 := z4.g
    unfold Scr.L at zg4
    refine rr4 @yg4 @zg4 @hgl @hgt ?_
    generalize hH5 : hUp H4 11 = H5
    have e5 : Ext H4 H5 := hH5 ▸ by exact fa
    have n5 : H5.n = H4.n + 11 := by rw [← hH5]; simp
    clear hH5
    have y5 := y4.ext e5
    have z5 := z4.ext e5
    have yg5 := y5.g
    have zg5 := z5.g
    unfold Scr.L at zg5
    refine rr4 @yg5 @zg5 @hgl @hgt ?_
    refine page_Erased ok.ok (fun hr H6 hhr a6 e6 => ?_)
    have n6 := e6.n
    have e06 := (e04.ext e5).ext e6
    have yg6 := (y5.ext e6).g
    have zg6 := (z5.ext e6).g
    unfold Scr.L at zg6
    have lr := a6.l
    have gL : ∀ l : List AV, g.L ++ l = [.int .i64 g.Planes, .int .i64 g.Blocks, .int .i64 g.Pages, .int .i64 g.Chunks, .int .i64 g.Chunk, .int .i64 g.Rungs, .int .i64 g.Partial] ++ l := fun l => rfl
    refine rd8 @b227 @yg5 @zg5 @yg6 @zg6 @hgl @hgt @gL ?_
    generalize hH7 : AHeap.set H6 (H4.n + 8) _ = H7
    have e7 : Fr [H4.n + 8] H6 H7 := hH7 ▸ by exact fa
    have n7 : H7.n = H6.n := by rw [← hH7]; simp
    have c7 : H7.get (H4.n + 8) = some (.cells 27 (chL ⟨H4.n + 8, t, a, m, bv, fv, tv, g, busy, 0⟩ (chNew s.cut g.raw.toNat) (.sl hr 0 g.raw.toNat (.gr 1)))) := by rw [← hH7]; simp [chL, chNew]
    clear hH7
    have n3 := e3.n
    have tl := tn.al
    have t7 : TelNew H7 t bv fv tv m busy fails torn O3 := by
      have ext36 : Fr [H4.n + 8] H3 H7 := (((e4.ext e5).ext e6).mono (by simp)).trans e7 (by simp)
      have nO : ∀ h ∈ O3, h ∉ [H4.n + 8] := fun h hh => by have := tl h hh; simp; omega
      exact ⟨tn.at_.fr ext36 (nO _ tn.to), tn.b.fr ext36 (fun h hh => nO _ (tn.ob h hh).1), tn.f.fr ext36 (fun h hh => nO _ (tn.of h hh).1), tn.o.fr ext36 (fun h hh => nO _ (tn.oo h hh).1), tn.ob, tn.of, tn.oo, tn.to, fun h hh => by have := tl h hh; have := ext36.n; omega⟩
    have g7 : Gro H7 1 (.sl hr 0 g.raw.toNat (.gr 1)) g.raw.toNat (by8 (List.replicate g.raw.toNat 255)) := .gr (by rw [by8_len]; simp) (a6.fr e7 (by simp; omega)) by8_sc
    have tt := tn.to
    have ttl := tl t tt
    refine k1 ok H7 ⟨H4.n + 8, t, a, m, bv, fv, tv, g, busy, 0⟩ ((H4.n + 8) :: hr :: O3) rfl rfl ⟨ok.ok, ⟨.sl hr 0 g.raw.toNat (.gr 1), ⟨c7, by show H4.n + 8 < H7.n; omega⟩, rfl, rfl, by simpa [chNew] using g7.sl, ?_⟩, t7.at_, t7.b.sl, ?_, by show H4.n + 8 ≠ t; omega, by simp, by simp [tt], ?_, ok.l.1⟩ ?_ ?_
    · intro h hh
      simp [fp] at hh
      exact ⟨by simp [hh], by show h ≠ H4.n + 8; omega, by show h ≠ t; omega⟩
    · intro h hh
      have h1 := tn.ob h hh
      have h2 := tl h h1.1
      exact ⟨by simp [h1.1], by show h ≠ H4.n + 8; omega, h1.2⟩
    · intro h hh
      simp at hh
      rcases hh with rfl | rfl | hh
      · omega
      · have := e7.n; omega
      · have := tl h hh; omega
    · exact Fr.cut e06 e7 (by simp; omega)
    · intro h hh
      simp at hh
      rcases hh with rfl | rfl | hh
      · omega
      · omega
      · have := f3 h hh; omega
  · refine rr0 ?_
    exact k2 _ (e2.ext e3)

theorem chip_Array {p : ChP} {s : ChQ} {O : List Nat} (a : ChAt H p s O) (k : R (.ptr p.a 0) H) : Ca Tryz.prog kp 38 [.ptr p.c 0] H R := by
  obtain ⟨rv, h1, _⟩ := a.ex
  have hg := h1.g
  unfold chL at hg
  apply F38.ca
  unfold F38
  refine chip_is a ?_
  refine rr1 @hg ?_
  exact k

theorem wire_New {p : ChP} {s : ChQ} {O : List Nat} (a : ChAt H p s O) (k : ∀ H' w r O', WireAt H' w r p s [] O' → Ext H H' → (∀ h ∈ O', h ∈ O ∨ H.n ≤ h) → R (.tup [.ptr w 0, .int .i64 0]) H') : Ca Tryz.prog kp 43 [.ptr p.c 0] H R := by
  apply F43.ca
  unfold F43
  refine chip_Array a ?_
  refine rr0 ?_
  refine rec_New (fun r H2 Or ra e f => ?_)
  have n2 := e.n
  refine rd0 ?_
  generalize hH3 : AHeap.push H2 _ = H3
  have e3 : Ext H2 H3 := hH3 ▸ by exact fa
  have w3 : At H3 H2.n (.cells 2 [.ptr r 0, .ptr p.c 0]) := hH3 ▸ At.push
  clear hH3
  have n3 := e3.n
  have a3 := (a.ext e).ext e3
  have r3 := ra.fr e3 (by simp)
  refine k H3 H2.n r (H2.n :: (O ++ Or)) ⟨⟨O, Or, w3, a3, r3, fun h => by have := a.al _ h; omega, fun h => by have := ra.al _ h; omega, fun h hh ho => by have := a.al _ hh; have := f h ho; omega, by intro h hh; simp [hh], by intro h hh; simp [hh], by simp⟩, ?_⟩ (e.ext e3) ?_
  · intro h hh
    simp at hh
    rcases hh with rfl | hh | hh
    · exact w3.l
    · exact a3.al h hh
    · exact r3.al h hh
  · intro h hh
    simp at hh
    rcases hh with rfl | hh | hh
    · exact .inr n2
    · exact .inl hh
    · exact .inr (f h hh)

theorem wire_Trace {w r : Nat} {p : ChP} {s : ChQ} {l : List (Int × Int)} {O : List Nat} (a : WireAt H w r p s l O) (hl : l.length ≤ 2 ^ 24) (k : ∀ v' H', Gro H' 2 v' l.length (cyL l) → Ext H H' → R v' H') : Ca Tryz.prog kp 20 [.ptr w 0] H R := by
  obtain ⟨Oc, Or, h1, h2, h3, _⟩ := a.ex
  have hg := h1.g
  apply F20.ca
  unfold F20
  refine wire_is a ?_
  refine rr1 @hg ?_
  exact rec_List h3 hl (fun v' H' g e _ => k v' H' g e)
end
end Go.Proofs.YtdjmoojonkjafaaGreat
