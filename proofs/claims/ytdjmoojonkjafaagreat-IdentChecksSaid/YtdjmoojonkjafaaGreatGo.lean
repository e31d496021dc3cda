/- Contracts: ident.Check on a quiet chip. -/
import Derived.Test.YtdjmoojonkjafaaGreatGn
set_option linter.unusedSimpArgs false
set_option linter.unusedVariables false
set_option maxRecDepth 100000
set_option maxHeartbeats 2000000
namespace Go.Proofs.YtdjmoojonkjafaaGreat
open Go.AM Go.Proofs
attribute [local irreducible] Pu Br Gd Gd2 GdR Nb Cq Pp callF Jn StS StG Still loopW Ca Is

section
variable {H : AHeap} {w r : Nat} {p : ChP} {s s' : ChQ} {l : List (Int × Int)} {O : List Nat} {N : Nat} {R : AV → AHeap → Prop}

/-- is a chip taken for a geometry's that is right? -/
def chkP (p : ChP) (g : Geom) (n : Nat) (s : ChQ) : ChQ × List (Int × Int) × Int :=
  if (idP p s).2.2.1 = 0 then
    if (idP p s).2.2.2 = idL g then
      if (parP p n (idP p s).1).2.2 = 0 then ((parP p n (idP p s).1).1, (idP p s).2.1 ++ (parP p n (idP p s).1).2.1, if p.g = g then 0 else 23)
      else ((parP p n (idP p s).1).1, (idP p s).2.1 ++ (parP p n (idP p s).1).2.1, (parP p n (idP p s).1).2.2)
    else ((idP p s).1, (idP p s).2.1, 23)
  else ((idP p s).1, (idP p s).2.1, (idP p s).2.2.1)

theorem idL_small {g : Geom} (ok : g.Ok) : ∀ b ∈ idL g, 0 ≤ b ∧ b < 256 := by
  obtain ⟨p1, p2, _, _, _, _, _, _, _, _, r1, r2, t1, t2, _, _⟩ := ok
  intro b hb
  simp [idL] at hb
  omega
theorem atB_small {l : List Int} (h : ∀ b ∈ l, 0 ≤ b ∧ b < 256) {c : Int} : 0 ≤ atB l c ∧ atB l c < 256 := by
  unfold atB
  cases hx : l[c.toNat]? with
  | none => simp
  | some x => exact h x (List.mem_of_getElem? hx)

/-- what finding out a chip's name leaves -/
structure Ided (p : ChP) (s : ChQ) (f : ChQ × List (Int × Int) × Int × List Int) : Prop where
  er : f.2.2.1 = 0 ∨ f.2.2.1 = 20
  ok : f.2.2.1 = 0 → f.1.busy = 0 ∧ f.1.off = s.off ∧ f.1.asked = s.asked ∧ f.2.2.2 = idL p.g
  cut : s.cut = -1 → f.2.2.1 = 0 ∧ f.1.cut = -1
  len : f.2.1.length ≤ 7
theorem idP_facts (ok : p.g.Ok) (hb : s.busy = 0) : Ided p s (idP p s) := by
  by_cases h0 : (askP p 144 s).2.2 = 0
  · obtain ⟨hp, h1, h2⟩ := askP_ok h0
    obtain ⟨sf, bs, q1, q2, q3, q4⟩ := readP_told (p := p) (n := 5) (s := askS p 144 s) (by simp [askS, ChQ.tick, hb]) (by simp [askS, ChQ.tick]) (by simp [askS, ChQ.tick])
    have hid : idP p s = (sf, [(1, 144), (2, 0)] ++ rd bs, if bs.length = 5 then 0 else 20, bs) := by
      unfold idP; rw [if_pos h0, q1]; rfl
    rw [hid]
    have hle := readP_le q1
    refine ⟨by dsimp only; split <;> simp, fun h => ?_, fun h => ?_, by simp [rd]; omega⟩
    · have hl : bs.length = 5 := by
        by_cases h5 : bs.length = 5
        · exact h5
        · dsimp only at h; rw [if_neg h5] at h; simp at h
      obtain ⟨a1, a2, a3, a4⟩ := q3 hl
      refine ⟨a1, by rw [a2]; simp [askS, ChQ.tick], by rw [a3]; simp [askS, ChQ.tick], ?_⟩
      rw [hl] at q2
      show bs = idL p.g
      rw [q2]
      have e1 : (askS p 144 s).state = 3 := by simp [askS, ChQ.tick]
      have e2 : (askS p 144 s).column = 0 := by simp [askS, ChQ.tick]
      rw [e1, e2]
      have : List.range 5 = [0, 1, 2, 3, 4] := by decide
      rw [this]
      simp [idL, atB]
    · have hc : (askS p 144 s).cut = -1 := by simp [askS, ChQ.tick]; omega
      have hl := q4 hc
      refine ⟨by dsimp only; rw [if_pos hl], (q3 hl).2.2.2 hc⟩
  · have hid : idP p s = ((askP p 144 s).1, (askP p 144 s).2.1, (askP p 144 s).2.2, []) := by unfold idP; rw [if_neg h0]
    rw [hid]
    have hne : s.cut = 0 ∨ max (s.cut - 1) (-1) = 0 := by
      unfold askP at h0
      split at h0
      · left; assumption
      · split at h0
        · right; assumption
        · simp at h0
    have hv : askP p 144 s = (s.dead, [], 20) ∨ askP p 144 s = ((s.tick { s with state := if (144 : Int) = 144 then 2 else 4 }).dead, [(1, 144)], 20) := by
      unfold askP
      split
      · exact .inl rfl
      · rename_i h; rw [if_pos (by omega)]; exact .inr rfl
    refine ⟨?_, fun h => absurd h h0, fun h => by omega, ?_⟩
    · rcases hv with h | h <;> rw [h] <;> simp
    · rcases hv with h | h <;> rw [h] <;> simp
theorem idP_rng (ok : p.g.Ok) (hbs : ∀ n ∈ p.bs, 0 ≤ n ∧ n ≤ 65536) (rg : s.Rng N) (hN : N + 7 ≤ 2 ^ 30) (hb : s.busy = 0) (h : (idP p s).2.2.1 = 0) : (idP p s).1.Rng (N + 7) := by
  by_cases h0 : (askP p 144 s).2.2 = 0
  · have rg1 := askS_rng (.inl rfl) ok hbs rg (by omega) hb
    obtain ⟨sf, bs, q1, q2, q3, q4⟩ := readP_told (p := p) (n := 5) (s := askS p 144 s) (by simp [askS, ChQ.tick, hb]) (by simp [askS, ChQ.tick]) (by simp [askS, ChQ.tick])
    have hid : idP p s = (sf, [(1, 144), (2, 0)] ++ rd bs, if bs.length = 5 then 0 else 20, bs) := by
      unfold idP; rw [if_pos h0, q1]; rfl
    rw [hid]
    have key : ∀ (n N : Nat) (s sf : ChQ) (bs : List Int), s.Rng N → N + n ≤ 2 ^ 30 → readP p n s = some (sf, bs) → sf.Rng (N + n) := by
      intro n
      induction n with
      | zero => intro N s sf bs rg hN h; simp [readP] at h; obtain ⟨rfl, _⟩ := h; exact rg
      | succ n ih =>
        intro N s sf bs rg hN h
        simp only [readP] at h
        split at h
        · cases h
        rename_i s' x hh
        split at h
        · cases h
          obtain ⟨c1, c2, y1, y2, a2, b1, b2, u1, u2, hn, hr⟩ := rg.mono (show N ≤ N + (n + 1) by omega) hN
          exact ⟨c1, c2, y1, y2, a2, b1, b2, u1, u2, hn, hr⟩
        · simp only [Option.map_eq_some_iff] at h
          obtain ⟨y, hy, he⟩ := h
          cases he
          have := ih (N + 1) _ _ _ (tick_rng ok hbs rg (by omega) hh) (by omega) hy
          rw [show N + (n + 1) = N + 1 + n by omega]
          exact this
    exact key 5 (N + 2) _ _ _ rg1 (by omega) q1
  · have hid : idP p s = ((askP p 144 s).1, (askP p 144 s).2.1, (askP p 144 s).2.2, []) := by unfold idP; rw [if_neg h0]
    rw [hid] at h; exact absurd h h0

theorem ident_Check_no {g : Geom} {b : Int} (ng : ¬ g.Ok) (k : ∀ H', Ext H H' → R (.int .i64 2) H') : Ca Tryz.prog kp 45 [.ptr w 0, .agg g.L, .int .i64 b] H R := by
  apply F45.ca
  unfold F45
  have hgl : g.L.length = 7 := rfl
  refine rr1 @hgl ?_
  have ht : List.take 7 g.L = g.L := rfl
  rw [ht]
  refine geom_Check (fun h => absurd h ng) (fun _ H2 e2 => ?_)
  refine rr0 ?_
  exact k _ (Fr.ext (by exact fa) e2)

theorem ident_Check {g : Geom} {n : Nat} (ok : g.Ok) (a : WireAt H w r p s l O) (hbs : ∀ n ∈ p.bs, 0 ≤ n ∧ n ≤ 65536) (rg : s.Rng N) (hN : N + n + 25 ≤ 2 ^ 30) (hoff : s.off = false) (hb : s.busy = 0) (hl : l.length + n + 25 ≤ 2 ^ 24) (hn : 1 ≤ n ∧ n ≤ 65536)
    (k : ∀ H' O', WTo w r p (chkP p g n s).1 (l ++ (chkP p g n s).2.1) H H' O O' → R (.int .i64 (chkP p g n s).2.2) H') :
    Ca Tryz.prog kp 45 [.ptr w 0, .agg g.L, .int .i64 n] H R := by
  have okp : p.g.Ok := by obtain ⟨Oc, Or, _, h2, _⟩ := a.ex; exact h2.ok
  have w1 : cvI .u8 (.int .i64 g.Planes) = some (.int .u8 g.Planes) := by simp only [cvI]; rw [w8 (by have := ok.p1; have := ok.p2; omega)]
  have w2 : cvI .u8 (.int .i64 g.Rungs) = some (.int .u8 g.Rungs) := by simp only [cvI]; rw [w8 (by have := ok.r1; have := ok.r2; omega)]
  have w3 : cvI .u8 (.int .i64 g.Partial) = some (.int .u8 g.Partial) := by simp only [cvI]; rw [w8 (by have := ok.t1; have := ok.t2; omega)]
  have hgl : g.L.length = 7 := rfl
  have ht : List.take 7 g.L = g.L := rfl
  have hgd : g.L = [.int .i64 g.Planes, .int .i64 g.Blocks, .int .i64 g.Pages, .int .i64 g.Chunks, .int .i64 g.Chunk, .int .i64 g.Rungs, .int .i64 g.Partial] := rfl
  apply F45.ca
  unfold F45
  refine rr1 @hgl ?_
  rw [ht]
  generalize hH1 : AHeap.push H _ = H1
  have e1 : Ext H H1 := hH1 ▸ by exact fa
  have n1 := e1.n
  have y : At H1 H.n (.cells 7 g.L) := hH1 ▸ At.push
  clear hH1
  have yl := y.l
  have nO : ∀ h ∈ O, h ≠ H.n := fun h hh => by have := a.al h hh; omega
  refine geom_Check (fun _ H2 e2 => ?_) (fun h => absurd ok h)
  have e12 := e1.ext e2
  have n2 := e2.n
  have y2 := y.ext e2
  have a2 := a.ext e12
  obtain ⟨f1, f2, f3, f4⟩ := idP_facts (s := s) okp hb
  refine rr0 ?_
  refine ident_ID a2 hbs rg (by omega) hoff hb (by omega) (fun v H3 O3 t3 gv => ?_)
  have y3 := y2.fr t3.fr (fun h => nO _ h rfl)
  have yg3 := y3.g
  have n3 := t3.fr.n
  have t03 := WTo.of e12 t3
  by_cases h0 : (idP p s).2.2.1 = 0
  · obtain ⟨c1, c2, c3, c4⟩ := f2 h0
    obtain ⟨gv1, gv2⟩ := gv h0
    rw [h0]
    rw [hgd] at yg3
    refine rr5 @yg3 @w1 @w2 @w3 @b26_5 ?_
    refine bytes_Equal gv1.sl (m := idL g) (n' := 5) (Sl.lit rfl rfl) (by rw [c4]; exact idL_small okp) (idL_small ok) ?_
    by_cases he : (idP p s).2.2.2 = idL g
    · rw [decide_eq_true he]
      have rg3 := idP_rng okp hbs rg (by omega) hb h0
      refine rr0 ?_
      refine ident_Parameters (n := n) t3.at_ hbs rg3 (by omega) (by rw [c2]; exact hoff) c1 (by simp; omega) hn (fun H4 O4 t4 => ?_)
      have t24 := t3.trans t4
      rw [List.append_assoc] at t24
      have t04 := WTo.of e12 t24
      have y4 := y2.fr t24.fr (fun h => nO _ h rfl)
      have yg4 := y4.g
      by_cases hp0 : (parP p n (idP p s).1).2.2 = 0
      · have hk : chkP p g n s = ((parP p n (idP p s).1).1, (idP p s).2.1 ++ (parP p n (idP p s).1).2.1, if p.g = g then 0 else 23) := by
          unfold chkP; rw [if_pos h0, if_pos he, if_pos hp0]
        rw [hk] at k
        rw [hp0]
        have hpl : p.g.L.length = 7 := rfl
        have hst : ∀ H5 : AHeap, stA 7 (H5.push (.cells 7 [.int .i64 0, .int .i64 0, .int .i64 0, .int .i64 0, .int .i64 0, .int .i64 0, .int .i64 0])) (.ptr H5.n 0) (.agg p.g.L) = some ((H5.push (.cells 7 [.int .i64 0, .int .i64 0, .int .i64 0, .int .i64 0, .int .i64 0, .int .i64 0, .int .i64 0])).set H5.n (.cells 7 p.g.L)) := by
          intro H5
          rw [stA_p, get_push_c, stB_c, if_pos ⟨rfl, by simp, rfl⟩]; rfl
        have htp : List.take 7 p.g.L = p.g.L := rfl
        refine rr2 @hst @htp ?_
        generalize hH5 : AHeap.set (AHeap.push H4 _) H4.n _ = H5
        have e5 : Ext H4 H5 := hH5 ▸ by exact fa
        have z5 : ldG 7 H5 (.ptr H4.n 0) = some (.agg p.g.L) := by rw [← hH5, ldG_p, get_set_c]; rfl
        have y5 : ldG 7 H5 (.ptr H.n 0) = some (.agg g.L) := by rw [ldG_p, (y4.ext e5).g]; rfl
        clear hH5
        refine rr4 @z5 @y5 @htp @ht ?_
        by_cases hg : p.g = g
        · rw [if_pos hg] at k
          have hd : aBin Tryz.prog .neq 23 (.agg p.g.L) (.agg g.L) = some (.bool false) := by rw [neq23, decide_eq_false (by simp [hg])]
          refine rr1 @hd ?_
          exact k _ _ (t04.ext e5)
        · rw [if_neg hg] at k
          have hd : aBin Tryz.prog .neq 23 (.agg p.g.L) (.agg g.L) = some (.bool true) := by rw [neq23, decide_eq_true hg]
          refine rr1 @hd ?_
          exact k _ _ (t04.ext e5)
      · have hk : chkP p g n s = ((parP p n (idP p s).1).1, (idP p s).2.1 ++ (parP p n (idP p s).1).2.1, (parP p n (idP p s).1).2.2) := by
          unfold chkP; rw [if_pos h0, if_pos he, if_neg hp0]
        rw [hk] at k
        rw [if_neg hp0]
        have hst : ∀ H5 : AHeap, stA 7 (H5.push (.cells 7 [.int .i64 0, .int .i64 0, .int .i64 0, .int .i64 0, .int .i64 0, .int .i64 0, .int .i64 0])) (.ptr H5.n 0) (.agg geo0.L) = some ((H5.push (.cells 7 [.int .i64 0, .int .i64 0, .int .i64 0, .int .i64 0, .int .i64 0, .int .i64 0, .int .i64 0])).set H5.n (.cells 7 geo0.L)) := by
          intro H5
          rw [stA_p, get_push_c, stB_c, if_pos ⟨rfl, by simp, rfl⟩]; rfl
        refine rr2 @hst @hp0 ?_
        exact k _ _ (t04.ext (by exact fa))
    · rw [decide_eq_false he]
      have hk : chkP p g n s = ((idP p s).1, (idP p s).2.1, 23) := by unfold chkP; rw [if_pos h0, if_neg he]
      rw [hk] at k
      refine rr0 ?_
      exact k _ _ t03
  · have hk : chkP p g n s = ((idP p s).1, (idP p s).2.1, (idP p s).2.2.1) := by unfold chkP; rw [if_neg h0]
    rw [hk] at k
    refine rr1 @h0 ?_
    exact k _ _ t03
end
end Go.Proofs.YtdjmoojonkjafaaGreat
