/- Contracts: the judge, second part: a cycle. -/
import Derived.Test.YtdjmoojonkjafaaGreatGp
set_option linter.unusedSimpArgs false
set_option linter.unusedVariables false
set_option maxRecDepth 100000
set_option maxHeartbeats 2000000
namespace Go.Proofs.YtdjmoojonkjafaaGreat
open Go.AM Go.Proofs
attribute [local irreducible] Pu Br Gd Gd2 GdR Nb Cq Pp callF Jn StS StG Still loopW Ca Is

section
variable {H : AHeap} {q : Nat} {g : Geom} {bl : AV} {j j' : JQ} {O : List Nat} {R : AV → AHeap → Prop}

theorem judge_fits (ho : j.op = 1 ∨ j.op = 2) (a : JAt H q g bl j O) (k : R (.bool true) H) : Ca Tryz.prog kp 288 [.ptr q 0] H R := by
  obtain ⟨lv, cs, h1, h2, h3⟩ := a.ex
  have hg := h1.g
  unfold jL at hg
  apply F288.ca
  unfold F288
  rcases ho with ho | ho
  · refine rr1 @hg ?_
    exact k
  · refine rr1 @hg ?_
    exact k

theorem judge_address (ho : j.op = 2 ∨ j.op = 3) (hli : j.listed = 0) (a : JAt H q g bl j O)
    (k2 : j.op = 2 → ∀ H' O', JTo q g bl { j with listed := 1 } H H' O O' → R (.bool true) H')
    (k3 : j.op = 3 → ∀ H' O', JTo q g bl { j with column := 0, data := true, busy := true, op := 1, listed := 0, writes := 0 } H H' O O' → R (.bool true) H') : Ca Tryz.prog kp 239 [.ptr q 0, .int .u8 0] H R := by
  obtain ⟨lv, cs, h1, h2, h3⟩ := a.ex
  obtain ⟨c1, c2⟩ := h2.one
  have hg := h1.g
  have hq := h1.l
  have hln := h2.sl.ln
  rw [hli] at hln h2
  unfold jL at hg
  have b0 : bdL 1 [.int .u8 0] [(0, 1, (.int .u8 0))] = some (.lit [.int .u8 0] 1 true) := by rfl
  apply F239.ca
  unfold F239
  -- what comes behind a byte is listed
  have app : ∀ (H3 : AHeap) (v' : AV), Gro H3 1 v' (0 + 1) (cs ++ [.int .u8 0]) → Fr (fp lv) H H3 → (∀ h ∈ fp v', h ∈ fp lv ∨ H.n ≤ h) →
      ∃ O', JTo q g bl { j with listed := 1 } H (H3.set q (.cells 20 (jL g bl j v'))) O O' ∧ H3.get q = some (.cells 20 (jL g bl j lv)) ∧ q < H3.n ∧ v'.cells = [v'] ∧ scalarA v' = true := by
    intro H3 v' g3 e3 f3
    have n3 := e3.n
    have gq : H3.get q = some (.cells 20 (jL g bl j lv)) := by rw [e3.eq _ hq (fun h => (h3 q h).2 rfl)]; exact h1.g
    have hv : ∀ h ∈ fp v', h ≠ q := by
      intro h hh
      rcases f3 h hh with x | x
      · exact (h3 h x).2
      · omega
    obtain ⟨d1, d2⟩ := g3.one
    refine ⟨q :: fp v', ⟨⟨a.ok, ⟨v', _, ⟨by simp [jL], by simp; omega⟩, g3.fr (F := [q]) (by exact fa) (fun h hh => by simp [hv h hh]), fun h hh => ⟨by simp [hh], hv h hh⟩⟩, a.bl, by simp, ?_⟩, ?_, ?_⟩, gq, by omega, d1, d2⟩
    · intro h hh
      simp at hh ⊢
      rcases hh with rfl | hh
      · omega
      · exact g3.al h hh
    · exact (e3.mono (fun h hh => .inl (h3 h hh).1)).trans (by exact fa : Fr [q] H3 _) (by simp [a.qo])
    · intro h hh
      simp at hh
      rcases hh with rfl | hh
      · exact .inl a.qo
      · rcases f3 h hh with x | x
        · exact .inl (h3 h x).1
        · exact .inr x
  rcases ho with ho | ho
  · refine rr3 @hg @hln @b0 ?_
    refine X_app ap26 (k := 1) (xs := [.int .u8 0]) h2 (Sl.lit rfl rfl) (by omega) (fun v' H3 g3 e3 f3 _ => ?_)
    obtain ⟨O', t, gq, lq, d1, d2⟩ := app H3 v' g3 e3 f3
    unfold jL at gq
    rw [ho] at gq
    refine rr3 @gq @d1 @d2 ?_
    have hj : jL g bl j v' = [.int .i64 g.Planes, .int .i64 g.Blocks, .int .i64 g.Pages, .int .i64 g.Chunks, .int .i64 g.Chunk, .int .i64 g.Rungs, .int .i64 g.Partial,
      bl, .int .i64 2, v', .int .i64 j.writes, .bool j.polls, .bool j.busy, .bool false, .int .i64 0, .int .i64 j.column, .bool j.data, .nils, .nils, .nils] := by unfold jL; rw [ho]
    rw [hj] at t
    refine judge_fits (j := { j with listed := 1 }) (.inr ho) t.at_ ?_
    exact k2 ho _ _ t
  · refine rr3 @hg @hln @b0 ?_
    refine X_app ap26 (k := 1) (xs := [.int .u8 0]) h2 (Sl.lit rfl rfl) (by omega) (fun v' H3 g3 e3 f3 _ => ?_)
    obtain ⟨O', t, gq, lq, d1, d2⟩ := app H3 v' g3 e3 f3
    unfold jL at gq
    rw [ho] at gq
    have hj : jL g bl j v' = [.int .i64 g.Planes, .int .i64 g.Blocks, .int .i64 g.Pages, .int .i64 g.Chunks, .int .i64 g.Chunk, .int .i64 g.Rungs, .int .i64 g.Partial,
      bl, .int .i64 3, v', .int .i64 j.writes, .bool j.polls, .bool j.busy, .bool false, .int .i64 0, .int .i64 j.column, .bool j.data, .nils, .nils, .nils] := by unfold jL; rw [ho]
    rw [hj] at t
    generalize hH4 : AHeap.set H3 q _ = H4 at t
    have g4 : H4.get q = some (.cells 20 (jL g bl j v')) := by rw [← hH4, hj]; simp
    have l4 : q < H4.n := by rw [← hH4]; simp; omega
    unfold jL at g4
    rw [ho] at g4
    have st : stA 1 H3 (.ptr q 9) v' = some H4 := by
      rw [← hH4, stA_p, gq, stB_c]
      rw [if_pos ⟨by rw [d1]; rfl, by simp, by rw [d1]; simp [d2]⟩, d1]
      simp [putCells]
    clear hH4
    refine rr3 @gq @st @g4 ?_
    generalize hH5 : AHeap.set (AHeap.set H4 q _) q _ = H5
    have e5 : Fr [q] H4 H5 := hH5 ▸ by exact fa
    have a5 : JAt H5 q g bl { j with listed := 1, column := 0, data := true } O' := by
      obtain ⟨lv4, cs4, k1, _⟩ := t.at_.ex
      have hlv : lv4 = v' := by have := k1.g; rw [g4] at this; simp [jL] at this; exact this.2.symm
      subst hlv
      exact t.at_.keep k1 e5 (by rw [← hH5]; simp [jL, ho]) rfl
    clear hH5
    refine judge_start a5 (fun H6 a6 e6 => ?_)
    refine judge_fits (.inl rfl) a6 ?_
    exact k3 ho _ _ (t.trans (JTo.at1 t.at_ a6 (e5.trans e6 (by simp))))

theorem judge_read (hr : j.op = 2 ∧ j.listed = 1 ∧ 0 ≤ j.writes ∧ j.writes + 1 ≤ 5 ∨ j.op = 5 ∧ j.listed = 0 ∧ j.data = true ∧ 0 ≤ j.column ∧ j.column + 1 ≤ g.raw ∨ j.op = 6 ∧ 0 ≤ j.column ∧ j.column + 1 ≤ g.raw) (a : JAt H q g bl j O)
    (k2 : j.op = 2 → ∀ H', JAt H' q g bl { j with writes := j.writes + 1 } O → Fr [q] H H' → R (.bool true) H')
    (k5 : j.op = 5 ∨ j.op = 6 → ∀ H', JAt H' q g bl { j with op := 6, column := j.column + 1 } O → Fr [q] H H' → R (.bool true) H') : Ca Tryz.prog kp 241 [.ptr q 0] H R := by
  obtain ⟨lv, cs, h1, h2, h3⟩ := a.ex
  have hg := h1.g
  have hq := h1.l
  have hln := h2.sl.ln
  have hraw := (parL_len a.ok).2.2
  unfold jL at hg
  have hgl2 : [AV.int IntKind.i64 g.Planes, AV.int IntKind.i64 g.Blocks, AV.int IntKind.i64 g.Pages, AV.int IntKind.i64 g.Chunks, AV.int IntKind.i64 g.Chunk, AV.int IntKind.i64 g.Rungs, AV.int IntKind.i64 g.Partial] = g.L := rfl
  apply F241.ca
  unfold F241
  rcases hr with ⟨ho, hli, hw, hw2⟩ | ⟨ho, hli, hd, hc, hc2⟩ | ⟨ho, hc, hc2⟩
  · rw [hli] at hln
    refine rr2 @hg @hln ?_
    exact k2 ho _ (a.keep h1 (by exact fa) (by simp [jL, ho]) rfl) (by exact fa)
  · rw [hli] at hln
    rw [hd] at hg
    refine rr2 @hg @hln ?_
    generalize hH5 : hUp _ 11 = H5
    have e5 : Fr [q] H H5 := hH5 ▸ by exact fa
    have g5 : H5.get q = some (.cells 20 (jL g bl { j with op := 6, column := j.column + 1 } lv)) := by rw [← hH5]; simp [jL, hd]
    have l5 : q < H5.n := by have := e5.n; omega
    clear hH5
    have a5 : JAt H5 q g bl { j with op := 6, column := j.column + 1 } O := a.keep h1 e5 g5 rfl
    unfold jL at g5
    refine rr1 @g5 ?_
    rw [hgl2]
    refine geom_Raw a.ok (fun H6 e6 => ?_)
    have g6 : H6.get q = some (.cells 20 (jL g bl { j with op := 6, column := j.column + 1 } lv)) := by rw [e6.eq _ l5 (by simp)]; unfold jL; exact g5
    unfold jL at g6
    have hgt : List.take 7 g.L = g.L := rfl
    refine rr4 @g5 @g6 @hgl2 @hgt ?_
    exact k5 (.inl ho) _ (a5.ext e6) (e5.ext e6)
  · refine rr2 @hg @hln ?_
    generalize hH5 : hUp _ 11 = H5
    have e5 : Fr [q] H H5 := hH5 ▸ by exact fa
    have g5 : H5.get q = some (.cells 20 (jL g bl { j with op := 6, column := j.column + 1 } lv)) := by rw [← hH5]; simp [jL, ho]
    have l5 : q < H5.n := by have := e5.n; omega
    clear hH5
    have a5 : JAt H5 q g bl { j with op := 6, column := j.column + 1 } O := a.keep h1 e5 g5 rfl
    unfold jL at g5
    refine rr1 @g5 ?_
    rw [hgl2]
    refine geom_Raw a.ok (fun H6 e6 => ?_)
    have g6 : H6.get q = some (.cells 20 (jL g bl { j with op := 6, column := j.column + 1 } lv)) := by rw [e6.eq _ l5 (by simp)]; unfold jL; exact g5
    unfold jL at g6
    have hgt : List.take 7 g.L = g.L := rfl
    refine rr4 @g5 @g6 @hgl2 @hgt ?_
    exact k5 (.inr ho) _ (a5.ext e6) (e5.ext e6)

/-- what a cycle does to a judge; within what is sent to find out a chip's name -/
def JQ.step (g : Geom) (j : JQ) (kd b : Int) : Option JQ :=
  if kd = 1 then
    if b = 255 then some { j with polls := false, busy := true, data := false, listed := 0, writes := 0, op := 1 }
    else if j.op = 0 then none
    else if b = 112 then some (if j.busy then { j with polls := true } else { j with polls := true, op := 1, listed := 0, writes := 0 })
    else if j.busy = false ∧ (j.op = 1 ∨ j.op = 6 ∨ j.op = 2 ∧ j.listed = 1) then
      if b = 144 then some { j with polls := false, op := 2, data := false, listed := 0, writes := 0 }
      else if b = 236 then some { j with polls := false, op := 3, data := false, listed := 0, writes := 0 }
      else if b = 0 then some { j with polls := false, op := 5, listed := 0, writes := 0 }
      else none
    else none
  else if kd = 2 then
    if j.busy = false ∧ b = 0 ∧ j.listed = 0 then
      if j.op = 2 then some { j with polls := false, listed := 1 }
      else if j.op = 3 then some { j with polls := false, column := 0, data := true, busy := true, op := 1, listed := 0, writes := 0 }
      else none
    else none
  else if kd = 4 then
    if j.op = 0 then none
    else if j.polls then
      if b = 128 then some j else if b = 224 then some { j with busy := false } else none
    else if j.busy then none
    else if j.op = 2 ∧ j.listed = 1 ∧ 0 ≤ j.writes ∧ j.writes + 1 ≤ 5 then some { j with writes := j.writes + 1 }
    else if j.op = 5 ∧ j.listed = 0 ∧ j.data = true ∧ 0 ≤ j.column ∧ j.column + 1 ≤ g.raw ∨ j.op = 6 ∧ 0 ≤ j.column ∧ j.column + 1 ≤ g.raw then some { j with op := 6, column := j.column + 1 }
    else none
  else none

theorem judge_see {kd b : Int} (a : JAt H q g bl j O) (hs : j.step g kd b = some j') (k : ∀ H' O', JTo q g bl j' H H' O O' → R (.bool true) H') : Ca Tryz.prog kp 164 [.ptr q 0, .agg [.int .i64 kd, .int .u8 b]] H R := by
  obtain ⟨lv, cs, h1, h2, h3⟩ := a.ex
  have hg := h1.g
  have hq := h1.l
  unfold jL at hg
  apply F164.ca
  unfold F164
  refine rr1 @hg ?_
  generalize hH1 : AHeap.push H _ = H1
  have e1 : Ext H H1 := hH1 ▸ by exact fa
  have n1 := e1.n
  have y : At H1 H.n (.cells 2 [.int .i64 kd, .int .u8 b]) := hH1 ▸ At.push
  clear hH1
  have h11 := h1.ext e1
  have g1 := h11.g
  have l1 := h11.l
  have yg := y.g
  have yl := y.l
  unfold jL at g1
  -- behind the note whether polls may come
  have mid : ∀ (pl : Bool), ∃ H2, H2 = H1.set q (.cells 20 (jL g bl { j with polls := pl } lv)) ∧ JAt H2 q g bl { j with polls := pl } O ∧ Fr [q] H H2 ∧ H2.get H.n = some (.cells 2 [.int .i64 kd, .int .u8 b]) ∧ H2.get q = some (.cells 20 (jL g bl { j with polls := pl } lv)) := by
    intro pl
    have f : Fr [q] H1 (H1.set q (.cells 20 (jL g bl { j with polls := pl } lv))) := by exact fa
    refine ⟨_, rfl, (a.ext e1).keep h11 f (by simp) rfl, (e1.mono (by simp)).trans f (by simp), ?_, by simp⟩
    simp (disch := (first | assumption | omega | (simp <;> omega) | fail)) [SW, SA, SV, if_pos, if_neg, dec_t, dec_f, yg]
  unfold JQ.step at hs
  split at hs
  · rename_i hk; subst hk
    split at hs
    · rename_i hb; subst hb
      cases hs
      obtain ⟨H2, hH2, a2, f2, y2, g2⟩ := mid false
      simp only [jL] at hH2 g2
      have go : Ca Tryz.prog kp 234 [.ptr q 0] H2 fun t39 H_3 => Ca Tryz.prog kp 235 [.ptr q 0] H_3 fun t41 H_4 => R (.bool true) H_4 := by
        refine judge_drop a2 (fun H3 a3 e3 => ?_)
        refine judge_start a3 (fun H4 a4 e4 => ?_)
        exact k _ O (JTo.at1 a a4 ((f2.trans e3 (by simp)).trans e4 (by simp)))
      cases hp : j.polls <;> rw [hp] at g1 <;> (refine rr2 @yg @g1 ?_) <;> (rw [← hH2]; exact go)
    · rename_i hb255
      split at hs
      · cases hs
      rename_i h0
      split at hs
      · rename_i hb; subst hb
        cases hs
        obtain ⟨H2, hH2, a2, f2, y2, g2⟩ := mid true
        simp only [jL] at hH2 g2
        cases hp : j.polls <;> rw [hp] at g1 <;> (refine rr3 @yg @g1 @h0 ?_) <;> rw [← hH2]
        all_goals
          cases hz : j.busy
          · rw [hz] at g2
            refine rr3 @g2 @h0 @y2 ?_
            refine judge_left a2 (fun H3 a3 e3 => ?_)
            exact k _ O (JTo.at1 a (by simpa [hz] using a3) (f2.trans e3 (by simp)))
          · rw [hz] at g2
            refine rr3 @g2 @h0 @y2 ?_
            exact k _ O (JTo.at1 a (by simpa [hz] using a2) f2)
      · rename_i hb112
        split at hs
        · rename_i hc
          obtain ⟨hz, ho⟩ := hc
          obtain ⟨H2, hH2, a2, f2, y2, g2⟩ := mid false
          simp only [jL] at hH2 g2
          rw [hz] at g2
          have com : ∀ (st : Int) (dt : Bool), (b = 144 ∧ st = 2 ∧ dt = false ∨ b = 236 ∧ st = 3 ∧ dt = false ∨ b = 0 ∧ st = 5 ∧ dt = j.data) → some { j with polls := false, op := st, data := dt, listed := 0, writes := 0 } = some j' → Ca Tryz.prog kp 238 [.ptr q 0, .int .u8 b] H2 R := by
            intro st dt hst h
            cases h
            exact judge_command (j := { j with polls := false }) ho hst a2 fun H3 a3 e3 => k _ O (JTo.at1 a a3 (f2.trans e3 (by simp)))
          have go : Ca Tryz.prog kp 238 [.ptr q 0, .int .u8 b] H2 R := by
            split at hs
            · rename_i hq1; exact com 2 false (.inl ⟨hq1, rfl, rfl⟩) hs
            · split at hs
              · rename_i hq1; exact com 3 false (.inr (.inl ⟨hq1, rfl, rfl⟩)) hs
              · split at hs
                · rename_i hq1; exact com 5 j.data (.inr (.inr ⟨hq1, rfl, rfl⟩)) hs
                · cases hs
          cases hp : j.polls <;> rw [hp] at g1 <;> (refine rr3 @yg @g1 @h0 ?_) <;> rw [← hH2] <;> (refine rr3 @g2 @h0 @y2 ?_) <;> exact go
        · cases hs
  · split at hs
    · rename_i hk; subst hk
      split at hs
      · rename_i hc
        obtain ⟨hz, rfl, hli⟩ := hc
        obtain ⟨H2, hH2, a2, f2, y2, g2⟩ := mid false
        simp only [jL] at hH2 g2
        rw [hz] at g2
        have h0 : ¬ j.op = 0 := by
          intro h; rw [h] at hs; simp at hs
        have go : Ca Tryz.prog kp 239 [.ptr q 0, .int .u8 0] H2 R := by
          have fin : ∀ (j2 : JQ), some j2 = some j' → ∀ H3 O3, JTo q g bl j2 H2 H3 O O3 → R (.bool true) H3 := by
            intro j2 h H3 O3 t3
            cases h
            exact k _ O3 ((JTo.at1 a a2 f2).trans t3)
          split at hs
          · rename_i h2
            exact judge_address (j := { j with polls := false }) (.inl h2) hli a2 (fun _ => fin _ hs) (fun h => by have : j.op = 3 := h; omega)
          · split at hs
            · rename_i h3
              exact judge_address (j := { j with polls := false }) (.inr h3) hli a2 (fun h => by have : j.op = 2 := h; omega) (fun _ => fin _ hs)
            · cases hs
        cases hp : j.polls <;> rw [hp] at g1 <;> (refine rr3 @yg @g1 @h0 ?_) <;> rw [← hH2] <;> (refine rr3 @g2 @h0 @y2 ?_) <;> exact go
      · cases hs
    · split at hs
      · rename_i hk; subst hk
        split at hs
        · cases hs
        rename_i h0
        split at hs
        · rename_i hp
          obtain ⟨H2, hH2, a2, f2, y2, g2⟩ := mid true
          simp only [jL] at hH2 g2
          rw [hp] at g1
          split at hs
          · rename_i hb; subst hb
            cases hs
            refine rr3 @yg @g1 @h0 ?_
            rw [← hH2]
            refine rr3 @g2 @h0 @y2 ?_
            refine judge_poll128 a2 ?_
            exact k _ O (JTo.at1 a (by rw [← hp] at a2; exact a2) f2)
          · split at hs
            · rename_i hb; subst hb
              cases hs
              refine rr3 @yg @g1 @h0 ?_
              rw [← hH2]
              refine rr3 @g2 @h0 @y2 ?_
              refine judge_poll224 a2 (fun H3 a3 e3 => ?_)
              exact k _ O (JTo.at1 a (by rw [← hp] at a3; exact a3) (f2.trans e3 (by simp)))
            · cases hs
        · rename_i hp
          have hp : j.polls = false := by simpa using hp
          split at hs
          · cases hs
          rename_i hz
          have hz : j.busy = false := by simpa using hz
          obtain ⟨H2, hH2, a2, f2, y2, g2⟩ := mid false
          have a2' : JAt H2 q g bl j O := by rw [← hp] at a2; exact a2
          simp only [jL] at hH2 g2
          rw [hp] at g1
          rw [hz] at g2
          have go : Ca Tryz.prog kp 241 [.ptr q 0] H2 R := by
            have fin : ∀ (j2 : JQ), some j2 = some j' → ∀ H3, JAt H3 q g bl j2 O → Fr [q] H2 H3 → R (.bool true) H3 := by
              intro j2 h H3 a3 e3
              cases h
              exact k _ O (JTo.at1 a a3 (f2.trans e3 (by simp)))
            split at hs
            · rename_i hr
              exact judge_read (.inl hr) a2' (fun _ => fin _ hs) (fun h => by omega)
            · split at hs
              · rename_i hr
                refine judge_read (.inr hr) a2' (fun h => by omega) (fun _ => fin _ hs)
              · cases hs
          refine rr3 @yg @g1 @h0 ?_
          rw [← hH2]
          refine rr3 @g2 @h0 @y2 ?_
          exact go
      · cases hs
end
end Go.Proofs.YtdjmoojonkjafaaGreat
