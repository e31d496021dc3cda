/- Plain laws: what is sent to find out a chip's name is legal, and how it ends. -/
import Derived.Test.YtdjmoojonkjafaaGreatGv
set_option linter.unusedSimpArgs false
set_option linter.unusedVariables false
set_option maxRecDepth 100000
set_option maxHeartbeats 2000000
namespace Go.Proofs.YtdjmoojonkjafaaGreat
open Go.AM Go.Proofs
attribute [local irreducible] Pu Br Gd Gd2 GdR Nb Cq Pp callF Jn StS StG Still loopW Ca Is

theorem jrun_append {g : Geom} : ∀ {a b : List (Int × Int)} {j : JQ}, jrun g j (a ++ b) = (jrun g j a).bind fun j' => jrun g j' b
  | [], b, j => rfl
  | c :: a, b, j => by
    simp only [List.cons_append, jrun]
    split
    · exact jrun_append
    · rfl

/-- a judge that takes a new order -/
def JR (j : JQ) : Prop := j.busy = false ∧ (j.op = 1 ∨ j.op = 6 ∨ j.op = 2 ∧ j.listed = 1)

theorem jrun_polls {g : Geom} {p : ChP} : ∀ {n : Nat} {s : ChQ} {j : JQ}, j.polls = true → j.op ≠ 0 → ∃ j', jrun g j (rd (pollP p n s).2.1) = some j' ∧ ((pollP p n s).2.2 = 0 → j' = { j with busy := false })
  | 0, s, j, hp, ho => ⟨j, rfl, by simp [pollP]⟩
  | n + 1, s, j, hp, ho => by
    simp only [pollP]
    split
    · exact ⟨j, rfl, by simp⟩
    split
    · obtain ⟨j', h1, h2⟩ := jrun_polls (g := g) (p := p) (n := n) (s := s.tick { s with busy := s.busy - 1 }) hp ho
      refine ⟨j', ?_, h2⟩
      have hs : j.step g 4 128 = some j := by simp [JQ.step, ho, hp]
      simp only [rd, List.map_cons, jrun, hs]
      exact h1
    · refine ⟨{ j with busy := false }, ?_, fun _ => rfl⟩
      have hs : j.step g 4 224 = some { j with busy := false } := by simp [JQ.step, ho, hp]
      simp [rd, jrun, hs]

theorem jrun_wait {g : Geom} {p : ChP} {n : Nat} {s : ChQ} {j : JQ} (ho : j.op ≠ 0) (hb : j.busy = true) : ∃ j', jrun g j (waitP p n s).2.1 = some j' ∧ ((waitP p n s).2.2 = 0 → j' = { j with polls := true, busy := false }) := by
  unfold waitP
  split
  · exact ⟨j, rfl, by simp⟩
  · have hs : j.step g 1 112 = some { j with polls := true } := by simp [JQ.step, ho, hb]
    obtain ⟨j', h1, h2⟩ := jrun_polls (g := g) (p := p) (n := n) (s := s.tick { s with state := 1 }) (j := { j with polls := true }) rfl ho
    refine ⟨j', ?_, fun h => h2 h⟩
    simp only [jrun, hs]
    exact h1

theorem jrun_reset {g : Geom} {p : ChP} {n : Nat} {s : ChQ} {j : JQ} : ∃ j', jrun g j (resetP p n s).2.1 = some j' ∧ ((resetP p n s).2.2 = 0 → JR j') := by
  unfold resetP
  split
  · exact ⟨j, rfl, by simp⟩
  · have hs : j.step g 1 255 = some { j with polls := false, busy := true, data := false, listed := 0, writes := 0, op := 1 } := by simp [JQ.step]
    obtain ⟨j', h1, h2⟩ := jrun_wait (g := g) (p := p) (n := n) (s := s.tick { s with busy := nextB p s, asked := s.asked + 1, state := 0 }) (j := { j with polls := false, busy := true, data := false, listed := 0, writes := 0, op := 1 }) (by simp) rfl
    refine ⟨j', ?_, fun h => ?_⟩
    · simp only [jrun, hs]; exact h1
    · rw [h2 h]; exact ⟨rfl, .inl rfl⟩

theorem jrun_told {g : Geom} : ∀ {bs : List Int} {j : JQ}, j.op = 2 → j.listed = 1 → j.polls = false → j.busy = false → 0 ≤ j.writes → j.writes + bs.length ≤ 5 → ∃ j', jrun g j (rd bs) = some j' ∧ JR j'
  | [], j, h1, h2, h3, h4, h5, h6 => ⟨j, rfl, h4, .inr (.inr ⟨h1, h2⟩)⟩
  | b :: bs, j, h1, h2, h3, h4, h5, h6 => by
    simp at h6
    have hs : j.step g 4 b = some { j with writes := j.writes + 1 } := by
      unfold JQ.step
      rw [if_neg (by omega), if_neg (by omega), if_pos rfl, if_neg (by omega), h3, h4, if_neg (by simp), if_neg (by simp), if_pos ⟨h1, h2, h5, by omega⟩]
    obtain ⟨j', q1, q2⟩ := jrun_told (g := g) (bs := bs) (j := { j with writes := j.writes + 1 }) h1 h2 h3 h4 (by show 0 ≤ j.writes + 1; omega) (by show j.writes + 1 + bs.length ≤ 5; omega)
    exact ⟨j', by simp only [rd, List.map_cons, jrun, hs]; exact q1, q2⟩

theorem jrun_out {g : Geom} : ∀ {bs : List Int} {j : JQ}, (j.op = 5 ∧ j.listed = 0 ∧ j.data = true ∨ j.op = 6) → j.polls = false → j.busy = false → 0 ≤ j.column → j.column + bs.length ≤ g.raw → ∃ j', jrun g j (rd bs) = some j' ∧ (bs ≠ [] → JR j')
  | [], j, h1, h3, h4, h5, h6 => ⟨j, rfl, by simp⟩
  | b :: bs, j, h1, h3, h4, h5, h6 => by
    simp at h6
    have hs : j.step g 4 b = some { j with op := 6, column := j.column + 1 } := by
      unfold JQ.step
      rw [if_neg (by omega), if_neg (by omega), if_pos rfl, if_neg (by rcases h1 with h | h <;> omega), h3, h4, if_neg (by simp), if_neg (by simp), if_neg (by rcases h1 with h | h <;> omega), if_pos]
      · rcases h1 with ⟨h, h', h''⟩ | h
        · exact .inl ⟨h, h', h'', h5, by omega⟩
        · exact .inr ⟨h, h5, by omega⟩
    obtain ⟨j', q1, q2⟩ := jrun_out (g := g) (bs := bs) (j := { j with op := 6, column := j.column + 1 }) (.inr rfl) h3 h4 (by show 0 ≤ j.column + 1; omega) (by show j.column + 1 + bs.length ≤ g.raw; omega)
    refine ⟨j', by simp only [rd, List.map_cons, jrun, hs]; exact q1, fun _ => ?_⟩
    cases bs with
    | nil => simp [rd, jrun] at q1; subst q1; exact ⟨h4, .inr (.inl rfl)⟩
    | cons c cs => exact q2 (by simp)

theorem step_144 {g : Geom} {j : JQ} (h : JR j) : j.step g 1 144 = some { j with polls := false, op := 2, data := false, listed := 0, writes := 0 } := by
  obtain ⟨hb, ho⟩ := h
  unfold JQ.step
  rw [if_pos rfl, if_neg (by omega), if_neg (by rcases ho with h | h | h <;> omega), if_neg (by omega), if_pos ⟨hb, ho⟩, if_pos rfl]
theorem step_236 {g : Geom} {j : JQ} (h : JR j) : j.step g 1 236 = some { j with polls := false, op := 3, data := false, listed := 0, writes := 0 } := by
  obtain ⟨hb, ho⟩ := h
  unfold JQ.step
  rw [if_pos rfl, if_neg (by omega), if_neg (by rcases ho with h | h | h <;> omega), if_neg (by omega), if_pos ⟨hb, ho⟩, if_neg (by omega), if_pos rfl]
theorem step_0 {g : Geom} {j : JQ} (h : JR j) : j.step g 1 0 = some { j with polls := false, op := 5, listed := 0, writes := 0 } := by
  obtain ⟨hb, ho⟩ := h
  unfold JQ.step
  rw [if_pos rfl, if_neg (by omega), if_neg (by rcases ho with h | h | h <;> omega), if_neg (by omega), if_pos ⟨hb, ho⟩, if_neg (by omega), if_neg (by omega), if_pos rfl]

section
variable {g : Geom} {p : ChP} {n : Nat} {s : ChQ} {j : JQ}

theorem askP_cases {c : Int} : askP p c s = (s.dead, [], 20) ∨ askP p c s = ((s.tick { s with state := if c = 144 then 2 else 4 }).dead, [(1, c)], 20) ∨ askP p c s = (askS p c s, [(1, c), (2, 0)], 0) := by
  unfold askP
  split
  · exact .inl rfl
  split
  · exact .inr (.inl rfl)
  · exact .inr (.inr rfl)

theorem jrun_id (hb : s.busy = 0) (h : JR j) : ∃ j', jrun g j (idP p s).2.1 = some j' ∧ ((idP p s).2.2.1 = 0 → JR j') := by
  have st := step_144 (g := g) h
  have st2 : JQ.step g { j with polls := false, op := 2, data := false, listed := 0, writes := 0 } 2 0 = some { j with polls := false, op := 2, data := false, listed := 1, writes := 0 } := by
    simp [JQ.step, h.1]
  rcases askP_cases (p := p) (c := 144) (s := s) with hp | hp | hp
  · have hid : idP p s = (s.dead, [], 20, []) := by unfold idP; rw [hp]; rfl
    rw [hid]; exact ⟨j, rfl, by simp⟩
  · have hid : idP p s = ((s.tick { s with state := if (144 : Int) = 144 then 2 else 4 }).dead, [(1, 144)], 20, []) := by unfold idP; rw [hp]; rfl
    rw [hid]; exact ⟨{ j with polls := false, op := 2, data := false, listed := 0, writes := 0 }, by simp only [jrun, st], by simp⟩
  · obtain ⟨sf, bs, q1, q2, q3, q4⟩ := readP_told (p := p) (n := 5) (s := askS p 144 s) (by simp [askS, ChQ.tick, hb]) (by simp [askS, ChQ.tick]) (by simp [askS, ChQ.tick])
    have hid : idP p s = (sf, [(1, 144), (2, 0)] ++ rd bs, if bs.length = 5 then 0 else 20, bs) := by
      unfold idP; rw [hp, if_pos rfl, q1]; rfl
    rw [hid]
    have hle := readP_le q1
    obtain ⟨j', r1, r2⟩ := jrun_told (g := g) (bs := bs) (j := { j with polls := false, op := 2, data := false, listed := 1, writes := 0 }) rfl rfl rfl h.1 (by simp) (by show (0 : Int) + bs.length ≤ 5; omega)
    refine ⟨j', ?_, fun _ => r2⟩
    show jrun g j ((1, 144) :: (2, 0) :: rd bs) = some j'
    simp only [jrun, st, st2]
    exact r1

theorem jrun_par (ok : g.Ok) (hn : 1 ≤ n) (hb : s.busy = 0) (h : JR j) : ∃ j', jrun g j (parP p n s).2.1 = some j' ∧ ((parP p n s).2.2 = 0 → JR j') := by
  have st := step_236 (g := g) h
  have st2 : JQ.step g { j with polls := false, op := 3, data := false, listed := 0, writes := 0 } 2 0 = some { j with polls := false, op := 1, data := true, busy := true, column := 0, listed := 0, writes := 0 } := by
    simp [JQ.step, h.1]
  rcases askP_cases (p := p) (c := 236) (s := s) with hp | hp | hp
  · have hpp : parP p n s = (s.dead, [], 20) := by unfold parP; rw [hp]; rfl
    rw [hpp]; exact ⟨j, rfl, by simp⟩
  · have hpp : parP p n s = ((s.tick { s with state := if (236 : Int) = 144 then 2 else 4 }).dead, [(1, 236)], 20) := by unfold parP; rw [hp]; rfl
    rw [hpp]; exact ⟨{ j with polls := false, op := 3, data := false, listed := 0, writes := 0 }, by simp only [jrun, st], by simp⟩
  · obtain ⟨j1, w1, w2⟩ := jrun_wait (g := g) (p := p) (n := n) (s := askS p 236 s) (j := { j with polls := false, op := 1, data := true, busy := true, column := 0, listed := 0, writes := 0 }) (by simp) rfl
    have base : jrun g j ([(1, 236), (2, 0)] ++ (waitP p n (askS p 236 s)).2.1) = some j1 := by
      show jrun g j ((1, 236) :: (2, 0) :: (waitP p n (askS p 236 s)).2.1) = some j1
      simp only [jrun, st, st2]
      exact w1
    by_cases h3 : (waitP p n (askS p 236 s)).2.2 = 0
    · have hj1 := w2 h3
      by_cases hc : (waitP p n (askS p 236 s)).1.cut = 0
      · have hpp : parP p n s = ((waitP p n (askS p 236 s)).1.dead, [(1, 236), (2, 0)] ++ (waitP p n (askS p 236 s)).2.1, 20) := by
          unfold parP; rw [hp, if_pos rfl, if_pos h3, if_pos hc]
        rw [hpp]; exact ⟨j1, base, by simp⟩
      · have hpp : ∃ sf bs, parP p n s = (sf, [(1, 236), (2, 0)] ++ (waitP p n (askS p 236 s)).2.1 ++ [(1, 0)] ++ rd bs, if bs.length = 14 then 0 else 20) ∧ bs.length ≤ 14 := by
          refine ⟨_, ((readP p 14 ((waitP p n (askS p 236 s)).1.tick { (waitP p n (askS p 236 s)).1 with state := 5 })).getD (s, [])).2, by unfold parP; rw [hp, if_pos rfl, if_pos h3, if_neg hc], ?_⟩
          cases hx : readP p 14 ((waitP p n (askS p 236 s)).1.tick { (waitP p n (askS p 236 s)).1 with state := 5 }) with
          | none => simp
          | some y => exact readP_le (s := (waitP p n (askS p 236 s)).1.tick { (waitP p n (askS p 236 s)).1 with state := 5 }) (sf := y.1) hx
        obtain ⟨sf, bs, hpp, hle⟩ := hpp
        rw [hpp]
        have jr1 : JR j1 := by rw [hj1]; exact ⟨rfl, .inl rfl⟩
        have st3 := step_0 (g := g) jr1
        have hraw := (parL_len ok).2.1
        obtain ⟨j', r1, r2⟩ := jrun_out (g := g) (bs := bs) (j := { j1 with polls := false, op := 5, listed := 0, writes := 0 }) (.inl ⟨rfl, rfl, by rw [hj1]⟩) rfl jr1.1 (by rw [hj1]; simp) (by rw [hj1]; show (0 : Int) + bs.length ≤ g.raw; omega)
        refine ⟨j', ?_, fun he => r2 (fun hn => ?_)⟩
        · rw [jrun_append, jrun_append, base]
          simp only [Option.bind_some, jrun, st3]
          exact r1
        · subst hn; simp at he
    · have hpp : parP p n s = ((waitP p n (askS p 236 s)).1, [(1, 236), (2, 0)] ++ (waitP p n (askS p 236 s)).2.1, (waitP p n (askS p 236 s)).2.2) := by
        unfold parP; rw [hp, if_pos rfl, if_neg h3]
      rw [hpp]; exact ⟨j1, base, fun he => absurd he h3⟩

/-- what asking for parameters leaves -/
structure Pared (p : ChP) (n : Nat) (s : ChQ) (f : ChQ × List (Int × Int) × Int) : Prop where
  er : f.2.2 = 0 ∨ f.2.2 = 20 ∨ f.2.2 = 21
  ok : f.2.2 = 0 → f.1.busy = 0 ∧ f.1.off = s.off
  low : s.cut = -1 → (∀ d ∈ p.bs, d < n) → f.2.2 = 0 ∧ f.1.cut = -1
  len : f.2.1.length ≤ n + 18
theorem parP_facts (okp : p.g.Ok) (hbs : ∀ n ∈ p.bs, 0 ≤ n ∧ n ≤ 65536) (hn : 1 ≤ n) (hb : s.busy = 0) : Pared p n s (parP p n s) := by
  have nb := nextB_rng (s := s) hbs
  have hlo : (∀ d ∈ p.bs, d < n) → nextB p s < n := by
    intro h
    unfold nextB
    cases hx : p.bs[s.asked]? with
    | none => simp; omega
    | some d => exact h d (List.mem_of_getElem? hx)
  rcases askP_cases (p := p) (c := 236) (s := s) with hp | hp | hp
  · have hpp : parP p n s = (s.dead, [], 20) := by unfold parP; rw [hp]; rfl
    have h0 : s.cut = 0 ∨ s.cut ≠ 0 := by omega
    rw [hpp]
    refine ⟨by simp, by simp, fun hc => ?_, by simp⟩
    unfold askP at hp
    rw [if_neg (by omega), if_neg (by omega)] at hp
    simp at hp
  · have hpp : parP p n s = ((s.tick { s with state := if (236 : Int) = 144 then 2 else 4 }).dead, [(1, 236)], 20) := by unfold parP; rw [hp]; rfl
    rw [hpp]
    refine ⟨by simp, by simp, fun hc => ?_, by simp⟩
    unfold askP at hp
    rw [if_neg (by omega), if_neg (by omega)] at hp
    simp at hp
  · have wl : ((waitP p n (askS p 236 s)).2.1).length ≤ n + 1 := by
      unfold waitP; split
      · simp
      · simp [rd]; exact pollP_len
    obtain ⟨f1, f2, f3, f4, f5, f6, f7⟩ := pollP_facts (p := p) (n := n) (s := (askS p 236 s).tick { (askS p 236 s) with state := 1 }) (by simp only [askS, ChQ.tick]; exact nb.1)
    have acut : s.cut = -1 → (askS p 236 s).cut = -1 := by intro h; simp [askS, ChQ.tick]; omega
    have abusy : (askS p 236 s).busy = nextB p s := by simp [askS, ChQ.tick]
    have aoff : (askS p 236 s).off = s.off := by simp [askS, ChQ.tick]
    have wlow : s.cut = -1 → (∀ d ∈ p.bs, d < n) → (waitP p n (askS p 236 s)).2.2 = 0 ∧ (waitP p n (askS p 236 s)).1.cut = -1 := by
      intro hc hd
      have h1 := acut hc
      have h2 : ((askS p 236 s).tick { (askS p 236 s) with state := 1 }).cut = -1 := by show max ((askS p 236 s).cut - 1) (-1) = -1; omega
      have h3 := f7 h2 (by show (askS p 236 s).busy < n; rw [abusy]; exact hlo hd)
      unfold waitP
      rw [if_neg (by omega)]
      exact ⟨h3, (f6 h2).1⟩
    by_cases h3 : (waitP p n (askS p 236 s)).2.2 = 0
    · obtain ⟨w1, w2, w3⟩ := waitP_ok h3
      have hs1 : (waitP p n (askS p 236 s)).1 = (pollP p n ((askS p 236 s).tick { (askS p 236 s) with state := 1 })).1 := by rw [w2]
      obtain ⟨g1, g2, g3⟩ := f4 w3
      rw [← hs1] at f1 f2 g1 g2
      by_cases hc : (waitP p n (askS p 236 s)).1.cut = 0
      · have hpp : parP p n s = ((waitP p n (askS p 236 s)).1.dead, [(1, 236), (2, 0)] ++ (waitP p n (askS p 236 s)).2.1, 20) := by
          unfold parP; rw [hp, if_pos rfl, if_pos h3, if_pos hc]
        rw [hpp]
        refine ⟨by simp, by simp, fun h1 h2 => ?_, by simp; omega⟩
        have := (wlow h1 h2).2
        omega
      · obtain ⟨sf, bs, q1, q2, q3, q4⟩ := readP_told (p := p) (n := 14) (s := (waitP p n (askS p 236 s)).1.tick { (waitP p n (askS p 236 s)).1 with state := 5 }) g1 (.inr (.inl rfl)) (by show 0 ≤ (waitP p n (askS p 236 s)).1.column; rw [f2]; simp [askS, ChQ.tick])
        have hpp : parP p n s = (sf, [(1, 236), (2, 0)] ++ (waitP p n (askS p 236 s)).2.1 ++ [(1, 0)] ++ rd bs, if bs.length = 14 then 0 else 20) := by
          unfold parP; rw [hp, if_pos rfl, if_pos h3, if_neg hc, q1]; rfl
        rw [hpp]
        have hle := readP_le q1
        refine ⟨by dsimp only; split <;> simp, fun he => ?_, fun h1 h2 => ?_, by simp [rd]; omega⟩
        · have hl : bs.length = 14 := by
            by_cases h : bs.length = 14
            · exact h
            · dsimp only at he; rw [if_neg h] at he; simp at he
          obtain ⟨a1, a2, a3, a4⟩ := q3 hl
          exact ⟨a1, by rw [a2]; show (waitP p n (askS p 236 s)).1.off = s.off; rw [g2]; exact aoff⟩
        · have hcc : ((waitP p n (askS p 236 s)).1.tick { (waitP p n (askS p 236 s)).1 with state := 5 }).cut = -1 := by
            have := (wlow h1 h2).2
            show max ((waitP p n (askS p 236 s)).1.cut - 1) (-1) = -1; omega
          have hl := q4 hcc
          exact ⟨by dsimp only; rw [if_pos hl], (q3 hl).2.2.2 hcc⟩
    · have hpp : parP p n s = ((waitP p n (askS p 236 s)).1, [(1, 236), (2, 0)] ++ (waitP p n (askS p 236 s)).2.1, (waitP p n (askS p 236 s)).2.2) := by
        unfold parP; rw [hp, if_pos rfl, if_neg h3]
      rw [hpp]
      refine ⟨?_, fun he => absurd he h3, fun h1 h2 => absurd (wlow h1 h2).1 h3, by simp; omega⟩
      show (waitP p n (askS p 236 s)).2.2 = 0 ∨ _
      unfold waitP
      split
      · simp
      · exact f5
end
end Go.Proofs.YtdjmoojonkjafaaGreat
