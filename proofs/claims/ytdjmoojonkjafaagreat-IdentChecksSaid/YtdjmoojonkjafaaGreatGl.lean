/- Contracts: package ident on a quiet chip. -/
import Derived.Test.YtdjmoojonkjafaaGreatGk
set_option linter.unusedSimpArgs false
set_option linter.unusedVariables false
set_option maxRecDepth 100000
set_option maxHeartbeats 2000000
namespace Go.Proofs.YtdjmoojonkjafaaGreat
open Go.AM Go.Proofs
attribute [local irreducible] Pu Br Gd Gd2 GdR Nb Cq Pp callF Jn StS StG Still loopW Ca Is

section
variable {H : AHeap} {w r : Nat} {p : ChP} {s s' : ChQ} {l : List (Int × Int)} {O : List Nat} {N : Nat} {R : AV → AHeap → Prop}

/-- the chip behind a command and an address -/
def askS (p : ChP) (c : Int) (s : ChQ) : ChQ :=
  if c = 144 then (s.tick { s with state := 2 }).tick { (s.tick { s with state := 2 }) with state := 3, column := 0 }
  else (s.tick { s with state := 4 }).tick { (s.tick { s with state := 4 }) with reg := parL p.g, column := 0, busy := nextB p s, asked := s.asked + 1, state := 1 }
def askP (p : ChP) (c : Int) (s : ChQ) : ChQ × List (Int × Int) × Int :=
  if s.cut = 0 then (s.dead, [], 20)
  else if max (s.cut - 1) (-1) = 0 then ((s.tick { s with state := if c = 144 then 2 else 4 }).dead, [(1, c)], 20)
  else (askS p c s, [(1, c), (2, 0)], 0)

theorem ident_ask {c : Int} (hc : c = 144 ∨ c = 236) (a : WireAt H w r p s l O) (hbs : ∀ n ∈ p.bs, 0 ≤ n ∧ n ≤ 65536) (rg : s.Rng N) (hN : N + 2 ≤ 2 ^ 30) (hoff : s.off = false) (hb : s.busy = 0) (hl : l.length + 2 ≤ 2 ^ 24)
    (k : ∀ H' O', WTo w r p (askP p c s).1 (l ++ (askP p c s).2.1) H H' O O' → R (.int .i64 (askP p c s).2.2) H') : Ca Tryz.prog kp 159 [.ptr w 0, .int .u8 c] H R := by
  have ok : p.g.Ok := by obtain ⟨Oc, Or, _, h2, _⟩ := a.ex; exact h2.ok
  have hh : s.hear p 1 c = some ({ s with state := if c = 144 then 2 else 4 }, 0) := by
    rcases hc with rfl | rfl <;> simp [ChQ.hear, hb]
  apply F159.ca
  unfold F159
  have b3 : bdL 1 [.int .u8 0] [(0, 1, (.int .u8 c))] = some (.lit [.int .u8 c] 1 true) := by rfl
  have b4 : bdL 1 [.int .u8 0] [(0, 1, (.int .u8 0))] = some (.lit [.int .u8 0] 1 true) := by rfl
  refine rr1 @b3 ?_
  refine wire_Command1 a rg (by omega) hoff hh (by omega) (fun hc0 H2 O2 t2 => ?_) (fun hc0 H2 O2 t2 => ?_)
  · have hp : askP p c s = (s.dead, [], 20) := by simp [askP, hc0]
    rw [hp] at k
    refine rr0 ?_
    exact k _ _ (by simpa using t2)
  · have rg2 := tick_rng ok hbs rg (by omega) hh
    have hh2 : (s.tick { s with state := if c = 144 then 2 else 4 }).hear p 2 0 = some (if c = 144 then { (s.tick { s with state := 2 }) with state := 3, column := 0 } else { (s.tick { s with state := 4 }) with reg := parL p.g, column := 0, busy := nextB p s, asked := s.asked + 1, state := 1 }, 0) := by
      rcases hc with rfl | rfl <;> simp [ChQ.hear, ChQ.tick, hb] <;> rfl
    refine rr1 @b4 ?_
    refine wire_Address1 t2.at_ rg2 (by omega) hoff hh2 (by simp; omega) (fun hc1 H3 O3 t3 => ?_) (fun hc1 H3 O3 t3 => ?_)
    · have hp : askP p c s = ((s.tick { s with state := if c = 144 then 2 else 4 }).dead, [(1, c)], 20) := by
        have hc1' : max (s.cut - 1) (-1) = 0 := hc1
        simp only [askP]; rw [if_neg hc0, if_pos hc1']
      rw [hp] at k
      exact k _ _ (t2.trans t3)
    · have hp : askP p c s = (askS p c s, [(1, c), (2, 0)], 0) := by
        have hc1' : ¬ max (s.cut - 1) (-1) = 0 := hc1
        simp only [askP]; rw [if_neg hc0, if_neg hc1']
      rw [hp] at k
      refine k H3 O3 ?_
      have := t2.trans t3
      have e : (s.tick { s with state := if c = 144 then 2 else 4 }).tick (if c = 144 then { (s.tick { s with state := 2 }) with state := 3, column := 0 } else { (s.tick { s with state := 4 }) with reg := parL p.g, column := 0, busy := nextB p s, asked := s.asked + 1, state := 1 }) = askS p c s := by
        rcases hc with rfl | rfl <;> simp [askS]
      rw [e] at this
      simpa using this

/-- reading on: what is read, and the chip behind -/
theorem readP_told : ∀ {n : Nat} {s : ChQ}, s.busy = 0 → (s.state = 3 ∨ s.state = 5 ∨ s.state = 6) → 0 ≤ s.column → ∃ sf bs, readP p n s = some (sf, bs) ∧ bs = (List.range bs.length).map (fun (i : Nat) => atB (if s.state = 3 then idL p.g else s.reg) (s.column + i)) ∧
    (bs.length = n → sf.busy = 0 ∧ sf.off = s.off ∧ sf.asked = s.asked ∧ (s.cut = -1 → sf.cut = -1)) ∧ (s.cut = -1 → bs.length = n)
  | 0, s, hb, hs, hc => ⟨s, [], rfl, rfl, fun _ => ⟨hb, rfl, rfl, id⟩, fun _ => rfl⟩
  | n + 1, s, hb, hs, hc => by
    have hh : s.hear p 4 0 = some ({ s with state := if s.state = 3 then 3 else 6, column := s.column + 1 }, atB (if s.state = 3 then idL p.g else s.reg) s.column) := by
      rcases hs with h | h | h <;> simp [ChQ.hear, hb, h]
    by_cases h0 : s.cut = 0
    · refine ⟨s.dead, [], by simp [readP, hh, h0], rfl, by simp, by omega⟩
    · have hst : (s.tick { s with state := if s.state = 3 then 3 else 6, column := s.column + 1 }).state = (if s.state = 3 then 3 else 6) := rfl
      obtain ⟨sf, bs, h1, h2, h3, h4⟩ := readP_told (n := n) (s := s.tick { s with state := if s.state = 3 then 3 else 6, column := s.column + 1 }) hb (by rw [hst]; split <;> simp) (by show 0 ≤ s.column + 1; omega)
      refine ⟨sf, _ :: bs, by simp only [readP, hh]; rw [if_neg h0, h1]; rfl, ?_, ?_, ?_⟩
      · rw [List.length_cons, List.range_succ_eq_map, List.map_cons, List.map_map]
        congr 1
        · simp
        · have e1 : (s.tick { s with state := if s.state = 3 then 3 else 6, column := s.column + 1 }).column = s.column + 1 := rfl
          have e2 : (if (s.tick { s with state := if s.state = 3 then 3 else 6, column := s.column + 1 }).state = 3 then idL p.g else (s.tick { s with state := if s.state = 3 then 3 else 6, column := s.column + 1 }).reg) = (if s.state = 3 then idL p.g else s.reg) := by
            rw [hst]; by_cases h : s.state = 3 <;> simp [h, ChQ.tick]
          rw [e1, e2] at h2
          rw [h2]
          simp only [List.length_map, List.length_range]
          apply List.map_congr_left
          intro i _
          simp only [Function.comp]
          congr 1
          omega
      · intro hl
        obtain ⟨q1, q2, q3, q4⟩ := h3 (by simpa using hl)
        refine ⟨q1, q2, q3, fun hc => q4 ?_⟩
        show max (s.cut - 1) (-1) = -1
        omega
      · intro hc
        rw [List.length_cons, h4 (by show max (s.cut - 1) (-1) = -1; omega)]

def idP (p : ChP) (s : ChQ) : ChQ × List (Int × Int) × Int × List Int :=
  if (askP p 144 s).2.2 = 0 then
    ((((readP p 5 (askS p 144 s)).getD (s, [])).1, [(1, 144), (2, 0)] ++ rd ((readP p 5 (askS p 144 s)).getD (s, [])).2, if ((readP p 5 (askS p 144 s)).getD (s, [])).2.length = 5 then 0 else 20, ((readP p 5 (askS p 144 s)).getD (s, [])).2))
  else ((askP p 144 s).1, (askP p 144 s).2.1, (askP p 144 s).2.2, [])

theorem askP_ok {c : Int} (h : (askP p c s).2.2 = 0) : askP p c s = (askS p c s, [(1, c), (2, 0)], 0) ∧ s.cut ≠ 0 ∧ max (s.cut - 1) (-1) ≠ 0 := by
  unfold askP at h ⊢
  split at h
  · simp at h
  split at h
  · simp at h
  · rename_i h1 h2; rw [if_neg h1, if_neg h2]; exact ⟨rfl, h1, h2⟩
theorem askS_rng {c : Int} (hc : c = 144 ∨ c = 236) (ok : p.g.Ok) (hbs : ∀ n ∈ p.bs, 0 ≤ n ∧ n ≤ 65536) (rg : s.Rng N) (hN : N + 2 ≤ 2 ^ 30) (hb : s.busy = 0) : (askS p c s).Rng (N + 2) := by
  have hh : s.hear p 1 c = some ({ s with state := if c = 144 then 2 else 4 }, 0) := by
    rcases hc with rfl | rfl <;> simp [ChQ.hear, hb]
  have rg2 := tick_rng ok hbs rg (by omega) hh
  have hh2 : (s.tick { s with state := if c = 144 then 2 else 4 }).hear p 2 0 = some (if c = 144 then { (s.tick { s with state := 2 }) with state := 3, column := 0 } else { (s.tick { s with state := 4 }) with reg := parL p.g, column := 0, busy := nextB p s, asked := s.asked + 1, state := 1 }, 0) := by
    rcases hc with rfl | rfl <;> simp [ChQ.hear, ChQ.tick, hb] <;> rfl
  have := tick_rng (N := N + 1) ok hbs rg2 (by omega) hh2
  have e : (s.tick { s with state := if c = 144 then 2 else 4 }).tick (if c = 144 then { (s.tick { s with state := 2 }) with state := 3, column := 0 } else { (s.tick { s with state := 4 }) with reg := parL p.g, column := 0, busy := nextB p s, asked := s.asked + 1, state := 1 }) = askS p c s := by
    rcases hc with rfl | rfl <;> simp [askS]
  rw [e] at this
  exact this

theorem ident_ID (a : WireAt H w r p s l O) (hbs : ∀ n ∈ p.bs, 0 ≤ n ∧ n ≤ 65536) (rg : s.Rng N) (hN : N + 7 ≤ 2 ^ 30) (hoff : s.off = false) (hb : s.busy = 0) (hl : l.length + 7 ≤ 2 ^ 24)
    (k : ∀ v H' O', WTo w r p (idP p s).1 (l ++ (idP p s).2.1) H H' O O' → ((idP p s).2.2.1 = 0 → Gro H' 1 v 5 (by8 (idP p s).2.2.2) ∧ ∀ h ∈ fp v, h ∉ O' ∧ H.n ≤ h) → R (.tup [v, .int .i64 (idP p s).2.2.1]) H') :
    Ca Tryz.prog kp 47 [.ptr w 0] H R := by
  have ok : p.g.Ok := by obtain ⟨Oc, Or, _, h2, _⟩ := a.ex; exact h2.ok
  apply F47.ca
  unfold F47
  refine ident_ask (.inl rfl) a hbs rg (by omega) hoff hb (by omega) (fun H1 O1 t1 => ?_)
  by_cases h0 : (askP p 144 s).2.2 = 0
  · obtain ⟨hp, h1, h2⟩ := askP_ok h0
    rw [hp] at t1 ⊢
    have rg1 := askS_rng (.inl rfl) ok hbs rg (by omega) hb
    obtain ⟨sf, bs, q1, q2, q3, q4⟩ := readP_told (p := p) (n := 5) (s := askS p 144 s) (by simp [askS, ChQ.tick, hb]) (by simp [askS, ChQ.tick]) (by simp [askS, ChQ.tick])
    have hid : idP p s = (sf, [(1, 144), (2, 0)] ++ rd bs, if bs.length = 5 then 0 else 20, bs) := by
      unfold idP; rw [if_pos h0, q1]; rfl
    rw [hid] at k
    refine rr0 ?_
    refine wire_Read (n := 5) t1.at_ hbs rg1 (by omega) (by simp [askS, ChQ.tick, hoff]) q1 (by simp; omega) (fun h H2 O2 t2 => ?_) (fun h v H2 O2 t2 g2 f2 => ?_)
    · have t := t1.trans t2
      rw [List.append_assoc] at t
      refine rr0 ?_
      have := k .nils H2 O2 t (by intro e; simp at e; omega)
      rwa [if_neg (by omega)] at this
    · have t := t1.trans t2
      rw [List.append_assoc] at t
      refine rr0 ?_
      have := k v H2 O2 t (fun _ => ⟨g2, fun h hh => ⟨(f2 h hh).1, by have := (f2 h hh).2; have := t1.fr.n; omega⟩⟩)
      rwa [if_pos h] at this
  · have hid : idP p s = ((askP p 144 s).1, (askP p 144 s).2.1, (askP p 144 s).2.2, []) := by unfold idP; rw [if_neg h0]
    rw [hid] at k
    refine rr1 @h0 ?_
    exact k _ _ O1 t1 (fun h => absurd h h0)
end
end Go.Proofs.YtdjmoojonkjafaaGreat
