/- Contracts: sending and reading on a wire with a quiet chip. -/
import Derived.Test.YtdjmoojonkjafaaGreatGi
set_option linter.unusedSimpArgs false
set_option linter.unusedVariables false
set_option maxRecDepth 100000
set_option maxHeartbeats 2000000
namespace Go.Proofs.YtdjmoojonkjafaaGreat
open Go.AM Go.Proofs
attribute [local irreducible] Pu Br Gd Gd2 GdR Nb Cq Pp callF Jn StS StG Still loopW Ca Is

def ChQ.tick (s s' : ChQ) : ChQ := { s' with cut := max (s.cut - 1) (-1), cycles := s.cycles + 1 }
/-- the power goes -/
def ChQ.dead (s : ChQ) : ChQ := { s with off := true }

theorem hear_off {p : ChP} {s s' : ChQ} {kd b r : Int} (hs : s.hear p kd b = some (s', r)) : s'.off = s.off ∧ s'.cut = s.cut ∧ s'.cycles = s.cycles := by
  unfold ChQ.hear at hs
  split at hs
  · split at hs
    · cases hs; exact ⟨rfl, rfl, rfl⟩
    split at hs
    · cases hs; exact ⟨rfl, rfl, rfl⟩
    split at hs
    · split at hs
      · cases hs; exact ⟨rfl, rfl, rfl⟩
      split at hs
      · cases hs; exact ⟨rfl, rfl, rfl⟩
      split at hs
      · cases hs; exact ⟨rfl, rfl, rfl⟩
      cases hs
    cases hs
  split at hs
  · split at hs
    · split at hs
      · cases hs; exact ⟨rfl, rfl, rfl⟩
      split at hs
      · cases hs; exact ⟨rfl, rfl, rfl⟩
      cases hs
    cases hs
  split at hs
  · split at hs
    · split at hs <;> (cases hs; exact ⟨rfl, rfl, rfl⟩)
    split at hs
    · split at hs
      · cases hs; exact ⟨rfl, rfl, rfl⟩
      split at hs
      · cases hs; exact ⟨rfl, rfl, rfl⟩
      cases hs
    cases hs
  cases hs

theorem parL_len {g : Geom} (ok : g.Ok) : (parL g).length = g.raw.toNat ∧ 37 ≤ g.raw ∧ g.raw ≤ 8300 := by
  have h1 : g.raw = g.Chunks * (g.Chunk + 2) + 31 := rfl
  have h2 : 1 * (g.Chunk + 2) ≤ g.Chunks * (g.Chunk + 2) := Int.mul_le_mul_of_nonneg_right ok.c1 (by have := ok.k1; omega)
  have := ok.k1
  have := ok.raw
  refine ⟨?_, by omega, by omega⟩
  unfold parL; rw [List.length_append, two_len, List.length_replicate]; simp [numL]; omega

theorem tick_rng {p : ChP} {s s' : ChQ} {kd b r : Int} {N : Nat} (ok : p.g.Ok) (hb : ∀ n ∈ p.bs, 0 ≤ n ∧ n ≤ 65536) (rg : s.Rng N) (hN : N + 1 ≤ 2 ^ 30) (hs : s.hear p kd b = some (s', r)) : (s.tick s').Rng (N + 1) := by
  obtain ⟨c1, c2, y1, y2, a2, b1, b2, u1, u2, hn, hr⟩ := rg
  have nb := nextB_rng (s := s) hb
  have pl := parL_len ok
  have key : (0 ≤ s'.column ∧ s'.column ≤ N + 1) ∧ s'.asked ≤ N + 1 ∧ (0 ≤ s'.busy ∧ s'.busy ≤ 65536) ∧ s'.reg.length ≤ 2 ^ 30 := by
    unfold ChQ.hear at hs
    split at hs
    · split at hs
      · cases hs; dsimp only; omega
      split at hs
      · cases hs; dsimp only; omega
      split at hs
      · split at hs
        · cases hs; dsimp only; omega
        split at hs
        · cases hs; dsimp only; omega
        split at hs
        · cases hs; dsimp only; omega
        cases hs
      cases hs
    split at hs
    · split at hs
      · split at hs
        · cases hs; dsimp only; omega
        split at hs
        · cases hs; dsimp only; omega
        cases hs
      cases hs
    split at hs
    · split at hs
      · split at hs
        · cases hs; dsimp only; omega
        · cases hs; omega
      split at hs
      · split at hs
        · cases hs; dsimp only; omega
        split at hs
        · cases hs; dsimp only; omega
        cases hs
      cases hs
    cases hs
  obtain ⟨⟨k1, k2⟩, k3, ⟨k4, k5⟩, k6⟩ := key
  refine ⟨k1, by show s'.column ≤ ((N + 1 : Nat) : Int); omega, by show 0 ≤ s.cycles + 1; omega, by show s.cycles + 1 ≤ ((N + 1 : Nat) : Int); omega, k3, k4, k5, by show -1 ≤ max (s.cut - 1) (-1); omega, by show max (s.cut - 1) (-1) ≤ 16777216; omega, hN, k6⟩

section
variable {H : AHeap} {w r : Nat} {p : ChP} {s s' : ChQ} {l : List (Int × Int)} {O : List Nat} {N : Nat} {R : AV → AHeap → Prop}

theorem wire_Send1 {v : AV} {kd b : Int} (a : WireAt H w r p s l O) (rg : s.Rng N) (hN : N + 1 ≤ 2 ^ 30) (hoff : s.off = false) (hk : 1 ≤ kd ∧ kd ≤ 3) (sv : Sl H 2 v 1 (cyL [(kd, b)])) {x : Int}
    (hs : s.hear p kd b = some (s', x)) (hl : l.length + 1 ≤ 2 ^ 24)
    (k0 : s.cut = 0 → ∀ H' O', WTo w r p s.dead l H H' O O' → R (.int .i64 20) H')
    (k1 : s.cut ≠ 0 → ∀ H' O', WTo w r p (s.tick s') (l ++ [(kd, b)]) H H' O O' → R (.int .i64 0) H') : Ca Tryz.prog kp 217 [.ptr w 0, v] H R := by
  apply F217.ca
  unfold F217
  refine wire_is a ?_
  refine rr1 @sv.ln ?_
  obtain ⟨q, hq1, _, hq2, _⟩ := sv.ix (k := .i64) (i := 0) (by omega) (by omega) (by omega)
  simp [cyL] at hq2
  apply F217.L0_un
  intro X hX
  unfold F217.B0
  refine rr2 @hq1 @hq2 ?_
  generalize hH1 : AHeap.set (AHeap.push H _) _ _ = H1
  have e1 : Ext H H1 := hH1 ▸ by exact fa
  clear hH1
  have hb : (if kd = 4 then x else b) = b := if_neg (by omega)
  refine wire_one (a.ext e1) rg hN hoff ⟨hk.1, by omega⟩ hs hl (fun hc H2 O2 t2 => ?_) (fun hc H2 O2 t2 => ?_)
  · refine rr0 ?_
    exact k0 hc _ _ (WTo.of e1 t2)
  · rw [hb] at t2
    refine rr0 ?_
    apply hX; clear hX X
    apply F217.L0_un
    intro X hX
    unfold F217.B0
    refine rr0 ?_
    exact k1 hc _ _ (WTo.of e1 t2)

theorem wire_Command1 {b : Int} (a : WireAt H w r p s l O) (rg : s.Rng N) (hN : N + 1 ≤ 2 ^ 30) (hoff : s.off = false) {x : Int}
    (hs : s.hear p 1 b = some (s', x)) (hl : l.length + 1 ≤ 2 ^ 24)
    (k0 : s.cut = 0 → ∀ H' O', WTo w r p s.dead l H H' O O' → R (.int .i64 20) H')
    (k1 : s.cut ≠ 0 → ∀ H' O', WTo w r p (s.tick s') (l ++ [(1, b)]) H H' O O' → R (.int .i64 0) H') : Ca Tryz.prog kp 141 [.ptr w 0, .lit [.int .u8 b] 1 true] H R := by
  apply F141.ca
  unfold F141
  refine cycle_Of (l := [b]) (Sl.lit rfl rfl) (by omega) (fun v H1 g e f => ?_)
  refine wire_Send1 (a.ext e) rg hN hoff (by omega) g.sl hs hl (fun hc H2 O2 t2 => k0 hc _ _ (WTo.of e t2)) (fun hc H2 O2 t2 => k1 hc _ _ (WTo.of e t2))
theorem wire_Address1 {b : Int} (a : WireAt H w r p s l O) (rg : s.Rng N) (hN : N + 1 ≤ 2 ^ 30) (hoff : s.off = false) {x : Int}
    (hs : s.hear p 2 b = some (s', x)) (hl : l.length + 1 ≤ 2 ^ 24)
    (k0 : s.cut = 0 → ∀ H' O', WTo w r p s.dead l H H' O O' → R (.int .i64 20) H')
    (k1 : s.cut ≠ 0 → ∀ H' O', WTo w r p (s.tick s') (l ++ [(2, b)]) H H' O O' → R (.int .i64 0) H') : Ca Tryz.prog kp 232 [.ptr w 0, .lit [.int .u8 b] 1 true] H R := by
  apply F232.ca
  unfold F232
  refine cycle_Of (l := [b]) (Sl.lit rfl rfl) (by omega) (fun v H1 g e f => ?_)
  refine wire_Send1 (a.ext e) rg hN hoff (by omega) g.sl hs hl (fun hc H2 O2 t2 => k0 hc _ _ (WTo.of e t2)) (fun hc H2 O2 t2 => k1 hc _ _ (WTo.of e t2))

/-- bytes that are read: all, or those ahead of the power's end -/
def readP (p : ChP) : Nat → ChQ → Option (ChQ × List Int)
  | 0, s => some (s, [])
  | n + 1, s =>
    match s.hear p 4 0 with
    | none => none
    | some (s', x) => if s.cut = 0 then some (s.dead, []) else (readP p n (s.tick s')).map fun y => (y.1, x :: y.2)

theorem readP_le {p : ChP} : ∀ {n : Nat} {s sf : ChQ} {bs : List Int}, readP p n s = some (sf, bs) → bs.length ≤ n
  | 0, s, sf, bs, h => by simp [readP] at h; simp [h.2]
  | n + 1, s, sf, bs, h => by
    simp only [readP] at h
    split at h
    · cases h
    split at h
    · cases h; simp
    · simp only [Option.map_eq_some_iff] at h
      obtain ⟨y, hy, he⟩ := h
      cases he
      have := readP_le hy
      simp; omega

theorem wire_Read {n : Nat} {sf : ChQ} {bs : List Int} (a : WireAt H w r p s l O) (hbs : ∀ n ∈ p.bs, 0 ≤ n ∧ n ≤ 65536) (rg : s.Rng N) (hN : N + n ≤ 2 ^ 30) (hoff : s.off = false)
    (hs : readP p n s = some (sf, bs)) (hl : l.length + n ≤ 2 ^ 24)
    (k0 : bs.length < n → ∀ H' O', WTo w r p sf (l ++ bs.map fun b => (4, b)) H H' O O' → R (.tup [.nils, .int .i64 20]) H')
    (k1 : bs.length = n → ∀ v H' O', WTo w r p sf (l ++ bs.map fun b => (4, b)) H H' O O' → Gro H' 1 v n (by8 bs) → (∀ h ∈ fp v, h ∉ O' ∧ H.n ≤ h) → R (.tup [v, .int .i64 0]) H') : Ca Tryz.prog kp 142 [.ptr w 0, .int .i64 n] H R := by
  apply F142.ca
  unfold F142
  refine wire_is a ?_
  refine rr0 ?_
  have hbl := readP_le hs
  refine F142.L0_of _ _ _ (fun m x H' => ∃ (i : Nat) (v : AV) (si : ChQ) (done rest : List Int) (Oi : List Nat), m + i = n ∧ x = (v, .int .i64 i) ∧ done.length = i ∧ bs = done ++ rest ∧ readP p m si = some (sf, rest) ∧ si.Rng (N + i) ∧ si.off = false ∧
    WTo w r p si (l ++ done.map fun b => (4, b)) H H' O Oi ∧ Gro H' 1 v i (by8 done) ∧ ∀ h ∈ fp v, h ∉ Oi ∧ H.n ≤ h) ?_ n _ _ ⟨0, .nils, s, [], bs, O, rfl, rfl, rfl, rfl, hs, rg, hoff, by simpa using WTo.refl a, .nil, by simp [fp]⟩
  rintro m x H' ⟨i, v, si, done, rest, Oi, hm, rfl, hd, hbd, hr, rgi, hoi, t, g, hf⟩ X hX
  have tn := t.fr.n
  unfold F142.B0
  by_cases hi : i < n
  · obtain ⟨m, rfl⟩ : ∃ m', m = m' + 1 := ⟨m - 1, by omega⟩
    simp only [readP] at hr
    split at hr
    · cases hr
    rename_i s' x hh
    have b2 : bdS [.int .i64 0, .int .u8 0] [(0, 1, (.int .i64 4))] = some (.agg [.int .i64 4, .int .u8 0]) := by rfl
    refine rr1 @b2 ?_
    have hdl : (l ++ done.map fun b => ((4 : Int), b)).length = l.length + i := by simp [hd]
    refine wire_one t.at_ rgi (by omega) hoi (by omega) hh (by omega) (fun hc H2 O2 t2 => ?_) (fun hc H2 O2 t2 => ?_)
    · rw [if_pos hc] at hr
      cases hr
      rw [List.append_nil] at hbd
      subst hbd
      refine rr0 ?_
      exact k0 (by omega) _ _ (t.trans t2)
    · rw [if_neg hc] at hr
      simp only [Option.map_eq_some_iff] at hr
      obtain ⟨⟨y1, y2⟩, hy, he⟩ := hr
      cases he
      have g2 := g.fr t2.fr (fun h hh => (hf h hh).1)
      have t2n := t2.fr.n
      have b3 : bdL 1 [.int .u8 0] [(0, 1, (.int .u8 x))] = some (.lit [.int .u8 x] 1 true) := by rfl
      refine rr1 @b3 ?_
      refine X_app ap26 (k := 1) (xs := [.int .u8 x]) g2 (Sl.lit rfl rfl) (by omega) (fun v' H3 g3 e3 f3 _ => ?_)
      have hfO : ∀ h ∈ O2, h ∉ fp v := by
        intro h hh hv
        rcases t2.sub h hh with q | q
        · exact (hf h hv).1 q
        · have := g.al h hv; omega
      have t3 : WTo w r p (si.tick s') ((l ++ done.map fun b => (4, b)) ++ [(4, x)]) H H3 O O2 := by
        have t12 := t.trans t2
        refine ⟨t12.at_.fr e3 hfO, t12.fr.trans e3 (fun h hh => .inr (hf h hh).2), t12.sub⟩
      refine rr0 ?_
      refine hX m _ _ (by omega) ⟨i + 1, v', si.tick s', done ++ [x], y2, O2, by omega, by simp, by simp [hd], by simp [hbd], hy, ?_, ?_, ?_, ?_, ?_⟩
      · have ok : p.g.Ok := by obtain ⟨Oc, Or, _, h2, _⟩ := t.at_.ex; exact h2.ok
        exact tick_rng (N := N + i) ok hbs rgi (by omega) hh
      · show s'.off = false
        rw [(hear_off hh).1, hoi]
      · simpa using t3
      · have : by8 (done ++ [x]) = by8 done ++ [.int .u8 x] := by simp [by8]
        rw [this]; exact g3
      · intro h hh
        rcases f3 h hh with q | q
        · refine ⟨fun q2 => ?_, (hf h q).2⟩
          exact hfO h q2 q
        · refine ⟨fun q2 => ?_, by omega⟩
          have := t2.at_.al h q2; omega
  · have : i = n := by omega
    subst this
    have : m = 0 := by omega
    subst this
    simp [readP] at hr
    obtain ⟨rfl, rfl⟩ := hr
    rw [List.append_nil] at hbd
    subst hbd
    refine rr0 ?_
    exact k1 hd v _ _ t g hf
end
end Go.Proofs.YtdjmoojonkjafaaGreat
