/- Contracts: the chip while nothing is queued, waits or is behind. -/
import Derived.Test.YtdjmoojonkjafaaGreatGc
set_option linter.unusedSimpArgs false
set_option linter.unusedVariables false
set_option maxRecDepth 100000
set_option maxHeartbeats 2000000
namespace Go.Proofs.YtdjmoojonkjafaaGreat
open Go.AM Go.Proofs
attribute [local irreducible] Pu Br Gd Gd2 GdR Nb Cq Pp callF Jn StS StG Still loopW Ca Is

/-- the parts of a chip that stay -/
structure ChP where
  (c t a m : Nat) (bv fv tv : AV) (g : Geom) (bs : List Int) (wk : Int)
/-- what changes -/
structure ChQ where
  (off : Bool) (cut cycles state : Int) (reg : List Int) (column busy : Int) (asked : Nat)

def chL (p : ChP) (s : ChQ) (rv : AV) : List AV := [.int .i64 p.g.Planes, .int .i64 p.g.Blocks, .int .i64 p.g.Pages, .int .i64 p.g.Chunks, .int .i64 p.g.Chunk, .int .i64 p.g.Rungs, .int .i64 p.g.Partial,
  .ptr p.a 0, .ptr p.t 0, .bool s.off, .int .i64 s.cut, .int .i64 s.cycles, .int .i64 s.state, .nils, rv, .int .i64 s.column, .int .i64 0, .nils, .nils, .int .i64 s.busy, .nils, .nils, .nils, .nils, .int .i64 0, .bool false, .bool false]
def teL (p : ChP) (asked : Nat) : List AV := [p.bv, p.fv, .map p.m, p.tv, .int .i64 asked, .int .i64 p.wk]

structure ChAt (H : AHeap) (p : ChP) (s : ChQ) (O : List Nat) : Prop where
  ok : p.g.Ok
  ex : ∃ rv, At H p.c (.cells 27 (chL p s rv)) ∧ scalarA rv = true ∧ rv.cells = [rv] ∧ Sl H 1 rv s.reg.length (by8 s.reg) ∧ (∀ h ∈ fp rv, h ∈ O ∧ h ≠ p.c ∧ h ≠ p.t)
  tel : At H p.t (.cells 6 (teL p s.asked))
  bv : Sl H 1 p.bv p.bs.length (in64 p.bs)
  bd : ∀ h ∈ fp p.bv, h ∈ O ∧ h ≠ p.c ∧ h ≠ p.t
  ct : p.c ≠ p.t
  co : p.c ∈ O
  to : p.t ∈ O
  al : ∀ h ∈ O, h < H.n
  bl : p.bs.length ≤ 4096

/-- numbers stay small -/
structure ChQ.Rng (s : ChQ) (N : Nat) : Prop where
  (c1 : 0 ≤ s.column) (c2 : s.column ≤ N) (y1 : 0 ≤ s.cycles) (y2 : s.cycles ≤ N) (a2 : s.asked ≤ N) (b1 : 0 ≤ s.busy) (b2 : s.busy ≤ 65536) (u1 : -1 ≤ s.cut) (u2 : s.cut ≤ 16777216) (n : N ≤ 2 ^ 30) (r : s.reg.length ≤ 2 ^ 30)

theorem ChAt.fr {H H' : AHeap} {p : ChP} {s : ChQ} {O F : List Nat} (a : ChAt H p s O) (e : Fr F H H') (d : ∀ h ∈ O, h ∉ F) : ChAt H' p s O := by
  obtain ⟨rv, h1, h2, h3, h4, h5⟩ := a.ex
  exact ⟨a.ok, ⟨rv, h1.fr e (d _ a.co), h2, h3, h4.fr e (fun h hh => d _ (h5 h hh).1), h5⟩, a.tel.fr e (d _ a.to), a.bv.fr e (fun h hh => d _ (a.bd h hh).1), a.bd, a.ct, a.co, a.to, fun h hh => Nat.lt_of_lt_of_le (a.al h hh) e.n, a.bl⟩
theorem ChAt.ext {H H' : AHeap} {p : ChP} {s : ChQ} {O : List Nat} (a : ChAt H p s O) (e : Ext H H') : ChAt H' p s O := a.fr e (by simp)

theorem ChAt.upd {H H' : AHeap} {p : ChP} {s s' : ChQ} {O : List Nat} {rv : AV} (a : ChAt H p s O) (e : Fr [p.c, p.t] H H') (hrv : At H p.c (.cells 27 (chL p s rv))) (hc : H'.get p.c = some (.cells 27 (chL p s' rv)))
    (ht : H'.get p.t = some (.cells 6 (teL p s'.asked))) (hr : s'.reg = s.reg) : ChAt H' p s' O := by
  obtain ⟨rv', h1, h2, h3, h4, h5⟩ := a.ex
  have : rv' = rv := by
    have := hrv.g; rw [h1.g] at this
    simp [chL] at this; exact this
  subst this
  have n1 := e.n
  exact ⟨a.ok, ⟨rv', ⟨hc, by have := h1.l; omega⟩, h2, h3, by rw [hr]; exact h4.fr e (fun h hh => by have := h5 h hh; simp [this]), h5⟩, ⟨ht, by have := a.tel.l; omega⟩,
    a.bv.fr e (fun h hh => by have := a.bd h hh; simp [this]), a.bd, a.ct, a.co, a.to, fun h hh => by have := a.al h hh; omega, a.bl⟩

theorem chip_is {H : AHeap} {p : ChP} {s : ChQ} {O : List Nat} {R : AV → AHeap → Prop} (a : ChAt H p s O) (k : R (.bool true) H) : Ca Tryz.prog kp 148 [.ptr p.c 0] H R := by
  obtain ⟨rv, h1, h2, h3, h4, h5⟩ := a.ex
  have hg := h1.g
  unfold chL at hg
  apply F148.ca
  unfold F148
  refine rr1 @hg ?_
  exact k
theorem teller_is {H : AHeap} {p : ChP} {s : ChQ} {O : List Nat} {R : AV → AHeap → Prop} (a : ChAt H p s O) (k : R (.bool true) H) : Ca Tryz.prog kp 345 [.ptr p.t 0] H R := by
  have hg := a.tel.g
  unfold teL at hg
  apply F345.ca
  unfold F345
  refine rr1 @hg ?_
  exact k

def nextB (p : ChP) (s : ChQ) : Int := (p.bs[s.asked]?).getD 0
theorem teller_Busy {H : AHeap} {p : ChP} {s : ChQ} {O : List Nat} {R : AV → AHeap → Prop} (a : ChAt H p s O) (ha : s.asked ≤ 2 ^ 30) (k : ∀ H', ChAt H' p { s with asked := s.asked + 1 } O → Fr [p.t] H H' → R (.int .i64 (nextB p s)) H') :
    Ca Tryz.prog kp 334 [.ptr p.t 0] H R := by
  have hg := a.tel.g
  have hl := a.tel.l
  have hne := a.ct
  have hbl := a.bl
  obtain ⟨rv, h1, h2, h3, h4, h5⟩ := a.ex
  unfold teL at hg
  have key : ∀ H', Fr [p.t] H H' → H'.get p.t = some (.cells 6 (teL p (s.asked + 1))) → ChAt H' p { s with asked := s.asked + 1 } O := by
    intro H' e ht
    refine a.upd (e.mono (by simp)) h1 ?_ ht rfl
    rw [e.eq _ h1.l (by simp [hne]), h1.g]; rfl
  apply F334.ca
  unfold F334
  refine teller_is a ?_
  refine rr2 @hg @a.bv.ln ?_
  refine bb1 @a.bv.ln ?_ ?_
  · intro h; try simp only [decide_eq_true_eq, decide_eq_false_iff_not, Decidable.not_not, Int.not_lt, Int.not_le, Bool.not_eq_true, Bool.not_eq_false, Bool.not_eq_eq_eq_not, Bool.not_true, Bool.not_false] at h
    have : nextB p s = 0 := by unfold nextB; rw [List.getElem?_eq_none (by omega)]; rfl
    rw [this] at k
    refine rr0 ?_
    exact k _ (key _ (by exact fa) (by simp [teL])) (by exact fa)
  · intro h; try simp only [decide_eq_true_eq, decide_eq_false_iff_not, Decidable.not_not, Int.not_lt, Int.not_le, Bool.not_eq_true, Bool.not_eq_false, Bool.not_eq_eq_eq_not, Bool.not_true, Bool.not_false] at h
    have s' := a.bv
    obtain ⟨q, hq1, hq2, _⟩ := s'.ix (k := .i64) (i := s.asked) (by omega) (by omega) (by omega)
    have hx : (in64 p.bs)[s.asked]? = some (.int .i64 (nextB p s)) := by
      rw [in64_get]; unfold nextB
      rw [List.getElem?_eq_getElem (by omega)]; rfl
    simp [hx] at hq2
    have hq3 : ∀ H', Fr [p.t] H H' → ldS H' q = some (.int .i64 (nextB p s)) := by
      intro H' e
      have s2 := s'.fr e (fun h hh => by have := a.bd h hh; simp [this])
      obtain ⟨q', hq1', hq2', _⟩ := s2.ix (k := .i64) (i := s.asked) (by omega) (by omega) (by omega)
      rw [hq1] at hq1'; cases hq1'
      simpa [hx] using hq2'
    refine rr0 ?_
    generalize hH2 : (hUp _ 12) = H2
    have e2 : Fr [p.t] H H2 := hH2 ▸ by exact fa
    have g2 : H2.get p.t = some (.cells 6 (teL p (s.asked + 1))) := by rw [← hH2]; simp [teL]
    have g3 := g2
    unfold teL at g3
    clear hH2
    have e3 := hq3 _ e2
    refine rr3 @g3 @hq1 @e3 ?_
    exact k _ (key _ e2 g2) e2
end Go.Proofs.YtdjmoojonkjafaaGreat
