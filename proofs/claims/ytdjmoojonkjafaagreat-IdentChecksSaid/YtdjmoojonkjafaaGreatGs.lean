/- Contracts: package choice: what is right. -/
import Derived.Test.YtdjmoojonkjafaaGreatGr
set_option linter.unusedSimpArgs false
set_option linter.unusedVariables false
set_option maxRecDepth 100000
set_option maxHeartbeats 2000000
namespace Go.Proofs.YtdjmoojonkjafaaGreat
open Go.AM Go.Proofs
attribute [local irreducible] Pu Br Gd Gd2 GdR Nb Cq Pp callF Jn StS StG Still loopW Ca Is

section
variable {H : AHeap} {R : AV → AHeap → Prop}

theorem choice_within {a b c : Int} (k : R (.bool (decide (b ≤ a ∧ a ≤ c))) H) : Ca Tryz.prog kp 278 [.int .i64 a, .int .i64 b, .int .i64 c] H R := by
  apply F278.ca
  unfold F278
  refine bb0 ?_ ?_
  · intro h; try simp only [decide_eq_true_eq, decide_eq_false_iff_not, Decidable.not_not, Int.not_lt, Int.not_le, Bool.not_eq_true, Bool.not_eq_false, Bool.not_eq_eq_eq_not, Bool.not_true, Bool.not_false] at h
    refine rr0 ?_
    (with_reducible first | apply X_Pu | apply X_Nb | apply X_Pp); (case h => first | ((try simp) <;> (with_reducible exact Is_rfl)) | ((try simp (disch := (first | assumption | omega | (simp <;> omega) | fail)) [SW, SA, SV, if_pos, if_neg, dec_t, dec_f]) <;> (with_reducible exact Is_rfl)))
    (with_reducible first | apply X_Pu | apply X_Nb | apply X_Pp); (case h => first | ((try simp) <;> (with_reducible exact Is_rfl)) | ((try simp (disch := (first | assumption | omega | (simp <;> omega) | fail)) [SW, SA, SV, if_pos, if_neg, dec_t, dec_f]) <;> (with_reducible exact Is_rfl)))
    simpa [h] using k
  · intro h; try simp only [decide_eq_true_eq, decide_eq_false_iff_not, Decidable.not_not, Int.not_lt, Int.not_le, Bool.not_eq_true, Bool.not_eq_false, Bool.not_eq_eq_eq_not, Bool.not_true, Bool.not_false] at h
    refine rr0 ?_
    have : decide (b ≤ a ∧ a ≤ c) = false := by simp; omega
    rw [this] at k
    exact k

/-- is there one? (numbers) -/
theorem idx64 {v fv : AV} {len : Nat} {l : List Int} {P Q : Int → Prop} (sv : Sl H 1 v len (in64 l)) (hl : len ≤ 2 ^ 30)
    (cl : ∀ x ∈ l, ∀ H1 K, Ext H H1 → (∀ b H2, Ext H1 H2 → (b = true → P x) → (b = false → Q x) → K (.bool b) H2) → callF Tryz.prog kp fv [.int .i64 x] H1 K)
    (k1 : ∀ i : Nat, (∃ x ∈ l, P x) → ∀ H', Ext H H' → R (.int .i64 i) H') (k2 : (∀ x ∈ l, Q x) → ∀ H', Ext H H' → R (.int .i64 (-1)) H') : Ca Tryz.prog kp 282 [v, fv] H R := by
  have hlen := sv.cl
  rw [in64_len, Nat.mul_one] at hlen
  apply F282.ca
  unfold F282
  refine rr1 @sv.ln ?_
  refine F282.L0_of _ _ _ _ (fun m x H' => ∃ i : Nat, m + i = len ∧ x = .int .i64 i ∧ Ext H H' ∧ ∀ y ∈ l.take i, Q y) ?_ len _ _ ⟨0, by omega, rfl, .refl, by simp⟩
  rintro m x H' ⟨i, hm, rfl, e, hq⟩ X hX
  have sv' := sv.ext e
  unfold F282.B0
  by_cases hi : i < len
  · have hil : i < l.length := by omega
    obtain ⟨p, hp1, hp2, _⟩ := sv'.ix (k := .i64) (i := i) (by omega) (by omega) (by omega)
    rw [Int.toNat_natCast, Nat.mul_one, in64_get, List.getElem?_eq_getElem hil] at hp2
    simp at hp2
    refine rr2 @hp1 @hp2 ?_
    refine cl l[i] (List.getElem_mem hil) H' _ e (fun b H2 e2 hp hn => ?_)
    cases b with
    | true =>
      refine rr0 ?_
      exact k1 i ⟨l[i], List.getElem_mem hil, hp rfl⟩ _ (e.ext e2)
    | false =>
      refine rr0 ?_
      refine hX (m - 1) _ _ (by omega) ⟨i + 1, by omega, by simp, e.ext e2, fun y hy => ?_⟩
      rw [List.take_add_one, List.getElem?_eq_getElem hil] at hy
      rcases List.mem_append.1 hy with hy | hy
      · exact hq y hy
      · simp [Option.toList] at hy; subst hy; exact hn rfl
  · have : i = len := by omega
    subst this
    refine rr0 ?_
    refine k2 (fun y hy => hq y ?_) _ e
    rw [List.take_of_length_le (by omega)]; exact hy

theorem has64 {v fv : AV} {len : Nat} {l : List Int} {P Q : Int → Prop} (sv : Sl H 1 v len (in64 l)) (hl : len ≤ 2 ^ 30)
    (cl : ∀ x ∈ l, ∀ H1 K, Ext H H1 → (∀ b H2, Ext H1 H2 → (b = true → P x) → (b = false → Q x) → K (.bool b) H2) → callF Tryz.prog kp fv [.int .i64 x] H1 K)
    (k1 : (∃ x ∈ l, P x) → ∀ H', Ext H H' → R (.bool true) H') (k2 : (∀ x ∈ l, Q x) → ∀ H', Ext H H' → R (.bool false) H') : Ca Tryz.prog kp 229 [v, fv] H R := by
  apply F229.ca
  unfold F229
  refine idx64 sv hl cl (fun i hp H' e => ?_) (fun hq H' e => ?_)
  · refine rr0 ?_
    exact k1 hp _ e
  · refine rr0 ?_
    exact k2 hq _ e

structure Turn where
  (row rung bit : Int)
def tuL (l : List Turn) : List AV := l.flatMap fun t => [.int .i64 t.row, .int .i64 t.rung, .int .i64 t.bit]
theorem tuL_cons {t : Turn} {l : List Turn} : tuL (t :: l) = .int .i64 t.row :: .int .i64 t.rung :: .int .i64 t.bit :: tuL l := rfl
theorem tuL_len {l : List Turn} : (tuL l).length = l.length * 3 := by
  induction l with
  | nil => rfl
  | cons c l ih => rw [tuL_cons]; simp [ih]; omega
theorem tuL_get {l : List Turn} : ∀ {i : Nat} {t : Turn}, l[i]? = some t → ((tuL l).drop (i * 3)).take 3 = [.int .i64 t.row, .int .i64 t.rung, .int .i64 t.bit] := by
  induction l with
  | nil => intro i c h; simp at h
  | cons a l ih =>
    intro i c h
    cases i with
    | zero => simp at h; subst h; rw [tuL_cons]; simp
    | succ i => simp at h; have := ih h; rw [tuL_cons, Nat.succ_mul]; simpa using this

theorem hasT {v fv : AV} {len : Nat} {l : List Turn} {P Q : Turn → Prop} (sv : Sl H 3 v len (tuL l)) (hl : len ≤ 2 ^ 30)
    (cl : ∀ x ∈ l, ∀ H1 K, Ext H H1 → (∀ b H2, Ext H1 H2 → (b = true → P x) → (b = false → Q x) → K (.bool b) H2) → callF Tryz.prog kp fv [.agg [.int .i64 x.row, .int .i64 x.rung, .int .i64 x.bit]] H1 K)
    (k1 : (∃ x ∈ l, P x) → ∀ H', Ext H H' → R (.bool true) H') (k2 : (∀ x ∈ l, Q x) → ∀ H', Ext H H' → R (.bool false) H') : Ca Tryz.prog kp 279 [v, fv] H R := by
  have hlen := sv.cl
  rw [tuL_len] at hlen
  apply F279.ca
  unfold F279
  apply F313.ca
  unfold F313
  refine rr1 @sv.ln ?_
  refine F313.L0_of _ _ _ _ (fun m x H' => ∃ i : Nat, m + i = len ∧ x = .int .i64 i ∧ Ext H H' ∧ ∀ y ∈ l.take i, Q y) ?_ len _ _ ⟨0, by omega, rfl, .refl, by simp⟩
  rintro m x H' ⟨i, hm, rfl, e, hq⟩ X hX
  have sv' := sv.ext e
  unfold F313.B0
  by_cases hi : i < len
  · have hil : i < l.length := by omega
    obtain ⟨p, hp1, _, hp2, _⟩ := sv'.ix (k := .i64) (i := i) (by omega) (by omega) (by omega)
    rw [Int.toNat_natCast, tuL_get (List.getElem?_eq_getElem hil)] at hp2
    refine rr2 @hp1 @hp2 ?_
    refine cl l[i] (List.getElem_mem hil) H' _ e (fun b H2 e2 hp hn => ?_)
    cases b with
    | true =>
      refine rr0 ?_
      exact k1 ⟨l[i], List.getElem_mem hil, hp rfl⟩ _ (e.ext e2)
    | false =>
      refine rr0 ?_
      refine hX (m - 1) _ _ (by omega) ⟨i + 1, by omega, by simp, e.ext e2, fun y hy => ?_⟩
      rw [List.take_add_one, List.getElem?_eq_getElem hil] at hy
      rcases List.mem_append.1 hy with hy | hy
      · exact hq y hy
      · simp [Option.toList] at hy; subst hy; exact hn rfl
  · have : i = len := by omega
    subst this
    refine rr0 ?_
    refine k2 (fun y hy => hq y ?_) _ e
    rw [List.take_of_length_le (by omega)]; exact hy

/-- numbers that rise, within bounds -/
theorem choice_rising {v : AV} {len : Nat} {l : List Int} {hi : Int} (sv : Sl H 1 v len (in64 l)) (hl : len ≤ 2 ^ 30) (k1 : (∀ x ∈ l, 0 ≤ x ∧ x ≤ hi) → l.Pairwise (· < ·) → R (.bool true) H) (k2 : R (.bool false) H) :
    Ca Tryz.prog kp 281 [v, .int .i64 hi] H R := by
  have hlen := sv.cl
  rw [in64_len, Nat.mul_one] at hlen
  apply F281.ca
  unfold F281
  refine rr1 @sv.ln ?_
  refine F281.L0_of _ _ _ _ (fun m x H' => ∃ (i : Nat) (last : Int), m + i = len ∧ x = (.int .i64 last, .int .i64 i) ∧ H' = H ∧ -1 ≤ last ∧ (∀ y ∈ l.take i, 0 ≤ y ∧ y ≤ hi ∧ y ≤ last) ∧ (l.take i).Pairwise (· < ·)) ?_ len _ _ ⟨0, -1, by omega, rfl, rfl, by omega, by simp, by simp⟩
  rintro m x H' ⟨i, last, hm, rfl, rfl, hlast, hq, hp⟩ X hX
  unfold F281.B0
  by_cases hi' : i < len
  · have hil : i < l.length := by omega
    obtain ⟨p, hp1, hp2, _⟩ := sv.ix (k := .i64) (i := i) (by omega) (by omega) (by omega)
    rw [Int.toNat_natCast, Nat.mul_one, in64_get, List.getElem?_eq_getElem hil] at hp2
    simp at hp2
    refine rr2 @hp1 @hp2 ?_
    refine bb0 ?_ ?_
    · intro q; try simp only [decide_eq_true_eq, decide_eq_false_iff_not, Decidable.not_not, Int.not_lt, Int.not_le, Bool.not_eq_true, Bool.not_eq_false, Bool.not_eq_eq_eq_not, Bool.not_true, Bool.not_false] at q
      refine rr0 ?_
      exact k2
    · intro q; try simp only [decide_eq_true_eq, decide_eq_false_iff_not, Decidable.not_not, Int.not_lt, Int.not_le, Bool.not_eq_true, Bool.not_eq_false, Bool.not_eq_eq_eq_not, Bool.not_true, Bool.not_false] at q
      refine rr0 ?_
      refine bb0 ?_ ?_
      · intro q2; try simp only [decide_eq_true_eq, decide_eq_false_iff_not, Decidable.not_not, Int.not_lt, Int.not_le, Bool.not_eq_true, Bool.not_eq_false, Bool.not_eq_eq_eq_not, Bool.not_true, Bool.not_false] at q2
        refine rr0 ?_
        exact k2
      · intro q2; try simp only [decide_eq_true_eq, decide_eq_false_iff_not, Decidable.not_not, Int.not_lt, Int.not_le, Bool.not_eq_true, Bool.not_eq_false, Bool.not_eq_eq_eq_not, Bool.not_true, Bool.not_false] at q2
        refine rr0 ?_
        refine hX (m - 1) _ _ (by omega) ⟨i + 1, l[i], by omega, by simp, rfl, by omega, fun y hy => ?_, ?_⟩
        · rw [List.take_add_one, List.getElem?_eq_getElem hil] at hy
          rcases List.mem_append.1 hy with hy | hy
          · have := hq y hy; omega
          · simp [Option.toList] at hy; subst hy; omega
        · rw [List.take_add_one, List.getElem?_eq_getElem hil, List.pairwise_append]
          refine ⟨hp, by simp, fun y hy z hz => ?_⟩
          simp at hz; subst hz
          have := hq y hy; omega
  · have : i = len := by omega
    subst this
    refine rr0 ?_
    rw [List.take_of_length_le (by omega)] at hq hp
    exact k1 (fun x hx => ⟨(hq x hx).1, (hq x hx).2.1⟩) hp

/-- a script's parts -/
structure Scr where
  (busy fails : AV) (turns : AV) (cut : Int) (torn marked : AV)
def Scr.L (s : Scr) : List AV := [s.busy, s.fails, s.turns, .int .i64 s.cut, s.torn, s.marked]
/-- what they show -/
structure ScrAt (H : AHeap) (s : Scr) (busy fails : List Int) (turns : List Turn) (torn marked : List Int) : Prop where
  b : Sl H 1 s.busy busy.length (in64 busy)
  f : Sl H 1 s.fails fails.length (in64 fails)
  t : Sl H 3 s.turns turns.length (tuL turns)
  o : Sl H 1 s.torn torn.length (by8 torn)
  m : Sl H 1 s.marked marked.length (in64 marked)
theorem ScrAt.ext {H' : AHeap} {s : Scr} {busy fails : List Int} {turns : List Turn} {torn marked : List Int} (a : ScrAt H s busy fails turns torn marked) (e : Ext H H') : ScrAt H' s busy fails turns torn marked :=
  ⟨a.b.ext e, a.f.ext e, a.t.ext e, a.o.ext e, a.m.ext e⟩
/-- a script that is right -/
structure Scr.Ok (g : Geom) (s : Scr) (busy fails : List Int) (turns : List Turn) (torn marked : List Int) : Prop where
  ok : g.Ok
  l : busy.length ≤ 4096 ∧ fails.length ≤ 4096 ∧ turns.length ≤ 4096 ∧ torn.length ≤ 4096 ∧ marked.length ≤ 4096
  b : ∀ n ∈ busy, 0 ≤ n ∧ n ≤ 65536
  t : ∀ x ∈ turns, (0 ≤ x.row ∧ x.row ≤ g.Blocks * g.Pages - 1) ∧ (0 ≤ x.rung ∧ x.rung ≤ g.Rungs - 1) ∧ (0 ≤ x.bit ∧ x.bit ≤ 8 * g.raw - 1)
  f : (∀ n ∈ fails, 0 ≤ n ∧ n ≤ 4611686018427387904) ∧ fails.Pairwise (· < ·)
  m : (∀ n ∈ marked, 0 ≤ n ∧ n ≤ g.Blocks - 1) ∧ marked.Pairwise (· < ·)
  c : -1 ≤ s.cut ∧ s.cut ≤ 16777216

theorem b359 {x0 x1 x2 x3 x4 : Int} : aBuild Tryz.prog 359 [(0, .int .i64 x0), (1, .int .i64 x1), (2, .int .i64 x2), (3, .int .i64 x3), (4, .int .i64 x4)] = some (.agg [.int .i64 x0, .int .i64 x1, .int .i64 x2, .int .i64 x3, .int .i64 x4]) := by kernel_rfl
theorem i359 {cs : List AV} {k : IntKind} {i : Int} : aIndex Tryz.prog 359 (.agg cs) (.int k i) = if 0 ≤ i ∧ i < (5 : Nat) then cs[i.toNat * 1]? else none := by kernel_rfl

theorem right2 {g : Geom} {x : Turn} {tg : Nat} (ok : g.Ok) (at_ : At H tg (.cells 7 g.L)) {K : AV → AHeap → Prop}
    (k : ∀ b H2, Ext H H2 → (b = true → True) → (b = false → (0 ≤ x.row ∧ x.row ≤ g.Blocks * g.Pages - 1) ∧ (0 ≤ x.rung ∧ x.rung ≤ g.Rungs - 1) ∧ (0 ≤ x.bit ∧ x.bit ≤ 8 * g.raw - 1)) → K (.bool b) H2) :
    callF Tryz.prog kp (.fn (.func 280) [] [.ptr tg 0]) [.agg [.int .i64 x.row, .int .i64 x.rung, .int .i64 x.bit]] H K := by
  have hr := ok.rows
  have hw := (parL_len ok).2
  have hgL : [AV.int IntKind.i64 g.Planes, AV.int IntKind.i64 g.Blocks, AV.int IntKind.i64 g.Pages, AV.int IntKind.i64 g.Chunks, AV.int IntKind.i64 g.Chunk, AV.int IntKind.i64 g.Rungs, AV.int IntKind.i64 g.Partial] = g.L := rfl
  obtain ⟨_, _, b1, b2, g1, g2, _, _, _, _, r1, r2, _⟩ := id ok
  refine rr0 ?_
  apply F280.ca
  unfold F280
  refine rr0 ?_
  generalize hH2 : (hUp _ 30) = H2
  have e2 : Ext H H2 := hH2 ▸ by exact fa
  have n2 := e2.n
  have y2 : At H2 H.n (.cells 3 [.int .i64 x.row, .int .i64 x.rung, .int .i64 x.bit]) := ⟨by rw [← hH2]; simp, by rw [← hH2]; simp; omega⟩
  have a2 := at_.ext e2
  clear hH2
  have yg := y2.g
  have yl := y2.l
  have ag := a2.g
  have al := a2.l
  unfold Geom.L at ag
  refine rr2 @yg @ag ?_
  refine choice_within ?_
  by_cases h1 : 0 ≤ x.row ∧ x.row ≤ g.Blocks * g.Pages - 1
  · rw [decide_eq_true h1]
    refine rr2 @yg @ag ?_
    refine choice_within ?_
    by_cases h2 : 0 ≤ x.rung ∧ x.rung ≤ g.Rungs - 1
    · rw [decide_eq_true h2]
      refine rr2 @yg @ag ?_
      refine geom_Raw (g := g) ok (fun H3 e3 => ?_)
      have yg3 := (y2.ext e3).g
      have ag3 := (a2.ext e3).g
      unfold Geom.L at ag3
      refine rr2 @yg @ag ?_
      refine choice_within ?_
      have hgt : List.take 7 g.L = g.L := rfl
      have hgl : g.L.length = 7 := rfl
      by_cases h3 : 0 ≤ x.bit ∧ x.bit ≤ 8 * g.raw - 1
      · rw [decide_eq_true h3]
        refine rr4 @yg @ag @yg3 @ag3 ?_
        exact k false _ (e2.ext e3) (fun _ => trivial) (fun _ => ⟨h1, h2, h3⟩)
      · rw [decide_eq_false h3]
        refine rr4 @yg @ag @yg3 @ag3 ?_
        exact k true _ (e2.ext e3) (fun _ => trivial) (fun h => by cases h)
    · rw [decide_eq_false h2]
      refine rr2 @yg @ag ?_
      exact k true _ e2 (fun _ => trivial) (fun h => by cases h)
  · rw [decide_eq_false h1]
    refine rr2 @yg @ag ?_
    exact k true _ e2 (fun _ => trivial) (fun h => by cases h)

theorem right1 {x : Int} {K : AV → AHeap → Prop} (k : ∀ b H2, Ext H H2 → (b = true → True) → (b = false → 0 ≤ x ∧ x ≤ 65536) → K (.bool b) H2) : callF Tryz.prog kp (.fn (.func 277) [] []) [.int .i64 x] H K := by
  refine rr0 ?_
  apply F277.ca
  unfold F277
  refine choice_within ?_
  by_cases h : 0 ≤ x ∧ x ≤ 65536
  · rw [decide_eq_true h]
    refine rr0 ?_
    exact k false _ .refl (fun _ => trivial) (fun _ => h)
  · rw [decide_eq_false h]
    refine rr0 ?_
    exact k true _ .refl (fun _ => trivial) (fun h => by cases h)

theorem choice_Right {g : Geom} {s : Scr} {busy fails : List Int} {turns : List Turn} {torn marked : List Int} (sc : ScrAt H s busy fails turns torn marked) (sm : busy.length ≤ 2 ^ 30 ∧ fails.length ≤ 2 ^ 30 ∧ turns.length ≤ 2 ^ 30 ∧ torn.length ≤ 2 ^ 30 ∧ marked.length ≤ 2 ^ 30)
    (k1 : Scr.Ok g s busy fails turns torn marked → ∀ H', Ext H H' → R (.bool true) H') (k2 : ∀ H', Ext H H' → R (.bool false) H') : Ca Tryz.prog kp 227 [.agg g.L, .agg s.L] H R := by
  have hgl : g.L.length = 7 := rfl
  have hgt : List.take 7 g.L = g.L := rfl
  have hsl : s.L.length = 6 := rfl
  apply F227.ca
  unfold F227
  refine rr3 @hgl @hgt @hsl ?_
  generalize hH2 : AHeap.push (AHeap.push H _) _ = H2
  have e2 : Ext H H2 := hH2 ▸ by exact fa
  have n2 : H2.n = H.n + 2 := by rw [← hH2]; simp
  have hn : (AHeap.push H (.cells 7 g.L)).n = H.n + 1 := rfl
  rw [hn]
  have y2 : At H2 H.n (.cells 7 g.L) := ⟨by rw [← hH2]; simp (disch := (first | assumption | omega | (simp <;> omega) | fail)) [SW, SA, SV, if_pos, if_neg, dec_t, dec_f], by omega⟩
  have z2 : At H2 (H.n + 1) (.cells 6 s.L) := ⟨by rw [← hH2]; simp (disch := (first | assumption | omega | (simp <;> omega) | fail)) [SW, SA, SV, if_pos, if_neg, dec_t, dec_f], by omega⟩
  clear hH2
  refine geom_Check (fun ok H3 e3 => ?_) (fun _ H3 e3 => ?_)
  · have e03 := e2.ext e3
    have y3 := y2.ext e3
    have z3 := z2.ext e3
    have s3 := sc.ext e03
    have yg := y3.g
    have zg := z3.g
    unfold Geom.L at yg
    unfold Scr.L at zg
    refine rr8 @yg @zg @s3.b.ln @s3.f.ln @s3.t.ln @s3.o.ln @s3.m.ln @b359 ?_
    apply F227.L0_un
    intro X hX
    unfold F227.B0
    refine rr1 @i359 ?_
    refine bb0 ?_ ?_
    · intro q; try simp only [decide_eq_true_eq, decide_eq_false_iff_not, Decidable.not_not, Int.not_lt, Int.not_le, Bool.not_eq_true, Bool.not_eq_false, Bool.not_eq_eq_eq_not, Bool.not_true, Bool.not_false] at q
      refine rr0 ?_
      exact k2 _ e03
    intro q0; try simp only [decide_eq_true_eq, decide_eq_false_iff_not, Decidable.not_not, Int.not_lt, Int.not_le, Bool.not_eq_true, Bool.not_eq_false, Bool.not_eq_eq_eq_not, Bool.not_true, Bool.not_false] at q0
    refine rr0 ?_
    apply hX; clear hX X
    apply F227.L0_un
    intro X hX
    unfold F227.B0
    refine rr1 @i359 ?_
    refine bb0 ?_ ?_
    · intro q; try simp only [decide_eq_true_eq, decide_eq_false_iff_not, Decidable.not_not, Int.not_lt, Int.not_le, Bool.not_eq_true, Bool.not_eq_false, Bool.not_eq_eq_eq_not, Bool.not_true, Bool.not_false] at q
      refine rr0 ?_
      exact k2 _ e03
    intro q1; try simp only [decide_eq_true_eq, decide_eq_false_iff_not, Decidable.not_not, Int.not_lt, Int.not_le, Bool.not_eq_true, Bool.not_eq_false, Bool.not_eq_eq_eq_not, Bool.not_true, Bool.not_false] at q1
    refine rr0 ?_
    apply hX; clear hX X
    apply F227.L0_un
    intro X hX
    unfold F227.B0
    refine rr1 @i359 ?_
    refine bb0 ?_ ?_
    · intro q; try simp only [decide_eq_true_eq, decide_eq_false_iff_not, Decidable.not_not, Int.not_lt, Int.not_le, Bool.not_eq_true, Bool.not_eq_false, Bool.not_eq_eq_eq_not, Bool.not_true, Bool.not_false] at q
      refine rr0 ?_
      exact k2 _ e03
    intro q2; try simp only [decide_eq_true_eq, decide_eq_false_iff_not, Decidable.not_not, Int.not_lt, Int.not_le, Bool.not_eq_true, Bool.not_eq_false, Bool.not_eq_eq_eq_not, Bool.not_true, Bool.not_false] at q2
    refine rr0 ?_
    apply hX; clear hX X
    apply F227.L0_un
    intro X hX
    unfold F227.B0
    refine rr1 @i359 ?_
    refine bb0 ?_ ?_
    · intro q; try simp only [decide_eq_true_eq, decide_eq_false_iff_not, Decidable.not_not, Int.not_lt, Int.not_le, Bool.not_eq_true, Bool.not_eq_false, Bool.not_eq_eq_eq_not, Bool.not_true, Bool.not_false] at q
      refine rr0 ?_
      exact k2 _ e03
    intro q3; try simp only [decide_eq_true_eq, decide_eq_false_iff_not, Decidable.not_not, Int.not_lt, Int.not_le, Bool.not_eq_true, Bool.not_eq_false, Bool.not_eq_eq_eq_not, Bool.not_true, Bool.not_false] at q3
    refine rr0 ?_
    apply hX; clear hX X
    apply F227.L0_un
    intro X hX
    unfold F227.B0
    refine rr1 @i359 ?_
    refine bb0 ?_ ?_
    · intro q; try simp only [decide_eq_true_eq, decide_eq_false_iff_not, Decidable.not_not, Int.not_lt, Int.not_le, Bool.not_eq_true, Bool.not_eq_false, Bool.not_eq_eq_eq_not, Bool.not_true, Bool.not_false] at q
      refine rr0 ?_
      exact k2 _ e03
    intro q4; try simp only [decide_eq_true_eq, decide_eq_false_iff_not, Decidable.not_not, Int.not_lt, Int.not_le, Bool.not_eq_true, Bool.not_eq_false, Bool.not_eq_eq_eq_not, Bool.not_true, Bool.not_false] at q4
    refine rr0 ?_
    apply hX; clear hX X
    apply F227.L0_un
    intro X hX
    unfold F227.B0
    refine rr2 @yg @zg ?_
    refine has64 (P := fun _ => True) s3.b sm.1 (fun x _ H4 K e4 hK => right1 (fun b H5 e5 h1 h2 => hK b H5 e5 h1 h2)) (fun _ H4 e4 => ?_) (fun hb H4 e4 => ?_)
    · refine rr0 ?_
      exact k2 _ (e03.ext e4)
    · have e04 := e03.ext e4
      have zg4 := (z3.ext e4).g
      unfold Scr.L at zg4
      refine rr1 @zg4 ?_
      refine hasT (P := fun _ => True) (s3.t.ext e4) sm.2.2.1 (fun x _ H5 K e5 hK => right2 ok ((y3.ext e4).ext e5) (fun b H6 e6 h1 h2 => hK b H6 e6 h1 h2)) (fun _ H5 e5 => ?_) (fun ht H5 e5 => ?_)
      · refine rr0 ?_
        exact k2 _ (e04.ext e5)
      · have e05 := e04.ext e5
        have zg5 := ((z3.ext e4).ext e5).g
        have yg5 := ((y3.ext e4).ext e5).g
        unfold Scr.L at zg5
        unfold Geom.L at yg5
        refine rr1 @zg5 ?_
        refine choice_rising (sc.ext e05).f sm.2.1 (fun hf1 hf2 => ?_) ?_
        · have b1 := ok.b1
          have b2 := ok.b2
          refine rr2 @zg5 @yg5 ?_
          refine choice_rising (sc.ext e05).m sm.2.2.2.2 (fun hm1 hm2 => ?_) ?_
          · refine rr2 @zg5 @yg5 ?_
            refine choice_within ?_
            by_cases hc : -1 ≤ s.cut ∧ s.cut ≤ 16777216
            · rw [decide_eq_true hc]
              refine rr0 ?_
              exact k1 ⟨ok, ⟨by omega, by omega, by omega, by omega, by omega⟩, hb, ht, ⟨hf1, hf2⟩, ⟨hm1, hm2⟩, hc⟩ _ e05
            · rw [decide_eq_false hc]
              refine rr0 ?_
              exact k2 _ e05
          · refine rr0 ?_
            exact k2 _ e05
        · refine rr0 ?_
          exact k2 _ e05
  · refine rr0 ?_
    exact k2 _ (e2.ext e3)
end
end Go.Proofs.YtdjmoojonkjafaaGreat
