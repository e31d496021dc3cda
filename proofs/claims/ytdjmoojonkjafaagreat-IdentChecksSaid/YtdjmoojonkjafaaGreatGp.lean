/- Contracts: the judge, within what is sent to find out a chip's name. -/
import Derived.Test.YtdjmoojonkjafaaGreatGo
set_option linter.unusedSimpArgs false
set_option linter.unusedVariables false
set_option maxRecDepth 100000
set_option maxHeartbeats 2000000
namespace Go.Proofs.YtdjmoojonkjafaaGreat
open Go.AM Go.Proofs
attribute [local irreducible] Pu Br Gd Gd2 GdR Nb Cq Pp callF Jn StS StG Still loopW Ca Is

/-- what changes of a judge that has nothing queued and nothing behind; how many bytes are listed -/
structure JQ where
  (op : Int) (listed : Nat) (writes : Int) (polls busy : Bool) (column : Int) (data : Bool)
def jL (g : Geom) (bl : AV) (j : JQ) (lv : AV) : List AV := [.int .i64 g.Planes, .int .i64 g.Blocks, .int .i64 g.Pages, .int .i64 g.Chunks, .int .i64 g.Chunk, .int .i64 g.Rungs, .int .i64 g.Partial,
  bl, .int .i64 j.op, lv, .int .i64 j.writes, .bool j.polls, .bool j.busy, .bool false, .int .i64 0, .int .i64 j.column, .bool j.data, .nils, .nils, .nils]
structure JAt (H : AHeap) (q : Nat) (g : Geom) (bl : AV) (j : JQ) (O : List Nat) : Prop where
  ok : g.Ok
  ex : ∃ lv cs, At H q (.cells 20 (jL g bl j lv)) ∧ Gro H 1 lv j.listed cs ∧ ∀ h ∈ fp lv, h ∈ O ∧ h ≠ q
  bl : ∃ nb : Nat, 0 < nb ∧ lnS bl = some (.int .i64 nb)
  qo : q ∈ O
  al : ∀ h ∈ O, h < H.n
structure JTo (q : Nat) (g : Geom) (bl : AV) (j' : JQ) (H H' : AHeap) (O O' : List Nat) : Prop where
  at_ : JAt H' q g bl j' O'
  fr : Fr O H H'
  sub : ∀ h ∈ O', h ∈ O ∨ H.n ≤ h

section
variable {H : AHeap} {q : Nat} {g : Geom} {bl : AV} {j j' : JQ} {O : List Nat} {R : AV → AHeap → Prop}

theorem JAt.fr {H' : AHeap} {F : List Nat} (a : JAt H q g bl j O) (e : Fr F H H') (d : ∀ h ∈ O, h ∉ F) : JAt H' q g bl j O := by
  obtain ⟨lv, cs, h1, h2, h3⟩ := a.ex
  exact ⟨a.ok, ⟨lv, cs, h1.fr e (d _ a.qo), h2.fr e (fun h hh => d _ (h3 h hh).1), h3⟩, a.bl, a.qo, fun h hh => Nat.lt_of_lt_of_le (a.al h hh) e.n⟩
theorem JAt.ext {H' : AHeap} (a : JAt H q g bl j O) (e : Ext H H') : JAt H' q g bl j O := a.fr e (by simp)
theorem JAt.drop {H' : AHeap} (a : JAt H q g bl j O) (e : Fr [q] H H') (hg : H'.get q = some (.cells 20 (jL g bl j' .nils))) (hl : j'.listed = 0) : JAt H' q g bl j' O := by
  obtain ⟨lv, cs, h1, h2, h3⟩ := a.ex
  have n1 := e.n
  exact ⟨a.ok, ⟨.nils, [], ⟨hg, by have := h1.l; omega⟩, by rw [hl]; exact .nil, by simp [fp]⟩, a.bl, a.qo, fun h hh => by have := a.al h hh; omega⟩
theorem JAt.keep {H' : AHeap} {lv : AV} (a : JAt H q g bl j O) (h0 : At H q (.cells 20 (jL g bl j lv))) (e : Fr [q] H H') (hg : H'.get q = some (.cells 20 (jL g bl j' lv))) (hl : j'.listed = j.listed) : JAt H' q g bl j' O := by
  obtain ⟨lv', cs, h1, h2, h3⟩ := a.ex
  have : lv' = lv := by
    have := h0.g; rw [h1.g] at this
    simp [jL] at this; exact this
  subst this
  have n1 := e.n
  exact ⟨a.ok, ⟨lv', cs, ⟨hg, by have := h1.l; omega⟩, by rw [hl]; exact h2.fr e (fun h hh => by simp [(h3 h hh).2]), h3⟩, a.bl, a.qo, fun h hh => by have := a.al h hh; omega⟩
theorem JTo.at1 {H' : AHeap} (a : JAt H q g bl j O) (b : JAt H' q g bl j' O) (e : Fr [q] H H') : JTo q g bl j' H H' O O := ⟨b, e.mono (by simp [a.qo]), fun h hh => .inl hh⟩
theorem JTo.of {H1 H2 : AHeap} {O' : List Nat} (e : Ext H H1) (t : JTo q g bl j' H1 H2 O O') : JTo q g bl j' H H2 O O' :=
  ⟨t.at_, (e.mono (by simp)).trans t.fr (fun g hg => .inl hg), fun h hh => by
    have := e.n
    rcases t.sub h hh with h1 | h1
    · exact .inl h1
    · exact .inr (by omega)⟩
theorem JTo.trans {j2 : JQ} {H1 H2 : AHeap} {O1 O2 : List Nat} (t : JTo q g bl j' H H1 O O1) (u : JTo q g bl j2 H1 H2 O1 O2) : JTo q g bl j2 H H2 O O2 :=
  ⟨u.at_, t.fr.trans u.fr t.sub, fun h hh => by
    have := t.fr.n
    rcases u.sub h hh with h1 | h1
    · exact t.sub h h1
    · exact .inr (by omega)⟩

theorem judge_is (a : JAt H q g bl j O) (k : R (.bool true) H) : Ca Tryz.prog kp 163 [.ptr q 0] H R := by
  obtain ⟨lv, cs, h1, h2, h3⟩ := a.ex
  obtain ⟨nb, hb, hl⟩ := a.bl
  have hg := h1.g
  unfold jL at hg
  apply F163.ca
  unfold F163
  have : decide ((0 : Int) < nb) = true := by simp; omega
  refine rr2 @hg @hl ?_
  exact k

theorem judge_lost (a : JAt H q g bl j O) (k : ∀ H', JAt H' q g bl j O → Fr [q] H H' → R (.tup []) H') : Ca Tryz.prog kp 283 [.ptr q 0] H R := by
  obtain ⟨lv, cs, h1, h2, h3⟩ := a.ex
  have hg := h1.g
  have hq := h1.l
  unfold jL at hg
  apply F283.ca
  unfold F283
  refine rr1 @hg ?_
  apply F283.L0_un
  intro X hX
  unfold F283.B0
  refine rr1 @hg ?_
  exact k _ (a.keep h1 (by exact fa) (by simp [jL]) rfl) (by exact fa)

theorem judge_drop (a : JAt H q g bl j O) (k : ∀ H', JAt H' q g bl { j with polls := false, busy := false, data := false, listed := 0, writes := 0 } O → Fr [q] H H' → R (.tup []) H') : Ca Tryz.prog kp 234 [.ptr q 0] H R := by
  apply F234.ca
  unfold F234
  refine judge_lost a (fun H2 b e => ?_)
  obtain ⟨lv, cs, h1, h2, h3⟩ := b.ex
  have hg := h1.g
  have hq := h1.l
  unfold jL at hg
  refine rr1 @hg ?_
  exact k _ (b.drop (by exact fa) (by simp [jL]) rfl) (e.trans (by exact fa : Fr [q] H2 _) (by simp))

theorem judge_start (a : JAt H q g bl j O) (k : ∀ H', JAt H' q g bl { j with busy := true, op := 1, listed := 0, writes := 0 } O → Fr [q] H H' → R (.tup []) H') : Ca Tryz.prog kp 235 [.ptr q 0] H R := by
  obtain ⟨lv, cs, h1, h2, h3⟩ := a.ex
  obtain ⟨c1, c2⟩ := h2.one
  have hg := h1.g
  have hq := h1.l
  unfold jL at hg
  apply F235.ca
  unfold F235
  refine rr1 @hg ?_
  exact k _ (a.drop (by exact fa) (by simp [jL]) rfl) (by exact fa)
theorem judge_left (a : JAt H q g bl j O) (k : ∀ H', JAt H' q g bl { j with op := 1, listed := 0, writes := 0 } O → Fr [q] H H' → R (.tup []) H') : Ca Tryz.prog kp 236 [.ptr q 0] H R := by
  obtain ⟨lv, cs, h1, h2, h3⟩ := a.ex
  have hg := h1.g
  have hq := h1.l
  unfold jL at hg
  apply F236.ca
  unfold F236
  refine rr1 @hg ?_
  exact k _ (a.drop (by exact fa) (by simp [jL]) rfl) (by exact fa)

theorem judge_poll128 (a : JAt H q g bl j O) (k : R (.bool true) H) : Ca Tryz.prog kp 237 [.ptr q 0, .int .u8 128] H R := by
  have c1 : aBin Tryz.prog .and 5 (.int .u8 128) (.int .u8 64) = some (.int .u8 0) := by kernel_rfl
  apply F237.ca
  unfold F237
  refine rr1 @c1 ?_
  exact k
theorem judge_poll224 (a : JAt H q g bl j O) (k : ∀ H', JAt H' q g bl { j with busy := false } O → Fr [q] H H' → R (.bool true) H') : Ca Tryz.prog kp 237 [.ptr q 0, .int .u8 224] H R := by
  obtain ⟨lv, cs, h1, h2, h3⟩ := a.ex
  have hg := h1.g
  have hq := h1.l
  unfold jL at hg
  have c1 : aBin Tryz.prog .and 5 (.int .u8 224) (.int .u8 64) = some (.int .u8 64) := by kernel_rfl
  have c2 : aBin Tryz.prog .and 5 (.int .u8 224) (.int .u8 1) = some (.int .u8 0) := by kernel_rfl
  have c3 : aBin Tryz.prog .and 5 (.int .u8 224) (.int .u8 32) = some (.int .u8 32) := by kernel_rfl
  apply F237.ca
  unfold F237
  cases hb : j.busy with
  | true =>
    rw [hb] at hg
    refine rr4 @c1 @c2 @c3 @hg ?_
    exact k _ (a.keep h1 (by exact fa) (by simp [jL]) rfl) (by exact fa)
  | false =>
    rw [hb] at hg
    refine rr4 @c1 @c2 @c3 @hg ?_
    exact k _ (a.keep h1 (by exact fa) (by simp [jL]) rfl) (by exact fa)

theorem judge_begin {b st : Int} {dt : Bool} (hb : b = 144 ∧ st = 2 ∧ dt = false ∨ b = 236 ∧ st = 3 ∧ dt = false ∨ b = 0 ∧ st = 5 ∧ dt = j.data) (a : JAt H q g bl j O) (k : ∀ H', JAt H' q g bl { j with op := st, data := dt, listed := 0, writes := 0 } O → Fr [q] H H' → R (.bool true) H') :
    Ca Tryz.prog kp 287 [.ptr q 0, .int .u8 b] H R := by
  obtain ⟨lv, cs, h1, h2, h3⟩ := a.ex
  have hg := h1.g
  have hq := h1.l
  unfold jL at hg
  apply F287.ca
  unfold F287
  rcases hb with ⟨rfl, rfl, rfl⟩ | ⟨rfl, rfl, rfl⟩ | ⟨rfl, rfl, rfl⟩
  · refine rr1 @hg ?_
    exact k _ (a.drop (by exact fa) (by simp [jL]) rfl) (by exact fa)
  · refine rr1 @hg ?_
    exact k _ (a.drop (by exact fa) (by simp [jL]) rfl) (by exact fa)
  · refine rr1 @hg ?_
    exact k _ (a.drop (by exact fa) (by simp [jL]) rfl) (by exact fa)

theorem judge_command {b st : Int} {dt : Bool} (ho : j.op = 1 ∨ j.op = 6 ∨ j.op = 2 ∧ j.listed = 1) (hb : b = 144 ∧ st = 2 ∧ dt = false ∨ b = 236 ∧ st = 3 ∧ dt = false ∨ b = 0 ∧ st = 5 ∧ dt = j.data) (a : JAt H q g bl j O)
    (k : ∀ H', JAt H' q g bl { j with op := st, data := dt, listed := 0, writes := 0 } O → Fr [q] H H' → R (.bool true) H') : Ca Tryz.prog kp 238 [.ptr q 0, .int .u8 b] H R := by
  obtain ⟨lv, cs, h1, h2, h3⟩ := a.ex
  have hg := h1.g
  have hln := h2.sl.ln
  unfold jL at hg
  apply F238.ca
  unfold F238
  have go : Ca Tryz.prog kp 287 [.ptr q 0, .int .u8 b] (hUp H 14) R := judge_begin hb (a.ext (by exact fa)) fun H' c e => k H' c ((by exact fa : Fr [q] H (hUp H 14)).trans e (by simp))
  refine rr2 @hg @hln ?_
  refine bb0 ?_ ?_
  · intro z; try simp only [decide_eq_true_eq, decide_eq_false_iff_not, Decidable.not_not, Int.not_lt, Int.not_le, Bool.not_eq_true, Bool.not_eq_false, Bool.not_eq_eq_eq_not, Bool.not_true, Bool.not_false] at z
    refine rr2 @hg @hln ?_
    refine bb0 ?_ ?_
    all_goals (intro z2; try simp only [decide_eq_true_eq, decide_eq_false_iff_not, Decidable.not_not, Int.not_lt, Int.not_le, Bool.not_eq_true, Bool.not_eq_false, Bool.not_eq_eq_eq_not, Bool.not_true, Bool.not_false] at z2; rcases ho with ho | ho | ⟨ho, ho2⟩)
    all_goals (try omega)
    all_goals (refine rr2 @hg @hln ?_)
    all_goals exact go
  · intro z; try simp only [decide_eq_true_eq, decide_eq_false_iff_not, Decidable.not_not, Int.not_lt, Int.not_le, Bool.not_eq_true, Bool.not_eq_false, Bool.not_eq_eq_eq_not, Bool.not_true, Bool.not_false] at z
    refine rr2 @hg @hln ?_
    refine bb0 ?_ ?_
    all_goals (intro z2; try simp only [decide_eq_true_eq, decide_eq_false_iff_not, Decidable.not_not, Int.not_lt, Int.not_le, Bool.not_eq_true, Bool.not_eq_false, Bool.not_eq_eq_eq_not, Bool.not_true, Bool.not_false] at z2; rcases ho with ho | ho | ⟨ho, ho2⟩)
    all_goals (try omega)
    all_goals (refine rr2 @hg @hln ?_)
    all_goals exact go
end
end Go.Proofs.YtdjmoojonkjafaaGreat
