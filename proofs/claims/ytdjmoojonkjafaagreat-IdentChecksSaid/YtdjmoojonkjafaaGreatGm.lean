/- Contracts: package ident on a quiet chip, second part. -/
import Derived.Test.YtdjmoojonkjafaaGreatGl
set_option linter.unusedSimpArgs false
set_option linter.unusedVariables false
set_option maxRecDepth 100000
set_option maxHeartbeats 2000000
namespace Go.Proofs.YtdjmoojonkjafaaGreat
open Go.AM Go.Proofs
attribute [local irreducible] Pu Br Gd Gd2 GdR Nb Cq Pp callF Jn StS StG Still loopW Ca Is

theorem b315 {x0 x1 x2 x3 x4 x5 x6 h : Nat} : aBuild Tryz.prog 315 [(0, .ptr h x0), (1, .ptr h x1), (2, .ptr h x2), (3, .ptr h x3), (4, .ptr h x4), (5, .ptr h x5), (6, .ptr h x6)]
  = some (.agg [.ptr h x0, .ptr h x1, .ptr h x2, .ptr h x3, .ptr h x4, .ptr h x5, .ptr h x6]) := by kernel_rfl
theorem i315 {cs : List AV} {k : IntKind} {i : Int} : aIndex Tryz.prog 315 (.agg cs) (.int k i) = if 0 ≤ i ∧ i < (7 : Nat) then cs[i.toNat * 1]? else none := by kernel_rfl

section
variable {H : AHeap} {R : AV → AHeap → Prop}

def ptrs (h : Nat) : List AV := [.ptr h 0, .ptr h 1, .ptr h 2, .ptr h 3, .ptr h 4, .ptr h 5, .ptr h 6]
theorem ident_fields {h : Nat} (k : ∀ H', Ext H H' → R (.agg (ptrs h)) H') : Ca Tryz.prog kp 226 [.ptr h 0] H R := by
  apply F226.ca
  unfold F226
  refine rr1 @b315 ?_
  exact k _ (by exact fa)

theorem ident_Take {g : Geom} {v : AV} (ok : g.Ok) (sv : Sl H 1 v 14 (by8 ((numL g).flatMap two))) (k : ∀ H', Ext H H' → R (.tup [.agg g.L, .int .i64 0]) H') : Ca Tryz.prog kp 160 [v] H R := by
  apply F160.ca
  unfold F160
  refine rr1 @sv.ln ?_
  generalize hn4 : (AHeap.push H _).n = n4
  have hn4' : n4 = H.n + 1 := by rw [← hn4]; rfl
  subst hn4'
  clear hn4
  generalize hH1 : AHeap.push (AHeap.push H _) _ = H1
  have e1 : Ext H H1 := hH1 ▸ by exact fa
  have w2 : At H1 H.n (.cells 7 (List.replicate 7 (.int .i64 0))) := ⟨by rw [← hH1]; simp (disch := (first | assumption | omega | (simp <;> omega) | fail)) [SW, SA, SV, if_pos, if_neg, dec_t, dec_f], by rw [← hH1]; simp; omega⟩
  have w4 : At H1 (H.n + 1) (.cells 7 (List.replicate 7 (.int .i64 0))) := ⟨by rw [← hH1]; simp (disch := (first | assumption | omega | (simp <;> omega) | fail)) [SW, SA, SV, if_pos, if_neg, dec_t, dec_f], by rw [← hH1]; simp⟩
  clear hH1
  refine ident_fields (fun H2 e2 => ?_)
  refine F160.L0_of _ _ _ _ _ (fun m x H' => ∃ i : Nat, m + i = 7 ∧ x = .int .i64 i ∧ Ext H H' ∧ At H' H.n (.cells 7 (List.replicate 7 (.int .i64 0))) ∧ At H' (H.n + 1) (.cells 7 (((numL g).take i).map (.int .i64) ++ List.replicate (7 - i) (.int .i64 0)))) ?_ 7 _ _
    ⟨0, rfl, rfl, e1.ext e2, w2.ext e2, by simpa using w4.ext e2⟩
  rintro m x H' ⟨i, hm, rfl, e, w2, w4⟩ X hX
  have en := e.n
  have sv' := sv.ext e
  have g4 := w4.g
  have l4 := w4.l
  have l2 := w2.l
  unfold F160.B0
  by_cases hi : i < 7
  · have num : ∀ (a : Int), (numL g)[i]? = some a → slS 1 v (some (.int .i64 (2 * i))) (some (.int .i64 (2 * i + 2))) = slS 1 v (some (.int .i64 (2 * i))) (some (.int .i64 (2 * i + 2))) := fun _ _ => rfl
    have hin : i < (numL g).length := by simpa [numL] using hi
    obtain ⟨a, ha⟩ : ∃ a, (numL g)[i]? = some a := ⟨_, List.getElem?_eq_getElem hin⟩
    have has := numL_small ok a (List.mem_of_getElem? ha)
    obtain ⟨v', hv1, hv2, _⟩ := sv'.slice (lo := some (.int .i64 (2 * i))) (hi := some (.int .i64 (2 * i + 2))) (i := 2 * i) (j := 2 * i + 2) (by rw [boundA_some (by omega), show (2 * (i : Int) + 2).toNat = 2 * i + 2 by omega]) (by rw [boundA_some (by omega), show (2 * (i : Int)).toNat = 2 * i by omega]) (by omega) (by omega)
    have hcut : (((by8 ((numL g).flatMap two)).drop (2 * i * 1)).take ((2 * i + 2 - 2 * i) * 1)) = by8 (two a) := by
      have : i = 0 ∨ i = 1 ∨ i = 2 ∨ i = 3 ∨ i = 4 ∨ i = 5 ∨ i = 6 := by omega
      rcases this with rfl | rfl | rfl | rfl | rfl | rfl | rfl <;> (simp [numL] at ha; subst ha; simp [numL, two, by8])
    rw [hcut, show 2 * i + 2 - 2 * i = 2 by omega] at hv2
    have hp : aIndex Tryz.prog 315 (.agg (ptrs (H.n + 1))) (.int .i64 i) = some (.ptr (H.n + 1) i) := by
      rw [i315, if_pos (by omega), Int.toNat_natCast, Nat.mul_one]
      have : i = 0 ∨ i = 1 ∨ i = 2 ∨ i = 3 ∨ i = 4 ∨ i = 5 ∨ i = 6 := by omega
      rcases this with rfl | rfl | rfl | rfl | rfl | rfl | rfl <;> rfl
    refine rr2 @hp @hv1 ?_
    refine geom_Number hv2 (by omega) (by omega) (fun H3 e3 => ?_)
    have hae : a % 256 + a / 256 * 256 = a := by omega
    rw [hae]
    have n3 := e3.n
    have e13 := e.ext e3
    have w43 := w4.ext e3
    have g43 := w43.g
    have hset : (((numL g).take i).map (AV.int .i64) ++ List.replicate (7 - i) (AV.int .i64 0)).set i (AV.int .i64 a) = ((numL g).take (i + 1)).map (AV.int .i64) ++ List.replicate (7 - (i + 1)) (AV.int .i64 0) := by
      have hl : (((numL g).take i).map (AV.int .i64)).length = i := by rw [List.length_map, List.length_take]; simp [numL]; omega
      rw [List.set_append_right _ _ (by omega), hl, Nat.sub_self, show 7 - i = 7 - (i + 1) + 1 by omega, List.replicate_succ, List.set_cons_zero, List.take_add_one, ha]
      simp
    have hle : i + 1 ≤ ((((numL g).take i).map (AV.int .i64)) ++ List.replicate (7 - i) (AV.int .i64 0)).length := by
      rw [List.length_append, List.length_map, List.length_take, List.length_replicate]; simp [numL]; omega
    have hst : stA 1 H3 (.ptr (H.n + 1) i) (.int .i64 a) = some (H3.set (H.n + 1) (.cells 7 (((numL g).take (i + 1)).map (.int .i64) ++ List.replicate (7 - (i + 1)) (.int .i64 0)))) := by
      rw [stA_p, g43, stB_c, if_pos ⟨rfl, hle, rfl⟩, show AV.cells (.int .i64 a) = [.int .i64 a] from rfl, putCells_1, hset]
    refine rr1 @hst ?_
    refine hX (m - 1) _ _ (by omega) ⟨i + 1, by omega, by simp, by exact fa, ?_, by simpa using At.set (sz := 7) (cs := ((numL g).take (i + 1)).map (AV.int .i64) ++ List.replicate (7 - (i + 1)) (AV.int .i64 0)) w43⟩
    refine (w2.ext e3).fr (F := [H.n + 1]) ?_ (by simp)
    exact fa
  · have : i = 7 := by omega
    subst this
    have hL : ((numL g).take 7).map (AV.int .i64) ++ List.replicate (7 - 7) (.int .i64 0) = g.L := by simp [numL, Geom.L]
    rw [hL] at w4 g4
    have g42 := g4
    unfold Geom.L at g42
    have g2 := w2.g
    refine rr1 @g42 ?_
    have hL2 : [AV.int IntKind.i64 g.Planes, AV.int IntKind.i64 g.Blocks, AV.int IntKind.i64 g.Pages, AV.int IntKind.i64 g.Chunks, AV.int IntKind.i64 g.Chunk, AV.int IntKind.i64 g.Rungs, AV.int IntKind.i64 g.Partial] = g.L := rfl
    rw [hL2]
    refine geom_Check (fun _ H3 e3 => ?_) (fun h => absurd ok h)
    have w43 := (w4.ext e3).g
    have w23 := (w2.ext e3).g
    have n3 := e3.n
    have e13 := e.ext e3
    unfold Geom.L at w43
    have hr7 : List.replicate 7 (AV.int .i64 0) = [.int .i64 0, .int .i64 0, .int .i64 0, .int .i64 0, .int .i64 0, .int .i64 0, .int .i64 0] := rfl
    rw [hr7] at w23
    refine rr2 @w43 @w23 ?_
    exact k _ (by exact fa)

/-! bytes -/
theorem bytesOf_by8 : ∀ {l : List Int}, (∀ b ∈ l, 0 ≤ b ∧ b < 256) → bytesOf (by8 l) = some (l.map fun b => UInt8.ofNat b.toNat)
  | [], _ => rfl
  | b :: l, h => by
    have hb := h b (by simp)
    show bytesOf (.int .u8 b :: by8 l) = _
    simp only [bytesOf]
    rw [if_pos hb, bytesOf_by8 (fun c hc => h c (by simp [hc]))]
    rfl
theorem aread_by8 {v : AV} {len : Nat} {l : List Int} (s : Sl H 1 v len (by8 l)) (h : ∀ b ∈ l, 0 ≤ b ∧ b < 256) : aread Tryz.prog H (.str v) = some (.str ⟨(l.map fun b => UInt8.ofNat b.toNat).toArray⟩) := by
  have hl := s.cl
  rw [by8_len] at hl
  have hf := s.fst
  have hb := bytesOf_by8 h
  rcases s.cases with ⟨rfl, rfl, hc⟩ | ⟨e, rfl, hh⟩ | ⟨a, o, c, rfl, _⟩
  · have : l = [] := List.length_eq_zero_iff.1 (by omega)
    subst this; rfl
  · simp only [aread]; rw [if_pos (by rw [by8_len]; omega), hb]; rfl
  · simp only [aread, hf, Option.bind_some, hb]; rfl
theorem u8_inj {l m : List Int} (hl : ∀ b ∈ l, 0 ≤ b ∧ b < 256) (hm : ∀ b ∈ m, 0 ≤ b ∧ b < 256) (h : (l.map fun b => UInt8.ofNat b.toNat) = m.map fun b => UInt8.ofNat b.toNat) : l = m := by
  induction l generalizing m with
  | nil => cases m with
    | nil => rfl
    | cons b m => simp at h
  | cons a l ih => cases m with
    | nil => simp at h
    | cons b m =>
      simp only [List.map_cons, List.cons.injEq] at h
      have h1 := congrArg UInt8.toNat h.1
      have ha := hl a (by simp)
      have hb := hm b (by simp)
      simp only [UInt8.toNat_ofNat'] at h1
      rw [Nat.mod_eq_of_lt (by omega), Nat.mod_eq_of_lt (by omega)] at h1
      rw [show a = b by omega, ih (fun c hc => hl c (by simp [hc])) (fun c hc => hm c (by simp [hc])) h.2]
theorem bytes_Equal {v u : AV} {n n' : Nat} {l m : List Int} (s : Sl H 1 v n (by8 l)) (t : Sl H 1 u n' (by8 m)) (hl : ∀ b ∈ l, 0 ≤ b ∧ b < 256) (hm : ∀ b ∈ m, 0 ≤ b ∧ b < 256) (k : R (.bool (decide (l = m))) H) :
    Ca Tryz.prog kp 157 [v, u] H R := by
  apply F157.ca
  unfold F157
  have e : aBin Tryz.prog .eql 9 (.str ⟨(l.map fun b => UInt8.ofNat b.toNat).toArray⟩) (.str ⟨(m.map fun b => UInt8.ofNat b.toNat).toArray⟩) = some (.bool (decide (l = m))) := by
    simp only [aBin, aStr, ByteArray.toList_eq]
    congr 2
    rw [Bool.eq_iff_iff]
    simp only [beq_iff_eq, decide_eq_true_eq]
    constructor
    · intro h; exact u8_inj hl hm h
    · rintro rfl; rfl
  have r1 := aread_by8 s hl
  have r2 := aread_by8 t hm
  refine rr2 @r1 @r2 ?_
  (with_reducible first | apply X_Pu | apply X_Nb | apply X_Pp); (case h => first | ((try simp [e]) <;> (with_reducible exact Is_rfl)) | ((try simp (disch := (first | assumption | omega | (simp <;> omega) | fail)) [SW, SA, SV, if_pos, if_neg, dec_t, dec_f, e]) <;> (with_reducible exact Is_rfl)))
  exact k
end
end Go.Proofs.YtdjmoojonkjafaaGreat
