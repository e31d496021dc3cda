/- Contracts: the chip while nothing is queued, fourth part: parameters, addresses, a cycle. -/
import Derived.Test.YtdjmoojonkjafaaGreatGf
set_option linter.unusedSimpArgs false
set_option linter.unusedVariables false
set_option maxRecDepth 100000
set_option maxHeartbeats 2000000
namespace Go.Proofs.YtdjmoojonkjafaaGreat
open Go.AM Go.Proofs
attribute [local irreducible] Pu Br Gd Gd2 GdR Nb Cq Pp callF Jn StS StG Still loopW Ca Is

/-- copy, with a type's size known -/
def cpS (n : Nat) (H : AHeap) (d x : AV) : Option (AV × AHeap) :=
  match lenS d, lenA x with
  | some dl, some xl =>
    if min xl dl = 0 then some (.int .i64 0, H) else
    match d with
    | .sl h off _ _ =>
      match firstA n (min xl dl) H x, H.get h with
      | some xs, some (.cells sz cs) =>
        if off + min xl dl * n ≤ cs.length ∧ xs.length = min xl dl * n ∧ xs.all scalarA then some (.int .i64 (min xl dl : Nat), H.set h (.cells sz (cs.take off ++ xs ++ cs.drop (off + xs.length)))) else none
      | _, _ => none
    | _ => none
  | _, _ => none
theorem cp26 {H : AHeap} {d x : AV} : copyA Tryz.prog H #[26, 26] [d, x] = cpS 1 H d x := by kernel_rfl
theorem i409 {cs : List AV} {k : IntKind} {i : Int} : aIndex Tryz.prog 409 (.agg cs) (.int k i) = if 0 ≤ i ∧ i < (7 : Nat) then cs[i.toNat * 1]? else none := by kernel_rfl
theorem b409 {x0 x1 x2 x3 x4 x5 x6 : Int} : aBuild Tryz.prog 409 [(0, .int .i64 x0), (1, .int .i64 x1), (2, .int .i64 x2), (3, .int .i64 x3), (4, .int .i64 x4), (5, .int .i64 x5), (6, .int .i64 x6)]
  = some (.agg [.int .i64 x0, .int .i64 x1, .int .i64 x2, .int .i64 x3, .int .i64 x4, .int .i64 x5, .int .i64 x6]) := by kernel_rfl

theorem numL_small {g : Geom} (ok : g.Ok) : ∀ n ∈ numL g, 0 ≤ n ∧ n < 65536 := by
  obtain ⟨_, _, _, _, _, _, _, _, _, _, _, _, _, _, _, _⟩ := ok
  intro n hn
  simp [numL] at hn
  omega

theorem two_len {l : List Int} : (l.flatMap two).length = 2 * l.length := by
  induction l with
  | nil => rfl
  | cons a l ih => simp [two, ih]; omega

theorem chip_parameters {g : Geom} {H : AHeap} {R : AV → AHeap → Prop} (ok : g.Ok) (k : ∀ h H', H.n ≤ h → At H' h (.cells 1 (by8 (parL g))) → Ext H H' → R (.sl h 0 g.raw.toNat (.gr 1)) H') : Ca Tryz.prog kp 352 [.agg g.L] H R := by
  apply F352.ca
  unfold F352
  repeat (first | (with_reducible first | refine X_Jn ?_ | refine X_BrT ?_ | refine X_BrF ?_ | refine X_Nw ?_ | refine X_Cq ?_ | refine X_Gtt ?_ | refine X_Gff ?_ | refine X_Gtf ?_ | refine X_Gft ?_ | refine X_Gu ?_ | refine X_G2tt ?_ | refine X_G2ff ?_ | refine X_G2tf ?_ | refine X_G2ft ?_ | refine X_G2u ?_ | refine X_GRtt ?_ | refine X_GRff ?_ | refine X_GRtf ?_ | refine X_GRft ?_ | refine X_GRu ?_ | refine X_fn ?_) | ((with_reducible first | apply X_Pu | apply X_Nb | apply X_Pp); (case h => first | ((try simp [Geom.L]) <;> (with_reducible first | exact (Is_rfl : Is (some (AV.bool true)) _) | exact (Is_rfl : Is (some (AV.bool false)) _) | ((fail_if_success exact Is_b); exact Is_rfl))) | ((try simp (disch := (first | assumption | omega | (simp <;> omega) | fail)) [SW, SA, SV, if_pos, if_neg, dec_t, dec_f, Geom.L]) <;> (with_reducible first | exact (Is_rfl : Is (some (AV.bool true)) _) | exact (Is_rfl : Is (some (AV.bool false)) _) | ((fail_if_success exact Is_b); exact Is_rfl))))) | ((with_reducible apply X_And); (case h => first | (simp [Geom.L]; done) | (simp (disch := (first | assumption | omega | (simp <;> omega) | fail)) [SW, SA, SV, if_pos, if_neg, dec_t, dec_f, Geom.L]; done))))
  generalize hH1 : H.push _ = H1
  have a1 : At H1 H.n (.cells 7 g.L) := hH1 ▸ At.push
  have e1 : Ext H H1 := hH1 ▸ by exact fa
  clear hH1
  have n1 := e1.n
  refine page_Erased ok (fun h H2 hh a e2 => ?_)
  have a2 := a1.ext e2
  have n2 := e2.n
  unfold Geom.L at a2
  have g2 := a2.g
  refine rr2 @g2 @b409 ?_
  obtain ⟨N, hN⟩ : ∃ N : Nat, g.raw = N := ⟨g.raw.toNat, by have := ok.raw; unfold Geom.raw; omega⟩
  have hN2 : 37 ≤ N := by
    have h1 : g.raw = g.Chunks * (g.Chunk + 2) + 31 := rfl
    have h2 : 1 * (g.Chunk + 2) ≤ g.Chunks * (g.Chunk + 2) := Int.mul_le_mul_of_nonneg_right ok.c1 (by have := ok.k1; omega)
    have := ok.k1
    omega
  have hNu : N ≤ 8300 := by have := ok.raw; have h1 : g.raw = g.Chunks * (g.Chunk + 2) + 31 := rfl; omega
  rw [hN, Int.toNat_natCast] at a
  rw [hN] at k ⊢
  rw [Int.toNat_natCast] at k ⊢
  have hpar : parL g = (numL g).flatMap two ++ List.replicate (N - 14) 255 := by unfold parL; rw [hN, Int.toNat_natCast]
  refine F352.L0_of _ _ _ (fun n x H' => ∃ i : Nat, n + i = 7 ∧ x = (.int .i64 (2 * i), .int .i64 i) ∧ Ext H H' ∧ At H' h (.cells 1 (by8 (((numL g).take i).flatMap two ++ List.replicate (N - 2 * i) 255)))) ?_ 7 _ _ ⟨0, rfl, rfl, e1.ext e2, by simpa using a⟩
  rintro n x H' ⟨i, hn, rfl, e, a⟩ X hX
  have en := e.n
  have al := a.l
  unfold F352.B0
  by_cases hi : i < 7
  · have hin : i < (numL g).length := by simpa [numL] using hi
    have hx : ∃ m, (numL g)[i]? = some m ∧ aIndex Tryz.prog 409 (.agg [AV.int IntKind.i64 g.Planes, AV.int IntKind.i64 g.Blocks, AV.int IntKind.i64 g.Pages, AV.int IntKind.i64 g.Chunks, AV.int IntKind.i64 g.Chunk, AV.int IntKind.i64 g.Rungs, AV.int IntKind.i64 g.Partial]) (.int .i64 i) = some (.int .i64 m) := by
      refine ⟨(numL g)[i], List.getElem?_eq_getElem hin, ?_⟩
      have : [AV.int IntKind.i64 g.Planes, AV.int IntKind.i64 g.Blocks, AV.int IntKind.i64 g.Pages, AV.int IntKind.i64 g.Chunks, AV.int IntKind.i64 g.Chunk, AV.int IntKind.i64 g.Rungs, AV.int IntKind.i64 g.Partial] = (numL g).map (.int .i64) := rfl
      rw [i409, if_pos (by omega), this, List.getElem?_map, Int.toNat_natCast, Nat.mul_one, List.getElem?_eq_getElem hin]; rfl
    obtain ⟨m, hm, hx⟩ := hx
    have hms := numL_small ok m (List.mem_of_getElem? hm)
    have hs : slS 1 (.sl h 0 N (.gr 1)) (some (.int .i64 (2 * i))) none = some (.sl h (2 * i) (N - 2 * i) (.gr 1)) := by
      have h1 : boundA 0 N (some (.int .i64 (2 * i))) = some (2 * i) := by rw [boundA_some (by omega), show (2 * (i : Int)).toNat = 2 * i by omega]
      have h2 : boundA N N none = some N := rfl
      simp [slS, h1, h2]
    refine rr2 @hx @hs ?_
    refine geom_Address hms ?_
    have hll : (by8 (((numL g).take i).flatMap two ++ List.replicate (N - 2 * i) 255)).length = N := by
      rw [by8_len, List.length_append, two_len, List.length_take, List.length_replicate]
      simp [numL]; omega
    have hc : cpS 1 (hUp H' 9) (.sl h (2 * i) (N - 2 * i) (.gr 1)) (.lit (by8 [m % 256, m / 256]) 2 true) = some (.int .i64 2, (hUp H' 9).set h (.cells 1 (by8 (((numL g).take (i + 1)).flatMap two ++ List.replicate (N - 2 * (i + 1)) 255)))) := by
      simp only [cpS, lenS, lenA]
      rw [show min 2 (N - 2 * i) = 2 by omega, if_neg (by omega)]
      have hf : firstA 1 2 (hUp H' 9) (.lit (by8 [m % 256, m / 256]) 2 true) = some (by8 [m % 256, m / 256]) := by simp [firstA, by8]
      rw [hf, get_hUp, a.g]
      simp only
      rw [if_pos ⟨by omega, by simp [by8], by8_sc⟩]
      congr 3
      have h1 : (((numL g).take i).flatMap two).length = 2 * i := by rw [two_len, List.length_take]; simp [numL]; omega
      have h2 : (by8 (((numL g).take i).flatMap two)).length = 2 * i := by rw [by8_len, h1]
      have hap : ∀ l m : List Int, by8 (l ++ m) = by8 l ++ by8 m := fun l m => by simp [by8]
      rw [hap, List.take_append_of_le_length (by omega), List.take_of_length_le (by omega), List.drop_append, List.drop_of_length_le (by omega), List.nil_append, List.take_add_one, hm]
      simp only [Option.toList, List.flatMap_append, List.flatMap_cons, List.flatMap_nil, List.append_nil, hap, two]
      congr 2
      rw [h2, by8_len, by8, by8, List.map_replicate, List.map_replicate, List.drop_replicate]
      congr 1
      simp; omega
    rw [cp26]
    refine rr1 @hc ?_
    have e3 : (2 * (i : Int) + 2) = 2 * ((i + 1 : Nat) : Int) := by omega
    have e4 : ((i : Int) + 1) = ((i + 1 : Nat) : Int) := by omega
    rw [e3, e4]
    exact hX (n - 1) _ _ (by omega) ⟨i + 1, by omega, rfl, by exact fa, ⟨by simp, by simp; omega⟩⟩
  · have : i = 7 := by omega
    subst this
    refine rr0 ?_
    refine k _ _ (by omega) ?_ e
    rw [hpar]
    exact a

theorem chip_address {H : AHeap} {p : ChP} {s : ChQ} {O : List Nat} {R : AV → AHeap → Prop} (a : ChAt H p s O) (ha : s.asked ≤ 2 ^ 30) (hs : s.state = 2 ∨ s.state = 4)
    (k1 : s.state = 2 → ∀ H', ChAt H' p { s with state := 3, column := 0 } O → Fr [p.c] H H' → R (.tup []) H')
    (k2 : s.state = 4 → ∀ H' O', ChAt H' p { s with reg := parL p.g, column := 0, busy := nextB p s, asked := s.asked + 1, state := 1 } O' → Fr [p.c, p.t] H H' → (∀ h ∈ O', h ∈ O ∨ H.n ≤ h) → R (.tup []) H') :
    Ca Tryz.prog kp 336 [.ptr p.c 0, .int .u8 0] H R := by
  obtain ⟨rv, h1, h2, h3, h4, h5⟩ := a.ex
  have hg := h1.g
  have hgl := h1.l
  have ht := a.tel.g
  have htl := a.tel.l
  have hne := a.ct
  have ok := a.ok
  unfold chL at hg
  apply F336.ca
  unfold F336
  rcases hs with hs | hs
  · refine rr1 @hg ?_
    refine k1 hs _ (a.upd (by exact fa) h1 (by simp [chL]) ?_ rfl) (by exact fa)
    simp (disch := (first | assumption | omega | (simp <;> omega) | fail)) [SW, SA, SV, if_pos, if_neg, dec_t, dec_f, ht]
  · refine rr1 @hg ?_
    have hgl2 : [AV.int IntKind.i64 p.g.Planes, AV.int IntKind.i64 p.g.Blocks, AV.int IntKind.i64 p.g.Pages, AV.int IntKind.i64 p.g.Chunks, AV.int IntKind.i64 p.g.Chunk, AV.int IntKind.i64 p.g.Rungs, AV.int IntKind.i64 p.g.Partial] = p.g.L := rfl
    rw [hgl2]
    refine chip_parameters ok (fun h H2 hh a2 e2 => ?_)
    have n2 := e2.n
    have g2 := (h1.ext e2).g
    unfold chL at g2
    have t2 := (a.tel.ext e2).g
    have a2l := a2.l
    refine rd1 @g2 ?_
    generalize hH3 : AHeap.set _ p.c _ = H3
    have e3 : Fr [p.c] H H3 := hH3 ▸ by exact fa
    have hlen : (parL p.g).length = p.g.raw.toNat := by
      have h1 : p.g.raw = p.g.Chunks * (p.g.Chunk + 2) + 31 := rfl
      have h2 : 1 * (p.g.Chunk + 2) ≤ p.g.Chunks * (p.g.Chunk + 2) := Int.mul_le_mul_of_nonneg_right ok.c1 (by have := ok.k1; omega)
      have := ok.k1
      unfold parL; rw [List.length_append, two_len, List.length_replicate]; simp [numL]; omega
    have w : At H3 h (.cells 1 (by8 (parL p.g))) := ⟨by rw [← hH3]; simp (disch := (first | assumption | omega | (simp <;> omega) | fail)) [SW, SA, SV, if_pos, if_neg, dec_t, dec_f, a2.g], by rw [← hH3]; simp; omega⟩
    have gr : Gro H3 1 (.sl h 0 p.g.raw.toNat (.gr 1)) (parL p.g).length (by8 (parL p.g)) := by
      rw [← hlen]; exact .gr (by rw [by8_len]; simp) w by8_sc
    have b : ChAt H3 p { s with reg := parL p.g, column := 0 } (h :: O) := by
      refine ⟨ok, ⟨_, ⟨by rw [← hH3]; simp [chL], by rw [← hH3]; simp; omega⟩, rfl, rfl, gr.sl, ?_⟩, ⟨by rw [← hH3]; simp (disch := (first | assumption | omega | (simp <;> omega) | fail)) [SW, SA, SV, if_pos, if_neg, dec_t, dec_f, t2], by rw [← hH3]; simp; omega⟩, a.bv.fr e3 (fun h hh => by have := a.bd h hh; simp [this]), ?_, hne, by simp [a.co], by simp [a.to], ?_, a.bl⟩
      · intro h' hh'; simp [fp] at hh'; subst hh'; refine ⟨by simp, by omega, by omega⟩
      · intro h' hh'; have := a.bd h' hh'; simp [this]
      · intro h' hh'
        rcases List.mem_cons.1 hh' with rfl | hh'
        · exact w.l
        · have := a.al h' hh'; have := e3.n; omega
    clear hH3
    refine chip_start b ha (fun H4 c e4 => ?_)
    refine rr0 ?_
    refine k2 hs _ _ c ((e3.mono (by simp)).trans e4 (by simp)) (fun h' hh' => ?_)
    rcases List.mem_cons.1 hh' with rfl | hh'
    · exact .inr hh
    · exact .inl hh'
end Go.Proofs.YtdjmoojonkjafaaGreat
