/- Contracts: package choice: a new teller. -/
import Derived.Test.YtdjmoojonkjafaaGreatGs
set_option linter.unusedSimpArgs false
set_option linter.unusedVariables false
set_option maxRecDepth 100000
set_option maxHeartbeats 2000000
namespace Go.Proofs.YtdjmoojonkjafaaGreat
open Go.AM Go.Proofs
attribute [local irreducible] Pu Br Gd Gd2 GdR Nb Cq Pp callF Jn StS StG Still loopW Ca Is

section
variable {H : AHeap} {R : AV → AHeap → Prop}

theorem mt319 : mapTy Tryz.prog 319 = some (323, 24) := by kernel_rfl
theorem key323 {a b : Int} : keyOkA Tryz.prog 323 (.agg [.int .i64 a, .int .i64 b]) = true := by kernel_rfl
theorem eq323 {a b c d : Int} : aEq Tryz.prog eqDepth 323 (.agg [.int .i64 a, .int .i64 b]) (.agg [.int .i64 c, .int .i64 d]) = eqCh [(a, c), (b, d)] := by kernel_rfl
theorem zero24 : zeroT Tryz.prog 24 = some .nils := by kernel_rfl

def KeyOk (e : AV × AV × Nat) : Prop := ∃ a b, e.1 = .agg [.int .i64 a, .int .i64 b]
theorem find323 {a b : Int} : ∀ {es : List (AV × AV × Nat)} {k : Nat}, (∀ e ∈ es, KeyOk e) →
    (findA Tryz.prog 323 (.agg [.int .i64 a, .int .i64 b]) es k = some none ∧ ∀ e ∈ es, e.1 ≠ .agg [.int .i64 a, .int .i64 b]) ∨
    ∃ i e, es[i]? = some e ∧ e.1 = .agg [.int .i64 a, .int .i64 b] ∧ findA Tryz.prog 323 (.agg [.int .i64 a, .int .i64 b]) es k = some (some (k + i, e.2.1)) ∧ ∀ j e', j < i → es[j]? = some e' → e'.1 ≠ .agg [.int .i64 a, .int .i64 b]
  | [], k, _ => .inl ⟨rfl, by simp⟩
  | e :: es, k, h => by
    obtain ⟨c, d, he⟩ := h e (by simp)
    simp only [findA]
    rw [he, eq323, eqCh_eq]
    by_cases hq : a = c ∧ b = d
    · obtain ⟨rfl, rfl⟩ := hq
      refine .inr ⟨0, e, by simp, he, by simp, fun j e' hj => absurd hj (by omega)⟩
    · have hd : decide (∀ x ∈ [(a, c), (b, d)], x.1 = x.2) = false := by simp; exact fun h1 h2 => hq ⟨h1, h2⟩
      rw [hd]
      rcases find323 (a := a) (b := b) (es := es) (k := k + 1) (fun e he => h e (by simp [he])) with ⟨h1, h2⟩ | ⟨i, e', h1, h2, h3, h4⟩
      · refine .inl ⟨h1, fun x hx => ?_⟩
        rcases List.mem_cons.1 hx with rfl | hx
        · rw [he]; intro hh; simp at hh; exact hq ⟨hh.1.symm, hh.2.symm⟩
        · exact h2 x hx
      · refine .inr ⟨i + 1, e', by simpa using h1, h2, by rw [h3, show k + 1 + i = k + (i + 1) by omega], fun j e'' hj hje => ?_⟩
        cases j with
        | zero => simp at hje; subst hje; rw [he]; intro hh; simp at hh; exact hq ⟨hh.1.symm, hh.2.symm⟩
        | succ j => exact h4 j e'' (by omega) (by simpa using hje)

theorem born_of : ∀ {es : List (AV × AV × Nat)} {i k : Nat} {e : AV × AV × Nat}, es[i]? = some e → (∀ j e', j < i → es[j]? = some e' → e'.2.2 ≠ e.2.2) → bornAt e.2.2 es k = some (k + i)
  | [], i, k, e, h, _ => by simp at h
  | x :: es, i, k, e, h, hd => by
    simp only [bornAt]
    cases i with
    | zero => simp at h; subst h; simp
    | succ i =>
      have := hd 0 x (by omega) (by simp)
      rw [if_neg (by omega), born_of (i := i) (by simpa using h) (fun j e' hj hje => hd (j + 1) e' (by omega) (by simpa using hje))]
      congr 1; omega

/-- the map of bits that are turned: each key's own slice -/
structure TMap (H : AHeap) (base B : Nat) (X : List Nat) (es : List (AV × AV × Nat)) (ck : Nat) : Prop where
  key : ∀ e ∈ es, KeyOk e
  val : ∀ e ∈ es, ∃ n cs, Gro H 1 e.2.1 n cs ∧ n ≤ B
  own : ∀ e ∈ es, ∀ h ∈ fp e.2.1, base ≤ h ∧ h ∉ X
  dis : ∀ (i j : Nat) (e f : AV × AV × Nat), i < j → es[i]? = some e → es[j]? = some f → (∀ h ∈ fp e.2.1, h ∉ fp f.2.1) ∧ e.2.2 ≠ f.2.2
  brn : ∀ e ∈ es, e.2.2 < ck

theorem entry319 {h ck : Nat} {es : List (AV × AV × Nat)} {a b : Int} (hg : H.get h = some (.map es ck)) (hk : ∀ e ∈ es, KeyOk e) :
    ∃ (i : Nat) (es' : List (AV × AV × Nat)) (ck' : Nat) (v : AV) (bn : Nat), mapEntryA Tryz.prog H 319 (.map h) (.agg [.int .i64 a, .int .i64 b]) = some (.tup [v, .int .i64 bn], H.set h (.map es' ck')) ∧ es'[i]? = some (.agg [.int .i64 a, .int .i64 b], v, bn) ∧
      (es' = es ∧ ck' = ck ∨ es' = es ++ [(.agg [.int .i64 a, .int .i64 b], .nils, ck)] ∧ ck' = ck + 1 ∧ v = .nils) := by
  unfold mapEntryA
  rw [mt319]
  simp only [hg]
  rw [if_pos key323]
  rcases find323 (a := a) (b := b) (es := es) (k := 0) hk with ⟨h1, h2⟩ | ⟨i, e, h1, h2, h3, h4⟩
  · rw [h1]
    simp only [zero24]
    exact ⟨es.length, _, _, .nils, ck, rfl, by simp, .inr ⟨rfl, rfl, rfl⟩⟩
  · rw [h3]
    simp only [Nat.zero_add, h1]
    rw [if_pos (by rw [h2]; simp)]
    have hset : es.set i (.agg [.int .i64 a, .int .i64 b], e.2.1, e.2.2) = es := by
      apply List.ext_getElem?
      intro j
      rw [List.getElem?_set]
      split
      · rename_i hij; subst hij
        split
        · rw [h1]; rw [← h2]
        · rename_i hlt; rw [List.getElem?_eq_none (by omega)]
      · rfl
    rw [hset]
    exact ⟨i, es, ck, e.2.1, e.2.2, rfl, by rw [h1, ← h2], .inl ⟨rfl, rfl⟩⟩

theorem TMap.fr {H' : AHeap} {base B ck : Nat} {es : List (AV × AV × Nat)} {F : List Nat} (t : TMap H base B [] es ck) (e : Fr F H H') (hF : ∀ h ∈ F, h < base) : TMap H' base B [] es ck :=
  ⟨t.key, fun x hx => by
    obtain ⟨n, cs, g, hn⟩ := t.val x hx
    exact ⟨n, cs, g.fr e (fun h hh hf => by have := (t.own x hx h hh).1; have := hF h hf; omega), hn⟩, t.own, t.dis, t.brn⟩
theorem TMap.push {base B ck : Nat} {es : List (AV × AV × Nat)} {a b : Int} (t : TMap H base B [] es ck) : TMap H base B [] (es ++ [(.agg [.int .i64 a, .int .i64 b], .nils, ck)]) (ck + 1) := by
  refine ⟨fun x hx => ?_, fun x hx => ?_, fun x hx => ?_, fun i j e f hij he hf => ?_, fun x hx => ?_⟩
  · rcases List.mem_append.1 hx with hx | hx
    · exact t.key x hx
    · simp at hx; subst hx; exact ⟨a, b, rfl⟩
  · rcases List.mem_append.1 hx with hx | hx
    · exact t.val x hx
    · simp at hx; subst hx; exact ⟨0, [], .nil, by omega⟩
  · rcases List.mem_append.1 hx with hx | hx
    · exact t.own x hx
    · simp at hx; subst hx; simp [fp]
  · have hj : j < es.length + 1 := by
      have := List.getElem?_eq_some_iff.1 hf
      obtain ⟨h, _⟩ := this
      simpa using h
    rw [List.getElem?_append_left (by omega)] at he
    by_cases hjl : j < es.length
    · rw [List.getElem?_append_left hjl] at hf
      exact t.dis i j e f hij he hf
    · rw [List.getElem?_append_right (by omega), show j - es.length = 0 by omega] at hf
      simp at hf; subst hf
      exact ⟨by simp [fp], by have := t.brn e (List.mem_of_getElem? he); simp; omega⟩
  · rcases List.mem_append.1 hx with hx | hx
    · have := t.brn x hx; omega
    · simp at hx; subst hx; simp
theorem TMap.store {H16 H17 : AHeap} {base B B' ck i1 n' m : Nat} {es : List (AV × AV × Nat)} {key v v' : AV} {bn : Nat} {cs' : List AV} (t : TMap H base B [] es ck) (hi1 : es[i1]? = some (key, v, bn)) (g16 : Gro H16 1 v' n' cs') (e16 : Fr (fp v) H H16)
    (f16 : ∀ h ∈ fp v', h ∈ fp v ∨ H.n ≤ h) (hn : n' ≤ B') (hB : B ≤ B') (hb : base ≤ H.n) (e17 : Fr [m] H16 H17) (hm : m < base) : TMap H17 base B' [] (es.set i1 (key, v', bn)) ck := by
  have hlt : i1 < es.length := (List.getElem?_eq_some_iff.1 hi1).1
  have hmem := List.mem_of_getElem? hi1
  have cases_ : ∀ j x, (es.set i1 (key, v', bn))[j]? = some x → (j = i1 ∧ x = (key, v', bn)) ∨ (j ≠ i1 ∧ es[j]? = some x) := by
    intro j x hx
    rw [List.getElem?_set] at hx
    split at hx
    · rename_i h; subst h; simp [hlt] at hx; exact .inl ⟨rfl, hx.symm⟩
    · rename_i h; exact .inr ⟨fun h2 => h h2.symm, hx⟩
  have own' : ∀ h ∈ fp v', base ≤ h := by
    intro h hh
    rcases f16 h hh with q | q
    · exact (t.own _ hmem h q).1
    · omega
  have sep : ∀ j x, j ≠ i1 → es[j]? = some x → ∀ h ∈ fp x.2.1, h ∉ fp v := by
    intro j x hj hx h hh hv
    rcases Nat.lt_or_gt_of_ne hj with hlt | hgt
    · exact (t.dis j i1 x _ hlt hx hi1).1 h hh hv
    · exact (t.dis i1 j _ x hgt hi1 hx).1 h hv hh
  have sep' : ∀ j x, j ≠ i1 → es[j]? = some x → ∀ h ∈ fp x.2.1, h ∉ fp v' := by
    intro j x hj hx h hh hv
    rcases f16 h hv with q | q
    · exact sep j x hj hx h hh q
    · obtain ⟨n, cs, g, _⟩ := t.val x (List.mem_of_getElem? hx)
      have := g.al h hh; omega
  refine ⟨fun x hx => ?_, fun x hx => ?_, fun x hx => ?_, fun i j e f hij he hf => ?_, fun x hx => ?_⟩
  · obtain ⟨j, hj⟩ := List.getElem?_of_mem hx
    rcases cases_ j x hj with ⟨_, rfl⟩ | ⟨_, h⟩
    · obtain ⟨a, b, hab⟩ := t.key _ hmem; exact ⟨a, b, hab⟩
    · exact t.key _ (List.mem_of_getElem? h)
  · obtain ⟨j, hj⟩ := List.getElem?_of_mem hx
    rcases cases_ j x hj with ⟨_, rfl⟩ | ⟨hne, h⟩
    · exact ⟨n', cs', g16.fr e17 (fun h hh => by have := own' h hh; simp; omega), hn⟩
    · obtain ⟨n, cs, g, hnn⟩ := t.val x (List.mem_of_getElem? h)
      exact ⟨n, cs, (g.fr e16 (sep j x hne h)).fr e17 (fun h2 hh => by have := (t.own x (List.mem_of_getElem? h) h2 hh).1; simp; omega), by omega⟩
  · obtain ⟨j, hj⟩ := List.getElem?_of_mem hx
    rcases cases_ j x hj with ⟨_, rfl⟩ | ⟨hne, h⟩
    · exact fun h hh => ⟨own' h hh, by simp⟩
    · exact t.own x (List.mem_of_getElem? h)
  · rcases cases_ i e he with ⟨hi, rfl⟩ | ⟨hi, h⟩ <;> rcases cases_ j f hf with ⟨hj, rfl⟩ | ⟨hj, h2⟩
    · omega
    · refine ⟨fun h hh hf2 => sep' j f hj h2 h hf2 hh, ?_⟩
      subst hi; exact (t.dis i j _ f hij hi1 h2).2
    · refine ⟨sep' i e hi h, ?_⟩
      subst hj; exact (t.dis i j e _ hij h hi1).2
    · exact t.dis i j e f hij h h2
  · obtain ⟨j, hj⟩ := List.getElem?_of_mem hx
    rcases cases_ j x hj with ⟨_, rfl⟩ | ⟨_, h⟩
    · exact (t.brn _ hmem : bn < ck)
    · exact t.brn _ (List.mem_of_getElem? h)
theorem store319 {h ck i1 bn : Nat} {es : List (AV × AV × Nat)} {key v v' : AV} (hg : H.get h = some (.map es ck)) (hi1 : es[i1]? = some (key, v, bn)) (hd : ∀ (i j : Nat) (e f : AV × AV × Nat), i < j → es[i]? = some e → es[j]? = some f → e.2.2 ≠ f.2.2) :
    entryStoreA H (.map h) (.int .i64 bn) v' = some (H.set h (.map (es.set i1 (key, v', bn)) ck)) := by
  have hb := born_of (k := 0) hi1 (fun j e' hj hje => hd j i1 e' _ hj hje hi1)
  simp only [Nat.zero_add] at hb
  simp only [entryStoreA, hg, hb, hi1]

theorem b321 {a b c d : AV} : aBuild Tryz.prog 321 [(0, a), (1, b), (3, c), (2, d)] = bdS [.nils, .nils, .nilm, .nils, .int .i64 0, .int .i64 0] [(0, 1, a), (1, 1, b), (3, 1, c), (2, 1, d)] := by kernel_rfl

/-- a teller, as it is made -/
structure TelNew (H : AHeap) (t : Nat) (bv fv tv : AV) (m : Nat) (busy fails : List Int) (torn : List Int) (O : List Nat) : Prop where
  at_ : At H t (.cells 6 [bv, fv, .map m, tv, .int .i64 0, .int .i64 0])
  b : Gro H 1 bv busy.length (in64 busy)
  f : Gro H 1 fv fails.length (in64 fails)
  o : Gro H 1 tv torn.length (by8 torn)
  ob : ∀ h ∈ fp bv, h ∈ O ∧ h ≠ t
  of : ∀ h ∈ fp fv, h ∈ O ∧ h ≠ t
  oo : ∀ h ∈ fp tv, h ∈ O ∧ h ≠ t
  to : t ∈ O
  al : ∀ h ∈ O, h < H.n

theorem choice_New {g : Geom} {s : Scr} {busy fails : List Int} {turns : List Turn} {torn marked : List Int} (sc : ScrAt H s busy fails turns torn marked) (sm : busy.length ≤ 2 ^ 30 ∧ fails.length ≤ 2 ^ 30 ∧ turns.length ≤ 2 ^ 30 ∧ torn.length ≤ 2 ^ 30 ∧ marked.length ≤ 2 ^ 30)
    (k1 : Scr.Ok g s busy fails turns torn marked → ∀ H' t bv fv tv m O', TelNew H' t bv fv tv m busy fails torn O' → Ext H H' → (∀ h ∈ O', H.n ≤ h) → R (.tup [.ptr t 0, .int .i64 0]) H') (k2 : ∀ H', Ext H H' → R (.tup [.nilp, .int .i64 2]) H') :
    Ca Tryz.prog kp 152 [.agg g.L, .agg s.L] H R := by
  have hgl : g.L.length = 7 := rfl
  have hgt : List.take 7 g.L = g.L := rfl
  have hsl : s.L.length = 6 := rfl
  have hst : List.take 6 s.L = s.L := rfl
  apply F152.ca
  unfold F152
  refine rr4 @hgl @hgt @hsl @hst ?_
  generalize hH2 : AHeap.push (AHeap.push H _) _ = H2
  have e2 : Ext H H2 := hH2 ▸ by exact fa
  have n2 : H2.n = H.n + 2 := by rw [← hH2]; simp
  have hn : (AHeap.push H (.cells 7 g.L)).n = H.n + 1 := rfl
  rw [hn]
  have z2 : At H2 (H.n + 1) (.cells 6 s.L) := ⟨by rw [← hH2]; simp (disch := (first | assumption | omega | (simp <;> omega) | fail)) [SW, SA, SV, if_pos, if_neg, dec_t, dec_f], by omega⟩
  clear hH2
  refine choice_Right (sc.ext e2) sm (fun ok H3 e3 => ?_) (fun H3 e3 => ?_)
  · have e03 := e2.ext e3
    have n03 := e03.n
    have z3 := z2.ext e3
    have zg := z3.g
    unfold Scr.L at zg
    obtain ⟨okg, okl, okb, okt, okf, okm, okc⟩ := ok
    refine rr1 @zg ?_
    generalize hH4 : hUp H3 13 = H4
    have e4 : Ext H3 H4 := hH4 ▸ by exact fa
    have n4 : H4.n = H3.n + 13 := by rw [← hH4]; simp
    clear hH4
    have e04 := e03.ext e4
    have s4 := sc.ext e04
    have zg4 := (z3.ext e4).g
    unfold Scr.L at zg4
    refine rr1 @zg4 ?_
    refine clone64 s4.b (by omega) (fun bv H5 gb e5 fb => ?_)
    have n5 := e5.n
    have s5 := s4.ext e5
    have zg5 := ((z3.ext e4).ext e5).g
    unfold Scr.L at zg5
    refine rr1 @zg5 ?_
    refine clone64 s5.f (by omega) (fun fv H6 gf e6 ff => ?_)
    have n6 := e6.n
    have s6 := s5.ext e6
    have zg6 := (((z3.ext e4).ext e5).ext e6).g
    unfold Scr.L at zg6
    refine rr1 @zg6 ?_
    refine clone8 s6.o (by omega) (fun tv H7 gt e7 ft => ?_)
    have n7 := e7.n
    have gb7 := (gb.ext e6).ext e7
    have gf7 := gf.ext e7
    have e07 := ((e04.ext e5).ext e6).ext e7
    obtain ⟨cb1, cb2⟩ := gb7.one
    obtain ⟨cf1, cf2⟩ := gf7.one
    obtain ⟨ct1, ct2⟩ := gt.one
    have zg7 := ((((z3.ext e4).ext e5).ext e6).ext e7)
    refine rd7 @b321 @cb1 @cf1 @ct1 @zg4 @zg5 @zg6 ?_
    generalize hH8 : AHeap.set (AHeap.set H7 (H3.n + 9) _) (H3.n + 11) _ = H8
    have e8 : Fr [H3.n + 9, H3.n + 11] H7 H8 := hH8 ▸ by exact fa
    have n8 : H8.n = H7.n := by rw [← hH8]; simp
    have t8 : At H8 (H3.n + 11) (.cells 6 [bv, fv, .map (H3.n + 9), tv, .int .i64 0, .int .i64 0]) := ⟨by rw [← hH8]; simp, by omega⟩
    have m8 : At H8 (H3.n + 9) (.map [] 0) := ⟨by rw [← hH8]; simp (disch := (first | assumption | omega | (simp <;> omega) | fail)) [SW, SA, SV, if_pos, if_neg, dec_t, dec_f], by omega⟩
    clear hH8
    have e08 : Ext H H8 := Fr.cut e07 e8 (by simp; omega)
    have gb8 := gb7.fr e8 (fun h hh => by have := fb h hh; simp; omega)
    have gf8 := gf7.fr e8 (fun h hh => by have := ff h hh; simp; omega)
    have gt8 := gt.fr e8 (fun h hh => by have := ft h hh; simp; omega)
    have z8 := zg7.fr e8 (by simp; omega)
    have zg8 := z8.g
    unfold Scr.L at zg8
    have s8 := sc.ext e08
    refine rr2 @zg8 @s8.t.ln ?_
    refine F152.L0_of _ _ _ _ _ (fun k x H' => ∃ (i : Nat) (es : List (AV × AV × Nat)) (ck : Nat), k + i = turns.length ∧ x = .int .i64 i ∧ Fr [H3.n + 9] H8 H' ∧ At H' (H3.n + 9) (.map es ck) ∧ TMap H' H8.n i [] es ck) ?_ turns.length _ _
      ⟨0, [], 0, by omega, rfl, .refl, m8, ⟨by simp, by simp, by simp, by simp, by simp⟩⟩
    rintro k x H' ⟨i, es, ck, hm, rfl, e, ma, tm⟩ X hX
    have en := e.n
    have t' := t8.fr e (by simp)
    have tg := t'.g
    have tl := t'.l
    have mg := ma.g
    have ml := ma.l
    unfold F152.B0
    by_cases hi : i < turns.length
    · have st' := s8.t.fr e (fun h hh => by have := sc.t.al h hh (by omega); simp; omega)
      obtain ⟨p, hp1, _, hp2, _⟩ := st'.ix (k := .i64) (i := i) (by omega) (by omega) (by omega)
      rw [Int.toNat_natCast, tuL_get (List.getElem?_eq_getElem hi)] at hp2
      repeat (first | (with_reducible first | refine X_Jn ?_ | refine X_BrT ?_ | refine X_BrF ?_ | refine X_Nw ?_ | refine X_Cq ?_ | refine X_Gtt ?_ | refine X_Gff ?_ | refine X_Gtf ?_ | refine X_Gft ?_ | refine X_Gu ?_ | refine X_G2tt ?_ | refine X_G2ff ?_ | refine X_G2tf ?_ | refine X_G2ft ?_ | refine X_G2u ?_ | refine X_GRtt ?_ | refine X_GRff ?_ | refine X_GRtf ?_ | refine X_GRft ?_ | refine X_GRu ?_ | refine X_fn ?_) | ((with_reducible first | apply X_Pu | apply X_Nb | apply X_Pp); (case h => first | ((try simp [hp1, hp2, bdS, bdL, tg, zero24]) <;> (with_reducible first | exact (Is_rfl : Is (some (AV.bool true)) _) | exact (Is_rfl : Is (some (AV.bool false)) _) | ((fail_if_success exact Is_b); exact Is_rfl))) | ((try simp (disch := (first | assumption | omega | (simp <;> omega) | fail)) [SW, SA, SV, if_pos, if_neg, dec_t, dec_f, hp1, hp2, bdS, bdL, tg, zero24]) <;> (with_reducible first | exact (Is_rfl : Is (some (AV.bool true)) _) | exact (Is_rfl : Is (some (AV.bool false)) _) | ((fail_if_success exact Is_b); exact Is_rfl))))) | ((with_reducible apply X_And); (case h => first | (simp [hp1, hp2, bdS, bdL, tg, zero24]; done) | (simp (disch := (first | assumption | omega | (simp <;> omega) | fail)) [SW, SA, SV, if_pos, if_neg, dec_t, dec_f, hp1, hp2, bdS, bdL, tg, zero24]; done))))
      generalize hn9 : AHeap.n (AHeap.set (AHeap.push H' _) _ _) = n9
      have hn9' : n9 = H'.n + 1 := by rw [← hn9]; simp
      subst hn9'
      clear hn9
      generalize hH14 : hUp _ 13 = H14
      have e14 : Ext H' H14 := hH14 ▸ by exact fa
      have n14 := e14.n
      have y8 : H14.get H'.n = some (.cells 3 [.int .i64 turns[i].row, .int .i64 turns[i].rung, .int .i64 turns[i].bit]) := by rw [← hH14]; simp (disch := (first | assumption | omega | (simp <;> omega) | fail)) [SW, SA, SV, if_pos, if_neg, dec_t, dec_f]
      have y9 : H14.get (H'.n + 1) = some (.cells 2 [.int .i64 turns[i].row, .int .i64 turns[i].rung]) := by rw [← hH14]; simp (disch := (first | assumption | omega | (simp <;> omega) | fail)) [SW, SA, SV, if_pos, if_neg, dec_t, dec_f]
      clear hH14
      have tg14 := (t'.ext e14).g
      have m14 := ma.ext e14
      obtain ⟨i1, es', ck', v, bn, hme, hi1, hcase⟩ := entry319 (a := turns[i].row) (b := turns[i].rung) m14.g tm.key
      have tm14 := tm.fr e14 (by simp)
      have tm15' : TMap H14 H8.n i [] es' ck' := by
        rcases hcase with ⟨rfl, rfl⟩ | ⟨rfl, rfl, rfl⟩
        · exact tm14
        · exact tm14.push
      generalize hH15 : AHeap.set H14 (H3.n + 9) (.map es' ck') = H15 at hme
      have e15 : Fr [H3.n + 9] H14 H15 := hH15 ▸ by exact fa
      have n15 := e15.n
      have m15 : At H15 (H3.n + 9) (.map es' ck') := ⟨by rw [← hH15]; simp, by rw [← hH15]; simp; omega⟩
      clear hH15
      have tm15 := tm15'.fr e15 (by simp; omega)
      obtain ⟨n, cs, gv, hnv⟩ := tm15.val _ (List.mem_of_getElem? hi1)
      dsimp only at gv
      refine rr1 @hme ?_
      refine X_app ap24 (k := 1) (xs := [.int .i64 turns[i].bit]) gv (Sl.lit rfl rfl) (by omega) (fun v' H16 g16 e16 f16 _ => ?_)
      have n16 := e16.n
      have hvo : H3.n + 9 ∉ fp v := fun hh => by have := (tm15.own _ (List.mem_of_getElem? hi1) _ hh).1; omega
      have m16 := m15.fr e16 hvo
      have m16l := m16.l
      have hst := store319 (v' := v') m16.g hi1 (fun i j e f hij he hf => (tm15.dis i j e f hij he hf).2)
      refine rr4 @hst @y8 @y9 @tg14 ?_
      have hx : (i : Int) + 1 = ((i + 1 : Nat) : Int) := by omega
      rw [hx]
      refine hX (k - 1) _ _ (by omega) ⟨i + 1, _, ck', by omega, rfl, ?_, ⟨by simp, by simp; omega⟩, tm15.store (m := H3.n + 9) hi1 g16 e16 f16 (by omega) (by omega) (by omega) (by exact fa) (by omega)⟩
      have f1 : Fr [H3.n + 9] H8 H15 := (e.ext e14).trans e15 (by simp)
      have f2 : Fr [H3.n + 9] H8 H16 := f1.trans e16 (fun h hh => .inr (tm15.own _ (List.mem_of_getElem? hi1) h hh).1)
      exact f2.trans (by exact fa : Fr [H3.n + 9] H16 _) (by simp)
    · have : i = turns.length := by omega
      subst this
      refine rr0 ?_
      have e0 : Ext H H' := Fr.cut e08 e (by simp; omega)
      refine k1 ⟨okg, okl, okb, okt, okf, okm, okc⟩ H' (H3.n + 11) bv fv tv (H3.n + 9) ((H3.n + 11) :: (fp bv ++ (fp fv ++ fp tv))) ⟨t', gb8.fr e (fun h hh => by have := fb h hh; simp; omega), gf8.fr e (fun h hh => by have := ff h hh; simp; omega), gt8.fr e (fun h hh => by have := ft h hh; simp; omega), fun h hh => ⟨by simp [hh], by have := fb h hh; omega⟩,
        fun h hh => ⟨by simp [hh], by have := ff h hh; omega⟩, fun h hh => ⟨by simp [hh], by have := ft h hh; omega⟩, by simp, ?_⟩ e0 ?_
      · intro h hh
        simp at hh
        rcases hh with rfl | hh | hh | hh
        · exact tl
        · have := gb8.al h hh; omega
        · have := gf8.al h hh; omega
        · have := gt8.al h hh; omega
      · intro h hh
        simp at hh
        rcases hh with rfl | hh | hh | hh
        · omega
        · have := fb h hh; omega
        · have := ff h hh; omega
        · have := ft h hh; omega
  · refine rr0 ?_
    exact k2 _ (e2.ext e3)
end
end Go.Proofs.YtdjmoojonkjafaaGreat
