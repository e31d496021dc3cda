/- Contracts: the recorder, and the wire on a quiet chip. -/
import Derived.Test.YtdjmoojonkjafaaGreatGh
set_option linter.unusedSimpArgs false
set_option linter.unusedVariables false
set_option maxRecDepth 100000
set_option maxHeartbeats 2000000
namespace Go.Proofs.YtdjmoojonkjafaaGreat
open Go.AM Go.Proofs
attribute [local irreducible] Pu Br Gd Gd2 GdR Nb Cq Pp callF Jn StS StG Still loopW Ca Is

abbrev pw : AV := .str ⟨#[112, 111, 119, 101, 114]⟩
theorem mt291 : mapTy Tryz.prog 291 = some (9, 3) := by kernel_rfl
theorem key9 {s : ByteArray} : keyOkA Tryz.prog 9 (.str s) = true := by kernel_rfl
theorem eq9 : aEq Tryz.prog eqDepth 9 pw pw = some true := by kernel_rfl
theorem mapU {H : AHeap} {m c : Nat} {es : List (AV × AV × Nat)} {v : AV} (hg : H.get m = some (.map es c)) (he : es = [] ∨ ∃ n k, es = [(pw, .int .i64 n, k)]) :
    ∃ es' c', mapUpdateA Tryz.prog H 291 (.map m) pw v = some (H.set m (.map es' c')) ∧ ∃ k, es' = [(pw, v, k)] := by
  unfold mapUpdateA
  rw [mt291]
  simp only [hg]
  rw [if_pos key9]
  rcases he with rfl | ⟨n, k, rfl⟩
  · exact ⟨[(pw, v, c)], c + 1, by simp only [findA, List.nil_append], c, rfl⟩
  · simp only [findA, eq9]
    exact ⟨[(pw, v, k)], c, by simp, k, rfl⟩

structure RecAt (H : AHeap) (r : Nat) (l : List (Int × Int)) (O : List Nat) : Prop where
  ex : ∃ v m, At H r (.cells 3 [v, .int .i64 l.length, .map m]) ∧ Gro H 2 v l.length (cyL l) ∧ (∃ es c, At H m (.map es c) ∧ (es = [] ∨ ∃ n k, es = [(pw, .int .i64 n, k)])) ∧ m ∈ O ∧ (∀ h ∈ fp v, h ∈ O ∧ h ≠ r ∧ h ≠ m) ∧ m ≠ r
  ro : r ∈ O
  al : ∀ h ∈ O, h < H.n
theorem RecAt.fr {H H' : AHeap} {r : Nat} {l : List (Int × Int)} {O F : List Nat} (a : RecAt H r l O) (e : Fr F H H') (d : ∀ h ∈ O, h ∉ F) : RecAt H' r l O := by
  obtain ⟨v, m, h1, h2, ⟨es, c, h3, h4⟩, h5, h6, h7⟩ := a.ex
  exact ⟨⟨v, m, h1.fr e (d _ a.ro), h2.fr e (fun h hh => d _ (h6 h hh).1), ⟨es, c, h3.fr e (d _ h5), h4⟩, h5, h6, h7⟩, a.ro, fun h hh => Nat.lt_of_lt_of_le (a.al h hh) e.n⟩
/-- from a recorder to a recorder -/
structure RTo (r : Nat) (l' : List (Int × Int)) (H H' : AHeap) (O O' : List Nat) : Prop where
  at_ : RecAt H' r l' O'
  fr : Fr O H H'
  sub : ∀ h ∈ O', h ∈ O ∨ H.n ≤ h

theorem rec_is {H : AHeap} {r : Nat} {l : List (Int × Int)} {O : List Nat} {R : AV → AHeap → Prop} (a : RecAt H r l O) (k : R (.bool true) H) : Ca Tryz.prog kp 199 [.ptr r 0] H R := by
  obtain ⟨v, m, h1, h2, ⟨es, c, h3, h4⟩, h5, h6, h7⟩ := a.ex
  have hg := h1.g
  apply F199.ca
  unfold F199
  refine rr1 @hg ?_
  exact k

theorem rec_New {H : AHeap} {R : AV → AHeap → Prop} (k : ∀ r H' O', RecAt H' r [] O' → Ext H H' → (∀ h ∈ O', H.n ≤ h) → R (.ptr r 0) H') : Ca Tryz.prog kp 154 [] H R := by
  apply F154.ca
  unfold F154
  refine rd0 ?_
  refine k _ _ [H.n + 1, H.n] ⟨⟨.nils, H.n, ⟨by simp, by simp⟩, .nil, ⟨[], 0, ⟨by simp (disch := (first | assumption | omega | (simp <;> omega) | fail)) [SW, SA, SV, if_pos, if_neg, dec_t, dec_f], by simp; omega⟩, .inl rfl⟩, by simp, by simp [fp], by simp⟩, by simp, ?_⟩ (by exact fa) ?_
  · simp; omega
  · simp

theorem rec_Add {H : AHeap} {r : Nat} {l : List (Int × Int)} {O : List Nat} {cy : Int × Int} {R : AV → AHeap → Prop} (a : RecAt H r l O) (hl : l.length + 1 ≤ 2 ^ 24)
    (k : ∀ H' O', RTo r (l ++ [cy]) H H' O O' → R (.tup []) H') : Ca Tryz.prog kp 276 [.ptr r 0, .lit [.int .i64 cy.1, .int .u8 cy.2] 1 true] H R := by
  have a0 := a
  obtain ⟨v, m, h1, h2, ⟨es, c, h3, h4⟩, h5, h6, h7⟩ := a.ex
  obtain ⟨hc1, hc2⟩ := h2.one
  have hg := h1.g
  have hgl := h1.l
  apply F276.ca
  unfold F276
  refine rec_is a ?_
  have hln := h2.sl.ln
  have hmin : foldA aMin2 (.int .i64 1) [.int .i64 (16777216 - l.length)] = some (.int .i64 1) := by
    simp only [foldA, aMin2]
    rw [if_neg (by omega)]
  have hsl : slS 2 (.lit [.int .i64 cy.1, .int .u8 cy.2] 1 true) none (some (.int .i64 1)) = some (.lit [.int .i64 cy.1, .int .u8 cy.2] 1 true) := by
    rfl
  refine rr6 @hg @hln @hmin @hsl @hc1 @hc2 ?_
  generalize hH2 : (hUp _ 20) = H2
  have e2 : Fr [r] H H2 := hH2 ▸ by exact fa
  have n2 := e2.n
  have g2 : H2.get r = some (.cells 3 [v, .int .i64 (l.length + 1), .map m]) := by rw [← hH2]; simp (disch := (first | assumption | omega | (simp <;> omega) | fail)) [SW, SA, SV, if_pos, if_neg, dec_t, dec_f]
  have G2 := h2.fr e2 (fun h hh => by simp [(h6 h hh).2.1])
  have w3 := h3.fr e2 (by simp [h7])
  clear hH2
  have hln2 := G2.sl.ln
  refine rr4 @g2 @hln2 @hmin @hsl ?_
  refine X_app ap43 (k := 1) (xs := [.int .i64 cy.1, .int .u8 cy.2]) G2 (Sl.lit rfl rfl) (by omega) (fun v' H3 g3 e3 f3 _ => ?_)
  have n3 := e3.n
  have gr3 : H3.get r = some (.cells 3 [v, .int .i64 (l.length + 1), .map m]) := by rw [e3.eq _ (by omega) (fun h => (h6 r h).2.1 rfl)]; exact g2
  have m3 := w3.fr e3 (fun h => (h6 m h).2.2 rfl)
  obtain ⟨hd1, hd2⟩ := g3.one
  have hv' : ∀ h ∈ fp v', h ≠ r ∧ h ≠ m := by
    intro h hh
    have ml := w3.l
    rcases f3 h hh with h1 | h1
    · exact (h6 h h1).2
    · have := h3.l
      exact ⟨by omega, by omega⟩
  have l1 : ldS H2 (.ptr r 0) = some v := by simp [g2]
  have l2 : lnS v = some (.int .i64 l.length) := hln2
  refine rr4 @gr3 @hd1 @hd2 @l1 ?_
  refine k _ (r :: m :: fp v') ⟨⟨⟨v', m, ⟨by simp, by simp; omega⟩, ?_, ⟨es, c, ⟨by simp (disch := (first | assumption | omega | (simp <;> omega) | fail)) [SW, SA, SV, if_pos, if_neg, dec_t, dec_f, m3.g], by simp; exact m3.l⟩, h4⟩, by simp, fun h hh => ⟨by simp [hh], hv' h hh⟩, h7⟩, by simp, ?_⟩, ?_, ?_⟩
  · have g4 := g3.fr (F := [r]) (H' := H3.set r (.cells 3 [v', .int .i64 (l.length + 1), .map m])) (by exact fa) (fun h hh => by simp [(hv' h hh).1])
    rw [cyL_append, List.length_append]
    exact g4
  · intro h hh
    simp at hh ⊢
    rcases hh with rfl | rfl | hh
    · omega
    · exact m3.l
    · exact g3.al h hh
  · have f1 : Fr O H H3 := (e2.mono (by simp [a.ro])).trans e3 (fun h hh => .inl (h6 h hh).1)
    exact f1.trans (by exact fa : Fr [r] H3 _) (by simp [a.ro])
  · intro h hh
    simp at hh
    rcases hh with rfl | rfl | hh
    · exact .inl a.ro
    · exact .inl h5
    · rcases f3 h hh with h1 | h1
      · exact .inl (h6 h h1).1
      · exact .inr (by omega)

theorem rec_Mark {H : AHeap} {r : Nat} {l : List (Int × Int)} {O : List Nat} {R : AV → AHeap → Prop} (a : RecAt H r l O)
    (k : ∀ H', RTo r l H H' O O → R (.tup []) H') : Ca Tryz.prog kp 275 [.ptr r 0, pw] H R := by
  obtain ⟨v, m, h1, h2, ⟨es, c, h3, h4⟩, h5, h6, h7⟩ := a.ex
  have hg := h1.g
  have hgl := h1.l
  apply F275.ca
  unfold F275
  refine rec_is a ?_
  have hln := h2.sl.ln
  obtain ⟨es', c', hm, hes⟩ := mapU (H := hUp H 11) (v := .int .i64 l.length) h3.g h4
  refine rr3 @hg @hln @hm ?_
  have e1 : Fr [m] H ((hUp H 11).set m (.map es' c')) := by exact fa
  refine k _ ⟨⟨⟨v, m, h1.fr e1 (by simp; omega), h2.fr e1 (fun h hh => by simp [(h6 h hh).2.2]), ⟨es', c', ⟨by simp, by simp; have := h3.l; omega⟩, .inr (by obtain ⟨k, rfl⟩ := hes; exact ⟨_, _, rfl⟩)⟩, h5, h6, h7⟩, a.ro, fun h hh => Nat.lt_of_lt_of_le (a.al h hh) e1.n⟩, e1.mono (by simp [h5]), fun h hh => .inl hh⟩

theorem rec_List {H : AHeap} {r : Nat} {l : List (Int × Int)} {O : List Nat} {R : AV → AHeap → Prop} (a : RecAt H r l O) (hl : l.length ≤ 2 ^ 24)
    (k : ∀ v' H', Gro H' 2 v' l.length (cyL l) → Ext H H' → (∀ h ∈ fp v', H.n ≤ h) → R v' H') : Ca Tryz.prog kp 110 [.ptr r 0] H R := by
  obtain ⟨v, m, h1, h2, ⟨es, c, h3, h4⟩, h5, h6, h7⟩ := a.ex
  have hg := h1.g
  apply F110.ca
  unfold F110
  refine rec_is a ?_
  refine rr1 @hg ?_
  exact cloneC h2.sl (by omega) k

/-- a wire: its block, its recorder's, its chip -/
structure WireAt (H : AHeap) (w r : Nat) (p : ChP) (s : ChQ) (l : List (Int × Int)) (O : List Nat) : Prop where
  ex : ∃ Oc Or, At H w (.cells 2 [.ptr r 0, .ptr p.c 0]) ∧ ChAt H p s Oc ∧ RecAt H r l Or ∧ w ∉ Oc ∧ w ∉ Or ∧ (∀ h ∈ Oc, h ∉ Or) ∧ (∀ h ∈ Oc, h ∈ O) ∧ (∀ h ∈ Or, h ∈ O) ∧ w ∈ O
  al : ∀ h ∈ O, h < H.n
theorem WireAt.fr {H H' : AHeap} {w r : Nat} {p : ChP} {s : ChQ} {l : List (Int × Int)} {O F : List Nat} (a : WireAt H w r p s l O) (e : Fr F H H') (d : ∀ h ∈ O, h ∉ F) : WireAt H' w r p s l O := by
  obtain ⟨Oc, Or, h1, h2, h3, h4, h5, h6, h7, h8, h9⟩ := a.ex
  exact ⟨⟨Oc, Or, h1.fr e (d _ h9), h2.fr e (fun h hh => d _ (h7 h hh)), h3.fr e (fun h hh => d _ (h8 h hh)), h4, h5, h6, h7, h8, h9⟩, fun h hh => Nat.lt_of_lt_of_le (a.al h hh) e.n⟩
theorem WireAt.ext {H H' : AHeap} {w r : Nat} {p : ChP} {s : ChQ} {l : List (Int × Int)} {O : List Nat} (a : WireAt H w r p s l O) (e : Ext H H') : WireAt H' w r p s l O := a.fr e (by simp)
structure WTo (w r : Nat) (p : ChP) (s' : ChQ) (l' : List (Int × Int)) (H H' : AHeap) (O O' : List Nat) : Prop where
  at_ : WireAt H' w r p s' l' O'
  fr : Fr O H H'
  sub : ∀ h ∈ O', h ∈ O ∨ H.n ≤ h
theorem WTo.of {w r : Nat} {p : ChP} {s' : ChQ} {l' : List (Int × Int)} {H H1 H2 : AHeap} {O O' : List Nat} (e : Ext H H1) (t : WTo w r p s' l' H1 H2 O O') : WTo w r p s' l' H H2 O O' :=
  ⟨t.at_, (e.mono (by simp)).trans t.fr (fun g hg => .inl hg), fun h hh => by
    have := e.n
    rcases t.sub h hh with h1 | h1
    · exact .inl h1
    · exact .inr (by omega)⟩
theorem WTo.trans {w r : Nat} {p : ChP} {s1 s2 : ChQ} {l1 l2 : List (Int × Int)} {H H1 H2 : AHeap} {O O1 O2 : List Nat} (t : WTo w r p s1 l1 H H1 O O1) (u : WTo w r p s2 l2 H1 H2 O1 O2) : WTo w r p s2 l2 H H2 O O2 :=
  ⟨u.at_, t.fr.trans u.fr t.sub, fun h hh => by
    have := t.fr.n
    rcases u.sub h hh with h1 | h1
    · exact t.sub h h1
    · exact .inr (by omega)⟩
theorem WTo.ext {w r : Nat} {p : ChP} {s1 : ChQ} {l1 : List (Int × Int)} {H H1 H2 : AHeap} {O O1 : List Nat} (t : WTo w r p s1 l1 H H1 O O1) (e : Ext H1 H2) : WTo w r p s1 l1 H H2 O O1 :=
  ⟨t.at_.ext e, t.fr.ext e, t.sub⟩
theorem WTo.refl {w r : Nat} {p : ChP} {s : ChQ} {l : List (Int × Int)} {H : AHeap} {O : List Nat} (a : WireAt H w r p s l O) : WTo w r p s l H H O O := ⟨a, .refl, fun h hh => .inl hh⟩

theorem wire_is {H : AHeap} {w r : Nat} {p : ChP} {s : ChQ} {l : List (Int × Int)} {O : List Nat} {R : AV → AHeap → Prop} (a : WireAt H w r p s l O) (k : R (.bool true) H) : Ca Tryz.prog kp 109 [.ptr w 0] H R := by
  obtain ⟨Oc, Or, h1, h2, h3, h4, h5, h6, h7, h8, h9⟩ := a.ex
  have hg := h1.g
  apply F109.ca
  unfold F109
  refine rr1 @hg ?_
  exact k

/-- the chip's part of a wire changes -/
theorem wire_chip {H H' : AHeap} {w r : Nat} {p : ChP} {s s' : ChQ} {l : List (Int × Int)} {O Oc Or O' : List Nat} (h1 : At H w (.cells 2 [.ptr r 0, .ptr p.c 0])) (h2 : ChAt H p s Oc) (h3 : RecAt H r l Or) (h4 : w ∉ Oc) (h5 : w ∉ Or) (h6 : ∀ h ∈ Oc, h ∉ Or) (h7 : ∀ h ∈ Oc, h ∈ O)
    (h8 : ∀ h ∈ Or, h ∈ O) (h9 : w ∈ O) (t : ChTo p s' H H' Oc O') : ∃ O'', WTo w r p s' l H H' O O'' := by
  have e := t.fr
  have en := e.n
  have w1 : At H' w (.cells 2 [.ptr r 0, .ptr p.c 0]) := h1.fr e (by simp; exact ⟨fun h => h4 (h ▸ h2.co), fun h => h4 (h ▸ h2.to)⟩)
  have r1 : RecAt H' r l Or := h3.fr e (by simp; exact fun h hh => ⟨fun q => h6 p.c h2.co (q ▸ hh), fun q => h6 p.t h2.to (q ▸ hh)⟩)
  refine ⟨w :: (O' ++ Or), ⟨⟨O', Or, w1, t.at_, r1, ?_, h5, ?_, by simp; intro h hh; simp [hh], by simp; intro h hh; simp [hh], by simp⟩, ?_⟩, e.mono (by simp [h7 _ h2.co, h7 _ h2.to]), ?_⟩
  · intro hh
    rcases t.sub w hh with h | h
    · exact h4 h
    · have := h1.l; omega
  · intro h hh hr
    rcases t.sub h hh with q | q
    · exact h6 h q hr
    · have := h3.al h hr; omega
  · intro h hh
    simp at hh
    rcases hh with rfl | hh | hh
    · exact w1.l
    · exact t.at_.al h hh
    · exact r1.al h hh
  · intro h hh
    simp at hh
    rcases hh with rfl | hh | hh
    · exact .inl h9
    · rcases t.sub h hh with q | q
      · exact .inl (h7 h q)
      · exact .inr q
    · exact .inl (h8 h hh)

/-- the recorder's part changes -/
theorem wire_rec {H H' : AHeap} {w r : Nat} {p : ChP} {s : ChQ} {l l' : List (Int × Int)} {O Oc Or O' : List Nat} (h1 : At H w (.cells 2 [.ptr r 0, .ptr p.c 0])) (h2 : ChAt H p s Oc) (h3 : RecAt H r l Or) (h4 : w ∉ Oc) (h5 : w ∉ Or) (h6 : ∀ h ∈ Oc, h ∉ Or) (h7 : ∀ h ∈ Oc, h ∈ O)
    (h8 : ∀ h ∈ Or, h ∈ O) (h9 : w ∈ O) (t : RTo r l' H H' Or O') : ∃ O'', WTo w r p s l' H H' O O'' := by
  have e := t.fr
  have en := e.n
  have w1 : At H' w (.cells 2 [.ptr r 0, .ptr p.c 0]) := h1.fr e h5
  have c1 : ChAt H' p s Oc := h2.fr e h6
  refine ⟨w :: (Oc ++ O'), ⟨⟨Oc, O', w1, c1, t.at_, h4, ?_, ?_, by simp; intro h hh; simp [hh], by simp; intro h hh; simp [hh], by simp⟩, ?_⟩, e.mono (fun g hg => .inl (h8 g hg)), ?_⟩
  · intro hh
    rcases t.sub w hh with h | h
    · exact h5 h
    · have := h1.l; omega
  · intro h hh hr
    rcases t.sub h hr with q | q
    · exact h6 h hh q
    · have := h2.al h hh; omega
  · intro h hh
    simp at hh
    rcases hh with rfl | hh | hh
    · exact w1.l
    · exact c1.al h hh
    · exact t.at_.al h hh
  · intro h hh
    simp at hh
    rcases hh with rfl | hh | hh
    · exact .inl h9
    · exact .inl (h7 h hh)
    · rcases t.sub h hh with q | q
      · exact .inl (h8 h q)
      · exact .inr q

/-- a cycle that is sent and noted -/
theorem wire_one {H : AHeap} {w r : Nat} {p : ChP} {s s' : ChQ} {l : List (Int × Int)} {O : List Nat} {kd b x : Int} {N : Nat} {R : AV → AHeap → Prop} (a : WireAt H w r p s l O) (rg : s.Rng N) (hN : N + 1 ≤ 2 ^ 30) (hoff : s.off = false) (hk : 1 ≤ kd ∧ kd ≤ 4)
    (hs : s.hear p kd b = some (s', x)) (hl : l.length + 1 ≤ 2 ^ 24)
    (k0 : s.cut = 0 → ∀ H' O', WTo w r p { s with off := true } l H H' O O' → R (.tup [.int .u8 0, .int .i64 20]) H')
    (k1 : s.cut ≠ 0 → ∀ H' O', WTo w r p { s' with cut := max (s.cut - 1) (-1), cycles := s.cycles + 1 } (l ++ [(kd, if kd = 4 then x else b)]) H H' O O' → R (.tup [.int .u8 x, .int .i64 0]) H') :
    Ca Tryz.prog kp 223 [.ptr w 0, .agg [.int .i64 kd, .int .u8 b]] H R := by
  obtain ⟨Oc, Or, h1, h2, h3, h4, h5, h6, h7, h8, h9⟩ := a.ex
  apply F223.ca
  unfold F223
  refine rr0 ?_
  generalize hH1 : AHeap.push H _ = H1
  have e1 : Ext H H1 := hH1 ▸ by exact fa
  have n1 := e1.n
  have y1 : At H1 H.n (.cells 2 [.int .i64 kd, .int .u8 b]) := hH1 ▸ At.push
  clear hH1
  have a1 := a.ext e1
  have w1 := h1.ext e1
  have c1 := h2.ext e1
  refine wire_is a1 ?_
  have wg := w1.g
  have yg := y1.g
  refine rr2 @wg @yg ?_
  have e2 : Ext H1 (hUp H1 11) := by exact fa
  have e02 := e1.ext e2
  have n02 := e02.n
  have nO : ∀ h ∈ O, h ≠ H.n := fun h hh => by have := a.al h hh; omega
  have w2 := w1.ext e2
  have c2 := c1.ext e2
  have r2 := (h3.fr e1 (by simp)).fr e2 (by simp)
  have y2 := y1.ext e2
  generalize hUp H1 11 = H2 at *
  have wg2 := w2.g
  have yg2 := y2.g
  refine chip_Do c2 rg hN hoff hk hs (fun hc H3 c3 e3 => ?_) (fun hc H3 O3 t3 => ?_)
  · obtain ⟨O4, t4⟩ := wire_chip w2 c2 r2 h4 h5 h6 h7 h8 h9 ⟨c3, e3, fun h hh => .inl hh⟩
    obtain ⟨Oc4, Or4, i1, i2, i3, i4, i5, i6, i7, i8, i9⟩ := t4.at_.ex
    have wg3 := i1.g
    refine rr3 @wg2 @yg2 @wg3 ?_
    refine rec_Mark i3 (fun H5 t5 => ?_)
    obtain ⟨O6, t6⟩ := wire_rec i1 i2 i3 i4 i5 i6 i7 i8 i9 t5
    refine rr0 ?_
    exact k0 hc _ _ ((WTo.of e02 t4).trans t6)
  · obtain ⟨O4, t4⟩ := wire_chip w2 c2 r2 h4 h5 h6 h7 h8 h9 t3
    have y3 := y2.fr t4.fr (fun h => nO _ h rfl)
    have yg3 := y3.g
    by_cases hk4 : kd = 4
    · subst hk4
      refine rr3 @wg2 @yg2 @yg3 ?_
      generalize hH5 : (hUp _ 8) = H5
      have e5 : Fr [H.n] H3 H5 := hH5 ▸ by exact fa
      have y5 : H5.get H.n = some (.cells 2 [.int .i64 4, .int .u8 x]) := by rw [← hH5]; simp (disch := (first | assumption | omega | (simp <;> omega) | fail)) [SW, SA, SV, if_pos, if_neg, dec_t, dec_f]
      clear hH5
      have a5 := t4.at_.fr e5 (fun h hh => by
        simp
        rcases t4.sub h hh with q | q
        · exact nO h q
        · have := y2.l; omega)
      obtain ⟨Oc4, Or4, i1, i2, i3, i4, i5, i6, i7, i8, i9⟩ := a5.ex
      have wg3 := i1.g
      refine rd2 @wg3 @y5 ?_
      refine rec_Add (cy := (4, x)) i3 hl (fun H6 O6 t6 => ?_)
      obtain ⟨O7, t7⟩ := wire_rec i1 i2 i3 i4 i5 i6 i7 i8 i9 t6
      refine rr2 @wg3 @y5 ?_
      have t47 : WTo w r p { s' with cut := max (s.cut - 1) (-1), cycles := s.cycles + 1 } l H H5 O O4 :=
        ⟨a5, (WTo.of e02 t4).fr.trans e5 (by simp), (WTo.of e02 t4).sub⟩
      exact k1 hc _ _ (t47.trans t7)
    · have hb : (if kd = 4 then x else b) = b := if_neg hk4
      rw [hb] at k1
      refine rr3 @wg2 @yg2 @yg3 ?_
      generalize hH5 : (hUp _ 8) = H5
      have e5 : Ext H3 H5 := hH5 ▸ by exact fa
      have y5 : H5.get H.n = some (.cells 2 [.int .i64 kd, .int .u8 b]) := by rw [← hH5]; simp [yg3]
      clear hH5
      have a5 := t4.at_.ext e5
      obtain ⟨Oc4, Or4, i1, i2, i3, i4, i5, i6, i7, i8, i9⟩ := a5.ex
      have wg3 := i1.g
      refine rd2 @wg3 @y5 ?_
      refine rec_Add (cy := (kd, b)) i3 hl (fun H6 O6 t6 => ?_)
      obtain ⟨O7, t7⟩ := wire_rec i1 i2 i3 i4 i5 i6 i7 i8 i9 t6
      refine rr2 @wg3 @y5 ?_
      exact k1 hc _ _ (((WTo.of e02 t4).ext e5).trans t7)
end Go.Proofs.YtdjmoojonkjafaaGreat
