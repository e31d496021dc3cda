/- Contracts: the judge, third part: a new one, and all cycles. -/
import Derived.Test.YtdjmoojonkjafaaGreatGq
set_option linter.unusedSimpArgs false
set_option linter.unusedVariables false
set_option maxRecDepth 100000
set_option maxHeartbeats 2000000
namespace Go.Proofs.YtdjmoojonkjafaaGreat
open Go.AM Go.Proofs
attribute [local irreducible] Pu Br Gd Gd2 GdR Nb Cq Pp callF Jn StS StG Still loopW Ca Is

section
variable {H : AHeap} {q : Nat} {g : Geom} {bl : AV} {j j' : JQ} {O : List Nat} {R : AV → AHeap → Prop}

theorem step_op {kd b : Int} (hs : j.step g kd b = some j') (hj : j.op ≠ 10) : j'.op ≠ 10 := by
  unfold JQ.step at hs
  repeat' (split at hs)
  all_goals (first | (cases hs; done) | (cases hs; first | exact hj | simp) | skip)

theorem judge_Step {kd b : Int} (a : JAt H q g bl j O) (hj : j.op ≠ 10) (hs : j.step g kd b = some j') (k : ∀ H' O', JTo q g bl j' H H' O O' → R (.bool true) H') : Ca Tryz.prog kp 53 [.ptr q 0, .agg [.int .i64 kd, .int .u8 b]] H R := by
  apply F53.ca
  unfold F53
  refine rr0 ?_
  generalize hH1 : AHeap.push H _ = H1
  have e1 : Ext H H1 := hH1 ▸ by exact fa
  have y : At H1 H.n (.cells 2 [.int .i64 kd, .int .u8 b]) := hH1 ▸ At.push
  clear hH1
  have a1 := a.ext e1
  obtain ⟨lv, cs, h1, h2, h3⟩ := a1.ex
  have hg := h1.g
  have yg := y.g
  unfold jL at hg
  refine judge_is a1 ?_
  refine rr3 @hg @yg @hj ?_
  refine judge_see a1 hs (fun H2 O2 t2 => ?_)
  refine rr0 ?_
  exact k _ _ (JTo.of e1 t2)

def jrun (g : Geom) : JQ → List (Int × Int) → Option JQ
  | j, [] => some j
  | j, c :: r => match j.step g c.1 c.2 with
    | some j' => jrun g j' r
    | none => none

theorem judge_all {v : AV} {len : Nat} {l : List (Int × Int)} {tj : Nat} (a : JAt H q g bl j O) (hj : j.op ≠ 10) (sv : Sl H 2 v len (cyL l)) (hv : ∀ h ∈ fp v, h ∉ O) (hl : len ≤ 2 ^ 30) (at_ : At H tj (.cells 1 [.ptr q 0])) (htj : tj ∉ O) {jf : JQ} (hr : jrun g j l = some jf)
    (k : ∀ H' O', JTo q g bl jf H H' O O' → R (.int .i64 (-1)) H') : Ca Tryz.prog kp 161 [v, .fn (.func 162) [] [.ptr tj 0]] H R := by
  have hlen := sv.cl
  rw [cyL_len] at hlen
  apply F161.ca
  unfold F161
  refine rr1 @sv.ln ?_
  refine F161.L0_of _ _ _ _ (fun m x H' => ∃ (i : Nat) (ji : JQ) (Oi : List Nat), m + i = len ∧ x = .int .i64 i ∧ ji.op ≠ 10 ∧ jrun g ji (l.drop i) = some jf ∧ JTo q g bl ji H H' O Oi) ?_ len _ _ ⟨0, j, O, by omega, rfl, hj, by simpa using hr, a, .refl, fun h hh => .inl hh⟩
  rintro m x H' ⟨i, ji, Oi, hm, rfl, hji, hri, t⟩ X hX
  have tn := t.fr.n
  have sv' := sv.fr t.fr hv
  have at' := at_.fr t.fr htj
  unfold F161.B0
  by_cases hi : i < len
  · have hil : i < l.length := by omega
    rw [List.drop_eq_getElem_cons hil] at hri
    simp only [jrun] at hri
    split at hri
    · rename_i jn hjn
      obtain ⟨p, hp1, _, hp2, _⟩ := sv'.ix (k := .i64) (i := i) (by omega) (by omega) (by omega)
      have hc := (cyL_get (List.getElem?_eq_getElem hil)).1
      rw [Int.toNat_natCast, hc] at hp2
      refine rr2 @hp1 @hp2 ?_
      apply F162.ca
      unfold F162
      refine rr0 ?_
      generalize hH1 : AHeap.push H' _ = H1
      have e1 : Ext H' H1 := hH1 ▸ by exact fa
      have y : At H1 H'.n (.cells 2 [.int .i64 (l[i]).1, .int .u8 (l[i]).2]) := hH1 ▸ At.push
      clear hH1
      have ag := (at'.ext e1).g
      have yg := y.g
      refine rr2 @ag @yg ?_
      refine judge_Step (t.at_.ext e1) hji hjn (fun H2 O2 t2 => ?_)
      refine rr0 ?_
      exact hX (m - 1) _ _ (by omega) ⟨i + 1, jn, O2, by omega, by simp, step_op hjn hji, hri, t.trans (JTo.of e1 t2)⟩
    · cases hri
  · have : i = len := by omega
    subst this
    rw [List.drop_of_length_le (by omega)] at hri
    simp only [jrun] at hri
    cases hri
    refine rr0 ?_
    exact k _ _ t

def jq0 : JQ := ⟨0, 0, 0, false, false, 0, false⟩

theorem repA_len {z : List AV} : ∀ {n : Nat}, (repA z n).length = n * z.length
  | 0 => by simp [repA]
  | n + 1 => by rw [repA, List.length_append, repA_len, Nat.succ_mul]; omega

theorem judge_New_no (ng : ¬ g.Ok) (k : ∀ H', Ext H H' → R (.tup [.nilp, .int .i64 2]) H') : Ca Tryz.prog kp 51 [.agg g.L] H R := by
  have hgl : g.L.length = 7 := rfl
  have ht : List.take 7 g.L = g.L := rfl
  apply F51.ca
  unfold F51
  refine rr2 @hgl @ht ?_
  refine geom_Check (fun h => absurd h ng) (fun _ H2 e2 => ?_)
  refine rr0 ?_
  exact k _ (Fr.ext (by exact fa) e2)

theorem judge_New (ok : g.Ok) (k : ∀ H' q bl O', JAt H' q g bl jq0 O' → Ext H H' → (∀ h ∈ O', H.n ≤ h) → R (.tup [.ptr q 0, .int .i64 0]) H') : Ca Tryz.prog kp 51 [.agg g.L] H R := by
  have hgl : g.L.length = 7 := rfl
  have ht : List.take 7 g.L = g.L := rfl
  obtain ⟨nb, hnb⟩ : ∃ nb : Nat, g.Blocks = nb := ⟨g.Blocks.toNat, by have := ok.b1; omega⟩
  have b1 := ok.b1
  have b2 := ok.b2
  have g1' := ok.g1
  have g2' := ok.g2
  apply F51.ca
  unfold F51
  refine rr2 @hgl @ht ?_
  generalize hH1 : AHeap.push H _ = H1
  have e1 : Ext H H1 := hH1 ▸ by exact fa
  have y : At H1 H.n (.cells 7 g.L) := hH1 ▸ At.push
  clear hH1
  refine geom_Check (fun _ H2 e2 => ?_) (fun h => absurd ok h)
  have y2 := y.ext e2
  have yg := y2.g
  have yl := y2.l
  have e02 := e1.ext e2
  have n02 := e02.n
  unfold Geom.L at yg
  refine rd1 @yg ?_
  rw [hnb, Int.toNat_natCast]
  generalize hH4 : AHeap.set (AHeap.set _ (H2.n + 3) _) (H2.n + 5) _ = H4
  have e4 : Ext H H4 := hH4 ▸ by exact fa
  have q4 : At H4 (H2.n + 5) (.cells 20 (jL g (.sl (H2.n + 3) 0 nb (.gr 3)) jq0 .nils)) := ⟨by rw [← hH4]; simp [jL, jq0, hnb], by rw [← hH4]; simp⟩
  have c4 : At H4 (H2.n + 3) (.cells 3 (repA [.bool false, .int .i64 0, .nils] nb)) := ⟨by rw [← hH4]; simp (disch := (first | assumption | omega | (simp <;> omega) | fail)) [SW, SA, SV, if_pos, if_neg, dec_t, dec_f], by rw [← hH4]; simp⟩
  have y4 : At H4 H.n (.cells 7 g.L) := ⟨by rw [← hH4]; simp (disch := (first | assumption | omega | (simp <;> omega) | fail)) [SW, SA, SV, if_pos, if_neg, dec_t, dec_f, y2.g], by rw [← hH4]; simp; omega⟩
  have n4 : H4.n = H2.n + 7 := by rw [← hH4]; simp
  clear hH4
  refine F51.L0_of _ _ _ _ _ (fun m x H' => ∃ (i : Nat) (cs : List AV), m + i = nb ∧ x = .int .i64 i ∧ Ext H H' ∧ At H' (H2.n + 5) (.cells 20 (jL g (.sl (H2.n + 3) 0 nb (.gr 3)) jq0 .nils)) ∧ At H' (H2.n + 3) (.cells 3 cs) ∧ cs.length = nb * 3 ∧ At H' H.n (.cells 7 g.L)) ?_ nb _ _
    ⟨0, _, by omega, rfl, e4, q4, c4, by rw [repA_len]; rfl, y4⟩
  rintro m x H' ⟨i, cs, hm, rfl, e, qa, ca, cl, ya⟩ X hX
  have qg := qa.g
  have ql := qa.l
  have cg := ca.g
  have cl2 := ca.l
  have ygg := ya.g
  have ygl := ya.l
  have en := e.n
  unfold jL at qg
  unfold Geom.L at ygg
  unfold F51.B0
  by_cases hi : i < nb
  · have hidx : i * 3 + 3 ≤ cs.length := by omega
    refine rd2 @qg @ygg ?_
    have pcl : ∀ z : List AV, z.length = 3 → ∃ cs', putCells cs (i * 3) z = cs' ∧ cs'.length = nb * 3 := by
      intro z hz
      refine ⟨_, rfl, ?_⟩
      match z, hz with
      | [a, b, c], _ => simp [putCells]; omega
    obtain ⟨cs', hcs, hcl⟩ := pcl [.bool false, .int .i64 (-1), .sl (H'.n + 7) 0 g.Pages.toNat (.gr 1)] rfl
    have st : ∀ (bk : ABlk), stA 3 (AHeap.set (hUp H' 11) (H'.n + 7) bk) (.ptr (H2.n + 3) (i * 3)) (.agg [.bool false, .int .i64 (-1), .sl (H'.n + 7) 0 g.Pages.toNat (.gr 1)]) = some ((AHeap.set (hUp H' 11) (H'.n + 7) bk).set (H2.n + 3) (.cells 3 cs')) := by
      intro bk
      rw [stA_p, get_set_ne (by omega), get_hUp, cg, stB_c, if_pos ⟨rfl, hidx, rfl⟩, ← hcs]
      rfl
    refine rr3 @st @qg @ygg ?_
    have hx : (i : Int) + 1 = ((i + 1 : Nat) : Int) := by omega
    refine hX (m - 1) _ _ (by omega) ⟨i + 1, cs', by omega, by rw [hx], by exact fa, ⟨?_, ?_⟩, ⟨?_, ?_⟩, hcl, ⟨?_, ?_⟩⟩
    · simp (disch := (first | assumption | omega | (simp <;> omega) | fail)) [SW, SA, SV, if_pos, if_neg, dec_t, dec_f, qa.g]
    · simp; omega
    · simp
    · simp; omega
    · simp (disch := (first | assumption | omega | (simp <;> omega) | fail)) [SW, SA, SV, if_pos, if_neg, dec_t, dec_f, ya.g]
    · simp; omega
  · refine rr0 ?_
    refine k _ (H2.n + 5) (.sl (H2.n + 3) 0 nb (.gr 3)) [H2.n + 5] ⟨ok, ⟨.nils, [], qa, .nil, by simp [fp]⟩, ⟨nb, by omega, rfl⟩, by simp, by simp; omega⟩ e (by simp; omega)

theorem judge_Run_no {v : AV} (ng : ¬ g.Ok) (k : ∀ H', Ext H H' → R (.tup [.int .i64 0, .bool false]) H') : Ca Tryz.prog kp 49 [.agg g.L, v] H R := by
  have hgl : g.L.length = 7 := rfl
  have ht : List.take 7 g.L = g.L := rfl
  apply F49.ca
  unfold F49
  refine rr2 @hgl @ht ?_
  generalize hH1 : AHeap.push H _ = H1
  have e1 : Ext H H1 := hH1 ▸ by exact fa
  clear hH1
  refine judge_New_no ng (fun H2 e2 => ?_)
  have e02 := e1.ext e2
  have n02 := e02.n
  refine rr0 ?_
  exact k _ (by exact fa)

theorem judge_Run {v : AV} {len : Nat} {l : List (Int × Int)} {jf : JQ} (ok : g.Ok) (sv : Sl H 2 v len (cyL l)) (hl : len ≤ 2 ^ 30) (hf : ∀ h ∈ fp v, h < H.n) (hr : jrun g jq0 l = some jf) (k : ∀ H', Ext H H' → R (.tup [.int .i64 len, .bool true]) H') :
    Ca Tryz.prog kp 49 [.agg g.L, v] H R := by
  have hgl : g.L.length = 7 := rfl
  have ht : List.take 7 g.L = g.L := rfl
  apply F49.ca
  unfold F49
  refine rr2 @hgl @ht ?_
  generalize hH1 : AHeap.push H _ = H1
  have e1 : Ext H H1 := hH1 ▸ by exact fa
  have n1 := e1.n
  clear hH1
  refine judge_New ok (fun H2 q bl O2 a2 e2 f2 => ?_)
  have e02 := e1.ext e2
  have n02 := e02.n
  have nq := f2 q a2.qo
  have lq := a2.al q a2.qo
  refine rr0 ?_
  generalize hH3 : AHeap.set (AHeap.push H2 _) H2.n _ = H3
  have e3 : Ext H2 H3 := hH3 ▸ by exact fa
  have t3 : At H3 H2.n (.cells 1 [.ptr q 0]) := ⟨by rw [← hH3]; simp, by rw [← hH3]; simp⟩
  clear hH3
  have e03 := e02.ext e3
  refine judge_all (a2.ext e3) (by simp [jq0]) (sv.ext e03) (fun h hh ho => ?_) hl t3 (fun ho => ?_) hr (fun H4 O4 t4 => ?_)
  · have := hf h hh
    have := f2 h ho
    omega
  · have := a2.al _ ho; omega
  · refine rr1 @sv.ln ?_
    refine k _ ?_
    exact Fr.cut e03 t4.fr (fun h hh => by have := f2 h hh; omega)
end
end Go.Proofs.YtdjmoojonkjafaaGreat
