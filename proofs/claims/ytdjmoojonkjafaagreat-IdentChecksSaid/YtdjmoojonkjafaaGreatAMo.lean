/- The abstract machine, fifteenth part: a region that draws its order is sound: its theorem. -/
import Derived.Test.YtdjmoojonkjafaaGreatAMn
set_option linter.unusedSimpArgs false
set_option linter.unusedVariables false
namespace Go.AM
attribute [local simp] AHeap.n_set AHeap.n_push
section
variable {P : Program} {call : CallF} {ops : Array Oper} {n0 N : Nat} {tm : Tm} {H0 : AHeap}

/-- the heap that an operation is handed in the text's walk, behind so many effects: a part of the one that a set has laid -/
theorem handed_sub (W : Walk P call ops n0 tm H0) {val : Nat → AV} {E E' : Env} {H : AHeap} {w₀ w : World} {D : Nat → Bool} {a : Act} (m : Mid W val N E H w₀ D E' a w) {k : Nat}
    (hanc : ∀ i, ((Region.before ops).getD k 0).testBit i = true → D i = true) (x : Nat) (b : ABlk) (h : (commitA n0 (W.c (cnt P ops D)) ((Region.before ops).getD k 0) (W.S ops.size).news (W.M (cnt P ops D))).get x = some b) : (heapD W D).get x = some b := by
  obtain ⟨h1, h2⟩ := W.news ops.size (Nat.le_refl _)
  rw [commitP_get _ _ _ (fun q hq => (h1 q hq).2) h2] at h
  rw [heapD_get]
  split at h
  · rename_i hc
    obtain ⟨hx, hp⟩ := hc
    simp only [Bool.and_eq_true] at hp
    rw [if_pos ⟨hx, by rw [hanc _ hp.1, hp.2]; rfl⟩]
    exact h
  · rename_i hc
    split
    · rename_i hc'
      obtain ⟨hx, hp⟩ := hc'
      simp only [Bool.and_eq_true, Bool.not_eq_true'] at hp
      split
      · rename_i b' hb'
        exfalso
        have hlt := (h1 _ (lk_mem_news hb')).1
        have := m.dead (x - n0) hlt hp.2
        rw [show n0 + (x - n0) = x by omega, h] at this
        cases this
      · exact h
    · exact h

theorem mid_rel (W : Walk P call ops n0 tm H0) {val : Nat → AV} {E E' : Env} {H : AHeap} {w₀ w : World} {D : Nat → Bool} {a : Act} (m : Mid W val N E H w₀ D E' a w) {k : Nat}
    (hanc : ∀ i, ((Region.before ops).getD k 0).testBit i = true → D i = true) : Rel E' (commitA n0 (W.c (cnt P ops D)) ((Region.before ops).getD k 0) (W.S ops.size).news (W.M (cnt P ops D))) w :=
  m.sim.rel.weaken (handed_sub W m hanc) (by rw [heapD, commitP_n, commitP_n]; exact Nat.le_refl _)

/-- a step that is no effect, and makes no memory of a handle's -/
theorem mid_still (W : Walk P call ops n0 tm H0) {val : Nat → AV} {E E' E'' : Env} {H : AHeap} {w₀ w w' : World} {D D' : Nat → Bool} {a : Act} (d : DOk P ops) (m : Mid W val N E H w₀ D E' a w) {k : Nat} {ok : Oper} (hk : ops[k]? = some ok) (hDk : D k = false)
    (hanc : ∀ i, ((Region.before ops).getD k 0).testBit i = true → D i = true) (hD' : ∀ i, D' i = if i = k then true else D i) (hN : ∀ d, ok.dst = some d → d < N) (he : isEff P ops k = false) (hlk : lkN (W.S ops.size).news k = none)
    {v : Value} (hV : V E'' (val k) v) (hS : Sim E' (heapD W D) w E'' (heapD W D) w') : Mid W val N E H w₀ D' E'' (a.put ok.dst v) w' := by
  have hkn := (Array.getElem?_eq_some_iff.1 hk).1
  have hcnt : cnt P ops D' = cnt P ops D := by rw [cnt_set hkn hDk hD', he]; simp
  have hheap : ∀ x, (heapD W D').get x = (heapD W D).get x := by
    intro x
    rw [heapD_get, heapD_get, hcnt]
    by_cases e : x - n0 = k
    · rw [e, hlk]
      simp
    · rw [hD' (x - n0), if_neg e]
  have hhn : (heapD W D').n = (heapD W D).n := by rw [heapD, heapD, commitP_n, commitP_n, hcnt]
  have hs2 := m.sim.trans hS
  refine ⟨((m.tm.mono hS.le).put hN hV).congr fun t => tmD_set d m.closed hk hDk hD' t, by rw [put_defers]; exact m.defers, hs2.weaken (fun x b hx => by rw [← hheap]; exact hx) hhn.symm, fun i hi hDi => ?_, fun j o hj hDj i hi => ?_, ?_, ?_, ?_⟩
  · rw [hD'] at hDi
    split at hDi
    · cases hDi
    · rw [hS.old _ (by rw [heapD, commitP_n]; have := m.big; omega)]
      exact m.free i hi hDi
  · rw [hD']
    split
    · rfl
    · rw [hD'] at hDj
      split at hDj
      · rename_i e; rw [e] at hi; exact hanc i hi
      · exact m.closed j o hj hDj i hi
  · rw [hcnt]; exact m.dead
  · rw [hcnt]; intro i hi; rw [hD']; split
    · rfl
    · exact m.com i hi
  · rw [hcnt]; exact m.big

theorem mid_eff (W : Walk P call ops n0 tm H0) {val : Nat → AV} {E E' E'' : Env} {H : AHeap} {w₀ w w' : World} {D D' : Nat → Bool} {a : Act} (d : DOk P ops) (m : Mid W val N E H w₀ D E' a w) {k : Nat} {ok : Oper} (hk : ops[k]? = some ok) (hDk : D k = false)
    (hanc : ∀ i, ((Region.before ops).getD k 0).testBit i = true → D i = true) (hD' : ∀ i, D' i = if i = k then true else D i) (hN : ∀ d, ok.dst = some d → d < N) (he : isEff P ops k = true)
    (hc : W.c (cnt P ops D + 1) = W.c (cnt P ops D) ||| (Region.before ops).getD k 0) (hlk : lkN (W.S ops.size).news k = none)
    {v : Value} (hV : V E'' (val k) v) (hS : Sim E' (commitA n0 (W.c (cnt P ops D)) ((Region.before ops).getD k 0) (W.S ops.size).news (W.M (cnt P ops D))) w E'' (W.M (cnt P ops D + 1)) w') : Mid W val N E H w₀ D' E'' (a.put ok.dst v) w' := by
  have hkn := (Array.getElem?_eq_some_iff.1 hk).1
  have hcnt : cnt P ops D' = cnt P ops D + 1 := by rw [cnt_set hkn hDk hD', he]; simp
  obtain ⟨h1, h2⟩ := W.news ops.size (Nat.le_refl _)
  have dead' : ∀ i, i < ops.size → (W.c (cnt P ops D + 1)).testBit i = false → (W.M (cnt P ops D + 1)).get (n0 + i) = none := by
    intro i hi hci
    rw [hc, Nat.testBit_or, Bool.or_eq_false_iff] at hci
    refine hS.live (n0 + i) (by rw [commitP_n]; have := m.big; omega) ?_
    rw [commitP_get _ _ _ (fun q hq => (h1 q hq).2) h2]
    rw [show n0 + i - n0 = i by omega, hci.2]
    simpa using m.dead i hi hci.1
  have com' : ∀ i, (W.c (cnt P ops D + 1)).testBit i = true → D i = true := by
    intro i hi
    rw [hc, Nat.testBit_or, Bool.or_eq_true] at hi
    exact hi.elim (m.com i) (hanc i)
  have hfr : Sim E' (heapD W D) w E'' (heapD W D') w' := by
    refine hS.frame_rule m.sim.rel (handed_sub W m hanc) (by rw [heapD, commitP_n, commitP_n]) (fun x b hx => ?_) (by rw [heapD, commitP_n, hcnt])
    rw [heapD_get, hcnt] at hx
    split at hx
    · rename_i hcc
      obtain ⟨hx0, hp⟩ := hcc
      simp only [Bool.and_eq_true, Bool.not_eq_true'] at hp
      split at hx
      · rename_i b' hb'
        cases hx
        have hci := hp.2
        rw [hc, Nat.testBit_or, Bool.or_eq_false_iff] at hci
        have hne : x - n0 ≠ k := fun e => by rw [e, hlk] at hb'; cases hb'
        have hDx : D (x - n0) = true := by have := hp.1; rw [hD', if_neg hne] at this; exact this
        have hlt := (h1 _ (lk_mem_news hb')).1
        refine .inr ⟨?_, ?_⟩
        · rw [commitP_get _ _ _ (fun q hq => (h1 q hq).2) h2, hci.2]
          simp only [Bool.false_and, Bool.false_eq_true, and_false, if_false]
          have := m.dead (x - n0) hlt hci.1
          rwa [show n0 + (x - n0) = x by omega] at this
        · rw [heapD_get, if_pos ⟨hx0, by rw [hDx, hci.1]; rfl⟩, hb']
      · exact .inl hx
    · exact .inl hx
  have hs2 := m.sim.trans hfr
  refine ⟨((m.tm.mono hS.le).put hN hV).congr fun t => tmD_set d m.closed hk hDk hD' t, by rw [put_defers]; exact m.defers, hs2, fun i hi hDi => ?_, fun j o hj hDj i hi => ?_, ?_, ?_, ?_⟩
  · rw [hD'] at hDi
    split at hDi
    · cases hDi
    · rw [hS.old _ (by rw [commitP_n]; have := m.big; omega)]
      exact m.free i hi hDi
  · rw [hD']
    split
    · rfl
    · rw [hD'] at hDj
      split at hDj
      · rename_i e; rw [e] at hi; exact hanc i hi
      · exact m.closed j o hj hDj i hi
  · rw [hcnt]; exact dead'
  · rw [hcnt]; intro i hi; rw [hD']; split
    · rfl
    · exact com' i hi
  · rw [hcnt]
    have := hS.n
    rw [commitP_n] at this
    have := m.big
    omega

theorem countP_le_of {p q : Nat → Bool} (l : List Nat) (h : ∀ x ∈ l, p x = true → q x = true) : l.countP p ≤ l.countP q := by
  induction l with
  | nil => simp
  | cons a l ih =>
    have ih' := ih fun x hx => h x (List.mem_cons_of_mem _ hx)
    simp only [List.countP_cons]
    by_cases hp : p a = true
    · rw [if_pos hp, if_pos (h a (List.mem_cons_self ..) hp)]; omega
    · rw [if_neg hp]; split <;> omega

theorem loA_le {D : Nat → Bool} {k : Nat} (hanc : ∀ i, ((Region.before ops).getD k 0).testBit i = true → D i = true) : loA P ops (Region.before ops) k ≤ cnt P ops D := by
  unfold loA cnt
  rw [← List.countP_eq_length_filter]
  refine countP_le_of _ fun e _ h => ?_
  simp only [Bool.and_eq_true] at h ⊢
  exact ⟨h.1, hanc e h.2⟩

theorem le_hiA {D : Nat → Bool} {k : Nat} (hc : Closed ops D) (hDk : D k = false) : cnt P ops D ≤ hiA P ops (Region.before ops) k := by
  unfold hiA cnt
  rw [← List.countP_eq_length_filter]
  refine countP_le_of _ fun e he h => ?_
  have hlt : e < ops.size := by simpa using he
  simp only [Bool.and_eq_true] at h ⊢
  refine ⟨h.1, ?_⟩
  cases hb : ((Region.before ops).getD e 0).testBit k with
  | false => rfl
  | true =>
    have := hc e _ (Array.getElem?_eq_getElem hlt) h.2 k hb
    rw [hDk] at this; cases this

theorem draw_step (hcall : CallOK P call) (d : DOk P ops) (W : Walk P call ops n0 tm H0) {val : Nat → AV} (hv : ∀ i o, ops[i]? = some o → Told P call ops n0 i (W.S i) (W.S (i + 1)) o (val i)) (hst : stableA P ops (Region.before ops) n0 (W.S ops.size) = true)
    {E E' : Env} {H : AHeap} {w₀ w : World} {D D' : Nat → Bool} {a : Act} (hn0 : H.n = n0) (m : Mid W val N E H w₀ D E' a w) {k : Nat} {ok : Oper} (hk : ops[k]? = some ok) (hDk : D k = false)
    (hanc : ∀ i, ((Region.before ops).getD k 0).testBit i = true → D i = true) (hD' : ∀ i, D' i = if i = k then true else D i) (hN : ∀ d, ok.dst = some d → d < N) {Q : Exit → Act → World → Prop} {next : Act → World → Prop}
    (hnext : ∀ E'' a' w', Mid W val N E H w₀ D' E'' a' w' → next a' w') : wpOp P ops Q k next a w := by
  have hkn := (Array.getElem?_eq_some_iff.1 hk).1
  have ht := hv k ok hk
  have hsl : ∀ t ∈ ok.looksAt ops, (tmD ops tm val D ops.size).get t = ((W.S k).tm).get t := fun t htt => by
    rw [W.tmD hv k (by omega)]; exact slots d m.closed hk hDk hanc htt
  have hev := ev_congr (ops := ops) hsl
  have hwant : ∀ b, wantA ops (W.S k).tm ok = some b → Region.wanted ok (yielded ops a.tmps) = b := fun b hb => want_sound m.tm (by rw [want_congr hsl]; exact hb)
  have nolk : ¬ (kindA P ok.op = .new ∧ wantA ops (W.S k).tm ok = some true) → lkN (W.S ops.size).news k = none := by
    intro h
    cases e : lkN (W.S ops.size).news k with
    | none => rfl
    | some b =>
      obtain ⟨o, f, ho, hw, hkd, _⟩ := W.news_kind hv ops.size (Nat.le_refl _) k b (lk_mem_news e)
      rw [hk] at ho; cases ho
      exact absurd ⟨hkd, hw⟩ h
  simp only [wpOp, hk]
  by_cases he : isEff P ops k = true
  · -- an effect
    have hkind : kindA P ok.op = .eff := by simpa [isEff, hk] using he
    have hlk := nolk (fun h => by rw [hkind] at h; cases h.1)
    have hcr := cnt_eff d m.closed hk hDk hanc he
    obtain ⟨a1, a2⟩ := W.at_rk (i := k) (by omega)
    obtain ⟨b1, b2⟩ := W.at_rk (i := k + 1) (by omega)
    rw [rk_succ, if_pos he] at b1 b2
    rw [← hcr] at a1 a2 b1 b2
    obtain ⟨e1, _, _, _, e5⟩ := ht.eff he
    have hcc : W.c (cnt P ops D + 1) = W.c (cnt P ops D) ||| (Region.before ops).getD k 0 := by rw [b2, e1, a2]
    have hrel := mid_rel W m hanc
    rcases e5 with ⟨hw, hf⟩ | ⟨hw, hvu, hf⟩
    · rw [hwant true hw]
      simp only [if_true]
      rw [← a2, ← a1, W.commit_all d hk, ← effA_congr ok.op hev, ← b1] at hf
      exact .inl (eff_wp hcall m.tm hrel hf fun v E'' w' hV hS => hnext _ _ _ (mid_eff W d m hk hDk hanc hD' hN he hcc hlk hV hS))
    · rw [hwant false hw]
      simp only [Bool.false_eq_true, if_false]
      rw [← a2, ← a1, W.commit_all d hk, ← b1] at hf
      exact hnext _ _ _ (mid_eff (E'' := E') W d m hk hDk hanc hD' hN he hcc hlk (v := undef) (by rw [hvu]; exact V_undef) (by rw [hf]; exact Sim.refl hrel))
  · have he' : isEff P ops k = false := by simpa using he
    obtain ⟨_, _, _, q⟩ := ht.still he'
    rcases q with ⟨hw, hkd, hp, _⟩ | ⟨hw, hkd, ⟨rd, hrd, hr⟩, _⟩ | ⟨hw, hkd, ⟨b, f, hb, hvf, hnews⟩, _⟩ | ⟨hw, hvu, _⟩
    · -- a value of its operands
      rw [hwant true hw]
      simp only [if_true]
      rw [← pureA_congr ok.op hev] at hp
      obtain ⟨v, E'', w', hrun, hV, hS⟩ := pure_sound hkd m.tm.evR m.sim.rel hp
      exact .inl (wp_of_ran (.inl hrun) (hnext _ _ _ (mid_still W d m hk hDk hanc hD' hN he' (nolk (fun h => by rw [hkd] at h; cases h.1)) hV hS)))
    · -- a reading
      rw [hwant true hw]
      simp only [if_true]
      rw [← rdA_congr ok.op hev] at hrd
      have hmem := W.rds_mem hv (i := k + 1) (by omega) (r := (k, rd, val k)) (by rw [hr]; exact List.mem_cons_self ..)
      unfold stableA at hst
      have h1 := List.all_eq_true.1 hst _ hmem
      have h2 := List.all_eq_true.1 h1 (cnt P ops D) (by simp only [List.mem_range]; have := le_hiA (P := P) m.closed hDk; omega)
      rw [if_neg (by have := loA_le (P := P) hanc; omega)] at h2
      have hM : (W.S ops.size).hist[cnt P ops D]? = some (W.M (cnt P ops D), W.c (cnt P ops D)) := by
        cases e : (W.S ops.size).hist[cnt P ops D]? with
        | none => rw [e] at h2; cases h2
        | some p => simp [Walk.M, Walk.c, e]
      rw [hM] at h2
      dsimp only at h2
      cases er : aread P (commitA n0 (W.c (cnt P ops D)) ((Region.before ops).getD k 0) (W.S ops.size).news (W.M (cnt P ops D))) rd with
      | none => rw [er] at h2; cases h2
      | some u =>
        rw [er] at h2
        have hu := AV.eqb_eq _ _ h2
        rw [hu] at er
        obtain ⟨v, hrun, hV⟩ := read_sound hkd m.tm.evR (mid_rel W m hanc) hrd er
        exact .inl (wp_of_ran (.inl hrun) (hnext _ _ _ (mid_still W d m hk hDk hanc hD' hN he' (nolk (fun h => by rw [hkd] at h; cases h.1)) hV (Sim.refl m.sim.rel))))
    · -- new memory
      rw [hwant true hw]
      simp only [if_true]
      rw [← newA_congr ok.op hev] at hb
      obtain ⟨obj, hb', v, hblk, hrun, hd, hrel, hV⟩ := new_sound m.tm.evR hb w
      have hlk := W.news_of hkn hnews
      have hcnt : cnt P ops D' = cnt P ops D := by rw [cnt_set hkn hDk hD', he']; simp
      have hck : (W.c (cnt P ops D)).testBit k = false := by
        cases e : (W.c (cnt P ops D)).testBit k with
        | false => rfl
        | true => have := m.com k e; rw [hDk] at this; cases this
      have hget : ∀ x, (heapD W D').get x = if x = n0 + k then some b else (heapD W D).get x := by
        intro x
        rw [heapD_get, heapD_get, hcnt]
        by_cases e : x = n0 + k
        · subst e
          rw [if_pos rfl, if_pos ⟨by omega, by rw [show n0 + k - n0 = k by omega, hD', if_pos rfl, hck]; rfl⟩, show n0 + k - n0 = k by omega, hlk]
        · rw [if_neg e]
          by_cases hx : n0 ≤ x
          · rw [hD' (x - n0), if_neg (show ¬ x - n0 = k by omega)]
          · rw [if_neg (fun h => hx h.1), if_neg (fun h => hx h.1)]
      have hnn : (heapD W D').n = (heapD W D).n := by rw [heapD, heapD, commitP_n, commitP_n, hcnt]
      have hbig : n0 + k < (heapD W D).n := by rw [heapD, commitP_n]; have := m.big; omega
      have hS := Sim.extend (H' := heapD W D') (w' := w.alloc obj) (b := b) m.sim (by omega : H.n ≤ n0 + k) (m.free k hkn hDk) (by omega) (by omega) hblk hd hget rfl rfl rfl rfl hrel
      refine .inl (wp_of_ran (.inl hrun) (hnext ⟨fun x => if x = n0 + k then some hb' else E'.β x, E'.I⟩ _ _ ?_))
      have hle := (Sim.newAt (H' := heapD W D') (w' := w.alloc obj) (b := b) m.sim.rel (m.free k hkn hDk) (by omega) (by omega) hblk hd hget rfl rfl rfl rfl hrel).2.1
      have hVk : V ⟨fun x => if x = n0 + k then some hb' else E'.β x, E'.I⟩ (val k) v := by rw [hvf]; exact hV ⟨fun x => if x = n0 + k then some hb' else E'.β x, E'.I⟩ (n0 + k) (by simp)
      refine ⟨((m.tm.mono hle).put hN hVk).congr fun t => tmD_set d m.closed hk hDk hD' t, by rw [put_defers]; exact m.defers, hS, fun i hi hDi => ?_, fun j o hj hDj i hi => ?_, ?_, ?_, ?_⟩
      · rw [hD'] at hDi
        split at hDi
        · cases hDi
        · rename_i hne
          simp only
          rw [if_neg (by omega)]
          exact m.free i hi hDi
      · rw [hD']
        split
        · rfl
        · rw [hD'] at hDj
          split at hDj
          · rename_i e; rw [e] at hi; exact hanc i hi
          · exact m.closed j o hj hDj i hi
      · rw [hcnt]; exact m.dead
      · rw [hcnt]; intro i hi; rw [hD']; split
        · rfl
        · exact m.com i hi
      · rw [hcnt]; exact m.big
    · -- not wanted
      rw [hwant false hw]
      simp only [Bool.false_eq_true, if_false]
      exact hnext _ _ _ (mid_still (E'' := E') W d m hk hDk hanc hD' hN he' (nolk (fun h => by rw [hw] at h; cases h.2)) (v := undef) (by rw [hvu]; exact V_undef) (Sim.refl m.sim.rel))

def left (ops : Array Oper) (listed : Array Bool) : Nat := (List.range ops.size).countP fun i => !listed.getD i false

theorem left_set {listed : Array Bool} {k : Nat} (hk : k < ops.size) (hs : listed.size = ops.size) (hl : listed.getD k false = false) : left ops (listed.setIfInBounds k true) + 1 ≤ left ops listed := by
  unfold left
  have hset : ∀ i, (listed.setIfInBounds k true).getD i false = if i = k then true else listed.getD i false := by
    intro i
    simp only [Array.getD_eq_getD_getElem?, Array.getElem?_setIfInBounds]
    by_cases e : k = i
    · subst e; simp [hs, hk]
    · rw [if_neg e, if_neg (fun e' => e e'.symm)]
  have : ∀ n, (List.range n).countP (fun i => !(listed.setIfInBounds k true).getD i false) + (if k < n then 1 else 0) = (List.range n).countP fun i => !listed.getD i false := by
    intro n
    induction n with
    | zero => simp
    | succ n ih =>
      rw [List.range_succ, List.countP_append, List.countP_append, ← ih]
      simp only [List.countP_singleton]
      rw [hset n]
      by_cases e : n = k
      · subst e; rw [hl]; simp
      · rw [if_neg e]
        by_cases h : k < n
        · rw [if_pos h, if_pos (show k < n + 1 by omega)]; omega
        · rw [if_neg h, if_neg (show ¬ k < n + 1 by omega)]; omega
  have := this ops.size
  rw [if_pos hk] at this
  omega

theorem left_zero {listed : Array Bool} (h : left ops listed = 0) : ∀ i, i < ops.size → listed.getD i false = true := by
  intro i hi
  unfold left at h
  rw [List.countP_eq_zero] at h
  have := h i (by simpa using hi)
  simpa using this

theorem draw_any (hcall : CallOK P call) (d : DOk P ops) (W : Walk P call ops n0 tm H0) {val : Nat → AV} (hv : ∀ i o, ops[i]? = some o → Told P call ops n0 i (W.S i) (W.S (i + 1)) o (val i)) (hst : stableA P ops (Region.before ops) n0 (W.S ops.size) = true)
    {E : Env} {H : AHeap} {w₀ : World} (hn0 : H.n = n0) (hN : ∀ o ∈ ops, ∀ d, o.dst = some d → d < N) {Q : Exit → Act → World → Prop}
    (hQ : ∀ E' a w, TmR E' N (W.S ops.size).tm a.tmps → a.defers = [] → Sim E H w₀ E' (commitA n0 (W.S ops.size).cm (2 ^ ops.size - 1) (W.S ops.size).news (W.S ops.size).H) w → Q .normal a w) :
    ∀ (fuel : Nat) (listed : Array Bool) (a : Act) (w : World) (E' : Env), listed.size = ops.size → left ops listed ≤ fuel → Mid W val N E H w₀ (fun i => listed.getD i false) E' a w → wpAny P .any ops Q fuel listed a w := by
  have fin : ∀ (listed : Array Bool) (a : Act) (w : World) (E' : Env), (∀ i, i < ops.size → listed.getD i false = true) → Mid W val N E H w₀ (fun i => listed.getD i false) E' a w → Q .normal a w := by
    intro listed a w E' hall m
    have hc := cnt_full (P := P) hall
    obtain ⟨a1, a2⟩ := W.at_rk (i := ops.size) (Nat.le_refl _)
    refine hQ E' a w (m.tm.congr fun t => ?_) m.defers (m.sim.weaken (fun x b hx => ?_) ?_)
    · rw [W.tmD hv ops.size (Nat.le_refl _)]
      have : ∀ i, i ≤ ops.size → tmD ops tm val (fun _ => true) i = tmD ops tm val (fun i => listed.getD i false) i := by
        intro i
        induction i with
        | zero => intro _; rfl
        | succ i ih => intro hi; simp only [tmD, if_true, hall i (by omega : i < ops.size)]; rw [ih (by omega)]
      rw [this ops.size (Nat.le_refl _)]
    · obtain ⟨h1, h2⟩ := W.news ops.size (Nat.le_refl _)
      rw [heapD_get, hc, a1, a2]
      rw [commitP_get _ _ _ (fun q hq => (h1 q hq).2) h2] at hx
      split at hx
      · rename_i hcc
        obtain ⟨hx0, hp⟩ := hcc
        simp only [Bool.and_eq_true] at hp
        rw [Nat.testBit_two_pow_sub_one] at hp
        have hlt : x - n0 < ops.size := by simpa using hp.1
        rw [if_pos ⟨hx0, by rw [hall _ hlt, hp.2]; rfl⟩]
        exact hx
      · rename_i hcc
        split
        · rename_i hcc'
          obtain ⟨hx0, hp⟩ := hcc'
          simp only [Bool.and_eq_true] at hp
          split
          · rename_i b' hb'
            exfalso
            have hlt := (h1 _ (lk_mem_news hb')).1
            exact hcc ⟨hx0, by rw [Nat.testBit_two_pow_sub_one, hp.2]; simpa using hlt⟩
          · exact hx
        · exact hx
    · rw [heapD, commitP_n, commitP_n, hc, a1]
  have rdy : ∀ (listed : Array Bool), listed.size = ops.size → Region.ready .any ops listed = [] → ∀ i, i < ops.size → listed.getD i false = true := by
    intro listed hs hr i
    induction i using Nat.strongRecOn with
    | _ i ih =>
      intro hi
      cases h : listed.getD i false with
      | true => rfl
      | false =>
        exfalso
        have : i ∈ Region.ready .any ops listed := by
          rw [mem_ready]
          refine ⟨?_, ops[i], Array.getElem?_eq_getElem hi, fun e he hb => ?_⟩
          · have hil : i < listed.size := by omega
            simpa [hil] using h
          · have := d.edge i _ (Array.getElem?_eq_getElem hi) e he hb
            exact ih e.on this (by omega)
        rw [hr] at this
        cases this
  intro fuel
  induction fuel with
  | zero =>
    intro listed a w E' hs hl m
    have hall := left_zero (Nat.le_zero.1 hl)
    refine ⟨?_, fin listed a w E' hall m⟩
    cases hr : Region.ready .any ops listed with
    | nil => rfl
    | cons i r =>
      exfalso
      have : i ∈ Region.ready .any ops listed := by rw [hr]; exact List.mem_cons_self ..
      rw [mem_ready] at this
      obtain ⟨h1, o, ho, _⟩ := this
      have hi := (Array.getElem?_eq_some_iff.1 ho).1
      have h2 := hall i hi
      have hil : i < listed.size := by omega
      simp [hil] at h1 h2
      rw [h1] at h2; cases h2
  | succ fuel ih =>
    intro listed a w E' hs hl m
    refine ⟨fun hr => fin listed a w E' (rdy listed hs hr) m, fun k hk => ?_⟩
    rw [mem_ready] at hk
    obtain ⟨h1, ok, hok, hedges⟩ := hk
    have hkn := (Array.getElem?_eq_some_iff.1 hok).1
    have hkl : k < listed.size := by omega
    have hDk : listed.getD k false = false := by simpa [hkl] using h1
    have hanc : ∀ i, ((Region.before ops).getD k 0).testBit i = true → listed.getD i false = true := by
      intro i hi
      obtain ⟨e, he, hb, h⟩ := d.anc k ok i hok hi
      have hon := hedges e he hb
      rcases h with rfl | h
      · exact hon
      · have hlt := d.edge k ok hok e he hb
        exact m.closed e.on _ (Array.getElem?_eq_getElem (by omega)) hon i h
    have hset : ∀ i, (listed.setIfInBounds k true).getD i false = if i = k then true else listed.getD i false := by
      intro i
      simp only [Array.getD_eq_getD_getElem?, Array.getElem?_setIfInBounds]
      by_cases e : k = i
      · subst e; simp [hkl]
      · rw [if_neg e, if_neg (fun e' => e e'.symm)]
    exact draw_step hcall d W hv hst hn0 m hok hDk hanc hset (hN ok (Array.mem_of_getElem? hok)) fun E'' a' w' m' =>
      ih _ a' w' E'' (by simp [hs]) (by have := left_set hkn hs hDk; omega) m'

theorem runDraw_sound {α : Type} (hcall : CallOK P call) (hmix : P.follows .mixedOrders = true) {id : Nat} {E : Env} {H : AHeap} {w : World} {a : Act} {K : Tm → AHeap → Option α} {res : α} {Q : Exit → Act → World → Prop} (hN : ∀ o ∈ ops, ∀ d, o.dst = some d → d < N)
    (h : runDraw P call ops tm H K = some res) (ht : TmR E N tm a.tmps) (hd : a.defers = []) (r : Rel E H w)
    (hQ : ∀ tm' H' E' a' w', K tm' H' = some res → TmR E' N tm' a'.tmps → a'.defers = [] → Sim E H w E' H' w' → Q .normal a' w') : (Code.region id ops true).wp P Q a w := by
  unfold runDraw at h
  split at h
  · rename_i hok
    have d := dOk_of hok
    rw [List.range_eq_range'] at h
    obtain ⟨S, hS0, hstep, hfin⟩ := drawGo_run ops.size 0 _ h
    simp only [Nat.zero_add] at hfin hstep
    split at hfin
    · rename_i hst
      let W : Walk P call ops H.n tm ⟨H.m, H.n + ops.size⟩ := ⟨S, fun i hi => hstep i (Nat.zero_le _) hi, hS0⟩
      obtain ⟨val, hv⟩ := W.told
      refine wp_region_any hmix (draw_any hcall d W hv hst (E := E) (H := H) (w₀ := w) rfl hN (fun E' a' w' ht' hd' hS' => hQ _ _ E' a' w' hfin ht' hd' hS') ops.size (Array.replicate ops.size false) a w.drew E (by simp) ?_ ?_)
      · unfold left
        refine Nat.le_trans (List.countP_le_length) (by simp)
      · have hD : ∀ i, (Array.replicate ops.size false).getD i false = false := by
          intro i
          simp only [Array.getD_eq_getD_getElem?, Array.getElem?_replicate]
          split <;> rfl
        have hDf : (fun i => (Array.replicate ops.size false).getD i false) = fun _ => false := funext hD
        rw [hDf]
        have hc := cnt_none (P := P) (ops := ops)
        have a0 := W.at_rk (i := 0) (Nat.zero_le _)
        have hr0 : rk P ops 0 = 0 := rfl
        rw [hr0] at a0
        have hS0' : W.S 0 = { tm := tm, H := ⟨H.m, H.n + ops.size⟩, cm := 0, news := [], hist := [(⟨H.m, H.n + ops.size⟩, 0)], rds := [] } := hS0
        rw [hS0'] at a0
        have hM : W.M 0 = ⟨H.m, H.n + ops.size⟩ := a0.1
        have hcm : W.c 0 = 0 := a0.2
        have hheap : heapD W (fun _ => false) = ⟨H.m, H.n + ops.size⟩ := by
          rw [heapD, hc, hM]
          exact commitP_none _ _ fun q hq => by simp
        have htm : ∀ i, tmD ops tm val (fun _ => false) i = tm := by
          intro i
          induction i with
          | zero => rfl
          | succ i ih => simp only [tmD]; rw [if_neg (by simp), ih]
        refine ⟨by rw [htm]; exact ht, hd, ?_, fun i hi _ => ?_, fun m o _ hm => by simp at hm, fun i hi _ => ?_, fun i hi => ?_, ?_⟩
        · rw [hheap]
          have hg : ∀ x, AHeap.get ⟨H.m, H.n + ops.size⟩ x = H.get x := fun x => rfl
          have rw' : Rel E ⟨H.m, H.n + ops.size⟩ w.drew := (r.of_heap (w' := w.drew) rfl).weaken (fun x b hx => hx) (Nat.le_add_right _ _)
          exact { Sim.drew r with rel := rw', mine := fun k ⟨x, b, hb, hx, hβ, e⟩ => .inl ⟨x, b, hb, hx, hβ, e⟩, live := fun x hx hg => hg, n := Nat.le_add_right _ _ }
        · exact r.n_none (by omega)
        · rw [hc, hM]
          show H.get (H.n + i) = none
          cases e : H.get (H.n + i) with
          | none => rfl
          | some b =>
            obtain ⟨hb, hβ, _⟩ := r.live _ _ e
            rw [r.n_none (by omega)] at hβ; cases hβ
        · rw [hc, hcm] at hi; simp at hi
        · rw [hc, hM]; exact Nat.le_refl _
    · cases hfin
  · cases h
end
end Go.AM
