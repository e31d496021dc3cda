/- The abstract machine, fourth part: memory: what is read, written, made. -/
import Derived.Test.YtdjmoojonkjafaaGreatAMc
namespace Go.AM
attribute [local simp] AHeap.n_set AHeap.n_push

section
variable {P : Program} {E : Env} {H : AHeap} {w : World}

theorem sizeT_info {t : TypeId} {n : Nat} (h : sizeT P t = some n) : ∃ i, P.info? t = some i ∧ i.size = n := by
  unfold sizeT at h; simpa using h
theorem run_typeInfo' {t : TypeId} {i : TypeInfo} (h : P.info? t = some i) (w : World) : (typeInfo t).run P w = .ok i w := by simp [typeInfo, h]
theorem run_sizeOf' {t : TypeId} {n : Nat} (h : sizeT P t = some n) (w : World) : (Go.sizeOf t).run P w = .ok n w := by
  obtain ⟨i, hi, rfl⟩ := sizeT_info h; simp [Go.sizeOf, run_typeInfo' hi]
theorem run_underlying' {t : TypeId} {d : TypeDesc} (h : P.underlying t = some d) (w : World) : (underlying t).run P w = .ok d w := by simp [underlying, h]
theorem run_isAgg' {t : TypeId} {b : Bool} (h : aggT P t = some b) (w : World) : (isAgg t).run P w = .ok b w := by
  unfold aggT at h
  split at h
  · rename_i hu; cases h; simp [isAgg, run_underlying' hu]
  · rename_i hu; cases h; simp [isAgg, run_underlying' hu]
  · rename_i d hn hm hu; cases h
    simp only [isAgg, Sem.run_bind, run_underlying' hu, Result.andThen_ok]
    rfl
  · cases h
theorem zeroT_info {t : TypeId} {z : AV} (h : zeroT P t = some z) : ∃ i v, P.info? t = some i ∧ i.zero = some v ∧ ofVal v = some z := by
  unfold zeroT at h
  simp only [Option.bind_eq_some_iff] at h
  obtain ⟨v, ⟨i, hi, hz⟩, hv⟩ := h
  exact ⟨i, v, hi, hz, hv⟩
theorem run_zeroValue' {t : TypeId} {z : AV} (h : zeroT P t = some z) (E : Env) (w : World) : ∃ v, (zeroValue t).run P w = .ok v w ∧ V E z v := by
  obtain ⟨i, v, hi, hz, hv⟩ := zeroT_info h
  exact ⟨v, by simp [zeroValue, run_typeInfo' hi, hz], ofVal_V hv⟩

theorem Addr.add_eq {a : Addr} (h : a.spot = none) (i : Nat) : a.add i = ⟨a.block, a.off + i, none⟩ := by
  unfold Addr.add
  split
  · rename_i e; subst e; cases a; simp at h; simp [h]
  · cases a; simp

/-- a row of cells in a block, from a place on -/
def Cells (w : World) (b o : Nat) (vs : List Value) : Prop := ∃ c T fz, w.heap[b]? = some (.cells c T fz) ∧ (c.toList.drop o).take vs.length = vs

theorem Cells.cell {b o : Nat} {vs : List Value} (h : Cells w b o vs) {j : Nat} {v : Value} (hj : vs[j]? = some v) : w.cell? ⟨b, o + j, none⟩ = some v := by
  obtain ⟨c, T, fz, hc, hv⟩ := h
  have hjl : j < vs.length := by
    rcases Nat.lt_or_ge j vs.length with h | h
    · exact h
    · rw [List.getElem?_eq_none h] at hj; cases hj
  simp only [World.cell?, hc]
  rw [← hv, List.getElem?_take, if_pos hjl, List.getElem?_drop] at hj
  simpa using hj

theorem Cells.drop {b o : Nat} {vs : List Value} (h : Cells w b o vs) (n : Nat) : Cells w b (o + n) (vs.drop n) := by
  obtain ⟨c, T, fz, hc, hv⟩ := h
  refine ⟨c, T, fz, hc, ?_⟩
  conv => rhs; rw [← hv]
  rw [List.drop_take, List.drop_drop, List.length_drop]

theorem Cells.take {b o : Nat} {vs : List Value} (h : Cells w b o vs) (n : Nat) : Cells w b o (vs.take n) := by
  obtain ⟨c, T, fz, hc, hv⟩ := h
  refine ⟨c, T, fz, hc, ?_⟩
  conv => rhs; rw [← hv]
  rw [List.take_take, List.length_take]

theorem run_loadCells' {b o : Nat} {vs : List Value} (h : Cells w b o vs) : (loadCells ⟨b, o, none⟩ vs.length).run P w = .ok vs.toArray w :=
  run_loadCells_list w _ _ fun j v hj => by rw [Addr.add_eq rfl]; exact h.cell hj

/-- a variable is read -/
theorem run_loadVar' {t : TypeId} {es : List AV} {vs : List Value} {b o : Nat} {av : AV} (h : Cells w b o vs) (hv : VL E es vs) (hp : partA P t es 0 = some av) :
    ∃ v, (loadVar t ⟨b, o, none⟩).run P w = .ok v w ∧ V E av v := by
  unfold partA at hp
  split at hp
  · rename_i n ha hs
    split at hp
    · rename_i hle
      cases hp
      have hlen := hv.length
      have hc := run_loadCells' (P := P) (h.take n)
      rw [List.length_take, Nat.min_eq_left (by omega)] at hc
      refine ⟨_, by simp only [loadVar, Sem.run_bind, run_isAgg' ha, Result.andThen_ok, if_true, run_sizeOf' hs, hc]; simp; rfl, ?_⟩
      rw [V_agg]
      exact ⟨_, rfl, by simpa using hv.take n⟩
    · cases hp
  · rename_i ha hs
    obtain ⟨v, hv', hV⟩ := hv.get hp
    refine ⟨v, ?_, hV⟩
    have := h.cell hv'
    simp only [Nat.add_zero] at this
    simp [loadVar, run_isAgg' ha, this]
  · cases hp

theorem Rel.cells {h : Nat} {sz : Nat} {cs : List AV} (r : Rel E H w) (hg : H.get h = some (.cells sz cs)) :
    ∃ hb vs, E.β h = some hb ∧ hb.sz = sz ∧ Cells w hb.blk hb.base vs ∧ VL E cs vs ∧ hb.base + cs.length ≤ hb.lim := by
  obtain ⟨hb, hβ, hs, c, T, fz, hc, hl, hle, hv, _⟩ := r.live h _ hg
  refine ⟨hb, _, hβ, hs, ⟨c, T, fz, hc, ?_⟩, hv, hle⟩
  rw [hv.length]

theorem V_lptr {es : List AV} {v : Value} (r : Rel E H w) (h : V E (.lptr es) v) : ∃ a vs, v = .pointer (some a) ∧ a.spot = none ∧ Cells w a.block a.off vs ∧ VL E es vs := by
  simp only [V] at h
  obtain ⟨a, c, T, fz, rfl, hs, hI, hv⟩ := h
  exact ⟨a, _, rfl, hs, ⟨c, T, fz, r.imm _ _ hI, by rw [hv.length]⟩, hv⟩

theorem partA_inv {t : TypeId} {es : List AV} {off : Nat} {av : AV} (h : partA P t es off = some av) :
    (∃ n, aggT P t = some true ∧ sizeT P t = some n ∧ off + n ≤ es.length ∧ av = .agg ((es.drop off).take n)) ∨ (∃ n, aggT P t = some false ∧ sizeT P t = some n ∧ es[off]? = some av) := by
  unfold partA at h
  cases ha : aggT P t with
  | none => rw [ha] at h; cases sizeT P t <;> cases h
  | some b =>
    cases hs : sizeT P t with
    | none => rw [ha, hs] at h; cases b <;> cases h
    | some n =>
      rw [ha, hs] at h
      cases b with
      | true =>
        simp only at h
        split at h
        · rename_i hle; cases h; exact .inl ⟨n, rfl, rfl, hle, rfl⟩
        · cases h
      | false => exact .inr ⟨n, rfl, rfl, h⟩

theorem partA_drop {t : TypeId} {es : List AV} {off : Nat} {av : AV} (h : partA P t es off = some av) : partA P t (es.drop off) 0 = some av := by
  rcases partA_inv h with ⟨n, ha, hs, hle, rfl⟩ | ⟨n, ha, hs, h⟩
  · unfold partA; rw [ha, hs]; simp only [List.drop_zero]; rw [if_pos (by rw [List.length_drop]; omega)]
  · unfold partA; rw [ha, hs]; simp only [List.getElem?_drop, Nat.add_zero]; exact h

/-! writing -/
theorem run_storeCells' {T : TypeId} {fz : Nat × Nat} {a : Addr} (ha : a.spot = none) : ∀ (vs : List Value) (i : Nat) (w : World) (c : Array Value), w.heap[a.block]? = some (.cells c T fz) →
    (∀ v ∈ vs, v.oneCell' = true) → a.off + i + vs.length ≤ c.size → (∀ j, a.off + i ≤ j → j < a.off + i + vs.length → ¬ (fz.1 ≤ j ∧ j < fz.2)) →
    ∃ w', (storeCells a vs i).run P w = .ok () w' ∧ w'.os = w.os ∧ w'.tape = w.tape ∧ w'.output = w.output ∧ w'.heap.size = w.heap.size ∧ (∀ k, k ≠ a.block → w'.heap[k]? = w.heap[k]?) ∧
      w'.heap[a.block]? = some (.cells (c.toList.take (a.off + i) ++ vs ++ c.toList.drop (a.off + i + vs.length)).toArray T fz) := by
  intro vs
  induction vs with
  | nil => intro i w c hc _ _ _; exact ⟨w, by simp [storeCells], rfl, rfl, rfl, rfl, fun _ _ => rfl, by simp [hc]⟩
  | cons v vs ih =>
    intro i w c hc h1 hle hf
    simp only [List.length_cons] at hle hf
    have hadd := Addr.add_eq ha i
    have hlt : a.off + i < c.size := by omega
    have hcell : w.cell? ⟨a.block, a.off + i, none⟩ = some c[a.off + i] := by simp [World.cell?, hc, hlt]
    have hfz : w.frozen? ⟨a.block, a.off + i, none⟩ = false := by
      have := hf (a.off + i) (by omega) (by omega)
      simp only [World.frozen?, hc, Bool.and_eq_false_iff, decide_eq_false_iff_not]
      by_cases h : fz.1 ≤ a.off + i
      · exact .inr (fun h' => this ⟨h, h'⟩)
      · exact .inl h
    have hset : (w.setCell ⟨a.block, a.off + i, none⟩ v).heap[a.block]? = some (.cells (c.setIfInBounds (a.off + i) v) T fz) := by
      simp [World.setCell, Array.getElem?_modify, hc]
    obtain ⟨w', hr, hos, htp, hout, hsz, hoth, hblk⟩ := ih (i + 1) (w.setCell ⟨a.block, a.off + i, none⟩ v) (c.setIfInBounds (a.off + i) v) hset (fun u hu => h1 u (List.mem_cons_of_mem _ hu))
      (by simp; omega) (fun j h h' => hf j (by omega) (by omega))
    refine ⟨w', ?_, hos, htp, hout, hsz.trans (by simp), fun k hk => (hoth k hk).trans (heap_setCell_other _ _ _ _ hk), ?_⟩
    · simp only [storeCells, Sem.run_bind, hadd, run_store _ _ _ _ _ (h1 v (List.mem_cons_self ..)), hcell, hfz, Bool.false_eq_true, if_false, Result.andThen_ok, hr]
    · rw [hblk]
      congr 3
      simp only [Array.toList_setIfInBounds, List.length_cons]
      rw [show a.off + (i + 1) = (a.off + i) + 1 by omega, List.take_set, List.drop_set_of_lt (by omega)]
      have hl : (List.take (a.off + i) c.toList).length = a.off + i := by simp; omega
      have hst : (List.take (a.off + i + 1) c.toList).set (a.off + i) v = List.take (a.off + i) c.toList ++ [v] := by
        rw [List.take_succ_eq_append_getElem (by simpa using hlt)]
        conv => lhs; rw [List.set_append]
        rw [if_neg (by omega), hl, Nat.sub_self]; rfl
      rw [hst, show a.off + i + (vs.length + 1) = a.off + i + 1 + vs.length by omega]
      simp

/-- a handle's block is written in its place -/
theorem Sim.writeBlk {h : Nat} {b0 b1 : ABlk} {hb : HB} {w' : World} (r : Rel E H w) (hg : H.get h = some b0) (hβ : E.β h = some hb) (hd : b1 ≠ .dead)
    (hos : w'.os = w.os) (htp : w'.tape = w.tape) (hout : w'.output = w.output) (hsz : w'.heap.size = w.heap.size)
    (hoth : ∀ k, k ≠ hb.blk → w'.heap[k]? = w.heap[k]?) (hrel : BlkRel E hb w' b1) : Sim E H w E (H.set h b1) w' := by
  have hget := fun h' => AHeap.get_set H h b1 hd h'
  refine ⟨.refl _, ⟨fun x b hx => ?_, fun x x' b b' hb hb' hx hx' hβx hβx' e => ?_, fun k o hk => ?_, fun x b hb hx hβx => ?_, r.bound⟩, hos, htp, hout, Nat.le_of_eq hsz.symm, fun k hk hm => ?_, fun k hm => ?_, fun x hx hn => ?_, Nat.le_refl _, fun _ _ => rfl, fun _ h h' => absurd h h'⟩
  · rw [hget] at hx
    split at hx
    · rename_i e
      subst e; cases hx
      exact ⟨hb, hβ, hrel⟩
    · rename_i e
      obtain ⟨hb1, p, q⟩ := r.live x b hx
      refine ⟨hb1, p, q.mono (.refl _) (hoth _ fun e' => e (r.inj x h b _ hb1 hb hx hg p hβ e'))⟩
  · rw [hget] at hx hx'
    split at hx <;> split at hx'
    · rename_i e1 e2; rw [e1, e2]
    · rename_i e1 e2; exact r.inj x x' _ b' hb hb' (by rw [e1]; exact hg) hx' hβx hβx' e
    · rename_i e1 e2; exact r.inj x x' b _ hb hb' hx (by rw [e2]; exact hg) hβx hβx' e
    · exact r.inj x x' b b' hb hb' hx hx' hβx hβx' e
  · rw [hoth k (fun e => by have := r.sep h _ hb hg hβ; rw [← e, hk] at this; cases this)]; exact r.imm k o hk
  · rw [hget] at hx
    split at hx
    · rename_i e; exact r.sep x _ hb (by rw [e]; exact hg) hβx
    · exact r.sep x b hb hx hβx
  · exact hoth k fun e => hm ⟨h, _, hb, hg, hβ, e.symm⟩
  · obtain ⟨x, b, hb, hx, hβx, rfl⟩ := hm
    rw [hget] at hx
    split at hx
    · rename_i e; exact .inl ⟨x, _, hb, by rw [e]; exact hg, hβx, rfl⟩
    · exact .inl ⟨x, b, hb, hx, hβx, rfl⟩
  · rw [hget]
    split
    · rename_i e; rw [e, hg] at hn; cases hn
    · exact hn

theorem Sim.write {h : Nat} {sz : Nat} {cs cs' : List AV} {hb : HB} {w' : World} {c c' : Array Value} {T : TypeId} {fz : Nat × Nat} (r : Rel E H w) (hg : H.get h = some (.cells sz cs)) (hβ : E.β h = some hb)
    (hc : w.heap[hb.blk]? = some (.cells c T fz)) (hos : w'.os = w.os) (htp : w'.tape = w.tape) (hout : w'.output = w.output) (hsz : w'.heap.size = w.heap.size)
    (hoth : ∀ k, k ≠ hb.blk → w'.heap[k]? = w.heap[k]?) (hc' : w'.heap[hb.blk]? = some (.cells c' T fz)) (hsize : c'.size = c.size) (hlen : hb.base + cs'.length ≤ hb.lim)
    (hv : VL E cs' ((c'.toList.drop hb.base).take cs'.length)) : Sim E H w E (H.set h (.cells sz cs')) w' := by
  obtain ⟨hb0, hβ0, hs, c0, T0, fz0, hc0, hl, hle, _, hfz⟩ := r.live h _ hg
  obtain rfl : hb0 = hb := Option.some.inj (hβ0.symm.trans hβ)
  rw [hc] at hc0
  cases hc0
  exact Sim.writeBlk r hg hβ (by simp) hos htp hout hsz hoth ⟨hs, c', T, fz, hc', by rw [hsize]; exact hl, hlen, hv, hfz⟩

theorem putCells_eq (cs : List AV) (off : Nat) (vs : List AV) (h : off + vs.length ≤ cs.length) : putCells cs off vs = cs.take off ++ vs ++ cs.drop (off + vs.length) := by
  unfold putCells
  split
  · rename_i v
    simp only [List.length_singleton] at h ⊢
    rw [List.set_eq_take_append_cons_drop, if_pos (by omega)]
    simp
  · rfl

theorem VL.splice {cs xs : List AV} {us vs : List Value} {off : Nat} (h : VL E cs us) (k : VL E xs vs) :
    VL E (cs.take off ++ xs ++ cs.drop (off + xs.length)) (us.take off ++ vs ++ us.drop (off + vs.length)) := by
  rw [k.length]
  exact ((h.take off).append k).append (h.drop _)

/-- cells are written into a handle's block -/
theorem Sim.writes {h : Nat} {sz : Nat} {cs xs : List AV} {hb : HB} {vs : List Value} {off : Nat} (r : Rel E H w) (hg : H.get h = some (.cells sz cs)) (hβ : E.β h = some hb)
    (hv : VL E xs vs) (h1 : ∀ v ∈ vs, v.oneCell' = true) (hle : off + xs.length ≤ cs.length) :
    ∃ w', (storeCells ⟨hb.blk, hb.base + off, none⟩ vs).run P w = .ok () w' ∧ Sim E H w E (H.set h (.cells sz (cs.take off ++ xs ++ cs.drop (off + xs.length)))) w' := by
  obtain ⟨hb0, hβ0, hs, c, T, fz, hc, hl, hle2, hvc, hfz⟩ := r.live h _ hg
  obtain rfl : hb0 = hb := Option.some.inj (hβ0.symm.trans hβ)
  have hlen := hv.length
  obtain ⟨w', hr, hos, htp, hout, hsz, hoth, hblk⟩ := run_storeCells' (P := P) (T := T) (fz := fz) (a := ⟨hb0.blk, hb0.base + off, none⟩) rfl vs 0 w c hc h1 (by simp; omega)
    (fun j h h' => hfz j (by simp at h; omega) (by simp at h'; omega))
  refine ⟨w', hr, Sim.write r hg hβ hc hos htp hout hsz hoth hblk ?_ ?_ ?_⟩
  · simp; omega
  · simp; omega
  · have := hvc.splice (off := off) hv
    have hcl : c.toList.length = c.size := by simp
    have hl2 : (cs.take off ++ xs ++ cs.drop (off + xs.length)).length = cs.length := by simp; omega
    rw [hl2]
    rw [hlen] at this ⊢
    refine (congrArg (VL E _) ?_).mpr this
    simp only [Nat.add_zero]
    apply List.ext_getElem?
    intro i
    simp only [List.getElem?_take, List.getElem?_drop, List.getElem?_append, List.length_append, List.length_take, List.length_drop]
    by_cases hi : i < cs.length
    · simp only [hi, if_true]
      by_cases hi1 : i < off
      · rw [if_pos (by omega), if_pos (by omega), if_pos (by omega), if_pos (by omega), if_pos (by omega), if_pos (by omega)]
      · by_cases hi2 : i < off + xs.length
        · rw [if_pos (by omega), if_neg (by omega), if_pos (by omega), if_neg (by omega)]
          congr 1; omega
        · rw [if_neg (by omega), if_neg (by omega)]
          rw [if_pos (by omega)]
          congr 1; omega
    · simp only [hi, if_false]
      rw [if_neg (by omega)]
      symm
      rw [if_neg (by omega)]

/-! making -/
/-- a new block, for a handle that had none -/
theorem Sim.newAt {H' : AHeap} {h0 : Nat} {b : ABlk} {hb : HB} {o : Obj} {w' : World} (r : Rel E H w) (hβ : E.β h0 = none) (hn : H.n ≤ H'.n) (hlt : h0 < H'.n) (hblk : hb.blk = w.heap.size) (hd : b ≠ .dead)
    (hget : ∀ x, H'.get x = if x = h0 then some b else H.get x) (hw : w'.heap = w.heap.push o) (hos : w'.os = w.os) (htp : w'.tape = w.tape) (hout : w'.output = w.output)
    (hb' : BlkRel E hb w' b) : Rel ⟨fun x => if x = h0 then some hb else E.β x, E.I⟩ H' w' ∧ E.le ⟨fun x => if x = h0 then some hb else E.β x, E.I⟩ ∧
      (h0 = H.n → Sim E H w ⟨fun x => if x = h0 then some hb else E.β x, E.I⟩ H' w') := by
  have le : E.le ⟨fun x => if x = h0 then some hb else E.β x, E.I⟩ :=
    ⟨fun x y h => by simp only; split; · rename_i e; rw [e, hβ] at h; cases h
                     · exact h, fun _ _ h => h⟩
  have hold : ∀ k, k < w.heap.size → w'.heap[k]? = w.heap[k]? := fun k hk => by rw [hw, Array.getElem?_push, if_neg (by omega)]
  have hsize : w'.heap.size = w.heap.size + 1 := by rw [hw]; simp
  have hIlt : ∀ k o, E.I k = some o → k < w.heap.size := fun k o hk => (Array.getElem?_eq_some_iff.1 (r.imm k o hk)).1
  have hlive0 : ∀ x b, H.get x = some b → x ≠ h0 := fun x b hx e => by
    obtain ⟨hb, p, _⟩ := r.live x b hx; rw [e, hβ] at p; cases p
  have rel : Rel ⟨fun x => if x = h0 then some hb else E.β x, E.I⟩ H' w' := by
    refine ⟨fun x b' hx => ?_, fun x x' b1 b2 hb1 hb2 hx hx' hβx hβx' e => ?_, fun k o hk => ?_, fun x b' hb1 hx hβx => ?_, fun x hx => ?_⟩
    · rw [hget] at hx
      split at hx
      · rename_i e; cases hx
        exact ⟨hb, by simp [e], by cases b <;> first | exact hb'.mono le rfl | exact absurd rfl hd⟩
      · rename_i e
        obtain ⟨hb1, p, q⟩ := r.live x b' hx
        exact ⟨hb1, by simp [e, p], q.mono le (hold _ q.lt)⟩
    · rw [hget] at hx hx'
      simp only at hβx hβx'
      split at hx <;> split at hx'
      · rename_i e1 e2; rw [e1, e2]
      · rename_i e1 e2
        rw [if_pos e1] at hβx; rw [if_neg e2] at hβx'
        cases hβx
        obtain ⟨hb3, p, q⟩ := r.live x' b2 hx'
        obtain rfl : hb3 = hb2 := Option.some.inj (p.symm.trans hβx')
        have := q.lt; omega
      · rename_i e1 e2
        rw [if_neg e1] at hβx; rw [if_pos e2] at hβx'
        cases hβx'
        obtain ⟨hb3, p, q⟩ := r.live x b1 hx
        obtain rfl : hb3 = hb1 := Option.some.inj (p.symm.trans hβx)
        have := q.lt; omega
      · rename_i e1 e2
        rw [if_neg e1] at hβx; rw [if_neg e2] at hβx'
        exact r.inj x x' b1 b2 hb1 hb2 hx hx' hβx hβx' e
    · simp only at hk
      rw [hold k (hIlt k o hk)]; exact r.imm k o hk
    · rw [hget] at hx
      simp only at hβx ⊢
      split at hx
      · rename_i e; rw [if_pos e] at hβx; cases hβx
        cases hI : E.I hb.blk with
        | none => rfl
        | some o => have := hIlt _ o hI; omega
      · rename_i e; rw [if_neg e] at hβx; exact r.sep x b' hb1 hx hβx
    · simp only at hx
      split at hx
      · rename_i e; rw [e]; exact hlt
      · exact Nat.lt_of_lt_of_le (r.bound x hx) hn
  refine ⟨rel, le, fun e0 => ⟨le, rel, hos, htp, hout, by omega, fun k hk _ => hold k hk, fun k hm => ?_, fun x hx hn => ?_, hn, fun x hx => ?_, fun _ h h' => absurd h h'⟩⟩
  · obtain ⟨x, b', hb1, hx, hβx, rfl⟩ := hm
    rw [hget] at hx
    simp only at hβx
    split at hx
    · rename_i e; rw [if_pos e] at hβx; cases hβx; exact .inr (by omega)
    · rename_i e; rw [if_neg e] at hβx; exact .inl ⟨x, b', hb1, hx, hβx, rfl⟩
  · rw [hget, if_neg (by omega)]; exact hn
  · simp only; rw [if_neg (by omega)]

theorem Rel.n_none (r : Rel E H w) {h : Nat} (hh : H.n ≤ h) : E.β h = none := by
  cases e : E.β h with
  | none => rfl
  | some x => have := r.bound h (by rw [e]; simp); omega

theorem Sim.push {b : ABlk} {hb : HB} {o : Obj} {w' : World} (r : Rel E H w) (hblk : hb.blk = w.heap.size) (hd : b ≠ .dead) (hw : w'.heap = w.heap.push o) (hos : w'.os = w.os) (htp : w'.tape = w.tape) (hout : w'.output = w.output)
    (hb' : BlkRel E hb w' b) : Sim E H w ⟨fun x => if x = H.n then some hb else E.β x, E.I⟩ (H.push b) w' :=
  (Sim.newAt r (r.n_none (Nat.le_refl _)) (by simp) (by simp) hblk hd (AHeap.get_push H b hd) hw hos htp hout hb').2.2 rfl

/-- a handle dies, and its block is a new handle's, written anew behind a place -/
theorem Sim.move {h : Nat} {b0 : ABlk} {hb hb' : HB} {cs' : List AV} {w' : World} (r : Rel E H w) (hg : H.get h = some b0) (hβ : E.β h = some hb)
    (hos : w'.os = w.os) (htp : w'.tape = w.tape) (hout : w'.output = w.output) (hsz : w'.heap.size = w.heap.size)
    (hoth : ∀ k, k ≠ hb.blk → w'.heap[k]? = w.heap[k]?) (hblk : hb'.blk = hb.blk) (hrel : BlkRel E hb' w' (.cells hb'.sz cs')) :
    Sim E H w ⟨fun x => if x = H.n then some hb' else E.β x, E.I⟩ ((H.set h .dead).push (.cells hb'.sz cs')) w' := by
  have hβn : E.β H.n = none := r.n_none (Nat.le_refl _)
  have le : E.le ⟨fun x => if x = H.n then some hb' else E.β x, E.I⟩ :=
    ⟨fun x y h => by simp only; split; · rename_i e; rw [e, hβn] at h; cases h
                     · exact h, fun _ _ h => h⟩
  have hget : ∀ x, ((H.set h .dead).push (.cells hb'.sz cs')).get x = if x = H.n then some (.cells hb'.sz cs') else if x = h then none else H.get x := fun x => by
    rw [AHeap.get_push _ _ (by simp), AHeap.n_set, AHeap.get_kill]
  have hhn : h ≠ H.n := fun e => by rw [e, hβn] at hβ; cases hβ
  have hsep := r.sep h b0 hb hg hβ
  have other : ∀ x b hb1, H.get x = some b → x ≠ h → E.β x = some hb1 → hb1.blk ≠ hb.blk := fun x b hb1 hx hne hβx e => hne (r.inj x h b b0 hb1 hb hx hg hβx hβ e)
  refine ⟨le, ⟨fun x b hx => ?_, fun x x' b1 b2 hb1 hb2 hx hx' hβx hβx' e => ?_, fun k o hk => ?_, fun x b hb1 hx hβx => ?_, fun x hx => ?_⟩, hos, htp, hout, Nat.le_of_eq hsz.symm, fun k hk hm => ?_, fun k hm => ?_, fun x hx hn => ?_, by simp, fun x hx => ?_, fun _ h h' => absurd h h'⟩
  · rw [hget] at hx
    split at hx
    · rename_i e; cases hx; exact ⟨hb', by simp [e], hrel.mono le rfl⟩
    · split at hx
      · cases hx
      · rename_i e1 e2
        obtain ⟨hb1, p, q⟩ := r.live x b hx
        exact ⟨hb1, by simp [e1, p], q.mono le (hoth _ (other x b hb1 hx e2 p))⟩
  · rw [hget] at hx hx'
    simp only at hβx hβx'
    by_cases e1 : x = H.n <;> by_cases e2 : x' = H.n
    · rw [e1, e2]
    · rw [if_pos e1] at hβx; rw [if_neg e2] at hβx' hx'; cases hβx
      split at hx'
      · cases hx'
      · rename_i e3; exact absurd (e.symm.trans hblk) (other x' b2 hb2 hx' e3 hβx')
    · rw [if_neg e1] at hβx hx; rw [if_pos e2] at hβx'; cases hβx'
      split at hx
      · cases hx
      · rename_i e3; exact absurd (e.trans hblk) (other x b1 hb1 hx e3 hβx)
    · rw [if_neg e1] at hβx hx; rw [if_neg e2] at hβx' hx'
      split at hx
      · cases hx
      · split at hx'
        · cases hx'
        · exact r.inj x x' b1 b2 hb1 hb2 hx hx' hβx hβx' e
  · simp only at hk
    rw [hoth k (fun e => by rw [← e, hk] at hsep; cases hsep)]; exact r.imm k o hk
  · rw [hget] at hx
    simp only at hβx ⊢
    split at hx
    · rename_i e; rw [if_pos e] at hβx; cases hβx; rw [hblk]; exact hsep
    · rename_i e; rw [if_neg e] at hβx
      split at hx
      · cases hx
      · exact r.sep x b hb1 hx hβx
  · simp only at hx
    split at hx
    · rename_i e; rw [e]; simp
    · have := r.bound x hx; simp; omega
  · exact hoth k fun e => hm ⟨h, _, hb, hg, hβ, e.symm⟩
  · obtain ⟨x, b, hb1, hx, hβx, rfl⟩ := hm
    rw [hget] at hx
    simp only at hβx
    split at hx
    · rename_i e; rw [if_pos e] at hβx; cases hβx; exact .inl ⟨h, b0, hb, hg, hβ, hblk.symm⟩
    · rename_i e; rw [if_neg e] at hβx
      split at hx
      · cases hx
      · exact .inl ⟨x, b, hb1, hx, hβx, rfl⟩
  · rw [hget, if_neg (by omega)]
    split
    · rfl
    · exact hn
  · simp only; rw [if_neg (by omega)]
end
end Go.AM
