/- The abstract machine, sixth part: operations whose value hangs on their operands alone are the model's. -/
import Derived.Test.YtdjmoojonkjafaaGreatAMe
import Derived.Laws.Slices
set_option linter.unusedSimpArgs false
set_option linter.unusedVariables false
namespace Go.AM
attribute [local simp] AHeap.n_set AHeap.n_push
section
variable {P : Program} {E : Env} {H : AHeap} {w : World}

theorem eq_forms {d : Nat} {t : TypeId} {x y : AV} {b : Bool} {vx vy : Value} (h : aEq P d t x y = some b) (hx : V E x vx) (hy : V E y vy) :
    (∃ as bs, x = .agg as ∧ y = .agg bs) ∨ (∃ k a k' c, x = .int k a ∧ y = .int k' c) ∨ (∃ a c, x = .str a ∧ y = .str c) ∨
    ((∀ (op : BinOp) (ox oy : Operand) (w : World), (eqGuard op t ox oy vx vy).run P w = .ok () w) ∧ (binOp .eql t vx vy = do pure (.bool (← Op.equal t vx vy))) ∧ (binOp .neq t vx vy = do pure (.bool (!(← Op.equal t vx vy))))) := by
  cases d with
  | zero => simp [aEq] at h
  | succ d =>
    simp only [aEq] at h
    split at h <;> (first | (cases h; done) | skip)
    case h_2 => exact .inr (.inl ⟨_, _, _, _, rfl, rfl⟩)
    case h_3 => exact .inr (.inr (.inl ⟨_, _, rfl, rfl⟩))
    case h_20 => exact .inl ⟨_, _, rfl, rfl⟩
    case h_21 => exact .inl ⟨_, _, rfl, rfl⟩
    all_goals
      refine .inr (.inr (.inr ?_))
      simp only [V] at hx hy
      try (obtain ⟨_, _, rfl⟩ := hx)
      try (obtain ⟨_, _, rfl⟩ := hy)
      try (obtain ⟨_, _, _, _, rfl, _⟩ := hx)
      try (obtain ⟨_, _, _, _, rfl, _⟩ := hy)
      try (obtain ⟨_, _, rfl, _⟩ := hx)
      try (obtain ⟨_, _, rfl, _⟩ := hy)
      try subst hx
      try subst hy
      refine ⟨fun op ox oy w => ?_, rfl, rfl⟩
      cases op <;> rfl

theorem eql_sound {t : TypeId} {x y : AV} {b : Bool} {vx vy : Value} {ox oy : Operand} (h : aEq P eqDepth t x y = some b) (hx : V E x vx) (hy : V E y vy)
    (h1 : ∀ as bs, x = .agg as → y = .agg bs → P.eqGuardType P.depth t = false) (h2 : ∀ k a k' c, x = .int k a → y = .int k' c → False) (h3 : ∀ a c, x = .str a → y = .str c → False) (w : World) :
    (do eqGuard .eql t ox oy vx vy; binOp .eql t vx vy).run P w = .ok (.bool b) w ∧ (do eqGuard .neq t ox oy vx vy; binOp .neq t vx vy).run P w = .ok (.bool (!b)) w := by
  have he := aEq_sound eqDepth t x y b vx vy w h hx hy
  rcases eq_forms h hx hy with ⟨as, bs, rfl, rfl⟩ | ⟨k, a, k', c, rfl, rfl⟩ | ⟨a, c, rfl, rfl⟩ | ⟨hg, hb, hn⟩
  · have hm := h1 as bs rfl rfl
    rw [V_agg] at hx hy
    obtain ⟨va, rfl, _⟩ := hx
    obtain ⟨vb, rfl, _⟩ := hy
    simp only [Sem.run_bind, run_eqGuard_agg w _ t ox oy va vb hm, Result.andThen_ok, run_eql_struct, run_neq_struct]
    have : eqDepth = 10000 := rfl
    rw [this] at he
    simp [he]
  · exact (h2 _ _ _ _ rfl rfl).elim
  · exact (h3 _ _ rfl rfl).elim
  · have : eqDepth = Op.maxDepth := rfl
    rw [this] at he
    simp [hg, hb, hn, Op.equal, he]

theorem bin_sound {op : BinOp} {t : TypeId} {x y av : AV} {vx vy : Value} {ox oy : Operand} (h : aBin P op t x y = some av) (hx : V E x vx) (hy : V E y vy) (w : World) :
    ∃ v, (do eqGuard op t ox oy vx vy; binOp op t vx vy).run P w = .ok v w ∧ V E av v := by
  unfold aBin at h
  split at h
  · -- shl
    simp only [V_int] at hx hy; subst hx; subst hy
    unfold aShift at h
    split at h
    · cases h
    · rename_i hy0; cases h
      exact ⟨_, by simp [eqGuard, binOp, Op.shift, hy0]; rfl, by simp⟩
  · simp only [V_int] at hx hy; subst hx; subst hy
    unfold aShift at h
    split at h
    · cases h
    · rename_i hy0; cases h
      exact ⟨_, by simp [eqGuard, binOp, Op.shift, hy0]; rfl, by simp⟩
  · -- numbers
    rename_i _ _ _ k a k' c hsl hsr
    simp only [V_int] at hx hy; subst hx; subst hy
    split at h
    · rename_i hk; subst hk
      unfold aInt at h
      have hg : (eqGuard op t ox oy (.int k a) (.int k c)).run P w = .ok () w := by cases op <;> rfl
      simp only [Sem.run_bind, hg, Result.andThen_ok]
      cases op <;> simp only at h <;>
        first
        | (cases h; simp [binOp, Op.intArith, Op.intBits, Op.intCmp]; done)
        | (split at h <;> (first | (cases h; done) | (rename_i h0; cases h; simp [binOp, Op.intDiv, h0]; done)))
        | (cases h; done)
    · cases h
  · rename_i op a c hn1
    simp only [V_str] at hx hy; subst hx; subst hy
    unfold aStr at h
    split at h <;> (try (cases h; done)) <;> cases h <;> exact ⟨_, rfl, by simp⟩
  · rename_i a c
    split at h
    · cases h
    · rename_i hg
      simp only [Option.map_eq_some_iff] at h
      obtain ⟨b, h, rfl⟩ := h
      exact ⟨_, (eql_sound h hx hy (fun _ _ _ _ => by simpa using hg) (fun _ _ _ _ e => by cases e) (fun _ _ e => by cases e) w).1, by simp⟩
  · rename_i a c
    split at h
    · cases h
    · rename_i hg
      simp only [Option.map_eq_some_iff] at h
      obtain ⟨b, h, rfl⟩ := h
      exact ⟨_, (eql_sound h hx hy (fun _ _ _ _ => by simpa using hg) (fun _ _ _ _ e => by cases e) (fun _ _ e => by cases e) w).2, by simp⟩
  · cases h
  · rename_i _ hint hstr hagg
    simp only [Option.map_eq_some_iff] at h
    obtain ⟨b, h, rfl⟩ := h
    exact ⟨_, (eql_sound h hx hy (fun _ _ e e' => by subst e; subst e'; exact (hagg _ _ rfl rfl).elim) (fun _ _ _ _ e e' => by subst e; subst e'; exact hint _ _ _ _ rfl rfl) (fun _ _ e e' => by subst e; subst e'; exact hstr _ _ rfl rfl) w).1, by simp⟩
  · rename_i _ hint hstr hagg
    simp only [Option.map_eq_some_iff] at h
    obtain ⟨b, h, rfl⟩ := h
    exact ⟨_, (eql_sound h hx hy (fun _ _ e e' => by subst e; subst e'; exact (hagg _ _ rfl rfl).elim) (fun _ _ _ _ e e' => by subst e; subst e'; exact hint _ _ _ _ rfl rfl) (fun _ _ e e' => by subst e; subst e'; exact hstr _ _ rfl rfl) w).2, by simp⟩
  · cases h

theorem un_sound {op : UnOp} {x av : AV} {vx : Value} (h : aUn op x = some av) (hx : V E x vx) (w : World) : ∃ v, (Op.unary op vx).run P w = .ok v w ∧ V E av v := by
  unfold aUn at h
  split at h <;> (try (cases h; done)) <;> (simp only [V_int, V_bool] at hx; subst hx; cases h; exact ⟨_, rfl, by simp⟩)

theorem conv_sound {src dst : TypeId} {x av : AV} {vx : Value} (h : aConv P src dst x = some av) (hx : V E x vx) (w : World) : ∃ v, (convert src dst vx).run P w = .ok v w ∧ V E av v := by
  unfold aConv at h
  split at h
  · rename_i hs hd
    simp only [V_int] at hx; subst hx; cases h
    exact ⟨_, by simp [convert, run_underlying' hs, run_underlying' hd, Conv.intToInt]; rfl, by simp⟩
  · rename_i hs hd
    simp only [V_str] at hx; subst hx; cases h
    exact ⟨_, by simp [convert, run_underlying' hs, run_underlying' hd]; rfl, by simp⟩
  · cases h

theorem VLget {es : List AV} {vs : Array Value} {i : Nat} {a : AV} (h : VL E es vs.toList) (hi : es[i]? = some a) : ∃ v, vs[i]? = some v ∧ V E a v := by
  obtain ⟨v, h1, h2⟩ := h.get hi
  exact ⟨v, by simpa using h1, h2⟩

theorem fill_sound {pl : Nat → Option (Nat × Nat)} : ∀ (parts : List (Nat × AV)) (vparts : List (Nat × Value)) (cs es : List AV) (vs : Array Value), fillA pl cs parts = some es → VL E cs vs.toList →
    List.length parts = List.length vparts → (∀ (i : Nat) (p : Nat × AV) (q : Nat × Value), parts[i]? = some p → vparts[i]? = some q → p.1 = q.1 ∧ V E p.2 q.2) → ∃ us, Instr.fill pl vs vparts = some us ∧ VL E es us.toList
  | [], [], cs, es, vs, h, hv, _, _ => by simp only [fillA, Option.some.injEq] at h; subst h; exact ⟨vs, rfl, hv⟩
  | [], _ :: _, _, _, _, _, _, hl, _ => by simp at hl
  | _ :: _, [], _, _, _, _, _, hl, _ => by simp at hl
  | (i, a) :: ps, (j, v) :: qs, cs, es, vs, h, hv, hl, hp => by
    obtain ⟨hij, hV⟩ := hp 0 (i, a) (j, v) rfl rfl
    simp only at hij hV
    subst hij
    simp only [fillA] at h
    split at h
    · cases h
    · rename_i off size hpl
      split at h
      · rename_i hc
        have hcells := hV.cells
        have hlen : v.cells.size = a.cells.length := by have := hcells.length; simpa using this
        have hvl : vs.size = cs.length := by have := hv.length; simpa using this
        have key : (v.cells.zipIdx.foldl (fun cs (c, j) => cs.setIfInBounds (off + j) c) vs).toList = vs.toList.take off ++ v.cells.toList ++ vs.toList.drop (off + v.cells.toList.length) := by
          have : ∀ (l : List Value) (k : Nat) (vs : Array Value), off + k + l.length ≤ vs.size →
              ((l.zipIdx k).foldl (fun cs (c, j) => cs.setIfInBounds (off + j) c) vs).toList = vs.toList.take (off + k) ++ l ++ vs.toList.drop (off + k + l.length) := by
            intro l
            induction l with
            | nil => intro k vs _; simp
            | cons x l ih =>
              intro k vs hle
              simp only [List.length_cons] at hle
              simp only [List.zipIdx_cons, List.foldl_cons]
              rw [ih (k + 1) (vs.setIfInBounds (off + k) x) (by simp; omega)]
              simp only [Array.toList_setIfInBounds, List.length_cons]
              have hl : (List.take (off + k) vs.toList).length = off + k := by simp; omega
              have hst : (List.take (off + k + 1) vs.toList).set (off + k) x = List.take (off + k) vs.toList ++ [x] := by
                rw [List.take_succ_eq_append_getElem (by simp; omega)]
                conv => lhs; rw [List.set_append]
                rw [if_neg (by omega), hl, Nat.sub_self]; rfl
              rw [show off + (k + 1) = off + k + 1 by omega, List.take_set, List.drop_set_of_lt (by omega), hst, show off + k + 1 + l.length = off + k + (l.length + 1) by omega]
              simp
          have := this v.cells.toList 0 vs (by simp; omega)
          rw [← Array.foldl_toList]
          simpa using this
        obtain ⟨us, hus, hu⟩ := fill_sound ps qs _ es (v.cells.zipIdx.foldl (fun cs (c, j) => cs.setIfInBounds (off + j) c) vs) h (by rw [key]; exact hv.splice hcells) (by simpa using hl)
          (fun i p q h1 h2 => hp (i + 1) p q (by simpa using h1) (by simpa using h2))
        refine ⟨us, ?_, hu⟩
        simp only [Instr.fill, hpl]
        rw [if_neg (by simp; omega)]
        exact hus
      · cases h

theorem parts_sound {ρA : Operand → Option AV} {ρ : Operand → Value} (he : EvR E ρA ρ) : ∀ (ps : List (Nat × Operand)) (l : List (Nat × AV)), mapO (fun p => (ρA p.2).map fun v => (p.1, v)) ps = some l →
    l.length = (ps.map fun (i, x) => (i, ρ x)).length ∧ ∀ (i : Nat) (p : Nat × AV) (q : Nat × Value), l[i]? = some p → (ps.map fun (i, x) => (i, ρ x))[i]? = some q → p.1 = q.1 ∧ V E p.2 q.2
  | [], l, h => by simp only [mapO, Option.some.injEq] at h; subst h; simp
  | p :: ps, l, h => by
    simp only [mapO] at h
    split at h
    · rename_i b hb
      split at h
      · rename_i bs hbs
        cases h
        simp only [Option.map_eq_some_iff] at hb
        obtain ⟨v, hv, rfl⟩ := hb
        obtain ⟨h1, h2⟩ := parts_sound he ps bs hbs
        refine ⟨by simpa using h1, fun i => ?_⟩
        cases i with
        | zero => intro p' q' e1 e2; simp at e1 e2; subst e1; subst e2; exact ⟨rfl, he _ _ hv⟩
        | succ i => intro p' q' e1 e2; exact h2 i p' q' (by simpa using e1) (by simpa using e2)
      · cases h
    · cases h

theorem mapO_sound {ρA : Operand → Option AV} {ρ : Operand → Value} (he : EvR E ρA ρ) : ∀ (ps : List Operand) (l : List AV), mapO ρA ps = some l → VL E l (ps.map ρ)
  | [], l, h => by simp only [mapO, Option.some.injEq] at h; subst h; simp
  | p :: ps, l, h => by
    simp only [mapO] at h
    split at h
    · rename_i b hb
      split at h
      · rename_i bs hbs
        cases h
        simp only [List.map_cons, VL_cons_cons]
        exact ⟨he _ _ hb, mapO_sound he ps bs hbs⟩
      · cases h
    · cases h

theorem build_sound {t : TypeId} {ps : Array (Nat × Operand)} {l : List (Nat × AV)} {av : AV} {ρA : Operand → Option AV} {ρ : Operand → Value} (he : EvR E ρA ρ) (hl : evParts ρA ps = some l) (h : aBuild P t l = some av) (w : World) :
    ∃ v, (Instr.build t (ps.map fun (i, x) => (i, ρ x))).run P w = .ok v w ∧ V E av v := by
  obtain ⟨p1, p2⟩ := parts_sound he ps.toList l hl
  unfold aBuild at h
  split at h
  · rename_i z fields hz hu
    obtain ⟨vz, rz, Vz⟩ := run_zeroValue' hz E w
    split at h
    · rename_i hall
      simp only [Option.map_eq_some_iff] at h
      obtain ⟨es, h, rfl⟩ := h
      have hpl : ∃ places : Array (Nat × Nat), (fields.mapM (m := Sem) fun f => do pure (f.offset, ← Go.sizeOf f.type)).run P w = .ok places w ∧ ∀ i, placesA P fields i = places[i]? := by
        rw [Array.mapM_eq_mapM_toList]
        have : ∀ fs : List Field, (fs.all fun f => (sizeT P f.type).isSome) = true → ∃ pl : List (Nat × Nat), (fs.mapM (m := Sem) fun f => do pure (f.offset, ← Go.sizeOf f.type)).run P w = .ok pl w ∧
            ∀ i : Nat, (match (fs[i]? : Option Field) with | some f => (sizeT P f.type).map fun n => (f.offset, n) | none => none) = pl[i]? := by
          intro fs
          induction fs with
          | nil => intro _; exact ⟨[], by simp, by simp⟩
          | cons f fs ih =>
            intro ha
            simp only [List.all_cons, Bool.and_eq_true] at ha
            obtain ⟨pl, hr, hp⟩ := ih ha.2
            obtain ⟨n, hn⟩ := Option.isSome_iff_exists.1 ha.1
            refine ⟨(f.offset, n) :: pl, by simp only [List.mapM_cons, Sem.run_bind, run_sizeOf' hn, Result.andThen_ok, Sem.run_pure, hr], fun i => ?_⟩
            cases i with
            | zero => simp [hn]
            | succ i => simpa using hp i
        obtain ⟨pl, hr, hp⟩ := this fields.toList hall
        refine ⟨pl.toArray, by simp only [Sem.run_map, hr, Result.andThen_ok], fun i => ?_⟩
        have := hp i
        simp only [Array.getElem?_toList] at this
        simp only [placesA, List.getElem?_toArray]
        exact this
      obtain ⟨places, hr, hp⟩ := hpl
      obtain ⟨us, hus, hu'⟩ := fill_sound (E := E) l _ z.cells es vz.cells h Vz.cells p1 p2
      refine ⟨.agg us, ?_, by rw [V_agg]; exact ⟨us, rfl, hu'⟩⟩
      have e : (fun x => places[x]?) = placesA P fields := funext fun i => (hp i).symm
      have e2 : ((ps.map fun (i, x) => (i, ρ x)).toList) = ps.toList.map fun (i, x) => (i, ρ x) := by simp
      simp only [Instr.build, Sem.run_bind, rz, Result.andThen_ok, run_underlying' hu, hr, e, e2, hus, Sem.run_pure]
    · cases h
  · rename_i z len elem hz hu
    obtain ⟨vz, rz, Vz⟩ := run_zeroValue' hz E w
    split at h
    · rename_i n hn
      simp only [Option.map_eq_some_iff] at h
      obtain ⟨es, h, rfl⟩ := h
      obtain ⟨us, hus, hu'⟩ := fill_sound (E := E) l _ z.cells es vz.cells h Vz.cells p1 p2
      refine ⟨.agg us, ?_, by rw [V_agg]; exact ⟨us, rfl, hu'⟩⟩
      have e2 : ((ps.map fun (i, x) => (i, ρ x)).toList) = ps.toList.map fun (i, x) => (i, ρ x) := by simp
      simp only [Instr.build, Sem.run_bind, rz, Result.andThen_ok, run_underlying' hu, run_sizeOf' hn, e2, hus, Sem.run_pure]
    · cases h
  · cases h
end
end Go.AM
