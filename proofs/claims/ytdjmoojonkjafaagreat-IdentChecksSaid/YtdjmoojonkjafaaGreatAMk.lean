/- The abstract machine, eleventh part: slots, one operation, a region in the order of its text. -/
import Derived.Test.YtdjmoojonkjafaaGreatAMj
import Derived.Scope
import Derived.Orders
set_option linter.unusedSimpArgs false
set_option linter.unusedVariables false
namespace Go.AM
attribute [local simp] AHeap.n_set AHeap.n_push
section
variable {P : Program} {E : Env} {H : AHeap} {w : World} {N : Nat}

/-- slots -/
structure TmR (E : Env) (N : Nat) (tm : Tm) (tmps : Array Value) : Prop where
  size : tmps.size = N
  get : ∀ t v, tm.get t = some v → V E v (tmps.getD t undef)

theorem TmR.mono {E E' : Env} {tm : Tm} {tmps : Array Value} (h : TmR E N tm tmps) (k : E.le E') : TmR E' N tm tmps := ⟨h.size, fun t v q => (h.get t v q).mono k⟩

theorem TmR.evR {tm : Tm} {a : Act} (h : TmR E N tm a.tmps) : EvR E (evA tm) a.eval := by
  intro x v hx
  cases x with
  | tmp t => exact h.get t v hx
  | const c => exact ofVal_V hx
  | global g => cases hx
  | func f => cases hx; rw [V_fn]; exact ⟨#[], #[], rfl, by simp, by simp⟩

theorem TmR.put {tm : Tm} {a : Act} {d : Option Tmp} {v : AV} {u : Value} (h : TmR E N tm a.tmps) (hd : ∀ x, d = some x → x < N) (hv : V E v u) : TmR E N (putT tm d v) (a.put d u).tmps := by
  cases d with
  | none => exact h
  | some x =>
    have hx := hd x rfl
    refine ⟨by simp [Act.put, h.size], fun t y hy => ?_⟩
    simp only [putT, Tr.get_set] at hy
    simp only [Act.put]
    split at hy
    · rename_i e; subst e; cases hy
      have : t < a.tmps.size := by rw [h.size]; exact hx
      simpa [this] using hv
    · rename_i e
      have := h.get t y hy
      rw [Array.getD_eq_getD_getElem?] at this ⊢
      rw [Array.getElem?_setIfInBounds_ne (fun e' => e e'.symm)]
      exact this

theorem keepT_get : ∀ (S : List Nat) (tm : Tm) (t : Nat) (v : AV), (keepT S tm).get t = some v → tm.get t = some v
  | [], tm, t, v, h => by simp [keepT, Tr.get] at h
  | s :: S, tm, t, v, h => by
    simp only [keepT] at h
    split at h
    · rename_i u hu
      rw [Tr.get_set] at h
      split at h
      · rename_i e; subst e; rw [hu]; exact h
      · exact keepT_get S tm t v h
    · exact keepT_get S tm t v h

theorem TmR.forget {tm : Tm} {tmps : Array Value} (h : TmR E N tm tmps) (keep : List Nat) : TmR E N (keepT keep tm) tmps :=
  ⟨h.size, fun t v hv => h.get t v (keepT_get _ _ _ _ hv)⟩

theorem put_defers (a : Act) (d : Option Tmp) (v : Value) : (a.put d v).defers = a.defers := by cases d <;> rfl

/-- is an operation's guard met: as the model asks -/
theorem want_sound {ops : Array Oper} {tm : Tm} {a : Act} {o : Oper} {b : Bool} (h : TmR E N tm a.tmps) (hw : wantA ops tm o = some b) : Region.wanted o (yielded ops a.tmps) = b := by
  unfold wantA at hw
  unfold Region.wanted
  split at hw
  · rename_i hg; rw [hg]; cases hw; rfl
  · rename_i j want hg
    rw [hg]
    simp only
    split at hw
    · cases hw
    · rename_i d hd
      split at hw
      · rename_i c hc
        cases hw
        have := h.get d _ hc
        simp only [V_bool] at this
        have e : a.tmps[d]? = some (.bool c) := by
          rw [Array.getD_eq_getD_getElem?] at this
          cases hh : a.tmps[d]? with
          | none => rw [hh] at this; simp [undef] at this
          | some x => rw [hh] at this; simp at this; rw [this]
        simp only [yielded, hd, Option.bind_some, e]
        cases c <;> cases want <;> rfl
      · rename_i x hnb hx
        cases hw
        have := h.get d _ hx
        simp only [yielded, hd, Option.bind_some]
        cases hh : a.tmps[d]? with
        | none => rfl
        | some y =>
          rw [Array.getD_eq_getD_getElem?, hh] at this
          simp only [Option.getD_some] at this
          cases y <;> first | rfl | skip
          rename_i c
          exfalso
          cases x <;> simp only [V] at this <;> first
            | (cases this; done)
            | (obtain ⟨_, _, e⟩ := this; cases e; done)
            | (obtain ⟨_, _, _, _, e, _⟩ := this; cases e; done)
            | (obtain ⟨_, _, e, _⟩ := this; cases e; done)
            | (obtain ⟨_, e, _⟩ := this; cases e; done)
            | skip
          exact hnb _ rfl
      · cases hw

def CallOK (P : Program) (call : CallF) : Prop := ∀ f args H v H', call f args H = some (v, H') → ∀ E w vs, Rel E H w → VL E args vs →
  (∃ fn, P.funcs[f]? = some fn ∧ fn.body.isSome = true ∧ fn.name ≠ "runtime.NumGoroutine") ∧
  Calls P f vs.toArray w (fun e w' => ∃ u E', e = .returned u ∧ V E' v u ∧ Sim E H w E' H' w')

theorem wp_of_ran {o : Oper} {a : Act} {v : Value} {w w' : World} {next : Act → World → Prop} {Q : Exit → Act → World → Prop} (h : Ran P a.eval o w v w') (hn : next (a.put o.dst v) w') : o.wp P a w next Q := by
  unfold Oper.wp
  rcases h with h | ⟨h, rfl⟩
  · rw [h, Oper.upon_value]; exact hn
  · rw [h, Oper.upon_skip]; exact hn

/-- one effect, a call among them -/
theorem eff_wp {call : CallF} (hcall : CallOK P call) {o : Oper} {a : Act} {tm : Tm} {av : AV} {H' : AHeap} {next : Act → World → Prop} {Q : Exit → Act → World → Prop} (ht : TmR E N tm a.tmps) (r : Rel E H w) (h : effA P call (evA tm) H o.op = some (av, H'))
    (hn : ∀ v E' w', V E' av v → Sim E H w E' H' w' → next (a.put o.dst v) w') : o.wp P a w next Q := by
  by_cases hg : goCall o.op = true
  · obtain ⟨dst, op, ty, pos, after, guard⟩ := o
    cases op <;> simp only [goCall] at hg <;> (try (cases hg; done))
    rename_i c
    obtain ⟨callee, args, ats⟩ := c
    cases callee <;> simp only at hg <;> (try (cases hg; done))
    rename_i f
    simp only [effA] at h
    split at h
    · rename_i g first captured hf
      simp only [Option.bind_eq_some_iff] at h
      obtain ⟨l, hl, h⟩ := h
      have he := ht.evR
      have hv := he _ _ hf
      rw [V_fn] at hv
      obtain ⟨va, vb, ef, h1, h2⟩ := hv
      have hargs := mapO_sound he _ _ hl
      obtain ⟨⟨fn, hfn, hbody, hname⟩, hc⟩ := hcall _ _ _ _ _ h E w (va.toList ++ args.toList.map a.eval ++ vb.toList) r ((h1.append hargs).append h2)
      unfold Oper.wp
      have hrun : (execOp a.eval { dst := dst, op := .call { callee := .value f, args := args, argTypes := ats }, type := ty, pos := pos, after := after, guard := guard }).run P w = .ok (.enter g (va.toList ++ args.toList.map a.eval ++ vb.toList).toArray) w := by
        have e : (va.toList ++ args.toList.map a.eval ++ vb.toList).toArray = va ++ args.map a.eval ++ vb := Array.ext' (by simp)
        have hbn : ¬ fn.body = none := by intro hb; rw [hb] at hbody; cases hbody
        rw [e]
        simp [execOp, resolve, Deferred.ofValue, ef, invoke, callFunc, hfn, hname, hbn]
      rw [hrun, Oper.upon_enter]
      refine hc.mono ?_
      rintro e w' ⟨u, E', rfl, hV, hS⟩
      exact hn u E' w' hV hS
    · cases h
  · obtain ⟨v, E', w', hr, hV, hS⟩ := eff_sound (P := P) (call := call) (by simpa using hg) ht.evR r h
    exact wp_of_ran hr (hn v E' w' hV hS)

/-- one operation in the order of the text -/
theorem step_wp {α : Type} {call : CallF} (hcall : CallOK P call) {o : Oper} {a : Act} {tm : Tm} {K : AV → AHeap → Option α} {res : α} {next : Act → World → Prop} {Q : Exit → Act → World → Prop} (ht : TmR E N tm a.tmps) (r : Rel E H w)
    (h : stepA P call tm H o K = some res) (hn : ∀ av H' v E' w', K av H' = some res → V E' av v → Sim E H w E' H' w' → next (a.put o.dst v) w') : o.wp P a w next Q := by
  unfold stepA at h
  split at h
  · rename_i hk
    simp only [Option.bind_eq_some_iff] at h
    obtain ⟨av, hp, h⟩ := h
    obtain ⟨v, E', w', hr, hV, hS⟩ := pure_sound hk ht.evR r hp
    exact wp_of_ran (.inl hr) (hn av H v E' w' h hV hS)
  · rename_i hk
    simp only [Option.bind_eq_some_iff] at h
    obtain ⟨rd, hrd, av, hp, h⟩ := h
    obtain ⟨v, hr, hV⟩ := read_sound hk ht.evR r hrd hp
    exact wp_of_ran (.inl hr) (hn av H v E w h hV (.refl r))
  · rename_i hk
    simp only [Option.bind_eq_some_iff] at h
    obtain ⟨⟨b, f⟩, hp, h⟩ := h
    obtain ⟨obj, hb, v, hblk, hr, hd, hrel, hV⟩ := new_sound ht.evR hp w
    have hS := Sim.push r hblk hd (w' := w.alloc obj) rfl rfl rfl rfl hrel
    exact wp_of_ran (.inl hr) (hn _ _ v _ _ h (hV _ _ (by simp)) hS)
  · rename_i hk
    simp only [Option.bind_eq_some_iff] at h
    obtain ⟨⟨av, H'⟩, hp, h⟩ := h
    exact eff_wp hcall ht r hp fun v E' w' hV hS => hn av H' v E' w' h hV hS

theorem runOps_sound {α : Type} {call : CallF} (hcall : CallOK P call) {ops : Array Oper} {K : Tm → AHeap → Option α} {res : α} {Q : Exit → Act → World → Prop} {E₀ : Env} {H₀ : AHeap} {w₀ : World} (hN : ∀ o ∈ ops, ∀ d, o.dst = some d → d < N) :
    ∀ (os : List Oper) (i : Nat) (tm : Tm) (H : AHeap) (a : Act) (w : World) (E : Env), (∀ j, os[j]? = ops[i + j]?) → runOps P call ops K os tm H = some res → TmR E N tm a.tmps → a.defers = [] → Sim E₀ H₀ w₀ E H w →
      (∀ tm' H' E' a' w', K tm' H' = some res → TmR E' N tm' a'.tmps → a'.defers = [] → Sim E₀ H₀ w₀ E' H' w' → Q .normal a' w') → wpOps P ops Q (List.range' i os.length) a w
  | [], i, tm, H, a, w, E, hl, h, ht, hd, hS, hQ => by
    simp only [runOps] at h
    simpa [wpOps] using hQ tm H E a w h ht hd hS
  | o :: os, i, tm, H, a, w, E, hl, h, ht, hd, hS, hQ => by
    have ho : ops[i]? = some o := by simpa using (hl 0).symm
    have hmem : o ∈ ops := Array.mem_of_getElem? ho
    have hl' : ∀ j, os[j]? = ops[i + 1 + j]? := fun j => by have := hl (j + 1); simpa [Nat.add_assoc, Nat.add_comm 1 j] using this
    rw [List.length_cons, List.range'_succ]
    simp only [wpOps, ho]
    simp only [runOps] at h
    split at h
    · rename_i hw
      rw [want_sound ht hw]
      simp only [if_true]
      refine .inl (step_wp hcall ht hS.rel h fun av H' v E' w' hK hV hS' => ?_)
      exact runOps_sound hcall hN os (i + 1) _ H' _ w' E' hl' hK ((ht.mono hS'.le).put (hN o hmem) hV) (by rw [put_defers]; exact hd) (hS.trans hS') hQ
    · rename_i hw
      rw [want_sound ht hw]
      simp only [Bool.false_eq_true, if_false]
      exact runOps_sound hcall hN os (i + 1) _ H _ w E hl' h (ht.put (hN o hmem) V_undef) (by rw [put_defers]; exact hd) hS hQ
    · cases h
end
end Go.AM
