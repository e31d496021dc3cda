/- The abstract machine, sixteenth part: a body, and a call. -/
import Derived.Test.YtdjmoojonkjafaaGreatAMo
import Derived.LoopN
import Derived.Scope
set_option linter.unusedSimpArgs false
set_option linter.unusedVariables false
namespace Go.AM
attribute [local simp] AHeap.n_set AHeap.n_push
section
variable {P : Program} {N : Nat}

def exOf : Ex → Exit
  | .normal => .normal
  | .exit i => .exit i
  | .ret => .ret

theorem mem_writes {ops : Array Oper} {id : Nat} {b : Bool} (h : ∀ d ∈ writesC (.region id ops b), d < N) : ∀ o ∈ ops, ∀ d, o.dst = some d → d < N := by
  intro o ho d hd
  refine h d ?_
  simp only [writesC, List.mem_filterMap]
  exact ⟨o, by simpa using ho, hd⟩

theorem exec_sound {α : Type} {call : CallF} (hcall : CallOK P call) (hmix : P.follows .mixedOrders = true) {keep : List (Nat × List Nat)} {fuel : Nat} {E₀ : Env} {H₀ : AHeap} {w₀ : World} {res : α} :
    ∀ (c : Code) (tm : Tm) (H : AHeap) (K : Ex → Tm → AHeap → Option α) (Q : Exit → Act → World → Prop) (E : Env) (a : Act) (w : World),
      (∀ d ∈ writesC c, d < N) → exec P call keep fuel c tm H K = some res → TmR E N tm a.tmps → a.defers = [] → Sim E₀ H₀ w₀ E H w →
      (∀ ex tm' H' E' a' w', K ex tm' H' = some res → TmR E' N tm' a'.tmps → a'.defers = [] → Sim E₀ H₀ w₀ E' H' w' → Q (exOf ex) a' w') → c.wp P Q a w := by
  intro c
  induction c with
  | skip => intro tm H K Q E a w _ h ht hd hS hQ; exact wp_skip (hQ .normal _ _ _ _ _ h ht hd hS)
  | label l => intro tm H K Q E a w _ h ht hd hS hQ; exact wp_label (hQ .normal _ _ _ _ _ h ht hd hS)
  | exit id => intro tm H K Q E a w _ h ht hd hS hQ; exact wp_exit (hQ (.exit id) _ _ _ _ _ h ht hd hS)
  | ret => intro tm H K Q E a w _ h ht hd hS hQ; exact wp_ret (hQ .ret _ _ _ _ _ h ht hd hS)
  | goto l => intro tm H K Q E a w _ h; simp only [exec] at h; cases h
  | refuse l => intro tm H K Q E a w _ h; simp only [exec] at h; cases h
  | rangeFunc f p x y _ _ => intro tm H K Q E a w _ h; simp only [exec] at h; cases h
  | region id ops draw =>
    intro tm H K Q E a w hN h ht hd hS hQ
    have hN' := mem_writes hN
    cases draw with
    | false =>
      simp only [exec] at h
      refine wp_region ?_
      have := runOps_sound hcall hN' (Q := Q) (E₀ := E₀) (H₀ := H₀) (w₀ := w₀) ops.toList 0 tm H a w E (fun j => by simp) h ht hd hS fun tm' H' E' a' w' hk ht' hd' hS' => hQ .normal _ _ _ _ _ hk ht' hd' hS'
      rw [List.range_eq_range']
      simpa using this
    | true =>
      simp only [exec] at h
      exact runDraw_sound hcall hmix hN' h ht hd hS.rel fun tm' H' E' a' w' hk ht' hd' hS' => hQ .normal _ _ _ _ _ hk ht' hd' (hS.trans hS')
  | seq x y ihx ihy =>
    intro tm H K Q E a w hN h ht hd hS hQ
    simp only [exec] at h
    refine wp_seq (ihx _ _ _ _ E a w (fun d hd => hN d (by simp [writesC, hd])) h ht hd hS fun ex tm' H' E' a' w' hk ht' hd' hS' => ?_)
    cases ex with
    | normal => exact ihy _ _ _ _ E' a' w' (fun d hd => hN d (by simp [writesC, hd])) hk ht' hd' hS' hQ
    | exit i => exact hQ _ _ _ _ _ _ hk ht' hd' hS'
    | ret => exact hQ _ _ _ _ _ _ hk ht' hd' hS'
  | cond c x y ihx ihy =>
    intro tm H K Q E a w hN h ht hd hS hQ
    simp only [exec] at h
    split at h
    · rename_i t hc
      have hv := ht.evR _ _ hc
      rw [V_bool] at hv
      refine wp_cond hv ?_
      cases t with
      | true => exact ihx _ _ _ _ E a w (fun d hd => hN d (by simp [writesC, hd])) (by simpa using h) ht hd hS hQ
      | false => exact ihy _ _ _ _ E a w (fun d hd => hN d (by simp [writesC, hd])) (by simpa using h) ht hd hS hQ
    · cases h
  | block id b ih =>
    intro tm H K Q E a w hN h ht hd hS hQ
    simp only [exec] at h
    refine wp_block (ih _ _ _ _ E a w (fun d hd => hN d hd) h ht hd hS fun ex tm' H' E' a' w' hk ht' hd' hS' => ?_)
    cases ex with
    | normal => exact hQ _ _ _ _ _ _ hk ht' hd' hS'
    | exit i =>
      simp only [exOf, Exit.inBlock]
      simp only at hk
      split at hk
      · rename_i e
        rw [if_pos e]
        exact hQ .normal _ _ _ _ _ hk ht' hd' hS'
      · rename_i e
        rw [if_neg e]
        exact hQ (.exit i) _ _ _ _ _ hk ht' hd' hS'
    | ret => exact hQ _ _ _ _ _ _ hk ht' hd' hS'
  | loop b ih =>
    intro tm H K Q E a w hN h ht hd hS hQ
    simp only [exec] at h
    suffices key : ∀ (n : Nat) (tm : Tm) (H : AHeap) (E : Env) (a : Act) (w : World), loopA (exec P call keep fuel b) (keepL keep b) K n tm H = some res → TmR E N tm a.tmps → a.defers = [] → Sim E₀ H₀ w₀ E H w → Code.rounds P b Q n a w from
      wp_loop_rounds fuel (key fuel tm H E a w h ht hd hS)
    intro n
    induction n with
    | zero => intro tm H E a w h; simp only [loopA] at h; cases h
    | succ n ihn =>
      intro tm H E a w h ht hd hS
      simp only [loopA] at h
      rw [rounds_succ]
      refine ih _ _ _ _ E a w (fun d hd => hN d hd) h (ht.forget _) hd hS fun ex tm' H' E' a' w' hk ht' hd' hS' => ?_
      cases ex with
      | normal => exact ihn _ _ _ _ _ hk ht' hd' hS'
      | exit i => exact hQ _ _ _ _ _ _ hk ht' hd' hS'
      | ret => exact hQ _ _ _ _ _ _ hk ht' hd' hS'
  | scope b ih =>
    intro tm H K Q E a w hN h ht hd hS hQ
    simp only [exec] at h
    refine wp_scope_straight (ih _ _ _ _ E a w (fun d hd => hN d hd) h ht hd hS fun ex tm' H' E' a' w' hk ht' hd' hS' => ?_)
    have := hQ _ _ _ _ _ _ hk ht' hd' hS'
    cases ex <;> exact this

/-- the slots of arguments -/
theorem argsT_get : ∀ (args : List AV) (i : Nat) (tm : Tm) (t : Nat), (argsT args i tm).get t = if h : i ≤ t ∧ t - i < args.length then some args[t - i] else tm.get t
  | [], i, tm, t => by simp [argsT]
  | a :: as, i, tm, t => by
    rw [argsT, argsT_get as (i + 1) _ t, Tr.get_set]
    by_cases h1 : i + 1 ≤ t ∧ t - (i + 1) < as.length
    · rw [dif_pos h1, dif_pos ⟨by omega, by simp only [List.length_cons]; omega⟩]
      have : t - i = (t - (i + 1)) + 1 := by omega
      simp only [this, List.getElem_cons_succ]
    · rw [dif_neg h1]
      by_cases h2 : t = i
      · subst h2
        rw [if_pos rfl, dif_pos ⟨Nat.le_refl _, by simp⟩]
        simp
      · rw [if_neg h2, dif_neg]
        simp only [List.length_cons]
        omega

theorem args_tmR {E : Env} {args : List AV} {vs : List Value} (h : VL E args vs) {n : Nat} (hn : args.length ≤ n) :
    TmR E n (argsT args 0 .nil) (vs.toArray ++ Array.replicate (n - vs.toArray.size) undef) := by
  have hl := h.length
  refine ⟨by simp; omega, fun t v q => ?_⟩
  rw [argsT_get] at q
  split at q
  · rename_i hh
    simp only [Nat.sub_zero, Nat.zero_le, true_and] at hh q
    have q' : args[t]? = some v := by rw [← q]; simp [hh]
    obtain ⟨u, hu, hV⟩ := h.get q'
    have ht : t < vs.length := by rw [hl]; exact hh
    have : (vs.toArray ++ Array.replicate (n - vs.toArray.size) undef).getD t undef = u := by
      rw [Array.getD_eq_getD_getElem?, Array.getElem?_append_left (by simpa using ht)]
      simp [hu]
    rw [this]; exact hV
  · simp [Tr.get] at q

theorem load_val {E : Env} {H : AHeap} {w : World} (r : Rel E H w) {p av : AV} {v : Value} {t : TypeId} (hp : V E p v) (h : aread P H (.load t p) = some av) :
    ∃ a u, v = .pointer (some a) ∧ (loadVar t a).run P w = .ok u w ∧ V E av u := by
  unfold aread at h
  split at h <;> (try (cases h; done)) <;> (try (rename_i e; cases e; done))
  · rename_i e; cases e
    rename_i hd off
    simp only [Option.bind_eq_some_iff] at h
    obtain ⟨cs, hc, hq⟩ := h
    unfold blkCells at hc
    split at hc
    · rename_i sz cs' hg
      cases hc
      obtain ⟨hb, vs, hβ, _, hC, hVL, _⟩ := r.cells hg
      rw [V_ptr] at hp
      obtain ⟨hb', hβ', e⟩ := hp
      obtain rfl : hb' = hb := Option.some.inj (hβ'.symm.trans hβ)
      obtain ⟨u, hrun, hV⟩ := run_loadVar' (P := P) (hC.drop off) (hVL.drop off) (partA_drop hq)
      exact ⟨_, u, e, hrun, hV⟩
    · cases hc
  · rename_i e; cases e
    obtain ⟨a, vs, e, hs, hC, hVL⟩ := V_lptr r hp
    obtain ⟨u, hrun, hV⟩ := run_loadVar' (P := P) hC hVL h
    refine ⟨a, u, e, ?_, hV⟩
    have : a = ⟨a.block, a.off, none⟩ := by cases a; simp at hs; subst hs; rfl
    rw [this]; exact hrun

def resSem (tmps : Array Value) : ResultVar → Sem Value
  | .tmp t => pure (tmps.getD t undef)
  | .cell a t => do loadVar t (← asAddr (tmps.getD a undef))

theorem results_eq (fn : Func) (tmps : Array Value) : results fn tmps = (do
    let vs ← fn.results.mapM (resSem tmps)
    pure (if h : vs.size = 1 then vs[0] else .tuple vs)) := rfl

theorem res_sound {E : Env} {H : AHeap} {w : World} (r : Rel E H w) {tm : Tm} {tmps : Array Value} (ht : TmR E N tm tmps) :
    ∀ (rs : List ResultVar) (l : List AV), mapO (resA P H tm) rs = some l → ∃ us, VL E l us ∧ (rs.mapM (resSem tmps)).run P w = .ok us w
  | [], l, h => by
    simp only [mapO, Option.some.injEq] at h; subst h
    exact ⟨[], by simp, by simp⟩
  | x :: rs, l, h => by
    simp only [mapO] at h
    split at h
    · rename_i b hb
      split at h
      · rename_i bs hbs
        cases h
        obtain ⟨us, h1, h2⟩ := res_sound r ht rs bs hbs
        have : ∃ u, V E b u ∧ (resSem tmps x).run P w = .ok u w := by
          cases x with
          | tmp t => exact ⟨_, ht.get t b hb, by simp [resSem]⟩
          | cell a t =>
            simp only [resA, Option.bind_eq_some_iff] at hb
            obtain ⟨p, hp, hr⟩ := hb
            obtain ⟨ad, u, e, hrun, hV⟩ := load_val r (ht.get a p hp) hr
            refine ⟨u, hV, ?_⟩
            simp only [resSem, e, asAddr, pure_bind, hrun]
        obtain ⟨u, hV, hrun⟩ := this
        refine ⟨u :: us, by simp only [VL_cons_cons]; exact ⟨hV, h1⟩, ?_⟩
        simp only [List.mapM_cons, Sem.run_bind, hrun, Result.andThen_ok, h2]
        simp
      · cases h
    · cases h

theorem ret_sound {E : Env} {H : AHeap} {w : World} (r : Rel E H w) {tm : Tm} {tmps : Array Value} (ht : TmR E N tm tmps) {fn : Func} {av : AV} (h : retA P fn tm H = some av) :
    ∃ u, (results fn tmps).run P w = .ok u w ∧ V E av u := by
  unfold retA at h
  rw [results_eq, Array.mapM_eq_mapM_toList]
  split at h
  · rename_i v hm
    cases h
    obtain ⟨us, h1, h2⟩ := res_sound (P := P) r ht _ _ hm
    rw [VL_cons] at h1
    obtain ⟨u, rr, rfl, hV, hr⟩ := h1
    rw [VL_nil] at hr; subst hr
    exact ⟨u, by simp [h2], hV⟩
  · rename_i vs hne hm
    cases h
    obtain ⟨us, h1, h2⟩ := res_sound (P := P) r ht _ _ hm
    have hl : us.length ≠ 1 := by
      intro e
      rw [h1.length] at e
      match vs, e with
      | [v], _ => exact hne v rfl
    refine ⟨.tuple us.toArray, by simp [h2, hl], ?_⟩
    rw [V_tup]
    exact ⟨_, rfl, by simpa using h1⟩
  · cases h

/-- what a program must be for calls to be sound -/
structure Fit (P : Program) : Prop where
  mix : P.follows .mixedOrders = true
  name : ∀ (f : FuncId) (fn : Func), P.funcs[f]? = some fn → fn.body.isSome = true → fn.name ≠ "runtime.NumGoroutine"

theorem acall_sound (hP : Fit P) (keep : FuncId → List (Nat × List Nat)) : ∀ k, CallOK P (acall P keep k) := by
  intro k
  induction k with
  | zero => intro f args H v H' h; simp only [acall] at h; cases h
  | succ k ih =>
    intro f args H v H' h E w vs r hvs
    simp only [acall] at h
    split at h
    · cases h
    · rename_i fn hf
      split at h
      · cases h
      · rename_i c hb
        split at h
        · rename_i hok
          obtain ⟨hlen, hw⟩ := hok
          refine ⟨⟨fn, hf, by rw [hb]; rfl, hP.name f fn hf (by rw [hb]; rfl)⟩, ?_⟩
          refine calls_of_wp hf hb ?_
          refine exec_sound ih hP.mix (E₀ := E) (H₀ := H) (w₀ := w) (N := fn.ntmps) c _ H _ _ E _ w (fun d hd => by simpa using List.all_eq_true.1 hw d hd) h (args_tmR hvs hlen) rfl (.refl r) fun ex tm' H2 E' a' w' hk ht' hd' hS' => ?_
          cases ex with
          | exit i => cases hk
          | normal =>
            simp only [Option.map_eq_some_iff, Prod.mk.injEq] at hk
            obtain ⟨u, hu, rfl, rfl⟩ := hk
            obtain ⟨x, hx, hV⟩ := ret_sound (P := P) hS'.rel ht' hu
            exact ⟨hd', x, hx, x, E', rfl, hV, hS'⟩
          | ret =>
            simp only [Option.map_eq_some_iff, Prod.mk.injEq] at hk
            obtain ⟨u, hu, rfl, rfl⟩ := hk
            obtain ⟨x, hx, hV⟩ := ret_sound (P := P) hS'.rel ht' hu
            exact ⟨hd', x, hx, x, E', rfl, hV, hS'⟩
        · cases h
end
end Go.AM
