/- The abstract machine, seventh part: the rest of the operations whose value hangs on their operands alone; readings; new memory. -/
import Derived.Test.YtdjmoojonkjafaaGreatAMf
set_option linter.unusedSimpArgs false
set_option linter.unusedVariables false
namespace Go.AM
attribute [local simp] AHeap.n_set AHeap.n_push
section
variable {P : Program} {E : Env} {H : AHeap} {w : World}

theorem sl_run {t : TypeId} {d : TypeDesc} (hu : P.underlying t = some d) (hd : ∀ n e, d ≠ .array n e) (x : Value) (lo hi mx : Option Value) (w : World) :
    (Instr.sliceAt t x lo hi mx).run P w = (Instr.slice t x lo hi mx).run P w := by
  simp only [Instr.sliceAt, Sem.run_bind, run_underlying' hu, Result.andThen_ok]

/-- operands that may be missing -/
def OV (E : Env) : Option AV → Option Value → Prop
  | none, v => v = none
  | some a, v => ∃ u, v = some u ∧ V E a u

theorem optA_sound {ρA : Operand → Option AV} {ρ : Operand → Value} (he : EvR E ρA ρ) {o : Option Operand} {r : Option AV} (h : optA ρA o = some r) : OV E r (o.map ρ) := by
  cases o with
  | none => simp only [optA, Option.some.injEq] at h; subst h; rfl
  | some x =>
    simp only [optA, Option.map_eq_some_iff] at h
    obtain ⟨a, ha, rfl⟩ := h
    exact ⟨ρ x, rfl, he _ _ ha⟩

theorem bound_sound {d y : Nat} {i : AV} {n : Nat} {v : Value} (h : boundA d y (some i) = some n) (hv : V E i v) (y' : Nat) (hy : y ≤ y') (code : BoundsCode) (w : World) :
    n ≤ y ∧ (Instr.sliceBound v y' code).run P w = .ok n w := by
  unfold boundA at h
  split at h
  · rename_i e; cases e
  · rename_i e; cases e
    simp only [V_int] at hv; subst hv
    split at h
    · rename_i hc; cases h
      refine ⟨by omega, ?_⟩
      simp only [Instr.sliceBound, asIntOf, Sem.run_bind, Sem.run_pure, Result.andThen_ok]
      rw [if_pos (by omega)]; rfl
    · cases h
  · cases h

theorem boundA_none {d y n : Nat} (h : boundA d y none = some n) : n = d := by simp [boundA] at h; omega

/-- the bounds of a slice expression without a third one -/
theorem bounds2 {isS : Bool} {len cap : Nat} {hi lo : Option AV} {vh vl : Option Value} {j i : Nat} (hh : boundA len len hi = some j) (hl : boundA 0 j lo = some i) (Vh : OV E hi vh) (Vl : OV E lo vl) (hc : len ≤ cap) (w : World) :
    i ≤ j ∧ j ≤ len ∧ (Instr.sliceBounds isS len cap vl vh none).run P w = .ok (i, j, cap) w := by
  cases hi with
  | none =>
    cases Vh
    have := boundA_none hh
    subst this
    cases lo with
    | none =>
      cases Vl
      have := boundA_none hl
      subst this
      exact ⟨Nat.zero_le _, Nat.le_refl _, by simp [Instr.sliceBounds]⟩
    | some b =>
      obtain ⟨u, rfl, hu⟩ := Vl
      have k := bound_sound (P := P) hl hu j (Nat.le_refl _) .sliceB w
      exact ⟨k.1, Nat.le_refl _, by simp [Instr.sliceBounds, k.2]⟩
  | some a =>
    obtain ⟨u', rfl, hu'⟩ := Vh
    have k' := fun code w => bound_sound (P := P) hh hu' cap hc code w
    cases lo with
    | none =>
      cases Vl
      have := boundA_none hl
      subst this
      exact ⟨Nat.zero_le _, (k' .index w).1, by simp [Instr.sliceBounds, (k' _ w).2]⟩
    | some b =>
      obtain ⟨u, rfl, hu⟩ := Vl
      have k := bound_sound (P := P) hl hu j (Nat.le_refl _) .sliceB w
      exact ⟨k.1, (k' .index w).1, by simp [Instr.sliceBounds, (k' _ w).2, k.2]⟩

/-- .. and with one -/
theorem bounds3 {len cap : Nat} {hi lo : Option AV} {m' vh' : AV} {vm : Value} {vh vl : Option Value} {m j i : Nat} (hm : boundA len len (some m') = some m) (hhi : hi = some vh') (hh : boundA m m hi = some j) (hl : boundA 0 j lo = some i) (Vm : V E m' vm) (Vh : OV E hi vh) (Vl : OV E lo vl) (hc : len ≤ cap) (w : World) :
    i ≤ j ∧ j ≤ m ∧ m ≤ len ∧ (Instr.sliceBounds true len cap vl vh (some vm)).run P w = .ok (i, j, m) w := by
  subst hhi
  obtain ⟨u, rfl, hu⟩ := Vh
  have k1 := bound_sound (P := P) hm Vm cap hc .slice3Acap w
  have k2 := bound_sound (P := P) hh hu m (Nat.le_refl _) .slice3B w
  cases lo with
  | none =>
    cases Vl
    have := boundA_none hl
    subst this
    exact ⟨Nat.zero_le _, k2.1, k1.1, by simp [Instr.sliceBounds, k1.2, k2.2]⟩
  | some b =>
    obtain ⟨u', rfl, hu'⟩ := Vl
    have k := bound_sound (P := P) hl hu' j (Nat.le_refl _) .slice3C w
    exact ⟨k.1, k2.1, k1.1, by simp [Instr.sliceBounds, k1.2, k2.2, k.2]⟩

theorem slice_sound {t : TypeId} {x av : AV} {lo hi mx : Option AV} {vx : Value} {vl vh vm : Option Value} (h : aSlice P t x lo hi mx = some av) (hx : V E x vx) (Vl : OV E lo vl) (Vh : OV E hi vh) (Vm : OV E mx vm) (w : World) :
    ∃ v, (Instr.sliceAt t vx vl vh vm).run P w = .ok v w ∧ V E av v := by
  unfold aSlice at h
  split at h
  · -- a string
    rename_i s hu
    rw [sl_run hu (by simp)]
    simp only [V_str] at hx; subst hx
    split at h
    · cases h
    · cases Vm
      split at h
      · rename_i j hj
        split at h
        · rename_i i hi'
          cases h
          have := (bounds2 (P := P) (isS := false) hj hi' Vh Vl (Nat.le_refl _) w).2.2
          refine ⟨.string (s.extract i j), ?_, by simp⟩
          simp only [Instr.slice, Sem.run_bind, run_underlying' hu, Result.andThen_ok]
          simp [this]
        · cases h
      · cases h
  · -- nil
    rename_i elem hu
    rw [sl_run hu (by simp)]
    simp only [V_nils] at hx; subst hx
    split at h
    · cases h
    · rename_i n hn
      have fin : ∀ (i j m : Nat), i ≤ j → j ≤ m → m ≤ 0 → (Instr.sliceBounds true 0 0 vl vh vm).run P w = .ok (i, j, m) w → ∃ v, (Instr.slice t (.slice none 0 0) vl vh vm).run P w = .ok v w ∧ V E .nils v := by
        intro i j m h1 h2 h3 hr
        obtain rfl : m = 0 := by omega
        obtain rfl : j = 0 := by omega
        obtain rfl : i = 0 := by omega
        refine ⟨.slice none 0 0, ?_, by simp⟩
        simp only [Instr.slice, Sem.run_bind, run_underlying' hu, Result.andThen_ok, hr, run_sizeOf' hn, Sem.run_pure]
        rfl
      split at h
      · cases Vm
        split at h
        · rename_i j hj
          split at h
          · rename_i i hi'
            cases h
            obtain ⟨b1, b2, b3⟩ := bounds2 (P := P) (isS := true) (cap := 0) hj hi' Vh Vl (Nat.le_refl _) w
            exact fin i j 0 b1 (by omega) (Nat.le_refl _) b3
          · cases h
        · cases h
      · rename_i m'
        obtain ⟨vm', rfl, Vm'⟩ := Vm
        split at h
        · rename_i m hm
          split at h
          · cases h
          · rename_i vh'
            split at h
            · rename_i j hj
              split at h
              · rename_i i hi'
                cases h
                obtain ⟨b1, b2, b3, b4⟩ := bounds3 (P := P) (cap := 0) hm rfl hj hi' Vm' Vh Vl (Nat.le_refl _) w
                exact fin i j m b1 b2 b3 b4
              · cases h
            · cases h
        · cases h
  · -- a slice of a handle's
    rename_i elem hd off len cp hu
    rw [sl_run hu (by simp)]
    have hx' := hx
    simp only [V] at hx'
    obtain ⟨hb, a, cap, hβ, rfl, hlc, hadr, hex⟩ := hx'
    split at h
    · cases h
    · rename_i n hn
      have fin : ∀ (i j m : Nat) (cp' : Cp), i ≤ j → j ≤ len → j ≤ m → m ≤ cap → (∀ z, cp' = .gr z → cp = .gr z ∧ z = n ∧ m = cap) → (∀ c, cp' = .ex c → c = m - i) →
          (Instr.sliceBounds true len cap vl vh vm).run P w = .ok (i, j, m) w → ∃ v, (Instr.slice t (.slice (some a) len cap) vl vh vm).run P w = .ok v w ∧ V E (.sl hd (off + i * n) (j - i) cp') v := by
        intro i j m cp' hij hjl hjm hmc hg hx hr
        refine ⟨.slice (if m = i then some a else some (a.add (i * n))) (j - i) (m - i), ?_, ?_⟩
        · simp only [Instr.slice, Sem.run_bind, run_underlying' hu, Result.andThen_ok, hr, run_sizeOf' hn, Sem.run_pure]
          rfl
        · simp only [V]
          by_cases e : m = i
          · rw [if_pos e]
            exact ⟨hb, a, m - i, hβ, rfl, by omega, .inl ⟨by omega, by omega⟩, fun c hc => by rw [hx c hc]⟩
          · rw [if_neg e]
            refine ⟨hb, a.add (i * n), m - i, hβ, rfl, by omega, ?_, fun c hc => by rw [hx c hc]⟩
            rcases hadr with ⟨h0, h1⟩ | ⟨ha, hl⟩
            · omega
            · refine .inr ⟨by rw [ha, Addr.add_eq rfl]; simp [Nat.add_assoc], fun z hz => ?_⟩
              obtain ⟨h1, h2, h3⟩ := hg z hz
              have := hl z h1
              rw [← h2, h3]
              have e2 : cap * z = i * z + (cap - i) * z := by rw [← Nat.add_mul]; congr 1; omega
              omega
      split at h
      · cases Vm
        split at h
        · rename_i j hj
          split at h
          · rename_i i hi'
            obtain ⟨b1, b2, b3⟩ := bounds2 (P := P) (isS := true) (cap := cap) hj hi' Vh Vl hlc w
            split at h
            · rename_i z
              split at h
              · rename_i hz
                cases h
                exact fin i j cap _ b1 b2 (by omega) (Nat.le_refl _) (fun z' hz' => by cases hz'; exact ⟨rfl, hz, rfl⟩) (fun c hc => by cases hc) b3
              · cases h
            · rename_i c
              cases h
              have := hex c rfl
              exact fin i j cap _ b1 b2 (by omega) (Nat.le_refl _) (fun z' hz' => by cases hz') (fun c' hc => by cases hc; omega) b3
          · cases h
        · cases h
      · rename_i m'
        obtain ⟨vm', rfl, Vm'⟩ := Vm
        split at h
        · rename_i m hm
          split at h
          · cases h
          · rename_i vh'
            split at h
            · rename_i j hj
              split at h
              · rename_i i hi'
                cases h
                obtain ⟨b1, b2, b3, b4⟩ := bounds3 (P := P) (cap := cap) hm rfl hj hi' Vm' Vh Vl hlc w
                exact fin i j m _ b1 (by omega) b2 (by omega) (fun z' hz' => by cases hz') (fun c' hc => by cases hc; rfl) b4
              · cases h
            · cases h
        · cases h
  · -- a slice that is never written
    rename_i elem es len ex hu
    rw [sl_run hu (by simp)]
    have hx' := hx
    simp only [V] at hx'
    obtain ⟨a, cap, rfl, hlc, hex, hadr⟩ := hx'
    split at h
    · cases h
    · rename_i n hn
      have fin : ∀ (i j m : Nat) (ex' : Bool), i ≤ j → j ≤ len → j ≤ m → m ≤ cap → es.length = len * n → (ex' = true → m = j) →
          (Instr.sliceBounds true len cap vl vh vm).run P w = .ok (i, j, m) w → ∃ v, (Instr.slice t (.slice (some a) len cap) vl vh vm).run P w = .ok v w ∧ V E (.lit ((es.drop (i * n)).take ((j - i) * n)) (j - i) ex') v := by
        intro i j m ex' hij hjl hjm hmc hes hx hr
        refine ⟨.slice (if m = i then some a else some (a.add (i * n))) (j - i) (m - i), ?_, ?_⟩
        · simp only [Instr.slice, Sem.run_bind, run_underlying' hu, Result.andThen_ok, hr, run_sizeOf' hn, Sem.run_pure]
          rfl
        · simp only [V]
          by_cases e : j = i
          · have e0 : j - i = 0 := by omega
            rw [e0]
            by_cases e' : m = i
            · rw [if_pos e']
              exact ⟨a, m - i, rfl, by omega, fun h => by have := hx h; omega, .inl ⟨rfl, by simp⟩⟩
            · rw [if_neg e']
              exact ⟨_, m - i, rfl, by omega, fun h => by have := hx h; omega, .inl ⟨rfl, by simp⟩⟩
          · rw [if_neg (by omega)]
            refine ⟨_, m - i, rfl, by omega, fun h => by have := hx h; omega, .inr ?_⟩
            rcases hadr with ⟨h0, h1⟩ | ⟨hsp, c, T, fz, hI, hV⟩
            · omega
            · rw [Addr.add_eq hsp]
              refine ⟨rfl, c, T, fz, hI, ?_⟩
              have h1 : i * n + (j - i) * n ≤ es.length := by
                rw [hes, ← Nat.add_mul]; exact Nat.mul_le_mul_right _ (by omega)
              have := (hV.drop (i * n)).take ((j - i) * n)
              rw [List.drop_take, List.drop_drop, List.take_take] at this
              have hlen : (List.take ((j - i) * n) (List.drop (i * n) es)).length = (j - i) * n := by simp; omega
              rw [hlen]
              rw [Nat.min_eq_left (by omega)] at this
              exact this
      split at h
      · cases Vm
        split at h
        · rename_i j hj
          split at h
          · rename_i i hi'
            obtain ⟨b1, b2, b3⟩ := bounds2 (P := P) (isS := true) (cap := cap) hj hi' Vh Vl hlc w
            split at h
            · rename_i hes
              cases h
              refine fin i j cap _ b1 b2 (by omega) (Nat.le_refl _) hes (fun hh => ?_) b3
              simp only [Bool.and_eq_true, beq_iff_eq] at hh
              have := hex hh.1
              omega
            · cases h
          · cases h
        · cases h
      · rename_i m'
        obtain ⟨vm', rfl, Vm'⟩ := Vm
        split at h
        · rename_i m hm
          split at h
          · cases h
          · rename_i vh'
            split at h
            · rename_i j hj
              split at h
              · rename_i i hi'
                split at h
                · rename_i hes
                  cases h
                  obtain ⟨b1, b2, b3, b4⟩ := bounds3 (P := P) (cap := cap) hm rfl hj hi' Vm' Vh Vl hlc w
                  refine fin i j m _ b1 (by omega) b2 (by omega) hes (fun hh => ?_) b4
                  simp only [beq_iff_eq] at hh
                  omega
                · cases h
              · cases h
            · cases h
        · cases h
  · cases h
end
end Go.AM
