/- The abstract machine, fifth part: operations whose value hangs on their operands alone, and readings, are the model's. -/
import Derived.Test.YtdjmoojonkjafaaGreatAMd
import Derived.ChangeKeysEq
import Derived.Laws.StructEq
set_option linter.unusedSimpArgs false
set_option linter.unusedVariables false
namespace Go.AM
attribute [local simp] AHeap.n_set AHeap.n_push

def EvR (E : Env) (ρA : Operand → Option AV) (ρ : Operand → Value) : Prop := ∀ x a, ρA x = some a → V E a (ρ x)

section
variable {P : Program} {E : Env} {H : AHeap} {w : World}

theorem run_part' {t : TypeId} {es : List AV} {vs : Array Value} {off : Nat} {av : AV} (hv : VL E es vs.toList) (hp : partA P t es off = some av) (w : World) : ∃ v, (part t vs off).run P w = .ok v w ∧ V E av v := by
  rcases partA_inv hp with ⟨n, ha, hs, hle, rfl⟩ | ⟨n, ha, hs, h⟩
  · refine ⟨.agg (vs.extract off (off + n)), by simp [part, run_isAgg' ha, run_sizeOf' hs], ?_⟩
    rw [V_agg]
    refine ⟨_, rfl, ?_⟩
    have := (hv.drop off).take n
    simpa [List.extract_eq_take_drop] using this
  · obtain ⟨v, hv', hV⟩ := hv.get h
    refine ⟨v, ?_, hV⟩
    simp at hv'
    simp [part, run_isAgg' ha, hv']

/-! '==' -/
theorem aEqFl_sound {eq : TypeId → AV → AV → Option Bool} {d : Nat} (ih : ∀ t x y b vx vy w, eq t x y = some b → V E x vx → V E y vy → (Op.equalIn d t vx vy).run P w = .ok b w) {xs ys : List AV} {vx vy : Array Value}
    (hx : VL E xs vx.toList) (hy : VL E ys vy.toList) : ∀ (fs : List Field) (b : Bool), aEqFl P eq xs ys fs = some b → (Op.eqFields d vx vy fs).run P w = .ok b w
  | [], b, h => by simp only [aEqFl, Option.some.injEq] at h; subst h; simp [Op.eqFields]
  | f :: fs, b, h => by
    simp only [aEqFl] at h
    split at h
    · rename_i hn
      split at h
      · rename_i a c ha hc
        obtain ⟨va, ra, Va⟩ := run_part' hx ha w
        obtain ⟨vc, rc, Vc⟩ := run_part' hy hc w
        split at h
        · rename_i he
          have := ih _ _ _ _ _ _ w he Va Vc
          simp only [Op.eqFields]
          rw [if_pos hn]
          simp only [Sem.run_bind, ra, rc, this, Result.andThen_ok, Bool.not_true, Bool.false_eq_true, if_false]
          exact aEqFl_sound ih hx hy fs b h
        · rename_i he
          cases h
          have := ih _ _ _ _ _ _ w he Va Vc
          simp only [Op.eqFields]
          rw [if_pos hn]
          simp only [Sem.run_bind, ra, rc, this, Result.andThen_ok, Bool.not_false, if_true, Sem.run_pure]
        · cases h
      · cases h
    · rename_i hn
      simp only [Op.eqFields]
      rw [if_neg hn]
      exact aEqFl_sound ih hx hy fs b h

theorem aEqAl_sound {eq : AV → AV → Option Bool} {d : Nat} {elem : TypeId} {n : Nat} (ih : ∀ x y b vx vy w, eq x y = some b → V E x vx → V E y vy → (Op.equalIn d elem vx vy).run P w = .ok b w) {xs ys : List AV} {vx vy : Array Value}
    (hx : VL E xs vx.toList) (hy : VL E ys vy.toList) : ∀ (k i : Nat) (b : Bool), aEqAl P eq elem n xs ys k i = some b → (Op.eqItems d elem n vx vy (List.range' i k)).run P w = .ok b w
  | 0, i, b, h => by simp only [aEqAl, Option.some.injEq] at h; subst h; simp [Op.eqItems]
  | k + 1, i, b, h => by
    simp only [aEqAl] at h
    split at h
    · rename_i a c ha hc
      obtain ⟨va, ra, Va⟩ := run_part' hx ha w
      obtain ⟨vc, rc, Vc⟩ := run_part' hy hc w
      rw [List.range'_succ]
      split at h
      · rename_i he
        have := ih _ _ _ _ _ w he Va Vc
        simp only [Op.eqItems, Sem.run_bind, ra, rc, this, Result.andThen_ok, Bool.not_true, Bool.false_eq_true, if_false]
        exact aEqAl_sound ih hx hy k (i + 1) b h
      · rename_i he
        cases h
        have := ih _ _ _ _ _ w he Va Vc
        simp only [Op.eqItems, Sem.run_bind, ra, rc, this, Result.andThen_ok, Bool.not_false, if_true, Sem.run_pure]
      · cases h
    · cases h

theorem aEq_sound : ∀ (d : Nat) (t : TypeId) (x y : AV) (b : Bool) (vx vy : Value) (w : World), aEq P d t x y = some b → V E x vx → V E y vy → (Op.equalIn d t vx vy).run P w = .ok b w
  | 0, _, _, _, _, _, _, _, h, _, _ => by simp [aEq] at h
  | d + 1, t, x, y, b, vx, vy, w, h, hx, hy => by
    have ih := aEq_sound d
    simp only [aEq] at h
    split at h <;> (first | (cases h; done) | skip)
    case h_20 hu =>
      split at h
      · cases h
      · rename_i hp
        rw [V_agg] at hx hy
        obtain ⟨as, rfl, hx⟩ := hx
        obtain ⟨bs, rfl, hy⟩ := hy
        rename_i fields _ _
        have hf : P.fieldsOf t = fields := by simp [Program.fieldsOf, hu]
        rw [run_equalIn_struct w d t as bs (by rw [hf]; exact hu) (by simpa using hp), hf]
        exact aEqFl_sound (fun t x y b vx vy w => ih t x y b vx vy w) hx hy _ _ h
    case h_21 hu =>
      split at h
      · rename_i n hs
        rw [V_agg] at hx hy
        obtain ⟨as, rfl, hx⟩ := hx
        obtain ⟨bs, rfl, hy⟩ := hy
        obtain ⟨i, hi, hn⟩ := sizeT_info hs
        rw [run_equalIn_array w d as bs hu hi, show P.cellsOf _ = n by simp [Program.cellsOf, hi, hn], List.range_eq_range']
        exact aEqAl_sound (fun x y b vx vy w => ih _ x y b vx vy w) hx hy _ _ _ h
      · cases h
    all_goals
      rename_i hu
      simp only [V] at hx hy
      try (obtain ⟨_, _, rfl⟩ := hx)
      try (obtain ⟨_, _, rfl⟩ := hy)
      try (obtain ⟨_, _, _, _, rfl, _⟩ := hx)
      try (obtain ⟨_, _, _, _, rfl, _⟩ := hy)
      try (obtain ⟨_, _, rfl, _⟩ := hx)
      try (obtain ⟨_, _, rfl, _⟩ := hy)
      try subst hx
      try subst hy
      first
      | (cases h; simp [Op.equalIn, run_underlying' hu]; done)
      | (split at h <;> cases h; rename_i hk; simp [Op.equalIn, run_underlying' hu, hk]; done)

end
end Go.AM
