/- The abstract machine, tenth part: copy, maps; every effect but a call is the model's. -/
import Derived.Test.YtdjmoojonkjafaaGreatAMi
set_option linter.unusedSimpArgs false
set_option linter.unusedVariables false
namespace Go.AM
attribute [local simp] AHeap.n_set AHeap.n_push
section
variable {P : Program} {E : Env} {H : AHeap} {w : World}

theorem first_zero {x : AV} {vx : Value} {sz k : Nat} (h : lenA x = some k) (hx : V E x vx) (w : World) : (Builtin.firstCells sz 0 vx).run P w = .ok #[] w := by
  cases x <;> simp only [lenA, Option.some.injEq] at h <;> (try (cases h; done)) <;> simp only [V] at hx
  · subst hx
    simp [Builtin.firstCells, ByteArray.data_extract]
  · subst hx; rfl
  · obtain ⟨_, _, _, _, rfl, _⟩ := hx; simp [Builtin.firstCells, loadCells, loadCellsFrom]
  · obtain ⟨_, _, rfl, _⟩ := hx; simp [Builtin.firstCells, loadCells, loadCellsFrom]

theorem copy_sound {ty : TypeId} {ats : Array TypeId} {d x av : AV} {vd vx : Value} {H' : AHeap} (r : Rel E H w) (h : copyA P H ats [d, x] = some (av, H')) (hd : V E d vd) (hx : V E x vx) :
    ∃ v w', (Builtin.copy_ ats ty #[vd, vx]).run P w = .ok v w' ∧ V E av v ∧ Sim E H w E H' w' := by
  unfold copyA at h
  split at h
  · rename_i dt d' x' hat e
    cases e
    split at h
    · rename_i elem hu
      split at h
      · rename_i n dl xl hn hdl hxl
        have hb : ∃ base cap, vd = .slice base dl cap := by
          cases d <;> simp only [lenS, Option.some.injEq] at hdl <;> (try (cases hdl; done)) <;> simp only [V] at hd
          · subst hd; subst hdl; exact ⟨_, _, rfl⟩
          · obtain ⟨_, _, _, _, rfl, _⟩ := hd; subst hdl; exact ⟨_, _, rfl⟩
          · obtain ⟨_, _, rfl, _⟩ := hd; subst hdl; exact ⟨_, _, rfl⟩
        obtain ⟨base, cap, rfl⟩ := hb
        have a0 : (#[Value.slice base dl cap, vx] : Array Value)[0]? = some (.slice base dl cap) := rfl
        have a1 : (#[Value.slice base dl cap, vx] : Array Value)[1]? = some vx := rfl
        have hlen := lenOf_sound (P := P) hxl hx w
        have hmin : Nat.min xl dl = min xl dl := rfl
        split at h
        · rename_i hk
          cases h
          have hz := first_zero (P := P) (sz := n) hxl hx w
          refine ⟨.int .i64 0, w, ?_, by simp, .refl r⟩
          cases base <;> simp [Builtin.copy_, hat, a0, a1, run_underlying' hu, hlen, hmin, hk, run_sizeOf' hn, hz, goInt, storeCells]
        · rename_i hk
          split at h
          · rename_i hdl' off len cp
            split at h
            · rename_i xs sz cs hxs hg
              split at h
              · rename_i hc
                cases h
                simp only [V] at hd
                obtain ⟨hb, a, cap', hβ, e, hlc, hadr, _⟩ := hd
                cases e
                obtain ⟨vs, hr, hV⟩ := first_sound (P := P) r hxs hx
                rcases hadr with ⟨h0, _⟩ | ⟨rfl, _⟩
                · omega
                · obtain ⟨w', hrw, hS⟩ := Sim.writes (P := P) r hg hβ hV (scalars hV hc.2.2) (by omega : off + xs.length ≤ cs.length)
                  refine ⟨.int .i64 (min xl dl : Nat), w', ?_, by simp, hS⟩
                  simp [Builtin.copy_, hat, a0, a1, run_underlying' hu, hlen, hmin, run_sizeOf' hn, hr, hrw, goInt]
              · cases h
            · cases h
          · cases h
      · cases h
    · cases h
  · cases h

/-! maps -/
theorem VE.get : ∀ {xs : List (AV × AV × Nat)} {es : List MapEntry} {i : Nat} {x : AV × AV × Nat}, VE E xs es → xs[i]? = some x → ∃ e, es[i]? = some e ∧ V E x.1 e.key ∧ V E x.2.1 e.val ∧ e.born = x.2.2
  | [], _, _, _, _, h => by simp at h
  | y :: xs, es, i, x, ⟨e, r, he, h1, h2, h3, h4⟩, h => by
    subst he
    cases i with
    | zero => simp at h; subst h; exact ⟨e, rfl, h1, h2, h3⟩
    | succ i => simp at h; simpa using VE.get h4 h

theorem VE.snoc : ∀ {xs : List (AV × AV × Nat)} {es : List MapEntry} {x : AV × AV × Nat} {e : MapEntry}, VE E xs es → V E x.1 e.key → V E x.2.1 e.val → e.born = x.2.2 → VE E (xs ++ [x]) (es ++ [e])
  | [], es, x, e, h, h1, h2, h3 => by
    have : es = [] := h
    subst this
    exact ⟨e, [], rfl, h1, h2, h3, rfl⟩
  | y :: xs, es, x, e, ⟨e', r, he, g1, g2, g3, g4⟩, h1, h2, h3 => by
    subst he
    exact ⟨e', r ++ [e], rfl, g1, g2, g3, VE.snoc g4 h1 h2 h3⟩

theorem VE.set : ∀ {xs : List (AV × AV × Nat)} {es : List MapEntry} {i : Nat} {x : AV × AV × Nat} {e : MapEntry}, VE E xs es → V E x.1 e.key → V E x.2.1 e.val → e.born = x.2.2 → VE E (xs.set i x) (es.set i e)
  | [], es, i, x, e, h, h1, h2, h3 => by
    have : es = [] := h
    subst this
    exact rfl
  | y :: xs, es, i, x, e, ⟨e', r, he, g1, g2, g3, g4⟩, h1, h2, h3 => by
    subst he
    cases i with
    | zero => exact ⟨e, r, rfl, h1, h2, h3, g4⟩
    | succ i => exact ⟨e', r.set i e, rfl, g1, g2, g3, VE.set g4 h1 h2 h3⟩

theorem key_forms {kt : TypeId} {k : AV} (h : keyOkA P kt k = true) :
    (∃ kd kd' n, P.underlying kt = some (.int kd) ∧ k = .int kd' n) ∨ (∃ s, P.underlying kt = some .string ∧ k = .str s) ∨ (∃ b, P.underlying kt = some .bool ∧ k = .bool b) ∨
    (∃ len elem cs, P.underlying kt = some (.array len elem) ∧ k = .agg cs ∧ intT P elem = true ∧ sizeT P elem = some 1 ∧ cs.length = len ∧ ∀ c ∈ cs, ∃ kd n, c = .int kd n) := by
  unfold keyOkA at h
  split at h
  · rename_i kd kd' n hu; exact .inl ⟨kd, kd', n, hu, rfl⟩
  · rename_i s hu; exact .inr (.inl ⟨s, hu, rfl⟩)
  · rename_i b hu; exact .inr (.inr (.inl ⟨b, hu, rfl⟩))
  · rename_i len elem cs hu
    simp only [Bool.and_eq_true, decide_eq_true_eq, List.all_eq_true] at h
    refine .inr (.inr (.inr ⟨len, elem, cs, hu, rfl, h.1.1.1, h.1.1.2, h.1.2, fun c hc => ?_⟩))
    have := h.2 c hc
    split at this
    · exact ⟨_, _, rfl⟩
    · cases this
  · cases h

theorem ints_same : ∀ {cs : List AV} {vs us : List Value}, (∀ c ∈ cs, ∃ kd n, c = AV.int kd n) → VL E cs vs → VL E cs us → vs = us ∧ ∀ v ∈ vs, ∃ kd n, v = .int kd n
  | [], vs, us, _, h1, h2 => by rw [VL_nil] at h1 h2; subst h1; subst h2; simp
  | c :: cs, vs, us, h, h1, h2 => by
    rw [VL_cons] at h1 h2
    obtain ⟨v, r, rfl, a1, a2⟩ := h1
    obtain ⟨u, r', rfl, b1, b2⟩ := h2
    obtain ⟨kd, n, rfl⟩ := h c (List.mem_cons_self ..)
    simp only [V_int] at a1 b1
    obtain ⟨e, ha⟩ := ints_same (fun c hc => h c (List.mem_cons_of_mem _ hc)) a2 b2
    subst a1; subst b1; subst e
    refine ⟨rfl, fun v hv => ?_⟩
    rcases List.mem_cons.1 hv with rfl | hv
    · exact ⟨_, _, rfl⟩
    · exact ha v hv

theorem key_same {kt : TypeId} {k : AV} {v u : Value} (h : keyOkA P kt k = true) (hv : V E k v) (hu : V E k u) (n : Nat) : v = u ∧ Instr.sameBits (n + 1) v v = true := by
  rcases key_forms h with ⟨_, kd, m, _, rfl⟩ | ⟨s, _, rfl⟩ | ⟨b, _, rfl⟩ | ⟨len, elem, cs, _, rfl, _, _, _, hi⟩
  · simp only [V_int] at hv hu; subst hv; subst hu; exact ⟨rfl, by simp [Instr.sameBits]⟩
  · simp only [V_str] at hv hu; subst hv; subst hu; exact ⟨rfl, by simp [Instr.sameBits, beq_toListBytes]⟩
  · simp only [V_bool] at hv hu; subst hv; subst hu; exact ⟨rfl, by simp [Instr.sameBits]⟩
  · rw [V_agg] at hv hu
    obtain ⟨vs, rfl, hv⟩ := hv
    obtain ⟨us, rfl, hu⟩ := hu
    obtain ⟨e, hall⟩ := ints_same hi hv hu
    have : vs = us := Array.ext' e
    subst this
    refine ⟨rfl, ?_⟩
    simp only [Instr.sameBits, BEq.rfl, Bool.true_and, List.all_eq_true]
    intro p hp
    have : ∀ (l : List Value), (∀ v ∈ l, ∃ kd n, v = Value.int kd n) → ∀ p ∈ l.zip l, Instr.sameBits n p.1 p.2 = true := by
      intro l
      induction l with
      | nil => intro _ p hp; simp at hp
      | cons v l ih =>
        intro hl p hp
        rw [List.zip_cons_cons] at hp
        rcases List.mem_cons.1 hp with rfl | hp
        · obtain ⟨kd, m, rfl⟩ := hl _ (List.mem_cons_self ..)
          cases n <;> simp [Instr.sameBits]
        · exact ih (fun v hv => hl v (List.mem_cons_of_mem _ hv)) p hp
    exact this _ hall p hp

theorem run_checkKey' {kt : TypeId} {k : AV} {v : Value} (h : keyOkA P kt k = true) (hv : V E k v) (em : Bool) (n : Nat) (w : World) : (Instr.checkKey em (n + 2) kt v).run P w = .ok () w := by
  rcases key_forms h with ⟨_, kd, m, hu, rfl⟩ | ⟨s, hu, rfl⟩ | ⟨b, hu, rfl⟩ | ⟨len, elem, cs, hu, rfl, hi, hs, hl, hint⟩
  · simp only [V_int] at hv; subst hv; simp [Instr.checkKey, run_underlying' hu]
  · simp only [V_str] at hv; subst hv; simp [Instr.checkKey, run_underlying' hu]
  · simp only [V_bool] at hv; subst hv; simp [Instr.checkKey, run_underlying' hu]
  · rw [V_agg] at hv
    obtain ⟨vs, rfl, hv⟩ := hv
    have hvl := hv.length
    simp only [Array.length_toList] at hvl
    have hall := (ints_same hint hv hv).2
    have hui : ∃ kd, P.underlying elem = some (.int kd) := by
      unfold intT at hi
      split at hi
      · rename_i kd h; exact ⟨kd, h⟩
      · cases hi
    obtain ⟨kd, hui⟩ := hui
    have hag : aggT P elem = some false := by simp [aggT, hui]
    have hstep : ∀ i, i < len → ∀ w, (part elem vs (i * 1)).run P w = .ok vs[i]! w ∧ (Instr.checkKey em (n + 1) elem vs[i]!).run P w = .ok () w := by
      intro i hi w
      have hlt : i < vs.size := by omega
      have hm : vs[i] ∈ vs.toList := by simp
      obtain ⟨kd', m, e⟩ := hall _ hm
      have e2 : vs[i]! = vs[i] := by simp [hlt]
      refine ⟨by simp [part, run_isAgg' hag, hlt], ?_⟩
      rw [e2, e]
      simp [Instr.checkKey, run_underlying' hui]
    rw [show n + 2 = (n + 1) + 1 from rfl, Instr.checkKey]
    simp only [Sem.run_bind, run_underlying' hu, Result.andThen_ok]
    simp only [Std.Legacy.Range.forIn_eq_forIn_range', Std.Legacy.Range.size, Nat.sub_zero, Nat.add_one_sub_one, Nat.div_one]
    have key : ∀ (is : List Nat), (∀ i ∈ is, i < len) → ∀ w, (forIn (m := Sem) is PUnit.unit (fun i _ => do
        let __do_lift ← Go.sizeOf elem
        let __do_lift ← part elem vs (i * __do_lift)
        Instr.checkKey em (n + 1) elem __do_lift
        pure (ForInStep.yield PUnit.unit))).run P w = .ok PUnit.unit w := by
      intro is
      induction is with
      | nil => intro _ w; simp
      | cons i is ih =>
        intro hi w
        have := hstep i (hi i (List.mem_cons_self ..)) w
        simp only [List.forIn_cons, Sem.run_bind, run_sizeOf' hs, Result.andThen_ok, this.1, this.2, Sem.run_pure]
        exact ih (fun j hj => hi j (List.mem_cons_of_mem _ hj)) w
    have := key (List.range' 0 len) (fun i hi => by simpa using (List.mem_range'_1.1 hi).2) w
    simp at this ⊢
    rw [this]
    rfl

/-- what is found in a map -/
def FR (E : Env) : Option (Nat × AV) → Option (Nat × Value) → Prop
  | none, r => r = none
  | some (i, a), r => ∃ v, r = some (i, v) ∧ V E a v

theorem findAsking_sound {kt : TypeId} {k : AV} {vk : Value} (hk : V E k vk) : ∀ (es : List (AV × AV × Nat)) (ces : List MapEntry) (i : Nat) (r : Option (Nat × AV)), VE E es ces → findA P kt k es i = some r →
    ∃ r', (∀ w, (Instr.findAsking kt vk ces i).run P w = .ok r' w) ∧ FR E r r'
  | [], ces, i, r, h, hf => by
    have : ces = [] := h
    subst this
    simp only [findA, Option.some.injEq] at hf; subst hf
    exact ⟨none, fun w => by simp [Instr.findAsking], rfl⟩
  | e :: es, ces, i, r, ⟨c, cr, hc, h1, h2, h3, h4⟩, hf => by
    subst hc
    simp only [findA] at hf
    split at hf
    · rename_i he
      cases hf
      refine ⟨some (i, c.val), fun w => ?_, _, rfl, h2⟩
      have := aEq_sound eqDepth _ _ _ _ _ _ w he hk h1
      simp only [Instr.findAsking, Sem.run_bind]
      rw [show (Op.equal kt vk c.key).run P w = .ok true w from this]
      rfl
    · rename_i he
      obtain ⟨r', hr, hF⟩ := findAsking_sound hk es cr (i + 1) r h4 hf
      refine ⟨r', fun w => ?_, hF⟩
      have := aEq_sound eqDepth _ _ _ _ _ _ w he hk h1
      simp only [Instr.findAsking, Sem.run_bind]
      rw [show (Op.equal kt vk c.key).run P w = .ok false w from this]
      simp only [Result.andThen_ok, Bool.false_eq_true, if_false]
      exact hr w
    · cases hf

theorem aEq_int {d : Nat} {t : TypeId} {kd : IntKind} {x y : AV} {b : Bool} (hu : P.underlying t = some (.int kd)) (h : aEq P (d + 1) t x y = some b) : ∃ k a c, x = .int k a ∧ y = .int k c ∧ b = (a == c) := by
  simp only [aEq, hu] at h
  split at h <;> (try (cases h; done)) <;> (try (rename_i e; cases e; done))
  rename_i e
  split at h
  · rename_i hk; cases h; subst hk; exact ⟨_, _, _, rfl, rfl, rfl⟩
  · cases h

theorem aEq_str {d : Nat} {t : TypeId} {x y : AV} {b : Bool} (hu : P.underlying t = some .string) (h : aEq P (d + 1) t x y = some b) : ∃ a c, x = .str a ∧ y = .str c ∧ b = (a == c) := by
  simp only [aEq, hu] at h
  split at h <;> (try (cases h; done)) <;> (try (rename_i e; cases e; done))
  rename_i e
  cases h; exact ⟨_, _, rfl, rfl, rfl⟩

theorem aEq_bool {d : Nat} {t : TypeId} {x y : AV} {b : Bool} (hu : P.underlying t = some .bool) (h : aEq P (d + 1) t x y = some b) : ∃ a c, x = .bool a ∧ y = .bool c ∧ b = (a == c) := by
  simp only [aEq, hu] at h
  split at h <;> (try (cases h; done)) <;> (try (rename_i e; cases e; done))
  rename_i e
  cases h; exact ⟨_, _, rfl, rfl, rfl⟩

theorem findNow_sound {kt : TypeId} {d : TypeDesc} {k : AV} {vk : Value} (hu : P.underlying kt = some d) (hd : (∃ kd, d = .int kd) ∨ d = .string ∨ d = .bool) (hk : V E k vk) : ∀ (es : List (AV × AV × Nat)) (ces : List MapEntry) (i : Nat) (r : Option (Nat × AV)), VE E es ces → findA P kt k es i = some r →
    ∃ r', Instr.findNow d vk ces i = some r' ∧ FR E r r'
  | [], ces, i, r, h, hf => by
    have : ces = [] := h
    subst this
    simp only [findA, Option.some.injEq] at hf; subst hf
    exact ⟨none, rfl, rfl⟩
  | e :: es, ces, i, r, ⟨c, cr, hc, h1, h2, h3, h4⟩, hf => by
    subst hc
    have same : ∀ b, aEq P eqDepth kt k e.1 = some b → Instr.sameNow d vk c.key = some b := by
      intro b hb
      have hb' : aEq P (9999 + 1) kt k e.1 = some b := hb
      rcases hd with ⟨kd, rfl⟩ | rfl | rfl
      · obtain ⟨kk, a, c', e1, e2, rfl⟩ := aEq_int hu hb'
        rw [e1] at hk; rw [e2] at h1
        simp only [V_int] at hk h1
        rw [hk, h1]; simp [Instr.sameNow]
      · obtain ⟨a, c', e1, e2, rfl⟩ := aEq_str hu hb'
        rw [e1] at hk; rw [e2] at h1
        simp only [V_str] at hk h1
        rw [hk, h1]; simp [Instr.sameNow]
      · obtain ⟨a, c', e1, e2, rfl⟩ := aEq_bool hu hb'
        rw [e1] at hk; rw [e2] at h1
        simp only [V_bool] at hk h1
        rw [hk, h1]; simp [Instr.sameNow]
    simp only [findA] at hf
    split at hf
    · rename_i he
      cases hf
      exact ⟨some (i, c.val), by simp [Instr.findNow, same _ he], _, rfl, h2⟩
    · rename_i he
      obtain ⟨r', hr, hF⟩ := findNow_sound hu hd hk es cr (i + 1) r h4 hf
      exact ⟨r', by simp [Instr.findNow, same _ he, hr], hF⟩
    · cases hf

theorem findKey_sound {kt : TypeId} {k : AV} {vk : Value} {es : List (AV × AV × Nat)} {ces : List MapEntry} {r : Option (Nat × AV)} (hok : keyOkA P kt k = true) (hk : V E k vk) (hes : VE E es ces) (h : findA P kt k es 0 = some r) :
    ∃ r', (∀ w, (Instr.findKey kt vk ces).run P w = .ok r' w) ∧ FR E r r' := by
  have now : ∀ d, P.underlying kt = some d → ((∃ kd, d = .int kd) ∨ d = .string ∨ d = .bool) → ∃ r', (∀ w, (Instr.findKey kt vk ces).run P w = .ok r' w) ∧ FR E r r' := by
    intro d hu hd
    obtain ⟨r', hr, hF⟩ := findNow_sound hu hd hk es ces 0 r hes h
    exact ⟨r', fun w => by simp [Instr.findKey, run_underlying' hu, hr], hF⟩
  rcases key_forms hok with ⟨kd, _, m, hu, rfl⟩ | ⟨s, hu, rfl⟩ | ⟨b, hu, rfl⟩ | ⟨len, elem, cs, hu, rfl, _⟩
  · exact now _ hu (.inl ⟨_, rfl⟩)
  · exact now _ hu (.inr (.inl rfl))
  · exact now _ hu (.inr (.inr rfl))
  · cases es with
    | nil =>
      have : ces = [] := hes
      subst this
      simp only [findA, Option.some.injEq] at h; subst h
      exact ⟨none, fun w => by simp [Instr.findKey, run_underlying' hu, Instr.findNow], rfl⟩
    | cons e es =>
      obtain ⟨r', hr, hF⟩ := findAsking_sound hk _ ces 0 r hes h
      obtain ⟨c, cr, hc, _⟩ := hes
      subst hc
      refine ⟨r', fun w => ?_, hF⟩
      have : Instr.findNow (.array len elem) vk (c :: cr) 0 = none := by
        simp only [Instr.findNow]
        rw [V_agg] at hk
        obtain ⟨vs, rfl, _⟩ := hk
        simp [Instr.sameNow]
      simp only [Instr.findKey, Sem.run_bind, run_underlying' hu, Result.andThen_ok, this]
      exact hr w

theorem mapTy_inv {t kt vt : TypeId} (h : mapTy P t = some (kt, vt)) : P.underlying t = some (.map kt vt) := by
  unfold mapTy at h
  split at h
  · rename_i hu; cases h; exact hu
  · cases h

theorem run_getObj_map {r : Nat} {es : Array MapEntry} {clock : Nat} (h : w.heap[r]? = some (.map es clock)) : (getObj r).run P w = .ok (.map es clock) w := by
  simp [getObj, Sem.run, h]

theorem run_setObj_map {r : Nat} {es : Array MapEntry} {clock : Nat} (h : w.heap[r]? = some (.map es clock)) (o : Obj) : (setObj r o).run P w = .ok () { w with heap := w.heap.setIfInBounds r o } := by
  simp [setObj, Sem.run, h]

/-- a map's block is written -/
theorem Sim.putMap {h : Nat} {es es' : List (AV × AV × Nat)} {clock clock' : Nat} {hb : HB} {ces ces' : Array MapEntry} (r : Rel E H w) (hg : H.get h = some (.map es clock)) (hβ : E.β h = some hb) (hc : w.heap[hb.blk]? = some (.map ces clock))
    (hV : VE E es' ces'.toList) : Sim E H w E (H.set h (.map es' clock')) { w with heap := w.heap.setIfInBounds hb.blk (.map ces' clock') } := by
  have hlt : hb.blk < w.heap.size := (Array.getElem?_eq_some_iff.1 hc).1
  refine Sim.writeBlk r hg hβ (by simp) rfl rfl rfl (by simp) (fun k hk => ?_) ⟨ces', ?_, hV⟩
  · simp [Array.getElem?_setIfInBounds, Ne.symm hk]
  · simp [Array.getElem?_setIfInBounds, hlt]

theorem modify_toList {es : Array MapEntry} {i : Nat} {e : MapEntry} (h : es.toList[i]? = some e) (f : MapEntry → MapEntry) : (es.modify i f).toList = es.toList.set i (f e) := by
  have hlt : i < es.size := by
    rcases Nat.lt_or_ge i es.toList.length with h' | h'
    · simpa using h'
    · rw [List.getElem?_eq_none h'] at h; cases h
  apply List.ext_getElem?
  intro j
  simp only [Array.getElem?_toList, Array.getElem?_modify, List.getElem?_set, Array.length_toList]
  by_cases hij : i = j
  · subst hij
    have : es[i]? = some e := by simpa using h
    have e2 : es[i] = e := by simpa [hlt] using this
    simp [hlt, e2]
  · simp [hij]

theorem keep_sound {kt : TypeId} {k : AV} {vold vk : Value} (hok : keyOkA P kt k = true) (h1 : V E k vold) (h2 : V E k vk) (w : World) : (Instr.keyThatStays vold vk).run P w = .ok vk w := by
  obtain ⟨e, hs⟩ := key_same hok h1 h2 9999
  subst e
  simp [Instr.keyThatStays, hs]

theorem mapUpdate_sound {t : TypeId} {m k v : AV} {vm vk vv : Value} {H' : AHeap} (r : Rel E H w) (h : mapUpdateA P H t m k v = some H') (hm : V E m vm) (hk : V E k vk) (hv : V E v vv) :
    ∃ w', (Instr.mapUpdate t vm vk vv).run P w = .ok () w' ∧ Sim E H w E H' w' := by
  unfold mapUpdateA at h
  split at h
  · rename_i kt vt hd hty
    have hu := mapTy_inv hty
    split at h
    · rename_i es clock hg
      split at h
      · rename_i hok
        rw [V_map] at hm
        obtain ⟨hb, hβ, rfl⟩ := hm
        obtain ⟨hb', hβ', ces, hc, hes⟩ := r.live hd _ hg
        obtain rfl : hb' = hb := Option.some.inj (hβ'.symm.trans hβ)
        have hck := run_checkKey' (P := P) hok hk false 9998 w
        split at h
        · rename_i hf
          cases h
          obtain ⟨r', hr, hF⟩ := findKey_sound hok hk hes hf
          cases hF
          refine ⟨_, ?_, Sim.putMap (ces' := ces.push ⟨vk, vv, clock⟩) (clock' := clock + 1) r hg hβ hc (by simpa using hes.snoc (x := (k, v, clock)) (e := ⟨vk, vv, clock⟩) hk hv rfl)⟩
          simp [Instr.mapUpdate, run_underlying' hu, run_getObj_map hc, hck, hr, run_setObj_map hc]
        · rename_i i a hf
          split at h
          · rename_i e he
            split at h
            · rename_i heq
              cases h
              obtain ⟨r', hr, v', hF, _⟩ := findKey_sound hok hk hes hf
              subst hF
              obtain ⟨c, hci, g1, g2, g3⟩ := hes.get he
              have ek := AV.eqb_eq _ _ heq
              rw [ek] at g1
              have hks := keep_sound (P := P) hok g1 hk w
              refine ⟨_, ?_, Sim.putMap (es' := es.set i (k, v, e.2.2)) (ces' := ces.modify i fun e => { e with key := vk, val := vv }) (clock' := clock) r hg hβ hc ?_⟩
              · have hci' : ces[i]? = some c := by simpa using hci
                simp [Instr.mapUpdate, run_underlying' hu, run_getObj_map hc, hck, hr, hci', hks, run_setObj_map hc]
              · rw [modify_toList hci]
                exact hes.set hk hv g3
            · cases h
          · cases h
        · cases h
      · cases h
    · cases h
  · cases h

theorem lookup_sound {t : TypeId} {m k av : AV} {vm vk : Value} {ok : Bool} (r : Rel E H w) (h : lookupA P H t m k ok = some av) (hm : V E m vm) (hk : V E k vk) :
    ∃ v, (Instr.lookup t vm vk ok).run P w = .ok v w ∧ V E av v := by
  unfold lookupA at h
  split at h
  · rename_i kt vt hty
    have hu := mapTy_inv hty
    by_cases hok : keyOkA P kt k = true
    · simp only [hok, if_true] at h
      have hck := fun em => run_checkKey' (P := P) hok hk em 9998 w
      cases m <;> simp only at h <;> (try (cases h; done))
      case nilm =>
        simp only [V_nilm] at hm; subst hm
        obtain ⟨r', hr, hF⟩ := findKey_sound (es := []) (ces := []) (r := none) hok hk rfl (by simp [findA])
        cases hF
        simp only [Option.map_eq_some_iff] at h
        obtain ⟨z, hz, rfl⟩ := h
        obtain ⟨vz, rz, Vz⟩ := run_zeroValue' hz E w
        refine ⟨if ok then .tuple #[vz, .bool false] else vz, by simp [Instr.lookup, run_underlying' hu, hck, hr, rz], ?_⟩
        cases ok
        · simpa using Vz
        · simp only [if_true, V_tup]; exact ⟨_, rfl, by simp [Vz]⟩
      case map hd =>
        rw [V_map] at hm
        obtain ⟨hb, hβ, rfl⟩ := hm
        cases hg : H.get hd with
        | none => rw [hg] at h; cases h
        | some b =>
          cases b with
          | cells _ _ => rw [hg] at h; cases h
          | dead => rw [hg] at h; cases h
          | map es clock =>
            rw [hg] at h
            simp only at h
            cases hf : findA P kt k es 0 with
            | none => rw [hf] at h; cases h
            | some q =>
              rw [hf] at h
              obtain ⟨hb', hβ', ces, hc, hes⟩ := r.live hd _ hg
              obtain rfl : hb' = hb := Option.some.inj (hβ'.symm.trans hβ)
              obtain ⟨q', hr, hF⟩ := findKey_sound hok hk hes hf
              cases q with
              | none =>
                cases hF
                simp only [Option.map_eq_some_iff] at h
                obtain ⟨z, hz, rfl⟩ := h
                obtain ⟨vz, rz, Vz⟩ := run_zeroValue' hz E w
                refine ⟨if ok then .tuple #[vz, .bool false] else vz, by simp [Instr.lookup, run_underlying' hu, run_getObj_map hc, hck, hr, rz], ?_⟩
                cases ok
                · simpa using Vz
                · simp only [if_true, V_tup]; exact ⟨_, rfl, by simp [Vz]⟩
              | some p =>
                obtain ⟨i, a⟩ := p
                obtain ⟨v, rfl, hV⟩ := hF
                cases h
                refine ⟨if ok then .tuple #[v, .bool true] else v, by simp [Instr.lookup, run_underlying' hu, run_getObj_map hc, hck, hr], ?_⟩
                cases ok
                · simpa using hV
                · simp only [if_true, V_tup]; exact ⟨_, rfl, by simp [hV]⟩
    · simp only [hok, Bool.false_eq_true, if_false] at h
      cases h
  · cases h

theorem mapEntry_sound {t : TypeId} {m k av : AV} {vm vk : Value} {H' : AHeap} (r : Rel E H w) (h : mapEntryA P H t m k = some (av, H')) (hm : V E m vm) (hk : V E k vk) :
    ∃ v w', (Instr.mapEntry t vm vk).run P w = .ok v w' ∧ V E av v ∧ Sim E H w E H' w' := by
  unfold mapEntryA at h
  split at h
  · rename_i kt vt hd hty
    have hu := mapTy_inv hty
    split at h
    · rename_i es clock hg
      split at h
      · rename_i hok
        rw [V_map] at hm
        obtain ⟨hb, hβ, rfl⟩ := hm
        obtain ⟨hb', hβ', ces, hc, hes⟩ := r.live hd _ hg
        obtain rfl : hb' = hb := Option.some.inj (hβ'.symm.trans hβ)
        have hck := run_checkKey' (P := P) hok hk false 9998 w
        split at h
        · rename_i hf
          split at h
          · rename_i z hz
            cases h
            obtain ⟨r', hr, hF⟩ := findKey_sound hok hk hes hf
            cases hF
            obtain ⟨vz, rz, Vz⟩ := run_zeroValue' hz E w
            refine ⟨.tuple #[vz, goInt clock], _, ?_, ?_, Sim.putMap (ces' := ces.push ⟨vk, vz, clock⟩) (clock' := clock + 1) r hg hβ hc (by simpa using hes.snoc (x := (k, z, clock)) (e := ⟨vk, vz, clock⟩) hk Vz rfl)⟩
            · simp [Instr.mapEntry, run_underlying' hu, run_getObj_map hc, hck, hr, rz, run_setObj_map hc]
            · rw [V_tup]; exact ⟨_, rfl, by simp [Vz, goInt]⟩
          · cases h
        · rename_i i a hf
          split at h
          · rename_i e he
            split at h
            · rename_i heq
              cases h
              obtain ⟨r', hr, v', hF, hV⟩ := findKey_sound hok hk hes hf
              subst hF
              obtain ⟨c, hci, g1, g2, g3⟩ := hes.get he
              have ek := AV.eqb_eq _ _ heq
              rw [ek] at g1
              have hks := keep_sound (P := P) hok g1 hk w
              have hci' : ces[i]? = some c := by simpa using hci
              refine ⟨.tuple #[v', goInt c.born], _, ?_, ?_, Sim.putMap (es' := es.set i (k, e.2.1, e.2.2)) (ces' := ces.modify i fun e => { e with key := vk }) (clock' := clock) r hg hβ hc ?_⟩
              · simp [Instr.mapEntry, run_underlying' hu, run_getObj_map hc, hck, hr, hci', hks, run_setObj_map hc]
              · rw [V_tup]; exact ⟨_, rfl, by simp [hV, goInt, g3]⟩
              · rw [modify_toList hci]
                exact hes.set hk g2 g3
            · cases h
          · cases h
        · cases h
      · cases h
    · cases h
  · cases h

theorem bornAt_sound {n : Int} : ∀ (es : List (AV × AV × Nat)) (ces : List MapEntry) (i k : Nat), VE E es ces → bornAt n es i = some k → ∃ j, k = i + j ∧ ces.findIdx? (fun e => (e.born : Int) == n) = some j
  | [], _, _, _, _, h => by simp [bornAt] at h
  | e :: es, ces, i, k, ⟨c, cr, hc, h1, h2, h3, h4⟩, h => by
    subst hc
    simp only [bornAt] at h
    rw [List.findIdx?_cons, h3]
    split at h
    · rename_i hb; cases h; exact ⟨0, rfl, by simp [hb]⟩
    · rename_i hb
      obtain ⟨j, rfl, hj⟩ := bornAt_sound es cr (i + 1) k h4 h
      exact ⟨j + 1, by omega, by simp [hb, hj]⟩

theorem entryStore_sound {t : TypeId} {m s v : AV} {vm vs vv : Value} {H' : AHeap} (r : Rel E H w) (h : entryStoreA H m s v = some H') (hm : V E m vm) (hs : V E s vs) (hv : V E v vv) :
    ∃ w', (Instr.entryStore t vm vs vv).run P w = .ok () w' ∧ Sim E H w E H' w' := by
  unfold entryStoreA at h
  split at h
  · rename_i hd k n
    split at h
    · rename_i es clock hg
      split at h
      · rename_i i hi
        split at h
        · rename_i e he
          cases h
          rw [V_map] at hm
          obtain ⟨hb, hβ, rfl⟩ := hm
          simp only [V_int] at hs; subst hs
          obtain ⟨hb', hβ', ces, hc, hes⟩ := r.live hd _ hg
          obtain rfl : hb' = hb := Option.some.inj (hβ'.symm.trans hβ)
          obtain ⟨j, hj, hfi⟩ := bornAt_sound es ces.toList 0 i hes hi
          obtain rfl : i = j := by omega
          obtain ⟨c, hci, g1, g2, g3⟩ := hes.get he
          refine ⟨_, ?_, Sim.putMap (es' := es.set i (e.1, v, e.2.2)) (ces' := ces.modify i fun e => { e with val := vv }) (clock' := clock) r hg hβ hc ?_⟩
          · have hfi' : ces.findIdx? (fun e => (e.born : Int) == n) = some i := by clear hes hci hc; cases ces; simpa using hfi
            simp [Instr.entryStore, run_getObj_map hc, asInt, asIntOf, hfi', run_setObj_map hc]
          · rw [modify_toList hci]
            exact hes.set g1 hv g3
        · cases h
      · cases h
    · cases h
  · cases h

/-- what an operation that is no call of a Go function comes to -/
def Ran (P : Program) (ρ : Operand → Value) (o : Oper) (w : World) (v : Value) (w' : World) : Prop :=
  (execOp ρ o).run P w = .ok (.value v) w' ∨ ((execOp ρ o).run P w = .ok .skip w' ∧ v = undef)

/-- is it a call of a Go function? -/
def goCall : Op → Bool
  | .call c => match c.callee with | .value _ => true | _ => false
  | _ => false

theorem eff_sound {call : CallF} {o : Oper} {ρA : Operand → Option AV} {ρ : Operand → Value} {av : AV} {H' : AHeap} (hc : goCall o.op = false) (he : EvR E ρA ρ) (r : Rel E H w) (h : effA P call ρA H o.op = some (av, H')) :
    ∃ v E' w', Ran P ρ o w v w' ∧ V E' av v ∧ Sim E H w E' H' w' := by
  obtain ⟨dst, op, ty, pos, after, guard⟩ := o
  cases op <;> simp only [effA] at h <;> (try (cases h; done))
  case store t a x =>
    simp only [Option.bind_eq_some_iff, Option.map_eq_some_iff] at h
    obtain ⟨a', ha, x', hx, H1, h, e⟩ := h
    cases e
    obtain ⟨w', hr, hS⟩ := store_sound r h (he _ _ ha) (he _ _ hx)
    exact ⟨undef, E, w', .inr ⟨by simp [execOp, hr], rfl⟩, V_undef, hS⟩
  case mapUpdate t m k x =>
    simp only [Option.bind_eq_some_iff, Option.map_eq_some_iff] at h
    obtain ⟨m', hm, k', hk, x', hx, H1, h, e⟩ := h
    cases e
    obtain ⟨w', hr, hS⟩ := mapUpdate_sound r h (he _ _ hm) (he _ _ hk) (he _ _ hx)
    exact ⟨undef, E, w', .inr ⟨by simp [execOp, hr], rfl⟩, V_undef, hS⟩
  case mapEntry t m k =>
    simp only [Option.bind_eq_some_iff] at h
    obtain ⟨m', hm, k', hk, h⟩ := h
    obtain ⟨v, w', hr, hV, hS⟩ := mapEntry_sound r h (he _ _ hm) (he _ _ hk)
    exact ⟨v, E, w', .inl (by simp [execOp, hr]), hV, hS⟩
  case entryStore t m s x =>
    simp only [Option.bind_eq_some_iff, Option.map_eq_some_iff] at h
    obtain ⟨m', hm, k', hk, x', hx, H1, h, e⟩ := h
    cases e
    obtain ⟨w', hr, hS⟩ := entryStore_sound (P := P) (t := t) r h (he _ _ hm) (he _ _ hk) (he _ _ hx)
    exact ⟨undef, E, w', .inr ⟨by simp [execOp, hr], rfl⟩, V_undef, hS⟩
  case lookup t m k ok =>
    simp only [Option.bind_eq_some_iff, Option.map_eq_some_iff] at h
    obtain ⟨m', hm, k', hk, v, h, e⟩ := h
    cases e
    obtain ⟨v, hr, hV⟩ := lookup_sound r h (he _ _ hm) (he _ _ hk)
    exact ⟨v, E, w, .inl (by simp [execOp, hr]), hV, .refl r⟩
  case call c =>
    obtain ⟨callee, args, ats⟩ := c
    cases callee with
    | value f => simp [goCall] at hc
    | invoke a b => simp at h
    | builtin b =>
      cases b <;> simp only at h <;> (try (cases h; done))
      case append =>
        simp only [Option.bind_eq_some_iff] at h
        obtain ⟨l, hl, h⟩ := h
        have hv := mapO_sound he _ _ hl
        have h2 : ∃ s x, l = [s, x] := by
          unfold appendA at h
          split at h
          · exact ⟨_, _, rfl⟩
          · cases h
        obtain ⟨s, x, rfl⟩ := h2
        simp only [VL_cons] at hv
        obtain ⟨vs, r1, e1, hs, vx, r2, e2, hx, e3⟩ := hv
        simp only [VL_nil] at e3
        subst e3; subst e2
        have ea : args.map ρ = #[vs, vx] := Array.ext' (by simpa using e1)
        obtain ⟨v, E', w', hr, hV, hS⟩ := append_sound (ty := ty) r h hs hx
        exact ⟨v, E', w', .inl (by simp [execOp, resolve, invoke, builtin, ea, hr]), hV, hS⟩
      case copy =>
        simp only [Option.bind_eq_some_iff] at h
        obtain ⟨l, hl, h⟩ := h
        have hv := mapO_sound he _ _ hl
        have h2 : ∃ s x, l = [s, x] := by
          unfold copyA at h
          split at h
          · exact ⟨_, _, rfl⟩
          · cases h
        obtain ⟨s, x, rfl⟩ := h2
        simp only [VL_cons] at hv
        obtain ⟨vs, r1, e1, hs, vx, r2, e2, hx, e3⟩ := hv
        simp only [VL_nil] at e3
        subst e3; subst e2
        have ea : args.map ρ = #[vs, vx] := Array.ext' (by simpa using e1)
        obtain ⟨v, w', hr, hV, hS⟩ := copy_sound (ty := ty) r h hs hx
        exact ⟨v, E, w', .inl (by simp [execOp, resolve, invoke, builtin, ea, hr]), hV, hS⟩
end
end Go.AM
