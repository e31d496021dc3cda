/- The abstract machine, eighth part: every operation whose value hangs on its operands alone; readings; new memory. -/
import Derived.Test.YtdjmoojonkjafaaGreatAMg
import Derived.Laws.BytesString
set_option linter.unusedSimpArgs false
set_option linter.unusedVariables false
namespace Go.AM
attribute [local simp] AHeap.n_set AHeap.n_push
section
variable {P : Program} {E : Env} {H : AHeap} {w : World}

theorem V_lptr_drop {es : List AV} {a : Addr} {n : Nat} (h : V E (.lptr es) (.pointer (some a))) : V E (.lptr (es.drop n)) (.pointer (some (a.add n))) := by
  simp only [V] at h ⊢
  obtain ⟨a', c, T, fz, e, hs, hI, hv⟩ := h
  cases e
  rw [Addr.add_eq hs]
  refine ⟨_, c, T, fz, rfl, rfl, hI, ?_⟩
  have := hv.drop n
  rw [List.drop_take, List.drop_drop] at this
  simpa using this

theorem V_ptr_add {h off n : Nat} {a : Addr} (hv : V E (.ptr h off) (.pointer (some a))) : V E (.ptr h (off + n)) (.pointer (some (a.add n))) := by
  rw [V_ptr] at *
  obtain ⟨hb, hβ, e⟩ := hv
  cases e
  exact ⟨hb, hβ, by rw [Addr.add_eq rfl]; simp [Nat.add_assoc]⟩

theorem V_addr {x : AV} {v : Value} (h : V E x v) (hx : (∃ a b, x = .ptr a b) ∨ ∃ es, x = .lptr es) : ∃ a, v = .pointer (some a) := by
  rcases hx with ⟨p, q, rfl⟩ | ⟨es, rfl⟩
  · rw [V_ptr] at h; obtain ⟨_, _, rfl⟩ := h; exact ⟨_, rfl⟩
  · simp only [V] at h; obtain ⟨a, _, _, _, rfl, _⟩ := h; exact ⟨_, rfl⟩

theorem fieldAddr_sound {s : TypeId} {x av : AV} {f : Nat} {vx : Value} (h : aFieldAddr P s x f = some av) (hx : V E x vx) (w : World) : ∃ v, (Instr.fieldAt s vx f).run P w = .ok v w ∧ V E av v := by
  unfold aFieldAddr at h
  split at h
  · rename_i fields hu
    split at h
    · rename_i fd hf
      split at h
      · cases h
      · rename_i n hn0 hn
        have hne : n ≠ 0 := fun e => hn0 (by rw [e])
        have key : ∀ a, vx = .pointer (some a) → (Instr.fieldAt s vx f).run P w = .ok (.pointer (some (a.add fd.offset))) w := by
          rintro a rfl
          simp [Instr.fieldAt, run_underlying' hu, hf, Instr.sureAddr, fieldPlace, run_sizeOf' hn, hne]
        obtain ⟨i, hi, hn'⟩ := sizeT_info hn
        split at h
        · cases h
          obtain ⟨a, rfl⟩ := V_addr hx (.inl ⟨_, _, rfl⟩)
          exact ⟨_, key a rfl, V_ptr_add hx⟩
        · split at h
          · cases h
            obtain ⟨a, rfl⟩ := V_addr hx (.inr ⟨_, rfl⟩)
            exact ⟨_, key a rfl, V_lptr_drop hx⟩
          · cases h
        · cases h
      · cases h
    · cases h
  · cases h

theorem field_sound {s : TypeId} {x av : AV} {f : Nat} {vx : Value} (h : aField P s x f = some av) (hx : V E x vx) (w : World) : ∃ v, (Instr.field s vx f).run P w = .ok v w ∧ V E av v := by
  unfold aField at h
  split at h
  · rename_i fields cs hu
    rw [V_agg] at hx
    obtain ⟨vs, rfl, hv⟩ := hx
    split at h
    · rename_i fd hf
      obtain ⟨v, hr, hV⟩ := run_part' hv h w
      exact ⟨v, by simp [Instr.field, run_underlying' hu, hf, asAgg, hr], hV⟩
    · cases h
  · cases h

theorem indexAddr_sound {t : TypeId} {x i av : AV} {vx vi : Value} (h : aIndexAddr P t x i = some av) (hx : V E x vx) (hi : V E i vi) (w : World) : ∃ v, (Instr.indexAt t vx vi).run P w = .ok v w ∧ V E av v := by
  unfold aIndexAddr at h
  split at h
  · rename_i k i
    simp only [V_int] at hi; subst hi
    split at h
    · rename_i len elem hd off hu
      split at h
      · rename_i n hn
        split at h
        · rename_i hc
          cases h
          obtain ⟨a, rfl⟩ := V_addr hx (.inl ⟨_, _, rfl⟩)
          refine ⟨_, ?_, V_ptr_add hx⟩
          simp [Instr.indexAt, asIntOf, run_underlying' hu, Instr.sureAddr, run_sizeOf' hn, hc]
        · cases h
      · cases h
    · rename_i len elem es hu
      split at h
      · rename_i n hn
        split at h
        · rename_i hc
          cases h
          obtain ⟨a, rfl⟩ := V_addr hx (.inr ⟨_, rfl⟩)
          refine ⟨_, ?_, V_lptr_drop hx⟩
          simp [Instr.indexAt, asIntOf, run_underlying' hu, Instr.sureAddr, run_sizeOf' hn, hc.1, hc.2.1]
        · cases h
      · cases h
    · rename_i elem hd off len cp hu
      split at h
      · rename_i n hn
        split at h
        · rename_i hc
          cases h
          simp only [V] at hx
          obtain ⟨hb, a, cap, hβ, rfl, hlc, hadr, _⟩ := hx
          rcases hadr with ⟨h0, _⟩ | ⟨rfl, _⟩
          · omega
          · refine ⟨.pointer (some ((⟨hb.blk, hb.base + off, none⟩ : Addr).add (i.toNat * n))), ?_, V_ptr_add (by rw [V_ptr]; exact ⟨hb, hβ, rfl⟩)⟩
            simp [Instr.indexAt, asIntOf, run_underlying' hu, run_sizeOf' hn, hc]
        · cases h
      · cases h
    · rename_i elem es len ex hu
      split at h
      · rename_i n hn
        split at h
        · rename_i hc
          cases h
          simp only [V] at hx
          obtain ⟨a, cap, rfl, hlc, _, hadr⟩ := hx
          rcases hadr with ⟨h0, _⟩ | ⟨hs, c, T, fz, hI, hv⟩
          · omega
          · refine ⟨.pointer (some (a.add (i.toNat * n))), ?_, V_lptr_drop (by simp only [V]; exact ⟨a, c, T, fz, rfl, hs, hI, hv⟩)⟩
            simp [Instr.indexAt, asIntOf, run_underlying' hu, run_sizeOf' hn, hc.1, hc.2.1]
        · cases h
      · cases h
    · cases h
  · cases h

theorem index_sound {t : TypeId} {x i av : AV} {vx vi : Value} (h : aIndex P t x i = some av) (hx : V E x vx) (hi : V E i vi) (w : World) : ∃ v, (Instr.index t vx vi).run P w = .ok v w ∧ V E av v := by
  unfold aIndex at h
  split at h
  · rename_i k i
    simp only [V_int] at hi; subst hi
    split at h
    · rename_i len elem cs hu
      rw [V_agg] at hx
      obtain ⟨vs, rfl, hv⟩ := hx
      split at h
      · rename_i n hn
        split at h
        · rename_i hc
          obtain ⟨v, hr, hV⟩ := run_part' hv h w
          exact ⟨v, by simp [Instr.index, asIntOf, run_underlying' hu, run_sizeOf' hn, hc, hr], hV⟩
        · cases h
      · cases h
    · rename_i s hu
      simp only [V_str] at hx; subst hx
      split at h
      · rename_i h0
        split at h
        · rename_i b hb
          cases h
          exact ⟨.int .u8 b.toNat, by simp [Instr.index, asIntOf, run_underlying' hu, h0, hb], by simp⟩
        · cases h
      · cases h
    · cases h
  · cases h

theorem len_sound {t : TypeId} {x av : AV} {vx : Value} {ty : TypeId} {ats : Array TypeId} {args : Array Value} (hat : ats[0]? = some t) (har : args[0]? = some vx) (h : aLen P t x = some av) (hx : V E x vx) (w : World) : ∃ v, (Builtin.len_ ats ty args).run P w = .ok v w ∧ V E av v := by
  unfold aLen at h
  split at h <;> (try (cases h; done))
  all_goals
    rename_i hu
    cases h
    try simp only [V] at hx
    try (obtain ⟨_, _, _, _, rfl, _⟩ := hx)
    try (obtain ⟨_, _, rfl, _⟩ := hx)
    try subst hx
    exact ⟨_, by simp [Builtin.len_, hat, har, run_underlying' hu, goInt]; rfl, by simp⟩

theorem cap_sound {t : TypeId} {x av : AV} {vx : Value} {ty : TypeId} {ats : Array TypeId} {args : Array Value} (hat : ats[0]? = some t) (har : args[0]? = some vx) (h : aCap P t x = some av) (hx : V E x vx) (w : World) : ∃ v, (Builtin.cap_ ats ty args).run P w = .ok v w ∧ V E av v := by
  unfold aCap at h
  split at h <;> (try (cases h; done))
  · rename_i hu
    cases h
    simp only [V] at hx; subst hx
    exact ⟨_, by simp [Builtin.cap_, hat, har, run_underlying' hu, goInt]; rfl, by simp⟩
  · rename_i hu
    cases h
    simp only [V] at hx
    obtain ⟨_, _, cap, _, rfl, _, _, hc⟩ := hx
    have := hc _ rfl
    subst this
    exact ⟨_, by simp [Builtin.cap_, hat, har, run_underlying' hu, goInt]; rfl, by simp⟩
  · rename_i hu
    cases h
    simp only [V] at hx
    obtain ⟨_, cap, rfl, _, hc, _⟩ := hx
    have := hc trivial
    subst this
    exact ⟨_, by simp [Builtin.cap_, hat, har, run_underlying' hu, goInt]; rfl, by simp⟩

theorem fold_sound {f : AV → AV → Option AV} {g : Value → Value → Sem Value} (hfg : ∀ x y z vx vy w, f x y = some z → V E x vx → V E y vy → ∃ v, (g vx vy).run P w = .ok v w ∧ V E z v) :
    ∀ (l : List AV) (vl : List Value) (x z : AV) (vx : Value) (w : World), foldA f x l = some z → V E x vx → VL E l vl → ∃ v, (vl.foldlM g vx).run P w = .ok v w ∧ V E z v
  | [], vl, x, z, vx, w, h, hx, hl => by
    simp only [foldA, Option.some.injEq] at h; subst h
    rw [VL_nil] at hl; subst hl
    exact ⟨vx, by simp, hx⟩
  | y :: l, vl, x, z, vx, w, h, hx, hl => by
    rw [VL_cons] at hl
    obtain ⟨vy, vr, rfl, hy, hl⟩ := hl
    simp only [foldA] at h
    split at h
    · rename_i u hu
      obtain ⟨v, hr, hV⟩ := hfg _ _ _ _ _ w hu hx hy
      obtain ⟨v', hr', hV'⟩ := fold_sound hfg l vr u z v w h hV hl
      exact ⟨v', by simp only [List.foldlM_cons, Sem.run_bind, hr, Result.andThen_ok, hr'], hV'⟩
    · cases h

theorem getElem?_rep {α : Type} (l : List α) (hl : 0 < l.length) : ∀ (k i : Nat), ((List.replicate k l).flatten)[i]? = if i < k * l.length then l[i % l.length]? else none
  | 0, i => by simp
  | k + 1, i => by
    rw [List.replicate_succ, List.flatten_cons, List.getElem?_append]
    split
    · rename_i h
      rw [if_pos (by rw [Nat.succ_mul]; omega), Nat.mod_eq_of_lt h]
    · rename_i h
      rw [getElem?_rep l hl k]
      rw [Nat.succ_mul]
      have e : (i - l.length) % l.length = i % l.length := by
        conv => rhs; rw [show i = i - l.length + l.length by omega, Nat.add_mod_right]
      rw [e]
      by_cases h' : i - l.length < k * l.length
      · rw [if_pos h', if_pos (by omega)]
      · rw [if_neg h', if_neg (by omega)]

theorem rep_cells (z : Array Value) (hz : 0 < z.size) (k : Nat) : ((Array.range (k * z.size)).map fun x => z[x % z.size]!).toList = (List.replicate k z.toList).flatten := by
  apply List.ext_getElem?
  intro i
  rw [getElem?_rep _ (by simpa using hz)]
  simp only [Array.toList_map, Array.toList_range, List.getElem?_map, Array.length_toList]
  by_cases h : i < k * z.size
  · have hm : i % z.size < z.size := Nat.mod_lt _ hz
    rw [List.getElem?_range h, if_pos h]
    simp [hm]
  · rw [if_neg h, List.getElem?_eq_none (by simp; omega)]; rfl

/-- a slice that is never written, laid down whole -/
theorem lit_sound {es : List AV} {us : Array Value} {len n : Nat} {elem : TypeId} (r : Rel E H w) (hu : VL E es us.toList) (hlen : es.length = len * n) :
    ∃ E', V E' (.lit es len true) (.slice (some ⟨w.heap.size, 0, none⟩) len len) ∧ Sim E H w E' H (w.alloc (.cells us elem)) := by
  have hs := Sim.imm r (.cells us elem)
  refine ⟨_, ?_, hs⟩
  have hu' := hu.mono hs.le
  simp only [V]
  refine ⟨_, len, rfl, Nat.le_refl _, fun _ => rfl, .inr ⟨rfl, us, elem, (0, 0), by simp, ?_⟩⟩
  rw [List.drop_zero, List.take_of_length_le (by have := hu.length; omega)]
  exact hu'

theorem buildSlice_sound {t : TypeId} {len : Nat} {ps : Array (Nat × Operand)} {l : List (Nat × AV)} {av : AV} {ρA : Operand → Option AV} {ρ : Operand → Value} (r : Rel E H w) (he : EvR E ρA ρ) (hl : evParts ρA ps = some l) (h : aBuildSlice P t len l = some av) :
    ∃ v E' w', (Instr.buildSlice t len (ps.map fun (i, x) => (i, ρ x))).run P w = .ok v w' ∧ V E' av v ∧ Sim E H w E' H w' := by
  obtain ⟨p1, p2⟩ := parts_sound he ps.toList l hl
  unfold aBuildSlice at h
  split at h
  · rename_i elem hu
    split at h
    · rename_i n z hn hz
      split at h
      · rename_i hc
        simp only [Option.map_eq_some_iff] at h
        obtain ⟨es, h, rfl⟩ := h
        obtain ⟨vz, rz, Vz⟩ := run_zeroValue' hz E w
        have hzl : vz.cells.size = n := by have := Vz.cells.length; simp at this; omega
        have hbase : VL E (repA z.cells len) ((List.replicate len vz.cells.toList).flatten) := Vz.cells.rep len
        have key : ∀ z0 : Array Value, (len * n = 0 → z0 = #[]) → (len * n ≠ 0 → z0 = vz.cells) → VL E (repA z.cells len) ((Array.range (len * n)).map (fun x => z0[x % z0.size]!)).toList := by
          intro z0 h0 h1
          by_cases hh : len * n = 0
          · have : len = 0 := (Nat.mul_eq_zero.1 hh).resolve_right (by omega)
            subst this
            simp [repA]
          · rw [h1 hh, ← hzl, rep_cells _ (by omega)]; exact hbase
        have hflen : ∀ (l : List (Nat × AV)) (cs es : List AV), fillA (fun i => some (i * n, n)) cs l = some es → es.length = cs.length := by
          intro l
          induction l with
          | nil => intro cs es h; simp only [fillA, Option.some.injEq] at h; rw [h]
          | cons p l ih =>
            intro cs es h
            obtain ⟨i, a⟩ := p
            simp only [fillA] at h
            split at h
            · rename_i hh; rw [ih _ _ h]; simp; omega
            · cases h
        have hlen : es.length = len * n := by rw [hflen _ _ _ h, repA_length]; rw [hc.1]
        have e2 : ((ps.map fun (i, x) => (i, ρ x)).toList) = ps.toList.map fun (i, x) => (i, ρ x) := by simp
        have h24 : ¬ len * n > 2 ^ 24 := by omega
        by_cases hh : len * n = 0
        · obtain ⟨us, hus, hu'⟩ := fill_sound (E := E) l _ (repA z.cells len) es _ h (key #[] (fun _ => rfl) (fun e => absurd hh e)) p1 p2
          obtain ⟨E', hV, hS⟩ := lit_sound (elem := elem) r hu' hlen
          refine ⟨_, E', _, ?_, hV, hS⟩
          simp only [Instr.buildSlice, Sem.run_bind, run_underlying' hu, Result.andThen_ok, run_sizeOf' hn, e2, Sem.run_ite, h24, hh, if_true, if_false, Sem.run_pure]
          have hus' : Instr.fill (fun i => some (i * n, n)) (Array.map (fun x => default) (Array.range 0)) (List.map (fun x => (x.fst, ρ x.snd)) ps.toList) = some us := by simpa [hh] using hus
          simp [hus', newRow]
        · obtain ⟨us, hus, hu'⟩ := fill_sound (E := E) l _ (repA z.cells len) es _ h (key vz.cells (fun e => absurd e hh) (fun _ => rfl)) p1 p2
          obtain ⟨E', hV, hS⟩ := lit_sound (elem := elem) r hu' hlen
          refine ⟨_, E', _, ?_, hV, hS⟩
          simp only [Instr.buildSlice, Sem.run_bind, run_underlying' hu, Result.andThen_ok, run_sizeOf' hn, e2, Sem.run_ite, h24, hh, if_true, if_false, Sem.run_pure, rz]
          simp [hus, newRow]
      · cases h
    · cases h
  · cases h

/-- an operation whose value hangs on its operands alone -/
theorem pure_sound {o : Oper} {ρA : Operand → Option AV} {ρ : Operand → Value} {av : AV} (hk : kindA P o.op = .pure) (he : EvR E ρA ρ) (r : Rel E H w) (h : pureA P ρA o.op = some av) :
    ∃ v E' w', (execOp ρ o).run P w = .ok (.value v) w' ∧ V E' av v ∧ Sim E H w E' H w' := by
  have stay : ∀ (s : Sem Value), (∃ v, s.run P w = .ok v w ∧ V E av v) → execOp ρ o = (do pure (.value (← s))) → ∃ v E' w', (execOp ρ o).run P w = .ok (.value v) w' ∧ V E' av v ∧ Sim E H w E' H w' := by
    rintro s ⟨v, hr, hV⟩ e
    exact ⟨v, E, w, by rw [e]; simp [hr], hV, .refl r⟩
  obtain ⟨dst, op, ty, pos, after, guard⟩ := o
  cases op <;> simp only [pureA] at h <;> (try (cases h; done))
  case move x => exact ⟨_, E, w, rfl, he _ _ h, .refl r⟩
  case assign x => exact ⟨_, E, w, rfl, he _ _ h, .refl r⟩
  case pick c a b =>
    split at h
    · rename_i t x y hc ha hb
      cases h
      have := he _ _ hc
      simp only [V_bool] at this
      refine ⟨if t then ρ a else ρ b, E, w, ?_, ?_, .refl r⟩
      · simp [execOp, this, asBool]
      · cases t
        · exact he _ _ hb
        · exact he _ _ ha
    · cases h
  case build t ps =>
    simp only [Option.bind_eq_some_iff] at h
    obtain ⟨l, hl, h⟩ := h
    exact stay _ (build_sound he hl h w) rfl
  case buildSlice t n ps =>
    simp only [Option.bind_eq_some_iff] at h
    obtain ⟨l, hl, h⟩ := h
    obtain ⟨v, E', w', hr, hV, hS⟩ := buildSlice_sound r he hl h
    exact ⟨v, E', w', by simp [execOp, hr], hV, hS⟩
  case nilCheck x =>
    split at h <;> (try (cases h; done)) <;> (rename_i hx; have hv := he _ _ hx; cases h)
    · rw [V_ptr] at hv; obtain ⟨hb, hβ, e⟩ := hv
      exact ⟨_, E, w, by simp [execOp, e]; rfl, by rw [V_ptr]; exact ⟨hb, hβ, rfl⟩, .refl r⟩
    · have hv' := hv
      simp only [V] at hv; obtain ⟨a, c, T, fz, e, _⟩ := hv
      exact ⟨_, E, w, by simp [execOp, e]; rfl, by rw [← e]; exact hv', .refl r⟩
    · have hv' := hv
      rw [V_fn] at hv; obtain ⟨va, vb, e, _⟩ := hv
      exact ⟨_, E, w, by simp [execOp, e]; rfl, by rw [← e]; exact hv', .refl r⟩
  case binOp op t x y t' =>
    simp only [Option.bind_eq_some_iff] at h
    obtain ⟨a, ha, b, hb, h⟩ := h
    exact stay _ (bin_sound h (he _ _ ha) (he _ _ hb) w) rfl
  case unOp op t x =>
    simp only [Option.bind_eq_some_iff] at h
    obtain ⟨a, ha, h⟩ := h
    exact stay _ (un_sound h (he _ _ ha) w) rfl
  case convert s d x =>
    simp only [Option.bind_eq_some_iff] at h
    obtain ⟨a, ha, h⟩ := h
    exact stay _ (conv_sound h (he _ _ ha) w) rfl
  case makeFunc fn first captured =>
    cases fn <;> simp only [pureA] at h <;> (try (cases h; done))
    simp only [Option.bind_eq_some_iff, Option.map_eq_some_iff] at h
    obtain ⟨a, ha, b, hb, rfl⟩ := h
    refine ⟨_, E, w, by simp [execOp, Instr.makeFunc]; rfl, ?_, .refl r⟩
    rw [V_fn]
    exact ⟨_, _, rfl, by simpa using mapO_sound he _ _ ha, by simpa using mapO_sound he _ _ hb⟩
  case slice t x lo hi mx =>
    simp only [Option.bind_eq_some_iff] at h
    obtain ⟨a, ha, l, hl, j, hj, m, hm, h⟩ := h
    exact stay _ (slice_sound h (he _ _ ha) (optA_sound he hl) (optA_sound he hj) (optA_sound he hm) w) rfl
  case fieldAddr s x f =>
    simp only [Option.bind_eq_some_iff] at h
    obtain ⟨a, ha, h⟩ := h
    exact stay _ (fieldAddr_sound h (he _ _ ha) w) rfl
  case field s x f =>
    simp only [Option.bind_eq_some_iff] at h
    obtain ⟨a, ha, h⟩ := h
    exact stay _ (field_sound h (he _ _ ha) w) rfl
  case indexAddr t x i =>
    simp only [Option.bind_eq_some_iff] at h
    obtain ⟨a, ha, b, hb, h⟩ := h
    exact stay _ (indexAddr_sound h (he _ _ ha) (he _ _ hb) w) rfl
  case index t x i =>
    simp only [Option.bind_eq_some_iff] at h
    obtain ⟨a, ha, b, hb, h⟩ := h
    exact stay _ (index_sound h (he _ _ ha) (he _ _ hb) w) rfl
  case extract x i =>
    split at h
    · rename_i vs hx
      have hv := he _ _ hx
      rw [V_tup] at hv
      obtain ⟨us, e, hv⟩ := hv
      obtain ⟨v, hv', hV⟩ := VLget hv h
      exact ⟨v, E, w, by simp [execOp, e, Instr.extract, hv'], hV, .refl r⟩
    · cases h
  case call c =>
    obtain ⟨callee, args, ats⟩ := c
    cases callee with
    | value f => simp at h
    | invoke a b => simp at h
    | builtin b =>
      cases b <;> simp only at h <;> (try (cases h; done))
      case len =>
        split at h
        · rename_i t x ht hx
          simp only [Option.bind_eq_some_iff] at h
          obtain ⟨a, ha, h⟩ := h
          exact stay _ (len_sound (args := args.map ρ) ht (by simp [hx]) h (he _ _ ha) w) rfl
        · cases h
      case cap =>
        split at h
        · rename_i t x ht hx
          simp only [Option.bind_eq_some_iff] at h
          obtain ⟨a, ha, h⟩ := h
          exact stay _ (cap_sound (args := args.map ρ) ht (by simp [hx]) h (he _ _ ha) w) rfl
        · cases h
      case max =>
        split at h
        · rename_i x l hx
          have hv := mapO_sound he _ _ hx
          rw [VL_cons] at hv
          obtain ⟨v, vr, e, hV, hVL⟩ := hv
          refine stay (Builtin.max_ ats ty (args.map ρ)) ?_ rfl
          have e' : (args.map ρ).toList = v :: vr := by simpa using e
          simp only [Builtin.max_, e']
          refine fold_sound (P := P) (fun x y z vx vy w h hx hy => ?_) l vr x av v w h hV hVL
          unfold aMax2 at h
          split at h
          · cases h
            simp only [V_int] at hx hy; subst hx; subst hy
            exact ⟨_, rfl, by simp⟩
          · cases h
        · cases h
      case min =>
        split at h
        · rename_i x l hx
          have hv := mapO_sound he _ _ hx
          rw [VL_cons] at hv
          obtain ⟨v, vr, e, hV, hVL⟩ := hv
          refine stay (Builtin.min_ ats ty (args.map ρ)) ?_ rfl
          have e' : (args.map ρ).toList = v :: vr := by simpa using e
          simp only [Builtin.min_, e']
          refine fold_sound (P := P) (fun x y z vx vy w h hx hy => ?_) l vr x av v w h hV hVL
          unfold aMin2 at h
          split at h
          · cases h
            simp only [V_int] at hx hy; subst hx; subst hy
            exact ⟨_, rfl, by simp⟩
          · cases h
        · cases h

/-! readings -/
theorem bytesOf_sound : ∀ (cs : List AV) (vs : List Value) (l : List UInt8), bytesOf cs = some l → VL E cs vs → vs = l.map fun b => .int .u8 b.toNat
  | [], vs, l, h, hv => by simp only [bytesOf, Option.some.injEq] at h; subst h; simpa using hv
  | a :: cs, vs, l, h, hv => by
    rw [VL_cons] at hv
    obtain ⟨v, r, rfl, hV, hv⟩ := hv
    unfold bytesOf at h
    split at h
    · rename_i e; cases e
    · rename_i n r' e
      cases e
      split at h
      · rename_i hn
        simp only [Option.map_eq_some_iff] at h
        obtain ⟨l, hl, rfl⟩ := h
        simp only [V_int] at hV
        rw [List.map_cons, ← bytesOf_sound cs r l hl hv, hV]
        congr 2
        simp [UInt8.toNat_ofNat']
        omega
      · cases h
    · cases h

theorem foldl_push : ∀ (l : List UInt8) (s : ByteArray), (l.map fun b => (b.toNat : Int)).foldl (fun r n => r.push (UInt8.ofNat n.toNat)) s = ⟨s.data ++ l.toArray⟩
  | [], s => by simp
  | x :: l, s => by
    simp only [List.map_cons, List.foldl_cons]
    rw [foldl_push l]
    congr 1
    simp [ByteArray.push]

theorem run_bytes' {vs : List Value} {l : List UInt8} {b o cap : Nat} (hc : Cells w b o vs) (hl : vs = l.map fun b => .int .u8 b.toNat) :
    (Conv.bytesToString (.slice (some ⟨b, o, none⟩) vs.length cap)).run P w = .ok (.string ⟨l.toArray⟩) w := by
  have := run_loadCells' (P := P) hc
  rw [run_bytesToString w _ _ cap (l.map fun b => (b.toNat : Int)) (by rw [this, hl]; simp), foldl_push]
  (have hemp : ByteArray.empty.data = #[] := rfl); simp [hemp]

theorem read_sound {o : Oper} {ρA : Operand → Option AV} {ρ : Operand → Value} {rd : Rd} {av : AV} (hk : kindA P o.op = .read) (he : EvR E ρA ρ) (r : Rel E H w) (h : rdA P ρA o.op = some rd) (hr : aread P H rd = some av) :
    ∃ v, (execOp ρ o).run P w = .ok (.value v) w ∧ V E av v := by
  obtain ⟨dst, op, ty, pos, after, guard⟩ := o
  cases op <;> simp only [rdA] at h <;> (try (cases h; done))
  case load t a =>
    simp only [Option.map_eq_some_iff] at h
    obtain ⟨x, hx, rfl⟩ := h
    have hv := he _ _ hx
    unfold aread at hr
    split at hr <;> (try (cases hr; done)) <;> (try (rename_i e; cases e; done))
    · rename_i e; cases e
      rename_i hd off
      simp only [Option.bind_eq_some_iff] at hr
      obtain ⟨cs, hc, hp⟩ := hr
      unfold blkCells at hc
      split at hc
      · rename_i sz cs' hg
        cases hc
        obtain ⟨hb, vs, hβ, _, hC, hVL, _⟩ := r.cells hg
        rw [V_ptr] at hv
        obtain ⟨hb', hβ', e⟩ := hv
        obtain rfl : hb' = hb := Option.some.inj (hβ'.symm.trans hβ)
        obtain ⟨v, hrun, hV⟩ := run_loadVar' (P := P) (hC.drop off) (hVL.drop off) (partA_drop hp)
        exact ⟨v, by simp [execOp, e, Instr.loadAt, Instr.sureAddr, hrun], hV⟩
      · cases hc
    · rename_i e; cases e
      obtain ⟨a', vs, e, hs, hC, hVL⟩ := V_lptr r hv
      obtain ⟨b, o, s⟩ := a'
      simp only at hs; subst hs
      obtain ⟨v, hrun, hV⟩ := run_loadVar' (P := P) hC hVL hr
      exact ⟨v, by simp [execOp, e, Instr.loadAt, Instr.sureAddr, hrun], hV⟩
  case convert src dst' x =>
    split at h
    · rename_i e hs
      split at h
      · rename_i he8
        simp only [Option.map_eq_some_iff] at h
        obtain ⟨y, hy, rfl⟩ := h
        have hv := he _ _ hy
        have hd : P.underlying dst' = some .string := by
          simp only [kindA, hs] at hk
          split at hk
          · rename_i hd; exact hd
          · cases hk
        unfold aread at hr
        split at hr <;> (try (cases hr; done)) <;> (try (rename_i e; cases e; done))
        · rename_i e; cases e
          cases hr
          simp only [V_nils] at hv
          refine ⟨.string .empty, ?_, by simp⟩
          simp [execOp, hv, run_convert_bytes_string w src dst' _ none 0 0 hs he8 hd, Conv.bytesToString]
        · rename_i e; cases e
          split at hr
          · rename_i hlen
            simp only [Option.map_eq_some_iff] at hr
            obtain ⟨l, hl, rfl⟩ := hr
            simp only [V] at hv
            obtain ⟨a, cap, e, hlc, hex, hadr⟩ := hv
            refine ⟨.string ⟨l.toArray⟩, ?_, by simp⟩
            rcases hadr with ⟨h0, h1⟩ | ⟨hsp, c, T, fz, hI, hVL⟩
            · subst h1
              simp only [bytesOf, Option.some.injEq] at hl
              subst hl
              have h00 := hlen
              simp only [List.length_nil] at h00
              subst h00
              have := run_bytesToString (P := P) w a 0 cap [] (by simp [loadCells, loadCellsFrom])
              simp only [execOp, e, Sem.run_bind, run_convert_bytes_string w src dst' _ _ _ _ hs he8 hd, this]
              simp; rfl
            · obtain ⟨b, o, s⟩ := a
              simp only at hsp; subst hsp
              have hvl := hVL.length
              have hC : Cells w b o ((c.toList.drop o).take _) := ⟨c, T, fz, r.imm _ _ hI, by rw [hvl]⟩
              have := run_bytes' (P := P) (cap := cap) hC (bytesOf_sound _ _ _ hl hVL)
              rw [hvl, ← hlen] at this
              simp only [execOp, e, Sem.run_bind, run_convert_bytes_string w src dst' _ _ _ _ hs he8 hd, this]
              simp
          · cases hr
        · rename_i hd' off len cp e; cases e
          simp only [Option.bind_eq_some_iff, Option.map_eq_some_iff] at hr
          obtain ⟨cs, hcs, l, hl, rfl⟩ := hr
          simp only [V] at hv
          obtain ⟨hb, a, cap, hβ, e, hlc, hadr, _⟩ := hv
          refine ⟨.string ⟨l.toArray⟩, ?_, by simp⟩
          simp only [firstA] at hcs
          split at hcs
          · rename_i h0
            cases hcs
            simp only [bytesOf, Option.some.injEq] at hl
            subst hl
            obtain rfl : len = 0 := by simpa using h0
            have := run_bytesToString (P := P) w a 0 cap [] (by simp [loadCells, loadCellsFrom])
            simp only [execOp, e, Sem.run_bind, run_convert_bytes_string w src dst' _ _ _ _ hs he8 hd, this]
            simp; rfl
          · rename_i h0
            split at hcs
            · rename_i s cs' hg
              split at hcs
              · rename_i hc
                cases hcs
                rcases hadr with ⟨h1, _⟩ | ⟨rfl, _⟩
                · simp [h1] at h0
                · obtain ⟨hb', vs, hβ', _, hC, hVL, _⟩ := r.cells hg
                  obtain rfl : hb' = hb := Option.some.inj (hβ'.symm.trans hβ)
                  have hC' := (hC.drop off).take (len * 1)
                  have hV' := (hVL.drop off).take (len * 1)
                  have := run_bytes' (P := P) (cap := cap) hC' (bytesOf_sound _ _ _ hl hV')
                  have hlen : (List.take (len * 1) (List.drop off vs)).length = len := by
                    have := hVL.length; simp; omega
                  rw [hlen] at this
                  simp only [execOp, e, Sem.run_bind, run_convert_bytes_string w src dst' _ _ _ _ hs he8 hd, this]
                  simp
              · cases hcs
            · cases hcs
      · cases h
    · cases h

/-! new memory -/
theorem wrap_id (n : Int) (h : 0 ≤ n) (h' : n ≤ 2 ^ 62) : IntKind.i64.wrap n = n := by
  have e : n % 2 ^ 64 = n := Int.emod_eq_of_lt h (by omega)
  simp [IntKind.wrap, IntKind.bits, IntKind.signed]
  omega

theorem new_sound {o : Oper} {ρA : Operand → Option AV} {ρ : Operand → Value} {b : ABlk} {f : Nat → AV} (he : EvR E ρA ρ) (h : newA P ρA o.op = some (b, f)) (w : World) :
    ∃ obj hb v, hb.blk = w.heap.size ∧ (execOp ρ o).run P w = .ok (.value v) (w.alloc obj) ∧ b ≠ .dead ∧ BlkRel E hb (w.alloc obj) b ∧ ∀ E' h0, E'.β h0 = some hb → V E' (f h0) v := by
  have cells : ∀ (sz : Nat) (cs : List AV) (c : Array Value) (T : TypeId), VL E cs c.toList → BlkRel E ⟨w.heap.size, 0, sz, c.size⟩ (w.alloc (.cells c T)) (.cells sz cs) := by
    intro sz cs c T hv
    have := hv.length
    simp only [Array.length_toList] at this
    refine ⟨rfl, c, T, (0, 0), heap_alloc_new _ _, rfl, by simp; omega, ?_, fun i _ _ => by simp⟩
    rw [List.drop_zero, List.take_of_length_le (by simp; omega)]
    exact hv
  obtain ⟨dst, op, ty, pos, after, guard⟩ := o
  cases op <;> simp only [newA] at h <;> (try (cases h; done))
  case alloc t =>
    split at h
    · rename_i n z hn hz
      split at h
      · cases h
        obtain ⟨vz, rz, Vz⟩ := run_zeroValue' hz E w
        refine ⟨.cells vz.cells t, ⟨w.heap.size, 0, n, vz.cells.size⟩, .pointer (some ⟨w.heap.size, 0, none⟩), rfl, ?_, by simp, cells _ _ _ _ Vz.cells, fun E' h0 hβ => ?_⟩
        · simp [execOp, Instr.alloc, rz, newVar, newRow]
        · rw [V_ptr]; exact ⟨_, hβ, rfl⟩
      · cases h
    · cases h
  case box t x =>
    split at h
    · rename_i n v hn hx
      split at h
      · cases h
        have hv := he _ _ hx
        refine ⟨.cells (ρ x).cells t, ⟨w.heap.size, 0, n, (ρ x).cells.size⟩, .pointer (some ⟨w.heap.size, 0, none⟩), rfl, ?_, by simp, cells _ _ _ _ hv.cells, fun E' h0 hβ => ?_⟩
        · simp [execOp, Instr.box, newVar, newRow]
        · rw [V_ptr]; exact ⟨_, hβ, rfl⟩
      · cases h
    · cases h
  case makeMap t res =>
    cases res with
    | some x => simp at h
    | none =>
      simp only [Option.some.injEq, Prod.mk.injEq] at h
      obtain ⟨rfl, rfl⟩ := h
      refine ⟨.map #[] 0, ⟨w.heap.size, 0, 0, 0⟩, .map (some w.heap.size), rfl, ?_, by simp, ⟨#[], heap_alloc_new _ _, rfl⟩, fun E' h0 hβ => ?_⟩
      · simp [execOp, Instr.makeMap]
      · rw [V_map]; exact ⟨_, hβ, rfl⟩
  case makeSlice t l c =>
    split at h
    · rename_i elem hu
      split at h
      · rename_i n z by_ l' c' hn hz hb hl hc
        split at h
        · rename_i hcond
          cases h
          obtain ⟨h1, h2, h3, h4, h5⟩ := hcond
          subst h4
          obtain ⟨vz, rz, Vz⟩ := run_zeroValue' hz E w
          have hzl : vz.cells.size = n := by have := Vz.cells.length; simp at this; omega
          have e1 := he _ _ hl
          have e2 := he _ _ hc
          simp only [V_int] at e1 e2
          have hbt : ∃ i, P.info? elem = some i ∧ i.bytes = by_ := by unfold bytesT at hb; simpa using hb
          obtain ⟨inf, hi, hby⟩ := hbt
          have hle : l'.toNat ≤ 2 ^ 40 := Nat.le_trans (Nat.le_mul_of_pos_right _ (by omega)) h5
          have hle2 : by_ * l'.toNat ≤ 2 ^ 40 := by
            refine Nat.le_trans ?_ h5
            rw [Nat.mul_comm]; exact Nat.mul_le_mul_left _ (by omega)
          have hw : IntKind.i64.wrap l' = l' := wrap_id l' h3 (by omega)
          have hbl : ¬ ((by_ : Int) * l' > 2 ^ 48) := by
            have : ((by_ * l'.toNat : Nat) : Int) ≤ 2 ^ 40 := by exact_mod_cast hle2
            rw [Int.natCast_mul, Int.toNat_of_nonneg h3] at this
            omega
          let z0 : Array Value := if l'.toNat * n = 0 then #[] else vz.cells
          have hrep : VL E (repA z.cells l'.toNat) ((Array.range (l'.toNat * n)).map (fun x => z0[x % z0.size]!)).toList := by
            by_cases hh : l'.toNat * n = 0
            · have : l'.toNat = 0 := (Nat.mul_eq_zero.1 hh).resolve_right (by omega)
              rw [this]; simp [repA]
            · have : z0 = vz.cells := if_neg hh
              rw [this, ← hzl, rep_cells _ (by omega)]; exact Vz.cells.rep _
          refine ⟨.cells ((Array.range (l'.toNat * n)).map (fun x => z0[x % z0.size]!)) elem, ⟨w.heap.size, 0, n, _⟩, .slice (some ⟨w.heap.size, 0, none⟩) l'.toNat l'.toNat, rfl, ?_, by simp, cells _ _ _ _ hrep, fun E' h0 hβ => ?_⟩
          · have hlt : ¬ l' < 0 := by omega
            simp only [execOp, Instr.makeSlice, Sem.run_bind, run_underlying' hu, Result.andThen_ok, e1, e2, asInt, asIntOf, Sem.run_pure, run_typeInfo' hi, hby, hw]
            simp only [hlt, hbl, decide_false, Bool.or_self, Int.lt_irrefl, gt_iff_lt, Bool.false_eq_true, if_false, Sem.run_bind, run_askRoom, Result.andThen_ok, run_sizeOf' hn, Sem.run_ite, Sem.run_pure, rz]
            by_cases hh : l'.toNat * n = 0
            · simp [hh, z0, newRow]
            · simp [hh, z0, newRow]
          · simp only [V]
            refine ⟨_, _, l'.toNat, hβ, rfl, Nat.le_refl _, .inr ⟨rfl, fun z hz => ?_⟩, fun c hc => by cases hc⟩
            cases hz
            simp
        · cases h
      · cases h
    · cases h
end
end Go.AM
