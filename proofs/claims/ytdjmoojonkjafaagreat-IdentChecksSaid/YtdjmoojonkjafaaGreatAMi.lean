/- The abstract machine, ninth part: stores, append and copy are the model's. -/
import Derived.Test.YtdjmoojonkjafaaGreatAMh
set_option linter.unusedSimpArgs false
set_option linter.unusedVariables false
namespace Go.AM
attribute [local simp] AHeap.n_set AHeap.n_push
section
variable {P : Program} {E : Env} {H : AHeap} {w : World}

theorem scalars {xs : List AV} {vs : List Value} (h : VL E xs vs) (hs : xs.all scalarA = true) : ∀ v ∈ vs, v.oneCell' = true := by
  intro v hv
  obtain ⟨i, hi⟩ := List.mem_iff_getElem?.1 hv
  have hil : i < xs.length := by
    have := h.length
    rcases Nat.lt_or_ge i vs.length with h' | h'
    · omega
    · rw [List.getElem?_eq_none h'] at hi; cases hi
  obtain ⟨u, hu, hV⟩ := h.get (List.getElem?_eq_getElem hil)
  rw [hi] at hu; cases hu
  exact hV.scalar (List.all_eq_true.1 hs _ (List.getElem_mem hil))

theorem store_sound {t : TypeId} {a x : AV} {va vx : Value} {H' : AHeap} (r : Rel E H w) (h : storeA P H t a x = some H') (ha : V E a va) (hx : V E x vx) :
    ∃ w', (Instr.storeAt t va vx).run P w = .ok () w' ∧ Sim E H w E H' w' := by
  unfold storeA at h
  split at h
  · rename_i hd off n hn
    split at h
    · rename_i sz cs hg
      split at h
      · rename_i hc
        cases h
        rw [V_ptr] at ha
        obtain ⟨hb, hβ, rfl⟩ := ha
        have hcells := hx.cells
        have hl : vx.cells.size = n := by have := hcells.length; simp at this; omega
        obtain ⟨w', hr, hS⟩ := Sim.writes (P := P) r hg hβ hcells (scalars hcells hc.2.2) (by omega : off + x.cells.length ≤ cs.length)
        rw [← putCells_eq cs off x.cells (by omega)] at hS
        refine ⟨w', ?_, hS⟩
        simp [Instr.storeAt, Instr.sureAddr, storeVar, run_sizeOf' hn, hl, hr]
      · cases h
    · cases h
  · cases h

theorem lenOf_sound {x : AV} {vx : Value} {k : Nat} (h : lenA x = some k) (hx : V E x vx) (w : World) : (Builtin.lenOf vx).run P w = .ok k w := by
  cases x <;> simp only [lenA, Option.some.injEq] at h <;> (try (cases h; done)) <;> subst h <;> simp only [V] at hx
  · subst hx; rfl
  · subst hx; rfl
  · obtain ⟨_, _, _, _, rfl, _⟩ := hx; rfl
  · obtain ⟨_, _, rfl, _⟩ := hx; rfl

theorem first_sound {x : AV} {vx : Value} {sz k : Nat} {cs : List AV} (r : Rel E H w) (h : firstA sz k H x = some cs) (hx : V E x vx) :
    ∃ vs, (Builtin.firstCells sz k vx).run P w = .ok vs w ∧ VL E cs vs.toList := by
  unfold firstA at h
  split at h
  · split at h
    · cases h
      simp only [V_nils] at hx; subst hx
      exact ⟨#[], rfl, by simp⟩
    · cases h
  · rename_i es len ex
    split at h
    · rename_i hk
      cases h
      simp only [V] at hx
      obtain ⟨a, cap, rfl, _, _, hadr⟩ := hx
      rcases hadr with ⟨h0, rfl⟩ | ⟨hs, c, T, fz, hI, hV⟩
      · have : k * sz = 0 := by simpa using hk
        exact ⟨#[], by simp [Builtin.firstCells, this, loadCells, loadCellsFrom], by simp⟩
      · obtain ⟨b, o, s⟩ := a
        simp only at hs; subst hs
        have hC : Cells w b o ((c.toList.drop o).take es.length) := ⟨c, T, fz, r.imm _ _ hI, by rw [hV.length]⟩
        have hC' := hC.take (k * sz)
        have hr := run_loadCells' (P := P) hC'
        have hl : (List.take (k * sz) (List.take es.length (List.drop o c.toList))).length = k * sz := by
          rw [List.length_take, hV.length]; omega
        rw [hl] at hr
        exact ⟨_, by simpa [Builtin.firstCells] using hr, by simpa using hV.take (k * sz)⟩
    · cases h
  · rename_i hd off len cp
    split at h
    · rename_i h0
      cases h
      simp only [V] at hx
      obtain ⟨_, a, _, _, rfl, _⟩ := hx
      exact ⟨#[], by simp [Builtin.firstCells, h0, loadCells, loadCellsFrom], by simp⟩
    · rename_i h0
      split at h
      · rename_i s cs' hg
        split at h
        · rename_i hc
          cases h
          simp only [V] at hx
          obtain ⟨hb, a, cap, hβ, rfl, hlc, hadr, _⟩ := hx
          rcases hadr with ⟨h1, _⟩ | ⟨rfl, _⟩
          · have : k = 0 := by omega
            simp [this] at h0
          · obtain ⟨hb', vs, hβ', _, hC, hVL, _⟩ := r.cells hg
            obtain rfl : hb' = hb := Option.some.inj (hβ'.symm.trans hβ)
            have hC' := (hC.drop off).take (k * sz)
            have hr := run_loadCells' (P := P) hC'
            have hl : (List.take (k * sz) (List.drop off vs)).length = k * sz := by
              have := hVL.length; simp; omega
            rw [hl] at hr
            exact ⟨_, by simpa [Builtin.firstCells] using hr, by simpa using (hVL.drop off).take (k * sz)⟩
        · cases h
      · cases h
  · rename_i s
    split at h
    · rename_i hc
      cases h
      simp only [V_str] at hx; subst hx
      refine ⟨_, rfl, ?_⟩
      have : ∀ l : List UInt8, VL E (l.map fun b => AV.int .u8 b.toNat) (l.map fun b => Value.int .u8 b.toNat) := by
        intro l
        induction l with
        | nil => simp
        | cons x l ih => simp only [List.map_cons, VL_cons_cons]; exact ⟨by simp, ih⟩
      simpa using this (s.extract 0 k).data.toList
    · cases h
  · cases h

theorem zeroCells_sound {z : AV} {vz : Value} (hz : V E z vz) (hpos : 0 < z.cells.length) (k : Nat) : VL E (repA z.cells k) (Builtin.zeroCells vz.cells k).toList := by
  have hl := hz.cells.length
  simp only [Array.length_toList] at hl
  have := rep_cells vz.cells (by omega) k
  unfold Builtin.zeroCells
  rw [this]
  exact hz.cells.rep k

theorem zeroCells_size (c : Array Value) (k : Nat) : (Builtin.zeroCells c k).size = k * c.size := by simp [Builtin.zeroCells]

theorem growBy_le (need : Nat) : ∀ (r c : Nat), c ≤ 2 * need + 200 → Builtin.growBy need r c ≤ 2 * need + 200
  | 0, c, h => h
  | r + 1, c, h => by
    unfold Builtin.growBy
    split
    · exact h
    · exact growBy_le need r _ (by omega)

theorem nextcap_le {need cap by_ : Nat} (h : cap < need) (hb : need * (by_ + 1) ≤ 2 ^ 40) : Builtin.nextslicecap need cap * by_ ≤ 2 ^ 48 := by
  have h1 : Builtin.nextslicecap need cap ≤ 2 * need + 200 := by
    unfold Builtin.nextslicecap
    split
    · omega
    · split
      · omega
      · exact growBy_le need 4 cap (by omega)
  have h2 : by_ ≤ 2 ^ 40 := by
    have : by_ + 1 ≤ need * (by_ + 1) := Nat.le_mul_of_pos_left _ (by omega)
    omega
  have h3 : need * by_ ≤ 2 ^ 40 := Nat.le_trans (Nat.mul_le_mul_left _ (by omega)) hb
  calc Builtin.nextslicecap need cap * by_ ≤ (2 * need + 200) * by_ := Nat.mul_le_mul_right _ h1
    _ = 2 * (need * by_) + 200 * by_ := by rw [Nat.add_mul, Nat.mul_assoc]
    _ ≤ 2 ^ 48 := by omega

/-- the facts on an append's types -/
structure AppT (P : Program) (ats : Array TypeId) (elem : TypeId) (n by_ : Nat) (z : AV) : Prop where
  hu : ∃ st, ats[0]? = some st ∧ P.underlying st = some (.slice elem)
  hn : sizeT P elem = some n
  hz : zeroT P elem = some z
  hb : bytesT P elem = some by_
  hzl : n = z.cells.length
  hpos : 0 < n
  hok : argOkA P ats = true

def zerosA (P : Program) (ats : Array TypeId) : Bool := match ats[1]? with | some xt => intT P xt | none => false

theorem run_zeros (ats : Array TypeId) (hok : argOkA P ats = true) (w : World) : ((match ats[1]? with
    | some xType => do pure ((← underlying xType) matches .int _)
    | none => pure false : Sem Bool)).run P w = .ok (zerosA P ats) w := by
  unfold argOkA at hok
  unfold zerosA
  cases h : ats[1]? with
  | none => rfl
  | some xt =>
    rw [h] at hok
    obtain ⟨d, hd⟩ := Option.isSome_iff_exists.1 hok
    simp only [Sem.run_bind, run_underlying' hd, Result.andThen_ok, intT, hd]
    cases d <;> rfl

theorem more_sound {zs : Bool} {n by_ : Nat} {z x : AV} {vz vx : Value} {k : Nat} {xs : List AV} {elem : TypeId} (r : Rel E H w) (hz : zeroT P elem = some z) (hb : bytesT P elem = some by_) (hzl : n = z.cells.length) (hpos : 0 < n)
    (h : moreA H zs n by_ z x = some (k, xs)) (hx : V E x vx) :
    (∀ w, (if zs then (do
      let l := IntKind.i64.wrap (← asInt vx)
      if l < 0 then runtimePanic (.error "makeslice: len out of range")
      if l * (← typeInfo elem).bytes > 2 ^ 48 then
        let made ← choose (.extern "append.ofMake.carriedOut" 2)
        runtimePanic (.error (if made == 1 then "makeslice: len out of range" else "growslice: len out of range"))
      pure l.toNat) else Builtin.lenOf vx : Sem Nat).run P w = .ok k w) ∧
    ∃ vs, ((if !zs then Builtin.firstCells n k vx
      else if k * n = 0 then pure #[]
      else do pure (Builtin.zeroCells (← zeroValue elem).cells k) : Sem (Array Value)).run P w = .ok vs w) ∧ VL E xs vs.toList ∧ xs.length = k * n := by
  unfold moreA at h
  cases zs with
  | true =>
    simp only [if_true] at h
    split at h
    · rename_i l
      split at h
      · rename_i hc
        cases h
        simp only [V_int] at hx; subst hx
        have hbt : ∃ i, P.info? elem = some i ∧ i.bytes = by_ := by unfold bytesT at hb; simpa using hb
        obtain ⟨inf, hi, hby⟩ := hbt
        have hle : l.toNat ≤ 2 ^ 40 := Nat.le_trans (Nat.le_mul_of_pos_right _ (by omega)) hc.2
        have hle2 : by_ * l.toNat ≤ 2 ^ 40 := by
          refine Nat.le_trans ?_ hc.2
          rw [Nat.mul_comm]; exact Nat.mul_le_mul_left _ (by omega)
        have hw : IntKind.i64.wrap l = l := wrap_id l hc.1 (by omega)
        have hbl : ¬ (l * (by_ : Int) > 2 ^ 48) := by
          have : ((by_ * l.toNat : Nat) : Int) ≤ 2 ^ 40 := by exact_mod_cast hle2
          rw [Int.natCast_mul, Int.toNat_of_nonneg hc.1, Int.mul_comm] at this
          omega
        have hl0 : ¬ l < 0 := by omega
        obtain ⟨vz, rz, Vz⟩ := run_zeroValue' hz E w
        refine ⟨fun w => ?_, ?_⟩
        · simp only [if_true, Sem.run_bind, asInt, asIntOf, Sem.run_pure, Result.andThen_ok, hw, Sem.run_ite, hl0, if_false, run_typeInfo' hi, hby, hbl]
        · by_cases h0 : l.toNat * n = 0
          · have : l.toNat = 0 := (Nat.mul_eq_zero.1 h0).resolve_right (by omega)
            exact ⟨#[], by simp [h0], by simp [this, repA], by simp [this, repA]⟩
          · refine ⟨Builtin.zeroCells vz.cells l.toNat, by simp [h0, rz], zeroCells_sound Vz (by omega) _, by rw [repA_length, hzl]⟩
      · cases h
    · cases h
  | false =>
    simp only [Bool.false_eq_true, if_false, Option.bind_eq_some_iff, Option.map_eq_some_iff] at h
    obtain ⟨k', hk, cs, hcs, e⟩ := h
    cases e
    obtain ⟨vs, hr, hV⟩ := first_sound (P := P) r hcs hx
    refine ⟨fun w => by simp [lenOf_sound hk hx w], vs, by simpa using hr, hV, ?_⟩
    unfold firstA at hcs
    split at hcs
    · split at hcs
      · rename_i h0; cases hcs; simp [h0]
      · cases hcs
    · split at hcs
      · cases hcs; simp; omega
      · cases hcs
    · split at hcs
      · rename_i h0; cases hcs; simp [h0]
      · split at hcs
        · split at hcs
          · cases hcs; simp; omega
          · cases hcs
        · cases hcs
    · split at hcs
      · rename_i s hc
        cases hcs
        simp only [lenA, Option.some.injEq] at hk
        obtain ⟨rfl, _⟩ := hc
        subst hk
        rw [List.length_map, Array.length_toList]
        show (s.extract 0 s.size).size = _
        rw [ByteArray.size_extract]; omega
      · cases hcs
    · cases hcs

/-- an append beyond the capacity: a new block -/
theorem append_new {elem : TypeId} {n by_ : Nat} {z : AV} {old xs : List AV} {vold vxs : Array Value} {len k cap : Nat} (r : Rel E H w) (hz : zeroT P elem = some z) (hzl : n = z.cells.length) (hpos : 0 < n)
    (ho : VL E old vold.toList) (hx : VL E xs vxs.toList) (hol : old.length = len * n) (hxl : xs.length = k * n) (newCap : Nat) (hcap : len + k ≤ newCap) :
    ∃ E' vz, (∀ w, (zeroValue elem).run P w = .ok vz w) ∧ V E' (.sl H.n 0 (len + k) (.gr n)) (.slice (some ⟨w.heap.size, 0, none⟩) (len + k) newCap) ∧
      Sim E H w E' (H.push (.cells n (old ++ xs))) (w.drew.alloc (.cells (vold ++ vxs ++ Builtin.zeroCells vz.cells (newCap - (len + k))) elem)) := by
  obtain ⟨i, vz, hi, hzv, hof⟩ := zeroT_info hz
  have Vz : V E z vz := ofVal_V hof
  have hvl := Vz.cells.length
  simp only [Array.length_toList] at hvl
  have hrz : ∀ w, (zeroValue elem).run P w = .ok vz w := fun w => by simp [zeroValue, run_typeInfo' hi, hzv]
  have hol' := ho.length
  have hxl' := hx.length
  simp only [Array.length_toList] at hol' hxl'
  have hsize : (vold ++ vxs ++ Builtin.zeroCells vz.cells (newCap - (len + k))).size = newCap * n := by
    simp only [Array.size_append, zeroCells_size, hvl, hol', hxl', hol, hxl, ← hzl]
    rw [← Nat.add_mul, ← Nat.add_mul]; congr 1; omega
  have hle : (len + k) * n ≤ newCap * n := Nat.mul_le_mul_right _ hcap
  refine ⟨⟨fun x => if x = H.n then some ⟨w.heap.size, 0, n, newCap * n⟩ else E.β x, E.I⟩, vz, hrz, ?_, ?_⟩
  · simp only [V]
    refine ⟨_, _, newCap, by simp; rfl, rfl, hcap, .inr ⟨rfl, fun z hz => ?_⟩, fun c hc => by cases hc⟩
    cases hz; simp
  · refine Sim.push r (hb := ⟨w.heap.size, 0, n, newCap * n⟩) rfl (by simp) rfl rfl rfl rfl ⟨rfl, _, elem, (0, 0), heap_alloc_new _ _, hsize, ?_, ?_, fun i _ _ => by simp⟩
    · simp only [List.length_append, hol, hxl, Nat.zero_add]; rw [← Nat.add_mul]; exact hle
    · rw [List.drop_zero]
      simp only [Array.toList_append]
      rw [List.take_append_of_le_length (by simp; omega), List.take_of_length_le (by simp; omega)]
      exact ho.append hx

theorem question_cut (need cap : Nat) (elem : TypeId) (t : Nat) : need ≤ (Question.appendCap need cap elem).cut t := by
  show need ≤ need + _
  exact Nat.le_add_right _ _

theorem more_zero {elem : TypeId} {n by_ k : Nat} {z x : AV} {xs : List AV} (hb : bytesT P elem = some by_) (h : moreA H true n by_ z x = some (k, xs)) :
    ∃ l inf, x = .int .i64 l ∧ 0 ≤ l ∧ l.toNat = k ∧ IntKind.i64.wrap l = l ∧ P.info? elem = some inf ∧ inf.bytes = by_ ∧ ¬ (l * (inf.bytes : Int) > 2 ^ 48) := by
  unfold moreA at h
  simp only [if_true] at h
  split at h
  · rename_i l
    split at h
    · rename_i hc
      cases h
      have hbt : ∃ i, P.info? elem = some i ∧ i.bytes = by_ := by unfold bytesT at hb; simpa using hb
      obtain ⟨inf, hi, hby⟩ := hbt
      have hle : l.toNat ≤ 2 ^ 40 := Nat.le_trans (Nat.le_mul_of_pos_right _ (by omega)) hc.2
      have hle2 : by_ * l.toNat ≤ 2 ^ 40 := by
        refine Nat.le_trans ?_ hc.2
        rw [Nat.mul_comm]; exact Nat.mul_le_mul_left _ (by omega)
      refine ⟨l, inf, rfl, hc.1, rfl, wrap_id l hc.1 (by omega), hi, hby, ?_⟩
      have : ((by_ * l.toNat : Nat) : Int) ≤ 2 ^ 40 := by exact_mod_cast hle2
      rw [Int.natCast_mul, Int.toNat_of_nonneg hc.1, Int.mul_comm] at this
      rw [hby]
      omega
    · cases h
  · cases h

theorem zerosA_cases (ats : Array TypeId) (hok : argOkA P ats = true) : (ats[1]? = none ∧ zerosA P ats = false) ∨ (∃ xt d, ats[1]? = some xt ∧ P.underlying xt = some d ∧ (∀ k, d ≠ .int k) ∧ zerosA P ats = false) ∨
    (∃ xt k, ats[1]? = some xt ∧ P.underlying xt = some (.int k) ∧ zerosA P ats = true) := by
  unfold argOkA at hok
  unfold zerosA
  cases h : ats[1]? with
  | none => exact .inl ⟨rfl, rfl⟩
  | some xt =>
    rw [h] at hok
    obtain ⟨d, hd⟩ := Option.isSome_iff_exists.1 hok
    simp only [intT, hd]
    cases d
    case int k => exact .inr (.inr ⟨xt, k, rfl, hd, rfl⟩)
    all_goals exact .inr (.inl ⟨xt, _, rfl, hd, (by intro k h; cases h), rfl⟩)

/-- an append within the capacity -/
theorem append_fits {st elem ty : TypeId} {ats : Array TypeId} {base : Option Addr} {len cap n by_ k : Nat} {z x : AV} {vx : Value} {xs : List AV} (r : Rel E H w) (hat : ats[0]? = some st) (hu : P.underlying st = some (.slice elem))
    (hn : sizeT P elem = some n) (hz : zeroT P elem = some z) (hb : bytesT P elem = some by_) (hzl : n = z.cells.length) (hpos : 0 < n) (hok : argOkA P ats = true) (hm : moreA H (zerosA P ats) n by_ z x = some (k, xs)) (hx : V E x vx) (hfit : len + k ≤ cap) :
    ∃ vxs : Array Value, VL E xs vxs.toList ∧ xs.length = k * n ∧
      (Builtin.append_ ats ty #[.slice base len cap, vx]).run P w = (match base with
        | some a => (storeCells (a.add (len * n)) vxs.toList).run P w
        | none => .ok () w).andThen fun _ w' => .ok (.slice base (len + k) cap) w' := by
  obtain ⟨hcnt, vxs, hnew, hV, hl⟩ := more_sound (vz := vx) r hz hb hzl hpos hm hx
  refine ⟨vxs, hV, hl, ?_⟩
  have hc := hcnt w
  have a0 : (#[Value.slice base len cap, vx] : Array Value)[0]? = some (.slice base len cap) := rfl
  have a1 : (#[Value.slice base len cap, vx] : Array Value)[1]? = some vx := rfl
  rcases zerosA_cases (P := P) ats hok with ⟨h1, hzs⟩ | ⟨xt, d, h1, hd, hne, hzs⟩ | ⟨xt, kk, h1, hd, hzs⟩
  · rw [hzs] at hc hnew
    simp only [Bool.false_eq_true, if_false, Bool.not_false, if_true] at hc hnew
    simp only [Builtin.append_, hat, a0, a1, h1, Sem.run_bind, run_underlying' hu, Result.andThen_ok, run_sizeOf' hn, Sem.run_pure, Bool.false_eq_true, if_false, hc, Bool.not_false, if_true, hfit, hnew]
    cases base <;> simp
  · rw [hzs] at hc hnew
    simp only [Bool.false_eq_true, if_false, Bool.not_false, if_true] at hc hnew
    cases d
    case int k => exact absurd rfl (hne k)
    all_goals
      simp only [Builtin.append_, hat, a0, a1, h1, Sem.run_bind, run_underlying' hu, run_underlying' hd, Result.andThen_ok, run_sizeOf' hn, Sem.run_pure, Bool.false_eq_true, if_false, hc, Bool.not_false, if_true, hfit, hnew]
      cases base <;> simp
  · rw [hzs] at hm hnew
    obtain ⟨l, inf, rfl, hl0, hlk, hw, hi, hby, hbl⟩ := more_zero hb hm
    simp only [V_int] at hx; subst hx
    simp only [Bool.not_true, Bool.false_eq_true, if_false] at hnew
    have hlt : ¬ l < 0 := by omega
    have hrt := run_typeInfo' hi
    subst hby
    simp only [Builtin.append_, hat, a0, a1, h1, Sem.run_bind, run_underlying' hu, run_underlying' hd, Result.andThen_ok, run_sizeOf' hn, Sem.run_pure, if_true, asInt, asIntOf, hw, hlt, if_false, hrt, hbl, hlk, hfit, Bool.not_true, Bool.false_eq_true, hnew]
    cases base <;> simp

/-- an append beyond the capacity -/
theorem append_grows {st elem ty : TypeId} {ats : Array TypeId} {base : Option Addr} {len cap n by_ k : Nat} {z x : AV} {vx : Value} {xs old : List AV} {vold : Array Value} (r : Rel E H w) (hat : ats[0]? = some st) (hu : P.underlying st = some (.slice elem))
    (hn : sizeT P elem = some n) (hz : zeroT P elem = some z) (hb : bytesT P elem = some by_) (hzl : n = z.cells.length) (hpos : 0 < n) (hok : argOkA P ats = true) (hm : moreA H (zerosA P ats) n by_ z x = some (k, xs)) (hx : V E x vx)
    (hbig : cap < len + k) (hsm : (len + k) * (by_ + 1) ≤ 2 ^ 40) (ho : VL E old vold.toList) (hol : old.length = len * n) (hro : (Builtin.firstCells n len (.slice base len cap)).run P w.drew = .ok vold w.drew) :
    ∃ v E' w', (Builtin.append_ ats ty #[.slice base len cap, vx]).run P w = .ok v w' ∧ V E' (.sl H.n 0 (len + k) (.gr n)) v ∧ Sim E H w E' (H.push (.cells n (old ++ xs))) w' := by
  have rd : Rel E H w.drew := r.of_heap rfl
  obtain ⟨hcnt, vxs, hnew, hV, hl⟩ := more_sound (vz := vx) rd hz hb hzl hpos hm hx
  have hle := question_cut (len + k) cap elem (w.tape w.drawn (.appendCap (len + k) cap elem))
  obtain ⟨E', vz, hrz, hVr, hS⟩ := append_new (by_ := by_) (cap := cap) r hz hzl hpos ho hV hol hl _ hle
  refine ⟨_, E', _, ?_, hVr, hS⟩
  have hc := hcnt w
  have hbt : ∃ i, P.info? elem = some i ∧ i.bytes = by_ := by unfold bytesT at hb; simpa using hb
  obtain ⟨inf, hi, hby⟩ := hbt
  subst hby
  have hnc : ¬ Builtin.nextslicecap (len + k) cap * inf.bytes > 2 ^ 48 := by have := nextcap_le hbig hsm; omega
  have hnm : ¬ ((len + k : Nat) : Int) > IntKind.i64.max := by
    have : len + k ≤ (len + k) * (inf.bytes + 1) := Nat.le_mul_of_pos_right _ (by omega)
    have e : IntKind.i64.max = 2 ^ 63 - 1 := rfl
    rw [e]; omega
  have hnf : ¬ len + k ≤ cap := by omega
  have hrt := run_typeInfo' hi
  have a0 : (#[Value.slice base len cap, vx] : Array Value)[0]? = some (.slice base len cap) := rfl
  have a1 : (#[Value.slice base len cap, vx] : Array Value)[1]? = some vx := rfl
  have hch : ∀ w : World, (choose (.appendCap (len + k) cap elem)).run P w = .ok ((Question.appendCap (len + k) cap elem).cut (w.tape w.drawn (.appendCap (len + k) cap elem))) w.drew := fun w => by simp [Question.forced]
  rcases zerosA_cases (P := P) ats hok with ⟨h1, hzs⟩ | ⟨xt, d, h1, hd, hne, hzs⟩ | ⟨xt, kk, h1, hd, hzs⟩
  · rw [hzs] at hc hnew
    simp only [Bool.false_eq_true, if_false, Bool.not_false, if_true] at hc hnew
    simp only [Builtin.append_, hat, a0, a1, h1, Sem.run_bind, run_underlying' hu, Result.andThen_ok, run_sizeOf' hn, Sem.run_pure, Bool.false_eq_true, if_false, hc, Bool.not_false, if_true, hnf, hnm, false_and, hrt, hnc, hch, run_askRoom, hro, hnew, hrz]
    simp [newRow]
    rfl
  · rw [hzs] at hc hnew
    simp only [Bool.false_eq_true, if_false, Bool.not_false, if_true] at hc hnew
    cases d
    case int k => exact absurd rfl (hne k)
    all_goals
      simp only [Builtin.append_, hat, a0, a1, h1, Sem.run_bind, run_underlying' hu, run_underlying' hd, Result.andThen_ok, run_sizeOf' hn, Sem.run_pure, Bool.false_eq_true, if_false, hc, Bool.not_false, if_true, hnf, hnm, false_and, hrt, hnc, hch, run_askRoom, hro, hnew, hrz]
      simp [newRow]
      rfl
  · rw [hzs] at hm hnew
    obtain ⟨l, inf', rfl, hl0, hlk, hw, hi', hby, hbl⟩ := more_zero hb hm
    simp only [V_int] at hx; subst hx
    simp only [Bool.not_true, Bool.false_eq_true, if_false] at hnew
    have hlt : ¬ l < 0 := by omega
    obtain rfl : inf' = inf := Option.some.inj (hi'.symm.trans hi)
    simp only [Builtin.append_, hat, a0, a1, h1, Sem.run_bind, run_underlying' hu, run_underlying' hd, Result.andThen_ok, run_sizeOf' hn, Sem.run_pure, if_true, asInt, asIntOf, hw, hlt, if_false, hrt, hbl, hlk, hnf, hnm, false_and, hnc, hch, run_askRoom, hro, Bool.not_true, Bool.false_eq_true, hnew, hrz]
    simp [newRow]
    rfl

theorem Cells.of_heap {w w' : World} {b o : Nat} {vs : List Value} (h : Cells w b o vs) (e : w'.heap = w.heap) : Cells w' b o vs := by
  obtain ⟨c, T, fz, x, y⟩ := h; exact ⟨c, T, fz, by rw [e]; exact x, y⟩

theorem append_sound {ty : TypeId} {ats : Array TypeId} {s x av : AV} {vs vx : Value} {H' : AHeap} (r : Rel E H w) (h : appendA P H ats [s, x] = some (av, H')) (hs : V E s vs) (hx : V E x vx) :
    ∃ v E' w', (Builtin.append_ ats ty #[vs, vx]).run P w = .ok v w' ∧ V E' av v ∧ Sim E H w E' H' w' := by
  unfold appendA at h
  split at h
  · rename_i st s' x' hat e
    cases e
    split at h
    · rename_i elem hu
      split at h
      · rename_i n z by_ hn hz hb
        split at h
        · rename_i hc
          obtain ⟨hzl, hpos, hok⟩ := hc
          simp only [Option.bind_eq_some_iff] at h
          obtain ⟨⟨k, xs⟩, hm, h⟩ := h
          have hm' : moreA H (zerosA P ats) n by_ z x = some (k, xs) := hm
          -- nothing is appended
          have zero : ∀ base len cap, vs = .slice base len cap → len ≤ cap → k = 0 → (av, H') = (s, H) → ∃ v E' w', (Builtin.append_ ats ty #[vs, vx]).run P w = .ok v w' ∧ V E' av v ∧ Sim E H w E' H' w' := by
            rintro base len cap rfl hlc rfl e
            cases e
            obtain ⟨vxs, hV, hl, hrun⟩ := append_fits (ty := ty) (base := base) r hat hu hn hz hb hzl hpos hok hm' hx (len := len) (cap := cap) (by omega)
            have hnil : vxs.toList = [] := by
              have := hV.length; rw [hl] at this; simpa using this
            refine ⟨.slice base len cap, E, w, ?_, hs, .refl r⟩
            rw [hrun]
            cases base with
            | none => simp
            | some a => simp [hnil, storeCells]
          unfold appendTo at h
          split at h
          · -- nil
            simp only [V_nils] at hs
            split at h
            · rename_i hk
              cases h
              exact zero none 0 0 hs (Nat.le_refl _) hk rfl
            · rename_i hk
              split at h
              · rename_i hsm
                cases h
                subst hs
                have := append_grows (ty := ty) (base := none) (len := 0) (cap := 0) (old := []) (vold := #[]) r hat hu hn hz hb hzl hpos hok hm' hx (by omega) (by simpa using hsm) (by simp) (by simp) (by simp [Builtin.firstCells])
                simpa using this
              · cases h
          · -- a slice that is never written
            rename_i es len ex
            have hs' := hs
            simp only [V] at hs'
            obtain ⟨a, cap, rfl, hlc, hex, hadr⟩ := hs'
            split at h
            · rename_i hk
              cases h
              exact zero _ _ _ rfl hlc hk rfl
            · rename_i hk
              split at h
              · rename_i hcc
                cases h
                obtain ⟨hx1, hx2, hx3⟩ := hcc
                have hcap := hex hx1
                have rd : Rel E H w.drew := r.of_heap rfl
                obtain ⟨vold, hro, hVo⟩ := first_sound (P := P) (sz := n) (k := len) (cs := es.take (len * n)) rd (by simp [firstA, hx2]) hs
                rw [List.take_of_length_le (by omega)] at hVo
                exact append_grows (ty := ty) r hat hu hn hz hb hzl hpos hok hm' hx (by omega) hx3 hVo hx2 hro
              · cases h
          · -- a slice whose capacity is known
            rename_i hd off len c
            have hs' := hs
            simp only [V] at hs'
            obtain ⟨hb', a, cap, hβ, rfl, hlc, hadr, hex⟩ := hs'
            split at h
            · rename_i hk
              cases h
              exact zero _ _ _ rfl hlc hk rfl
            · rename_i hk
              split at h
              · rename_i hcc
                simp only [Option.map_eq_some_iff] at h
                obtain ⟨old, hold, e⟩ := h
                cases e
                have hcap := hex c rfl
                have rd : Rel E H w.drew := r.of_heap rfl
                obtain ⟨vold, hro, hVo⟩ := first_sound (P := P) rd hold hs
                have hol : old.length = len * n := by
                  simp only [firstA] at hold
                  split at hold
                  · rename_i h0; cases hold; simp [h0]
                  · split at hold
                    · split at hold
                      · cases hold; simp; omega
                      · cases hold
                    · cases hold
                exact append_grows (ty := ty) r hat hu hn hz hb hzl hpos hok hm' hx (by omega) hcc.2 hVo hol hro
              · cases h
          · -- a slice that reaches to its block's end
            rename_i hd off len zz
            have hs' := hs
            simp only [V] at hs'
            obtain ⟨hb', a, cap, hβ, rfl, hlc, hadr, hex⟩ := hs'
            split at h
            · rename_i hk
              cases h
              exact zero _ _ _ rfl hlc hk rfl
            · rename_i hk
              split at h
              · rename_i hsm
                split at h
                · rename_i sz cs hg
                  split at h
                  · rename_i hcc
                    cases h
                    obtain ⟨hsz, hzz, hle, hall⟩ := hcc
                    obtain ⟨hb0, hβ0, hs0, c, T, fz, hcb, hlim, hle2, hVc, hfz⟩ := r.live hd _ hg
                    obtain rfl : hb0 = hb' := Option.some.inj (hβ0.symm.trans hβ)
                    have hold : VL E ((cs.drop off).take (len * n)) (((((c.toList.drop hb0.base).take cs.length).drop off).take (len * n))) := (hVc.drop off).take _
                    have hol : ((cs.drop off).take (len * n)).length = len * n := by simp; omega
                    by_cases hfit : len + k ≤ cap
                    · rcases hadr with ⟨h1, h2⟩ | ⟨rfl, hl⟩
                      · omega
                      · have hl' := hl zz rfl
                        rw [hzz] at hl'
                        obtain ⟨vxs, hV, hxl, hrun⟩ := append_fits (ty := ty) (base := some ⟨hb0.blk, hb0.base + off, none⟩) r hat hu hn hz hb hzl hpos hok hm' hx hfit
                        have hvl := hV.length
                        have hkn : len * n + k * n ≤ cap * n := by rw [← Nat.add_mul]; exact Nat.mul_le_mul_right _ hfit
                        have hvl2 : vxs.toList.length = k * n := by omega
                        obtain ⟨w', hr, hos, htp, hout, hsz', hoth, hblk⟩ := run_storeCells' (P := P) (T := T) (fz := fz) (a := ⟨hb0.blk, hb0.base + off + len * n, none⟩) rfl vxs.toList 0 w c hcb (scalars hV hall)
                          (by simp only [Nat.add_zero]; omega) (fun j h h' => hfz j (by simp only at h; omega) (by simp only at h'; omega))
                        simp only [Nat.add_zero] at hblk
                        have hcl : c.toList.length = c.size := by simp
                        have hS := Sim.move (hb' := ⟨hb0.blk, hb0.base + off, n, hb0.lim⟩) (cs' := (cs.drop off).take (len * n) ++ xs) r hg hβ hos htp hout hsz' hoth rfl
                          ⟨rfl, _, T, fz, hblk, by show _ = hb0.lim; rw [List.size_toArray, List.length_append, List.length_append, List.length_take, List.length_drop]; omega, by simp only [List.length_append, hol, hxl]; omega, by
                            rw [List.length_append, hol, hxl]
                            have e : (c.toList.take (hb0.base + off + len * n) ++ vxs.toList ++ c.toList.drop (hb0.base + off + len * n + vxs.toList.length)).drop (hb0.base + off) =
                                ((c.toList.drop (hb0.base + off)).take (len * n)) ++ (vxs.toList ++ c.toList.drop (hb0.base + off + len * n + vxs.toList.length)) := by
                              rw [List.append_assoc, List.drop_append_of_le_length (by simp; omega), List.drop_take]
                              congr 2; omega
                            simp only [e]
                            have e3 : ((c.toList.drop (hb0.base + off)).take (len * n)).length = len * n := by rw [List.length_take, List.length_drop]; omega
                            rw [← List.append_assoc, List.take_left' (by rw [List.length_append, e3, hvl2])]
                            refine VL.append ?_ hV
                            have : (((c.toList.drop hb0.base).take cs.length).drop off).take (len * n) = (c.toList.drop (hb0.base + off)).take (len * n) := by
                              rw [List.drop_take, List.drop_drop, List.take_take, Nat.min_eq_left (by omega)]
                            rw [← this]; exact hold, fun i h h' => hfz i (by simp only at h; omega) h'⟩
                        refine ⟨.slice (some ⟨hb0.blk, hb0.base + off, none⟩) (len + k) cap, _, w', ?_, ?_, hS⟩
                        · rw [hrun]
                          have e : (⟨hb0.blk, hb0.base + off, none⟩ : Addr).add (len * n) = ⟨hb0.blk, hb0.base + off + len * n, none⟩ := Addr.add_eq rfl _
                          simp only [e]
                          rw [hr]; rfl
                        · simp only [V]
                          refine ⟨_, _, cap, by simp; rfl, rfl, hfit, .inr ⟨rfl, fun z' hz' => ?_⟩, fun c hc => by cases hc⟩
                          cases hz'
                          simp only [Nat.add_zero]; omega
                    · have rd : Rel E H w.drew := r.of_heap rfl
                      obtain ⟨vold, hro, hVo⟩ := first_sound (P := P) (sz := n) (k := len) (cs := (cs.drop off).take (len * n)) rd (by
                        simp only [firstA, hg]
                        by_cases h0 : len * n = 0
                        · simp [h0]
                        · rw [if_neg h0, if_pos ⟨hsz, Nat.le_refl _, hle⟩]) hs
                      obtain ⟨v, E', w', hrun, hV, hS⟩ := append_grows (ty := ty) r hat hu hn hz hb hzl hpos hok hm' hx (by omega) hsm hVo hol hro
                      refine ⟨v, E', w', hrun, hV, hS.weaken (fun x b hx => ?_) rfl⟩
                      rw [AHeap.get_push _ _ (by simp), AHeap.n_set, AHeap.get_kill] at hx
                      rw [AHeap.get_push _ _ (by simp)]
                      split at hx
                      · rename_i e; rw [if_pos e]; exact hx
                      · rename_i e; rw [if_neg e]
                        split at hx
                        · cases hx
                        · exact hx
                  · cases h
                · cases h
              · cases h
          · cases h
        · cases h
      · cases h
    · cases h
  · cases h
end
end Go.AM
