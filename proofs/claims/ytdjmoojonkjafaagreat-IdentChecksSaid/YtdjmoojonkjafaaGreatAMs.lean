/- The abstract machine, nineteenth part: arguments: what a row reads of them, as abstract values that are never written. -/
import Derived.Test.YtdjmoojonkjafaaGreatAMr
import GoSem.ClaimChange
import Derived.ChangeShapes
set_option linter.unusedSimpArgs false
set_option linter.unusedVariables false
namespace Go.AM
attribute [local simp] AHeap.n_set AHeap.n_push
section
variable {P : Program}

/-- the world's own blocks, and no handle -/
def envOf (w : World) : Env := ⟨fun _ => none, fun k => w.heap[k]?⟩

theorem rel_empty (w : World) : Rel (envOf w) AHeap.empty w where
  live := fun h b hg => by simp [AHeap.get, AHeap.empty, Tr.get] at hg
  inj := fun h h' b b' hb hb' hg => by simp [AHeap.get, AHeap.empty, Tr.get] at hg
  imm := fun k o h => h
  sep := fun h b hb hg => by simp [AHeap.get, AHeap.empty, Tr.get] at hg
  bound := fun h hh => absurd rfl hh

/-- rows side by side: of a structure's fields, from a place on -/
def TypFs (R : TypeId → List AV → Prop) (sz : TypeId → Nat) : List Field → Nat → List AV → Prop
  | [], _, cs => cs = []
  | f :: fs, o, cs => f.offset = o ∧ ∃ a b, cs = a ++ b ∧ a.length = sz f.type ∧ R f.type a ∧ TypFs R sz fs (o + sz f.type) b
/-- so many rows of so many cells -/
def TypRp (R : List AV → Prop) (n : Nat) : Nat → List AV → Prop
  | 0, cs => cs = []
  | k + 1, cs => ∃ a b, cs = a ++ b ∧ a.length = n ∧ R a ∧ TypRp R n k b

/-- a row of cells of a type of plain data -/
def TypRow (P : Program) : Nat → TypeId → List AV → Prop
  | 0, _, _ => False
  | d + 1, t, cs =>
    match P.underlying t with
    | some .bool => ∃ b, cs = [.bool b]
    | some (.int k) => ∃ n, cs = [.int k n] ∧ (Lit.int k n).wf = true
    | some .string => ∃ s : ByteArray, cs = [.str s] ∧ s.size ≤ maxLen
    | some (.slice e) => cs = [.nils] ∨ ∃ es len, cs = [.lit es len false] ∧ len ≤ maxLen ∧ TypRp (TypRow P d e) (P.cellsOf e) len es
    | some (.struct fs) => TypFs (TypRow P d) P.cellsOf fs.toList 0 cs
    | some (.array n e) => TypRp (TypRow P d e) (P.cellsOf e) n cs
    | _ => False

/-- a type of plain data; a check that the kernel makes -/
def plainFs (R : TypeId → Bool) (sz : TypeId → Nat) : List Field → Nat → Nat → Bool
  | [], o, n => o == n
  | f :: fs, o, n => f.offset == o && R f.type && plainFs R sz fs (o + sz f.type) n
def plainT (P : Program) : Nat → TypeId → Bool
  | 0, _ => false
  | d + 1, t =>
    match P.underlying t with
    | some .bool | some (.int _) | some .string => true
    | some (.slice e) => decide (0 < P.cellsOf e) && plainT P d e
    | some (.struct fs) => plainFs (plainT P d) P.cellsOf fs.toList 0 (P.cellsOf t)
    | some (.array n e) => decide (P.cellsOf t = n * P.cellsOf e) && plainT P d e
    | _ => false

variable {H : Type} {enc : TypeId × Value → H} {w : World} {spare : Nat → Bool} {held : Bool}

theorem mapM_mem {α β : Type} {f : α → Option β} : ∀ {l : List α} {r : List β}, l.mapM f = some r → ∀ x ∈ l, ∃ y, f x = some y
  | [], r, h, x, hx => by cases hx
  | a :: l, r, h, x, hx => by
    rw [List.mapM_cons] at h
    cases ha : f a with
    | none => rw [ha] at h; cases h
    | some y =>
      rw [ha] at h
      cases hl : l.mapM f with
      | none => rw [hl] at h; cases h
      | some ys =>
        rcases List.mem_cons.1 hx with rfl | hx
        · exact ⟨y, ha⟩
        · exact mapM_mem hl x hx

/-- cells that are read: the block, and what lies there -/
theorem cells_of {a : Addr} {n : Nat} {vs : List Value} (h : w.cells? 0 a n = some vs) (hn : 0 < n) : vs.length = n ∧ a.spot = none ∧ ∃ c T fz, w.heap[a.block]? = some (.cells c T fz) ∧ (c.toList.drop a.off).take n = vs := by
  unfold World.cells? at h
  rw [if_pos (Nat.zero_le _)] at h
  have hcell : ∀ (k : Nat) (m : Nat) (vs : List Value), (List.range' k m).mapM (fun i => w.cell? (a.add i)) = some vs → vs.length = m ∧ ∀ i, i < m → w.cell? (a.add (k + i)) = vs[i]? := by
    intro k m
    induction m generalizing k with
    | zero => intro vs h; simp at h; subst h; exact ⟨rfl, fun i hi => absurd hi (by omega)⟩
    | succ m ih =>
      intro vs h
      rw [List.range'_succ, List.mapM_cons] at h
      cases ha : w.cell? (a.add k) with
      | none => rw [ha] at h; cases h
      | some y =>
        rw [ha] at h
        cases hl : (List.range' (k + 1) m).mapM (fun i => w.cell? (a.add i)) with
        | none => simp [hl] at h
        | some ys =>
          simp [hl] at h
          subst h
          obtain ⟨h1, h2⟩ := ih (k + 1) ys hl
          refine ⟨by simp [h1], fun i hi => ?_⟩
          cases i with
          | zero => simpa using ha
          | succ i => have := h2 i (by omega); simpa [Nat.add_assoc, Nat.add_comm 1 i] using this
  rw [List.range_eq_range'] at h
  obtain ⟨hl, hc⟩ := hcell 0 n vs h
  have h0 := hc 0 hn
  have hv0 : ∃ v, vs[0]? = some v := ⟨vs[0], by simp [show 0 < vs.length by omega]⟩
  obtain ⟨v0, hv0⟩ := hv0
  rw [hv0] at h0
  rw [show 0 + 0 = 0 from rfl, show a.add 0 = a from rfl] at h0
  unfold World.cell? at h0
  split at h0
  case h_2 => cases h0
  rename_i c T fz hh
  split at h0
  · cases h0
  rename_i hs
  have hs' : a.spot = none := by cases e : a.spot <;> simp_all
  refine ⟨hl, hs', c, T, fz, hh, ?_⟩
  refine List.ext_getElem? fun i => ?_
  by_cases hi : i < n
  · have h1 := hc i hi
    rw [Nat.zero_add, Addr.add_eq hs'] at h1
    unfold World.cell? at h1
    simp only [hh] at h1
    rw [List.getElem?_take, if_pos hi, List.getElem?_drop]
    simpa using h1
  · rw [List.getElem?_take, if_neg hi]
    rw [List.getElem?_eq_none (by omega)]

theorem rp_of {E : Env} {R : List AV → Prop} {k : Nat} : ∀ (n : Nat) (cs : List Value), cs.length = n * k → (∀ i, i < n → ∃ avs, VL E avs ((cs.drop (i * k)).take k) ∧ R avs) → ∃ avs, VL E avs cs ∧ TypRp R k n avs
  | 0, cs, hl, _ => by
    have : cs = [] := by simpa using hl
    subst this
    exact ⟨[], by simp, rfl⟩
  | n + 1, cs, hl, h => by
    rw [Nat.succ_mul] at hl
    obtain ⟨a, ha, hR⟩ := h 0 (by omega)
    simp only [Nat.zero_mul, List.drop_zero] at ha
    obtain ⟨b, hb, hB⟩ := rp_of (E := E) (R := R) (k := k) n (cs.drop k) (by rw [List.length_drop]; omega) fun i hi => by
      have := h (i + 1) (by omega)
      rw [Nat.succ_mul, Nat.add_comm, ← List.drop_drop] at this
      exact this
    refine ⟨a ++ b, ?_, a, b, rfl, ?_, hR, hB⟩
    · have := ha.append hb
      rwa [List.take_append_drop] at this
    · rw [← ha.length, List.length_take]; omega

theorem plainFs_le {R : TypeId → Bool} {sz : TypeId → Nat} : ∀ {fs : List Field} {o n : Nat}, plainFs R sz fs o n = true → o ≤ n
  | [], o, n, h => by simp [plainFs] at h; omega
  | f :: fs, o, n, h => by
    simp only [plainFs, Bool.and_eq_true] at h
    have := plainFs_le h.2
    omega

theorem fs_of {E : Env} {R : TypeId → List AV → Prop} {R' : TypeId → Bool} {sz : TypeId → Nat} {n : Nat} : ∀ (fs : List Field) (o : Nat) (cs : List Value), plainFs R' sz fs o n = true → cs.length + o = n →
    (∀ f ∈ fs, R' f.type = true → ∃ avs, VL E avs ((cs.drop (f.offset - o)).take (sz f.type)) ∧ R f.type avs) → ∃ avs, VL E avs cs ∧ TypFs R sz fs o avs
  | [], o, cs, hp, hl, _ => by
    have : cs = [] := by
      simp [plainFs] at hp
      exact List.length_eq_zero_iff.1 (by omega)
    subst this
    exact ⟨[], by simp, rfl⟩
  | f :: fs, o, cs, hp, hl, h => by
    have hp' := hp
    simp only [plainFs, Bool.and_eq_true, beq_iff_eq] at hp
    obtain ⟨⟨ho, hr⟩, hp2⟩ := hp
    have hle := plainFs_le hp2
    obtain ⟨a, ha, hR⟩ := h f (List.mem_cons_self ..) hr
    rw [ho, Nat.sub_self, List.drop_zero] at ha
    have hge : ∀ (fs : List Field) (o n : Nat), plainFs R' sz fs o n = true → ∀ g ∈ fs, o ≤ g.offset := by
      intro fs
      induction fs with
      | nil => intro o n _ g hg; cases hg
      | cons f fs ih =>
        intro o n h g hg
        simp only [plainFs, Bool.and_eq_true, beq_iff_eq] at h
        rcases List.mem_cons.1 hg with rfl | hg
        · omega
        · have := ih _ _ h.2 g hg; omega
    obtain ⟨b, hb, hB⟩ := fs_of fs (o + sz f.type) (cs.drop (sz f.type)) hp2 (by rw [List.length_drop]; omega) fun g hg hg' => by
      obtain ⟨v, hv, hR⟩ := h g (List.mem_cons_of_mem _ hg) hg'
      refine ⟨v, ?_, hR⟩
      have := hge _ _ _ hp2 g hg
      rw [List.drop_drop, show sz f.type + (g.offset - (o + sz f.type)) = g.offset - o by omega]
      exact hv
    refine ⟨a ++ b, ?_, ho, a, b, rfl, ?_, hR, hB⟩
    · have := ha.append hb
      rwa [List.take_append_drop] at this
    · rw [← ha.length, List.length_take]; omega

theorem trod_row : ∀ (d : Nat) (t : TypeId) (fuel : Nat) (cs : List Value) (x : DataW H) (ps : List MemPlace), plainT P d t = true → DataW.trod enc P w 0 spare held fuel t cs = some (x, ps) →
    ∃ avs, VL (envOf w) avs cs ∧ TypRow P d t avs
  | 0, _, _, _, _, _, h, _ => by simp [plainT] at h
  | d + 1, t, 0, cs, x, ps, _, h => by simp [DataW.trod] at h
  | d + 1, t, fuel + 1, cs, x, ps, hp, h => by
    simp only [DataW.trod] at h
    simp only [plainT] at hp
    simp only [TypRow]
    split at h <;> (try (cases h; done)) <;> rename_i hu <;> (try simp only [hu] at hp ⊢) <;> (try (cases hp; done))
    · rename_i b; exact ⟨[.bool b], by simp, b, rfl⟩
    · split at h
      · rename_i hk
        obtain ⟨rfl, hw⟩ := hk
        rename_i n; exact ⟨[.int _ n], by simp, n, rfl, hw⟩
      · cases h
    · split at h
      · rename_i hs
        rename_i s; exact ⟨[.str s], by simp, s, rfl, hs⟩
      · cases h
    · exact ⟨[.nils], by simp, .inl rfl⟩
    · rename_i e a len cap
      simp only [Bool.and_eq_true, decide_eq_true_eq] at hp
      obtain ⟨hpos, hpe⟩ := hp
      split at h
      · rename_i hc
        obtain ⟨_, hlc, hcm⟩ := hc
        simp only [Option.bind_eq_some_iff] at h
        obtain ⟨elems, hel, _⟩ := h
        have hel' : ∀ i, i < len → ∃ vs avs, w.cells? 0 (a.add (i * P.cellsOf e)) (P.cellsOf e) = some vs ∧ VL (envOf w) avs vs ∧ TypRow P d e avs := by
          intro i hi
          obtain ⟨y, hy⟩ := mapM_mem hel i (by simpa using hi)
          simp only [Option.bind_eq_some_iff] at hy
          obtain ⟨vs, hvs, hy⟩ := hy
          obtain ⟨avs, h1, h2⟩ := trod_row d e fuel vs y.1 y.2 hpe hy
          exact ⟨vs, avs, hvs, h1, h2⟩
        by_cases hl : len = 0
        · subst hl
          refine ⟨[.lit [] 0 false], ?_, .inr ⟨[], 0, rfl, Nat.zero_le _, rfl⟩⟩
          rw [VL_cons_cons]
          refine ⟨?_, by simp⟩
          simp only [V]
          exact ⟨a, cap, rfl, hlc, by simp, .inl ⟨by first | trivial | rfl, by first | trivial | rfl⟩⟩
        · obtain ⟨vs0, _, hv0, _, _⟩ := hel' 0 (by omega)
          rw [Nat.zero_mul, show a.add 0 = a from rfl] at hv0
          obtain ⟨_, hs, c, T, fz, hh, _⟩ := cells_of hv0 hpos
          obtain ⟨es, hes, hT⟩ := rp_of (E := envOf w) (R := TypRow P d e) (k := P.cellsOf e) len ((c.toList.drop a.off).take (len * P.cellsOf e)) (by
              obtain ⟨vs1, _, hv1, _, _⟩ := hel' (len - 1) (by omega)
              obtain ⟨hl1, _, c1, T1, fz1, hh1, e1⟩ := cells_of hv1 hpos
              rw [Addr.add_eq hs] at hh1 e1
              simp only at hh1 e1
              rw [hh] at hh1; cases hh1
              have := congrArg List.length e1
              rw [hl1, List.length_take, List.length_drop] at this
              rw [List.length_take, List.length_drop]
              have e2 : len * P.cellsOf e = (len - 1) * P.cellsOf e + P.cellsOf e := by
                obtain ⟨m, rfl⟩ : ∃ m, len = m + 1 := ⟨len - 1, by omega⟩
                simp [Nat.succ_mul]
              omega) fun i hi => by
            obtain ⟨vs1, avs, hv1, h1, h2⟩ := hel' i hi
            obtain ⟨hl1, _, c1, T1, fz1, hh1, e1⟩ := cells_of hv1 hpos
            rw [Addr.add_eq hs] at hh1 e1
            simp only at hh1 e1
            rw [hh] at hh1; cases hh1
            refine ⟨avs, ?_, h2⟩
            have e2 : i * P.cellsOf e + P.cellsOf e ≤ len * P.cellsOf e := by
              rw [← Nat.succ_mul]; exact Nat.mul_le_mul_right _ hi
            rw [List.drop_take, List.drop_drop, List.take_take, Nat.min_eq_left (by omega), e1]
            exact h1
          refine ⟨[.lit es len false], ?_, .inr ⟨es, len, rfl, by omega, hT⟩⟩
          rw [VL_cons_cons]
          refine ⟨?_, by simp⟩
          simp only [V]
          refine ⟨a, cap, rfl, hlc, by simp, .inr ⟨hs, c, T, fz, hh, ?_⟩⟩
          have e3 : (c.toList.drop a.off).take es.length = (c.toList.drop a.off).take (len * P.cellsOf e) := by
            rw [← hes.length, List.length_take]
            exact List.take_eq_take_iff.2 (by omega)
          rw [e3]; exact hes
      · cases h
    · rename_i fs
      split at h
      · rename_i hl
        simp only [Option.map_eq_some_iff] at h
        obtain ⟨xs, hxs, _⟩ := h
        exact fs_of fs.toList 0 _ hp (by omega) fun f hf hpf => by
          obtain ⟨y, hy⟩ := mapM_mem hxs f hf
          obtain ⟨avs, h1, h2⟩ := trod_row d f.type fuel _ y.1 y.2 hpf hy
          exact ⟨avs, by simpa using h1, h2⟩
      · cases h
    · rename_i n e
      simp only [Bool.and_eq_true, decide_eq_true_eq] at hp
      split at h
      · rename_i hl
        simp only [Option.map_eq_some_iff] at h
        obtain ⟨xs, hxs, _⟩ := h
        exact rp_of n _ (by omega) fun i hi => by
          obtain ⟨y, hy⟩ := mapM_mem hxs i (by simpa using hi)
          exact trod_row d e fuel _ y.1 y.2 hp.2 hy
      · cases h
end
end Go.AM
