/- The abstract machine, fourteenth part: a region that draws its order is sound. -/
import Derived.Test.YtdjmoojonkjafaaGreatAMm
set_option linter.unusedSimpArgs false
set_option linter.unusedVariables false
namespace Go.AM
attribute [local simp] AHeap.n_set AHeap.n_push
section
variable {P : Program} {call : CallF} {ops : Array Oper} {n0 N : Nat} {tm : Tm} {H0 : AHeap}

def tmD (ops : Array Oper) (tm : Tm) (val : Nat → AV) (D : Nat → Bool) : Nat → Tm
  | 0 => tm
  | i + 1 => if D i = true then putT (tmD ops tm val D i) ((ops[i]?).bind (·.dst)) (val i) else tmD ops tm val D i

theorem Walk.tmD (W : Walk P call ops n0 tm H0) {val : Nat → AV} (hv : ∀ i o, ops[i]? = some o → Told P call ops n0 i (W.S i) (W.S (i + 1)) o (val i)) : ∀ i, i ≤ ops.size → (W.S i).tm = tmD ops tm val (fun _ => true) i
  | 0, _ => by rw [W.start]; rfl
  | i + 1, h => by
    have ho : ops[i]? = some ops[i] := Array.getElem?_eq_getElem (by omega)
    rw [(hv i _ ho).tm, W.tmD hv i (by omega)]
    simp [AM.tmD, ho]

theorem putT_get (tm : Tm) (d : Option Tmp) (v : AV) (t : Nat) : (putT tm d v).get t = if d = some t then some v else tm.get t := by
  cases d with
  | none => simp [putT]
  | some x =>
    simp only [putT, Tr.get_set, Option.some.injEq]
    by_cases e : t = x
    · simp [e]
    · rw [if_neg e, if_neg (fun e' => e e'.symm)]

/-- the operations that a set holds are closed under what is ahead -/
def Closed (ops : Array Oper) (D : Nat → Bool) : Prop := ∀ m o, ops[m]? = some o → D m = true → ∀ i, ((Region.before ops).getD m 0).testBit i = true → D i = true

theorem slots {val : Nat → AV} (d : DOk P ops) {D : Nat → Bool} (hc : Closed ops D) {k : Nat} {ok : Oper} (hk : ops[k]? = some ok) (hDk : D k = false) (hanc : ∀ i, ((Region.before ops).getD k 0).testBit i = true → D i = true) {t : Nat} (ht : t ∈ ok.looksAt ops) :
    (tmD ops tm val D ops.size).get t = (tmD ops tm val (fun _ => true) k).get t := by
  have hkn := (Array.getElem?_eq_some_iff.1 hk).1
  have low : ∀ i, i ≤ k → (tmD ops tm val D i).get t = (tmD ops tm val (fun _ => true) i).get t := by
    intro i
    induction i with
    | zero => intro _; rfl
    | succ i ih =>
      intro hi
      have hoi : ops[i]? = some ops[i] := Array.getElem?_eq_getElem (by omega)
      simp only [tmD, hoi, Option.bind_some, if_true]
      by_cases hD : D i = true
      · rw [if_pos hD, putT_get, putT_get, ih (by omega)]
      · rw [if_neg hD, putT_get, ih (by omega)]
        rw [if_neg]
        intro hd
        rcases d.pair i k _ _ (by omega) hoi hk with h | ⟨h, _⟩
        · exact hD (hanc i h)
        · exact (Oper.apart_spec h).1 t hd ht
  have high : ∀ j, k + j ≤ ops.size → (tmD ops tm val D (k + j)).get t = (tmD ops tm val D k).get t := by
    intro j
    induction j with
    | zero => intro _; rfl
    | succ j ih =>
      intro hj
      have hoi : ops[k + j]? = some ops[k + j] := Array.getElem?_eq_getElem (by omega)
      rw [← Nat.add_assoc]
      simp only [tmD, hoi, Option.bind_some]
      by_cases hD : D (k + j) = true
      · rw [if_pos hD, putT_get, ih (by omega), if_neg]
        intro hd
        have hne : k + j ≠ k := fun e => by rw [e, hDk] at hD; cases hD
        rcases d.pair k (k + j) _ _ (by omega) hk hoi with h | ⟨h, _⟩
        · have := hc (k + j) _ hoi hD k h
          rw [hDk] at this; cases this
        · exact (Oper.apart_spec h).2.2 t hd ht
      · rw [if_neg hD]; exact ih (by omega)
  have := high (ops.size - k) (by omega)
  rw [show k + (ops.size - k) = ops.size by omega] at this
  rw [this, low k (Nat.le_refl _)]

theorem tmD_set {val : Nat → AV} (d : DOk P ops) {D D' : Nat → Bool} (hc : Closed ops D) {k : Nat} {ok : Oper} (hk : ops[k]? = some ok) (hDk : D k = false) (hD' : ∀ i, D' i = if i = k then true else D i) (t : Nat) :
    (tmD ops tm val D' ops.size).get t = (putT (tmD ops tm val D ops.size) ok.dst (val k)).get t := by
  have hkn := (Array.getElem?_eq_some_iff.1 hk).1
  have low : ∀ i, i ≤ k → tmD ops tm val D' i = tmD ops tm val D i := by
    intro i
    induction i with
    | zero => intro _; rfl
    | succ i ih =>
      intro hi
      simp only [tmD, ih (by omega)]
      rw [hD' i, if_neg (show ¬ i = k by omega)]
  have high : ∀ j, k + 1 + j ≤ ops.size → (tmD ops tm val D' (k + 1 + j)).get t = (putT (tmD ops tm val D (k + 1 + j)) ok.dst (val k)).get t := by
    intro j
    induction j with
    | zero =>
      intro _
      simp only [Nat.add_zero, tmD, hk, Option.bind_some]
      rw [hD' k, if_pos rfl, if_pos rfl, hDk, if_neg (by simp), low k (Nat.le_refl _)]
    | succ j ih =>
      intro hj
      have hoi : ops[k + 1 + j]? = some ops[k + 1 + j] := Array.getElem?_eq_getElem (by omega)
      rw [← Nat.add_assoc]
      simp only [tmD, hoi, Option.bind_some]
      rw [hD' (k + 1 + j), if_neg (show ¬ k + 1 + j = k by omega)]
      by_cases hD : D (k + 1 + j) = true
      · rw [if_pos hD, if_pos hD, putT_get, ih (by omega), putT_get, putT_get, putT_get]
        by_cases e1 : ops[k + 1 + j].dst = some t
        · by_cases e2 : ok.dst = some t
          · exfalso
            rcases d.pair k (k + 1 + j) _ _ (by omega) hk hoi with h | ⟨h, _⟩
            · have := hc (k + 1 + j) _ hoi hD k h
              rw [hDk] at this; cases this
            · exact (Oper.apart_spec h).2.1 t e2 e1
          · rw [if_pos e1, if_neg e2, if_pos e1]
        · rw [if_neg e1, if_neg e1]
      · rw [if_neg hD, if_neg hD]; exact ih (by omega)
  have := high (ops.size - (k + 1)) (by omega)
  rwa [show k + 1 + (ops.size - (k + 1)) = ops.size by omega] at this

theorem TmR.congr {E : Env} {tm tm' : Tm} {tmps : Array Value} (h : TmR E N tm tmps) (e : ∀ t, tm'.get t = tm.get t) : TmR E N tm' tmps := ⟨h.size, fun t v hv => h.get t v (by rw [← e]; exact hv)⟩

theorem want_congr {tm tm' : Tm} {o : Oper} (h : ∀ t ∈ o.looksAt ops, tm.get t = tm'.get t) : wantA ops tm o = wantA ops tm' o := by
  unfold wantA
  cases hg : o.guard with
  | none => rfl
  | some p =>
    obtain ⟨j, want⟩ := p
    simp only
    cases hd : (ops[j]?).bind (·.dst) with
    | none => rfl
    | some x =>
      simp only
      rw [h x (by simp [Oper.looksAt, hg, hd])]

theorem ev_congr {tm tm' : Tm} {o : Oper} (h : ∀ t ∈ o.looksAt ops, tm.get t = tm'.get t) : ∀ x ∈ o.op.operands, evA tm x = evA tm' x := by
  intro x hx
  cases x with
  | tmp t =>
    refine h t ?_
    simp only [Oper.looksAt, List.mem_append, List.mem_filterMap]
    exact .inl ⟨.tmp t, by simpa using hx, rfl⟩
  | const v => rfl
  | global g => rfl
  | func f => rfl

/-- how many effects a set holds -/
def cnt (P : Program) (ops : Array Oper) (D : Nat → Bool) : Nat := (List.range ops.size).countP fun e => isEff P ops e && D e

theorem cnt_eff (d : DOk P ops) {D : Nat → Bool} (hc : Closed ops D) {k : Nat} {ok : Oper} (hk : ops[k]? = some ok) (hDk : D k = false) (hanc : ∀ i, ((Region.before ops).getD k 0).testBit i = true → D i = true) (he : isEff P ops k = true) : cnt P ops D = rk P ops k := by
  have hkn := (Array.getElem?_eq_some_iff.1 hk).1
  have hkk : kindA P ok.op = .eff := by simpa [isEff, hk] using he
  unfold cnt rk
  rw [List.range_eq_range', List.range_eq_range', show ops.size = k + (ops.size - k) by omega, ← List.range'_append_1, List.countP_append]
  have h1 : (List.range' 0 k).countP (fun e => isEff P ops e && D e) = (List.range' 0 k).countP (isEff P ops) := by
    refine List.countP_congr fun e he' => ?_
    have hlt : e < k := by simpa using (List.mem_range'_1.1 he').2
    have hoe : ops[e]? = some ops[e] := Array.getElem?_eq_getElem (by omega)
    by_cases h : isEff P ops e = true
    · have hek : kindA P ops[e].op = .eff := by simpa [isEff, hoe] using h
      rcases d.pair e k _ _ hlt hoe hk with h' | ⟨_, h'⟩
      · simp [h, hanc e h']
      · exact absurd ⟨hek, hkk⟩ h'
    · simp [h]
  have h2 : (List.range' (0 + k) (ops.size - k)).countP (fun e => isEff P ops e && D e) = 0 := by
    rw [List.countP_eq_zero]
    intro e he'
    have hr := List.mem_range'_1.1 he'
    have hoe : ops[e]? = some ops[e] := Array.getElem?_eq_getElem (by omega)
    intro h
    simp only [Bool.and_eq_true] at h
    have hne : e ≠ k := fun e' => by rw [e', hDk] at h; cases h.2
    have hek : kindA P ops[e].op = .eff := by simpa [isEff, hoe] using h.1
    rcases d.pair k e _ _ (by omega) hk hoe with h' | ⟨_, h'⟩
    · have := hc e _ hoe h.2 k h'
      rw [hDk] at this; cases this
    · exact h' ⟨hkk, hek⟩
  rw [h1, h2, Nat.add_zero]

theorem cnt_set {D D' : Nat → Bool} {k : Nat} (hkn : k < ops.size) (hDk : D k = false) (hD' : ∀ i, D' i = if i = k then true else D i) : cnt P ops D' = cnt P ops D + if isEff P ops k = true then 1 else 0 := by
  unfold cnt
  have : ∀ n, (List.range n).countP (fun e => isEff P ops e && D' e) = (List.range n).countP (fun e => isEff P ops e && D e) + if k < n ∧ isEff P ops k = true then 1 else 0 := by
    intro n
    induction n with
    | zero => simp
    | succ n ih =>
      rw [List.range_succ, List.countP_append, List.countP_append, ih]
      simp only [List.countP_singleton]
      by_cases e : n = k
      · subst e
        rw [hD' n, if_pos rfl, hDk]
        by_cases h : isEff P ops n = true
        · simp [h]
        · simp [h]
      · rw [hD' n, if_neg e]
        have : (k < n + 1 ∧ isEff P ops k = true) ↔ (k < n ∧ isEff P ops k = true) := by
          constructor
          · rintro ⟨a, b⟩; exact ⟨by omega, b⟩
          · rintro ⟨a, b⟩; exact ⟨by omega, b⟩
        by_cases h : k < n ∧ isEff P ops k = true
        · rw [if_pos h, if_pos (this.2 h)]; omega
        · rw [if_neg h, if_neg (fun q => h (this.1 q))]; omega
  rw [this]
  by_cases h : isEff P ops k = true
  · rw [if_pos ⟨hkn, h⟩, if_pos h]
  · rw [if_neg (fun a => h a.2), if_neg h]

theorem cnt_full {D : Nat → Bool} (h : ∀ i, i < ops.size → D i = true) : cnt P ops D = rk P ops ops.size := by
  unfold cnt rk
  refine List.countP_congr fun e he => ?_
  simp [h e (by simpa using he)]

theorem cnt_none : cnt P ops (fun _ => false) = 0 := by
  unfold cnt
  rw [List.countP_eq_zero]
  intro e _ h
  simp at h

/-- the heap that a set of operations has laid -/
def heapD (W : Walk P call ops n0 tm H0) (D : Nat → Bool) : AHeap := commitP n0 (fun i => D i && !(W.c (cnt P ops D)).testBit i) (W.S ops.size).news (W.M (cnt P ops D))

theorem heapD_get (W : Walk P call ops n0 tm H0) (D : Nat → Bool) (x : Nat) : (heapD W D).get x = if n0 ≤ x ∧ (D (x - n0) && !(W.c (cnt P ops D)).testBit (x - n0)) = true then (match lkN (W.S ops.size).news (x - n0) with | some b => some b | none => (W.M (cnt P ops D)).get x) else (W.M (cnt P ops D)).get x := by
  obtain ⟨h1, h2⟩ := W.news ops.size (Nat.le_refl _)
  exact commitP_get _ _ _ (fun q hq => (h1 q hq).2) h2

/-- what holds in the midst of a region -/
structure Mid (W : Walk P call ops n0 tm H0) (val : Nat → AV) (N : Nat) (E : Env) (H : AHeap) (w₀ : World) (D : Nat → Bool) (E' : Env) (a : Act) (w : World) : Prop where
  tm : TmR E' N (tmD ops tm val D ops.size) a.tmps
  defers : a.defers = []
  sim : Sim E H w₀ E' (heapD W D) w
  free : ∀ i, i < ops.size → D i = false → E'.β (n0 + i) = none
  closed : Closed ops D
  dead : ∀ i, i < ops.size → (W.c (cnt P ops D)).testBit i = false → (W.M (cnt P ops D)).get (n0 + i) = none
  com : ∀ i, (W.c (cnt P ops D)).testBit i = true → D i = true
  big : n0 + ops.size ≤ (W.M (cnt P ops D)).n

theorem mem_news_lk {news : List (Nat × ABlk)} (hn : (news.map (·.1)).Nodup) {i : Nat} {b : ABlk} (h : (i, b) ∈ news) : lkN news i = some b := by
  induction news with
  | nil => simp at h
  | cons q r ih =>
    obtain ⟨j, c⟩ := q
    simp only [List.map_cons, List.nodup_cons] at hn
    simp only [lkN]
    rcases List.mem_cons.1 h with e | h
    · cases e; rw [if_pos rfl]
    · have : j ≠ i := fun e => hn.1 (by rw [e]; exact List.mem_map.2 ⟨_, h, rfl⟩)
      rw [if_neg this]
      exact ih hn.2 h

theorem lk_mem_news {news : List (Nat × ABlk)} {i : Nat} {b : ABlk} (h : lkN news i = some b) : (i, b) ∈ news := by
  induction news with
  | nil => simp [lkN] at h
  | cons q r ih =>
    obtain ⟨j, c⟩ := q
    simp only [lkN] at h
    split at h
    · rename_i e; cases h; subst e; exact List.mem_cons_self ..
    · exact List.mem_cons_of_mem _ (ih h)

/-- only an operation that makes memory has laid a block of its number -/
theorem Walk.news_kind (W : Walk P call ops n0 tm H0) {val : Nat → AV} (hv : ∀ i o, ops[i]? = some o → Told P call ops n0 i (W.S i) (W.S (i + 1)) o (val i)) : ∀ n, n ≤ ops.size → ∀ i b, (i, b) ∈ (W.S n).news → ∃ o f, ops[i]? = some o ∧ wantA ops (W.S i).tm o = some true ∧ kindA P o.op = .new ∧ newA P (evA (W.S i).tm) o.op = some (b, f) ∧ val i = f (n0 + i)
  | 0, _, i, b, h => by rw [W.start] at h; simp at h
  | n + 1, hn, i, b, h => by
    have ho : ops[n]? = some ops[n] := Array.getElem?_eq_getElem (by omega)
    have ht := hv n _ ho
    have ih := W.news_kind hv n (by omega)
    by_cases he : isEff P ops n = true
    · rw [(ht.eff he).2.2.1] at h; exact ih i b h
    · rcases (ht.still (by simpa using he)).2.2.2 with q | q | q | q
      · rw [q.2.2.2.1] at h; exact ih i b h
      · rw [q.2.2.2] at h; exact ih i b h
      · obtain ⟨hw, hk, ⟨b', f, hb, hvf, e⟩, _⟩ := q
        rw [e] at h
        rcases List.mem_append.1 h with h | h
        · exact ih i b h
        · simp only [List.mem_singleton, Prod.mk.injEq] at h
          obtain ⟨rfl, rfl⟩ := h
          exact ⟨_, f, ho, hw, hk, hb, hvf⟩
      · rw [q.2.2.1] at h; exact ih i b h

/-- and every wanted one of them has -/
theorem Walk.news_of (W : Walk P call ops n0 tm H0) {i : Nat} {b : ABlk} (hi : i < ops.size) (h : (W.S (i + 1)).news = (W.S i).news ++ [(i, b)]) : lkN (W.S ops.size).news i = some b := by
  obtain ⟨l, e, _⟩ := W.news_le (i + 1) (by omega)
  refine mem_news_lk (W.news ops.size (Nat.le_refl _)).2 ?_
  rw [e, h]; simp

theorem Walk.rds_mem (W : Walk P call ops n0 tm H0) {val : Nat → AV} (hv : ∀ i o, ops[i]? = some o → Told P call ops n0 i (W.S i) (W.S (i + 1)) o (val i)) {i : Nat} {r : Nat × Rd × AV} (hi : i ≤ ops.size) (h : r ∈ (W.S i).rds) : r ∈ (W.S ops.size).rds := by
  have : ∀ k, i + k ≤ ops.size → r ∈ (W.S (i + k)).rds := by
    intro k
    induction k with
    | zero => intro _; exact h
    | succ k ih =>
      intro hk
      have ho : ops[i + k]? = some ops[i + k] := Array.getElem?_eq_getElem (by omega)
      have ht := hv (i + k) _ ho
      have hm := ih (by omega)
      rw [← Nat.add_assoc]
      by_cases he : isEff P ops (i + k) = true
      · rw [(ht.eff he).2.2.2.1]; exact hm
      · rcases (ht.still (by simpa using he)).2.2.2 with q | q | q | q
        · rw [q.2.2.2.2]; exact hm
        · obtain ⟨rd, _, e⟩ := q.2.2.1; rw [e]; exact List.mem_cons_of_mem _ hm
        · rw [q.2.2.2]; exact hm
        · rw [q.2.2.2]; exact hm
  have := this (ops.size - i) (by omega)
  rwa [show i + (ops.size - i) = ops.size by omega] at this
end
end Go.AM
