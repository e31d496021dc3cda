/- The abstract machine, thirteenth part: a region that draws its order comes to what its text comes to, whatever the order. -/
import Derived.Test.YtdjmoojonkjafaaGreatAMl
set_option linter.unusedSimpArgs false
set_option linter.unusedVariables false
namespace Go.AM
attribute [local simp] AHeap.n_set AHeap.n_push

theorem testBit_fold (bef : Array Nat) (i : Nat) : ∀ (l : List Edge) (s : Nat), (l.foldl (fun s e => if Region.binds .any e then s ||| 2 ^ e.on ||| bef.getD e.on 0 else s) s).testBit i = true →
    s.testBit i = true ∨ ∃ e ∈ l, Region.binds .any e = true ∧ (i = e.on ∨ (bef.getD e.on 0).testBit i = true)
  | [], s, h => .inl h
  | e :: l, s, h => by
    rw [List.foldl_cons] at h
    rcases testBit_fold bef i l _ h with h | ⟨e', he, hb, h⟩
    · split at h
      · rename_i hb
        simp only [Nat.testBit_or, Bool.or_eq_true] at h
        rcases h with (h | h) | h
        · exact .inl h
        · refine .inr ⟨e, List.mem_cons_self .., hb, .inl ?_⟩
          rw [Nat.testBit_two_pow] at h
          simpa using (of_decide_eq_true h).symm
        · exact .inr ⟨e, List.mem_cons_self .., hb, .inr h⟩
      · exact .inl h
    · exact .inr ⟨e', List.mem_cons_of_mem _ he, hb, h⟩

section
variable {P : Program} {call : CallF} {ops : Array Oper}

def isEff (P : Program) (ops : Array Oper) (e : Nat) : Bool := match ops[e]? with | some o => kindA P o.op == .eff | none => false

theorem newA_dead {ρ : Operand → Option AV} {o : Op} {b : ABlk} {f : Nat → AV} (h : newA P ρ o = some (b, f)) : b ≠ .dead := by
  intro e
  subst e
  cases o <;> simp only [newA] at h <;> (try (cases h; done))
  all_goals (repeat' (first | (cases h; done) | split at h))

/-- what 'drawOk' says -/
structure DOk (P : Program) (ops : Array Oper) : Prop where
  edge : ∀ j o, ops[j]? = some o → ∀ e ∈ o.after, Region.binds .any e = true → e.on < j
  anc : ∀ j o i, ops[j]? = some o → ((Region.before ops).getD j 0).testBit i = true → ∃ e ∈ o.after, Region.binds .any e = true ∧ (i = e.on ∨ ((Region.before ops).getD e.on 0).testBit i = true)
  guard : ∀ j o g b, ops[j]? = some o → o.guard = some (g, b) → g < j ∧ ((Region.before ops).getD j 0).testBit g = true
  sel : ∀ (j : Nat) (o : Oper) (cs : Array SelectCase) (b : Bool), ops[j]? = some o → o.op ≠ .select cs b
  pair : ∀ i j oi oj, i < j → ops[i]? = some oi → ops[j]? = some oj → ((Region.before ops).getD j 0).testBit i = true ∨ (oi.apart ops oj = true ∧ ¬ (kindA P oi.op = .eff ∧ kindA P oj.op = .eff))

theorem dOk_of (h : drawOk P ops = true) : DOk P ops := by
  unfold drawOk at h
  simp only [List.all_eq_true, List.mem_range] at h
  have key : ∀ j o, ops[j]? = some o → _ := fun j o ho => h j (Array.getElem?_eq_some_iff.1 ho).1
  refine ⟨fun j o ho e he hb => ?_, fun j o i ho ht => ?_, fun j o g b ho hg => ?_, fun j o cs b ho hs => ?_, fun i j oi oj hij hi hj => ?_⟩
  · have := key j o ho
    rw [ho] at this
    simp only [Bool.and_eq_true, List.all_eq_true] at this
    have := this.1.1.1.1 e (by simpa using he)
    simpa [hb] using this
  · have := key j o ho
    rw [ho] at this
    simp only [Bool.and_eq_true, beq_iff_eq] at this
    rw [this.1.1.1.2] at ht
    rcases testBit_fold _ i _ 0 ht with h | ⟨e, he, hb, h⟩
    · simp at h
    · exact ⟨e, by simpa using he, hb, h⟩
  · have := key j o ho
    rw [ho] at this
    simp only [Bool.and_eq_true, hg, decide_eq_true_eq] at this
    exact this.1.1.2
  · have := key j o ho
    rw [ho] at this
    simp only [Bool.and_eq_true, hs] at this
    simp at this
  · have := key j oj hj
    rw [hj] at this
    simp only [Bool.and_eq_true, List.all_eq_true, List.mem_range, Bool.or_eq_true] at this
    have := this.2 i hij
    rw [hi] at this
    simp only [Bool.and_eq_true, Bool.not_eq_true', Bool.and_eq_false_iff, beq_eq_false_iff_ne] at this
    rcases this with h | ⟨h1, h2⟩
    · exact .inl h
    · exact .inr ⟨h1, fun ⟨a, b⟩ => by rcases h2 with h2 | h2 <;> exact h2 (by assumption)⟩

theorem DOk.anc_lt (d : DOk P ops) : ∀ (j : Nat) (o : Oper) (i : Nat), ops[j]? = some o → ((Region.before ops).getD j 0).testBit i = true → i < j := by
  intro j
  induction j using Nat.strongRecOn with
  | _ j ih =>
    intro o i ho ht
    obtain ⟨e, he, hb, h⟩ := d.anc j o i ho ht
    have hlt := d.edge j o ho e he hb
    rcases h with rfl | h
    · exact hlt
    · have hsz : e.on < ops.size := by have := (Array.getElem?_eq_some_iff.1 ho).1; omega
      have := ih e.on hlt ops[e.on] i (Array.getElem?_eq_getElem hsz) h
      omega

/-- the walk of the text -/
structure Walk (P : Program) (call : CallF) (ops : Array Oper) (n0 : Nat) (tm : Tm) (H0 : AHeap) where
  S : Nat → DS
  step : ∀ i, i < ops.size → dstep P call ops (Region.before ops) n0 i (S i) = some (S (i + 1))
  start : S 0 = { tm := tm, H := H0, cm := 0, news := [], hist := [(H0, 0)], rds := [] }

def rk (P : Program) (ops : Array Oper) (i : Nat) : Nat := (List.range i).countP (isEff P ops)

theorem rk_succ (i : Nat) : rk P ops (i + 1) = rk P ops i + if isEff P ops i = true then 1 else 0 := by
  simp only [rk, List.range_succ, List.countP_append, List.countP_singleton]

/-- a step of the text's walk, told -/
structure Told (P : Program) (call : CallF) (ops : Array Oper) (n0 i : Nat) (s s' : DS) (o : Oper) (v : AV) : Prop where
  tm : s'.tm = putT s.tm o.dst v
  eff : isEff P ops i = true → s'.cm = s.cm ||| (Region.before ops).getD i 0 ∧ s'.hist = s.hist ++ [(s'.H, s'.cm)] ∧ s'.news = s.news ∧ s'.rds = s.rds ∧
    ((wantA ops s.tm o = some true ∧ effA P call (evA s.tm) (commitA n0 s.cm ((Region.before ops).getD i 0) s.news s.H) o.op = some (v, s'.H)) ∨
     (wantA ops s.tm o = some false ∧ v = undefA ∧ s'.H = commitA n0 s.cm ((Region.before ops).getD i 0) s.news s.H))
  still : isEff P ops i = false → s'.H = s.H ∧ s'.cm = s.cm ∧ s'.hist = s.hist ∧
    ((wantA ops s.tm o = some true ∧ kindA P o.op = .pure ∧ pureA P (evA s.tm) o.op = some v ∧ s'.news = s.news ∧ s'.rds = s.rds) ∨
     (wantA ops s.tm o = some true ∧ kindA P o.op = .read ∧ (∃ rd, rdA P (evA s.tm) o.op = some rd ∧ s'.rds = (i, rd, v) :: s.rds) ∧ s'.news = s.news) ∨
     (wantA ops s.tm o = some true ∧ kindA P o.op = .new ∧ (∃ b f, newA P (evA s.tm) o.op = some (b, f) ∧ v = f (n0 + i) ∧ s'.news = s.news ++ [(i, b)]) ∧ s'.rds = s.rds) ∨
     (wantA ops s.tm o = some false ∧ v = undefA ∧ s'.news = s.news ∧ s'.rds = s.rds))

theorem told_of {n0 i : Nat} {s s' : DS} {o : Oper} (ho : ops[i]? = some o) (h : dstep P call ops (Region.before ops) n0 i s = some s') : ∃ v, Told P call ops n0 i s s' o v := by
  unfold dstep at h
  rw [ho] at h
  simp only at h
  have hE : isEff P ops i = (kindA P o.op == .eff) := by simp [isEff, ho]
  split at h
  · cases h
  · rename_i hw
    split at h
    · rename_i hk
      simp only [Option.map_eq_some_iff] at h
      obtain ⟨v, hv, rfl⟩ := h
      exact ⟨v, rfl, (fun e => by rw [hE, hk] at e; cases e), fun _ => ⟨rfl, rfl, rfl, .inl ⟨hw, hk, hv, rfl, rfl⟩⟩⟩
    · rename_i hk
      simp only [Option.bind_eq_some_iff, Option.map_eq_some_iff] at h
      obtain ⟨rd, hrd, v, hv, rfl⟩ := h
      exact ⟨v, rfl, (fun e => by rw [hE, hk] at e; cases e), fun _ => ⟨rfl, rfl, rfl, .inr (.inl ⟨hw, hk, ⟨rd, hrd, rfl⟩, rfl⟩)⟩⟩
    · rename_i hk
      simp only [Option.map_eq_some_iff] at h
      obtain ⟨⟨b, f⟩, hb, rfl⟩ := h
      exact ⟨_, rfl, (fun e => by rw [hE, hk] at e; cases e), fun _ => ⟨rfl, rfl, rfl, .inr (.inr (.inl ⟨hw, hk, ⟨b, f, hb, rfl, rfl⟩, rfl⟩))⟩⟩
    · rename_i hk
      simp only [Option.map_eq_some_iff] at h
      obtain ⟨⟨v, H'⟩, hv, rfl⟩ := h
      exact ⟨v, rfl, fun _ => ⟨rfl, rfl, rfl, rfl, .inl ⟨hw, hv⟩⟩, (fun e => by rw [hE, hk] at e; cases e)⟩
  · rename_i hw
    split at h
    · rename_i hk
      cases h
      exact ⟨undefA, rfl, fun _ => ⟨rfl, rfl, rfl, rfl, .inr ⟨hw, rfl, rfl⟩⟩, (fun e => by rw [hE, hk] at e; cases e)⟩
    · rename_i hk
      cases h
      refine ⟨undefA, rfl, fun e => ?_, fun _ => ⟨rfl, rfl, rfl, .inr (.inr (.inr ⟨hw, rfl, rfl, rfl⟩))⟩⟩
      rw [hE] at e
      exact absurd (by simpa using e) hk

variable {n0 : Nat} {tm : Tm} {H0 : AHeap}

theorem Walk.told (W : Walk P call ops n0 tm H0) : ∃ val : Nat → AV, ∀ i o, ops[i]? = some o → Told P call ops n0 i (W.S i) (W.S (i + 1)) o (val i) := by
  have : ∀ i, ∃ v, ∀ o, ops[i]? = some o → Told P call ops n0 i (W.S i) (W.S (i + 1)) o v := by
    intro i
    cases h : ops[i]? with
    | none => exact ⟨undefA, fun o ho => by cases ho⟩
    | some o =>
      obtain ⟨v, hv⟩ := told_of h (W.step i (Array.getElem?_eq_some_iff.1 h).1)
      exact ⟨v, fun o' ho => by cases ho; exact hv⟩
  exact ⟨fun i => Classical.choose (this i), fun i => Classical.choose_spec (this i)⟩

theorem Walk.hist (W : Walk P call ops n0 tm H0) : ∀ i, i ≤ ops.size → (W.S i).hist.length = rk P ops i + 1 ∧ (W.S i).hist[rk P ops i]? = some ((W.S i).H, (W.S i).cm) := by
  obtain ⟨val, hv⟩ := W.told
  intro i
  induction i with
  | zero => intro _; rw [W.start]; exact ⟨rfl, rfl⟩
  | succ i ih =>
    intro hi
    obtain ⟨h1, h2⟩ := ih (by omega)
    have ht := hv i ops[i] (Array.getElem?_eq_getElem (by omega))
    rw [rk_succ]
    by_cases he : isEff P ops i = true
    · obtain ⟨_, e2, _⟩ := ht.eff he
      rw [if_pos he, e2]
      exact ⟨by simp [h1], by rw [List.getElem?_append_right (by omega)]; simp [h1]⟩
    · obtain ⟨e1, e2, e3, _⟩ := ht.still (by simpa using he)
      rw [if_neg he, e3, e1, e2]
      exact ⟨h1, h2⟩

theorem Walk.hist_le (W : Walk P call ops n0 tm H0) : ∀ i, i ≤ ops.size → ∀ j, j ≤ rk P ops i → (W.S ops.size).hist[j]? = (W.S i).hist[j]? := by
  obtain ⟨val, hv⟩ := W.told
  have step : ∀ i, i < ops.size → ∀ j, j ≤ rk P ops i → (W.S (i + 1)).hist[j]? = (W.S i).hist[j]? := by
    intro i hi j hj
    have ht := hv i ops[i] (Array.getElem?_eq_getElem hi)
    have := (W.hist i (by omega)).1
    by_cases he : isEff P ops i = true
    · rw [(ht.eff he).2.1, List.getElem?_append_left (by omega)]
    · rw [(ht.still (by simpa using he)).2.2.1]
  intro i hi j hj
  have : ∀ k, i + k ≤ ops.size → (W.S (i + k)).hist[j]? = (W.S i).hist[j]? := by
    intro k
    induction k with
    | zero => intro _; rfl
    | succ k ih =>
      intro hk
      have hm : rk P ops i ≤ rk P ops (i + k) := by
        clear ih hk
        induction k with
        | zero => exact Nat.le_refl _
        | succ k ih => rw [← Nat.add_assoc, rk_succ]; omega
      rw [← Nat.add_assoc, step (i + k) (by omega) j (by omega)]
      exact ih (by omega)
  have := this (ops.size - i) (by omega)
  rwa [show i + (ops.size - i) = ops.size by omega] at this

/-- the heap, and what is committed, behind so many effects -/
def Walk.M (W : Walk P call ops n0 tm H0) (j : Nat) : AHeap := (((W.S ops.size).hist[j]?).getD (AHeap.empty, 0)).1
def Walk.c (W : Walk P call ops n0 tm H0) (j : Nat) : Nat := (((W.S ops.size).hist[j]?).getD (AHeap.empty, 0)).2

theorem Walk.at_rk (W : Walk P call ops n0 tm H0) {i : Nat} (hi : i ≤ ops.size) : W.M (rk P ops i) = (W.S i).H ∧ W.c (rk P ops i) = (W.S i).cm := by
  have := W.hist_le i hi (rk P ops i) (Nat.le_refl _)
  rw [(W.hist i hi).2] at this
  simp [Walk.M, Walk.c, this]

theorem Walk.news (W : Walk P call ops n0 tm H0) : ∀ i, i ≤ ops.size → (∀ q ∈ (W.S i).news, q.1 < i ∧ q.2 ≠ .dead) ∧ ((W.S i).news.map (·.1)).Nodup := by
  obtain ⟨val, hv⟩ := W.told
  intro i
  induction i with
  | zero => intro _; rw [W.start]; exact ⟨fun q hq => by simp at hq, by simp⟩
  | succ i ih =>
    intro hi
    obtain ⟨h1, h2⟩ := ih (by omega)
    have ht := hv i ops[i] (Array.getElem?_eq_getElem (by omega))
    have same : (W.S (i + 1)).news = (W.S i).news → (∀ q ∈ (W.S (i + 1)).news, q.1 < i + 1 ∧ q.2 ≠ .dead) ∧ ((W.S (i + 1)).news.map (·.1)).Nodup := by
      intro e; rw [e]; exact ⟨fun q hq => ⟨by have := (h1 q hq).1; omega, (h1 q hq).2⟩, h2⟩
    by_cases he : isEff P ops i = true
    · exact same (ht.eff he).2.2.1
    · rcases (ht.still (by simpa using he)).2.2.2 with h | h | h | h
      · exact same h.2.2.2.1
      · exact same h.2.2.2
      · obtain ⟨_, _, ⟨b, f, hb, _, e⟩, _⟩ := h
        rw [e]
        refine ⟨fun q hq => ?_, ?_⟩
        · rcases List.mem_append.1 hq with hq | hq
          · exact ⟨by have := (h1 q hq).1; omega, (h1 q hq).2⟩
          · simp only [List.mem_singleton] at hq; subst hq
            exact ⟨by simp, newA_dead hb⟩
        · rw [List.map_append, List.nodup_append]
          refine ⟨h2, by simp, fun x hx y hy e => ?_⟩
          simp only [List.map_cons, List.map_nil, List.mem_singleton] at hy
          obtain ⟨q, hq, rfl⟩ := List.mem_map.1 hx
          have := (h1 q hq).1
          omega
      · exact same h.2.2.1

theorem Walk.news_le (W : Walk P call ops n0 tm H0) : ∀ i, i ≤ ops.size → ∃ l, (W.S ops.size).news = (W.S i).news ++ l ∧ ∀ q ∈ l, i ≤ q.1 := by
  obtain ⟨val, hv⟩ := W.told
  have step : ∀ i, i < ops.size → ∃ l, (W.S (i + 1)).news = (W.S i).news ++ l ∧ ∀ q ∈ l, i ≤ q.1 := by
    intro i hi
    have ht := hv i ops[i] (Array.getElem?_eq_getElem hi)
    by_cases he : isEff P ops i = true
    · exact ⟨[], by simp [(ht.eff he).2.2.1], by simp⟩
    · rcases (ht.still (by simpa using he)).2.2.2 with h | h | h | h
      · exact ⟨[], by simp [h.2.2.2.1], by simp⟩
      · exact ⟨[], by simp [h.2.2.2], by simp⟩
      · obtain ⟨_, _, ⟨b, f, _, _, e⟩, _⟩ := h
        exact ⟨[(i, b)], e, by simp⟩
      · exact ⟨[], by simp [h.2.2.1], by simp⟩
  intro i hi
  have : ∀ k, i + k ≤ ops.size → ∃ l, (W.S (i + k)).news = (W.S i).news ++ l ∧ ∀ q ∈ l, i ≤ q.1 := by
    intro k
    induction k with
    | zero => intro _; exact ⟨[], by simp, by simp⟩
    | succ k ih =>
      intro hk
      obtain ⟨l, e, hl⟩ := ih (by omega)
      obtain ⟨l', e', hl'⟩ := step (i + k) (by omega)
      refine ⟨l ++ l', by rw [← Nat.add_assoc, e', e, List.append_assoc], fun q hq => ?_⟩
      rcases List.mem_append.1 hq with h | h
      · exact hl q h
      · have := hl' q h; omega
  have := this (ops.size - i) (by omega)
  rwa [show i + (ops.size - i) = ops.size by omega] at this

/-- what is ahead of an operation is laid alike out of the blocks so far and out of all -/
theorem Walk.commit_all (W : Walk P call ops n0 tm H0) (d : DOk P ops) {i : Nat} {o : Oper} (ho : ops[i]? = some o) (cm : Nat) (H : AHeap) :
    commitA n0 cm ((Region.before ops).getD i 0) (W.S i).news H = commitA n0 cm ((Region.before ops).getD i 0) (W.S ops.size).news H := by
  have hi := (Array.getElem?_eq_some_iff.1 ho).1
  obtain ⟨l, e, hl⟩ := W.news_le i (by omega)
  rw [e]
  show commitP _ _ _ _ = commitP _ _ _ _
  rw [commitP_append, commitP_none l _ fun q hq => ?_]
  have := hl q hq
  cases h : ((Region.before ops).getD i 0).testBit q.1 with
  | false => rfl
  | true => have := d.anc_lt i o q.1 ho h; omega
end
end Go.AM
