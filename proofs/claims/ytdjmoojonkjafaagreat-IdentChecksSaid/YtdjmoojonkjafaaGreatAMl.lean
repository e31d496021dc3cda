/- The abstract machine, twelfth part: what an operation comes to hangs on its own operands alone; a region that draws, step by step. -/
import Derived.Test.YtdjmoojonkjafaaGreatAMk
set_option linter.unusedSimpArgs false
set_option linter.unusedVariables false
namespace Go.AM
attribute [local simp] AHeap.n_set AHeap.n_push

section
variable {P : Program}

theorem mapO_congr {α β : Type} {f g : α → Option β} : ∀ {l : List α}, (∀ x ∈ l, f x = g x) → mapO f l = mapO g l
  | [], _ => rfl
  | a :: l, h => by
    simp only [mapO]
    rw [h a (List.mem_cons_self ..), mapO_congr fun x hx => h x (List.mem_cons_of_mem _ hx)]

theorem evParts_congr {ρ ρ' : Operand → Option AV} {ps : Array (Nat × Operand)} (h : ∀ p ∈ ps.toList, ρ p.2 = ρ' p.2) : evParts ρ ps = evParts ρ' ps :=
  mapO_congr fun p hp => by rw [h p hp]

theorem optA_congr {ρ ρ' : Operand → Option AV} {o : Option Operand} (h : ∀ x, o = some x → ρ x = ρ' x) : optA ρ o = optA ρ' o := by
  cases o with
  | none => rfl
  | some x => simp only [optA, h x rfl]

section
variable {ρ ρ' : Operand → Option AV}
theorem pureA_congr (o : Op) (h : ∀ x ∈ o.operands, ρ x = ρ' x) : pureA P ρ o = pureA P ρ' o := by
  cases o <;> simp only [Op.operands] at h <;> simp only [pureA]
  case move x => exact h x (by simp)
  case assign x => exact h x (by simp)
  case pick c a b => rw [h c (by simp), h a (by simp), h b (by simp)]
  case build t ps => rw [evParts_congr fun p hp => h p.2 (by simp; exact ⟨p.1, by simpa using hp⟩)]
  case buildSlice t n ps => rw [evParts_congr fun p hp => h p.2 (by simp; exact ⟨p.1, by simpa using hp⟩)]
  case nilCheck x => rw [h x (by simp)]
  case binOp op t x y t' => rw [h x (by simp), h y (by simp)]
  case unOp op t x => rw [h x (by simp)]
  case convert s d x => rw [h x (by simp)]
  case makeFunc fn first captured =>
    cases fn <;> simp only [pureA]
    rw [mapO_congr fun x hx => h x (by simp; exact .inl (by simpa using hx)), mapO_congr fun x hx => h x (by simp; exact .inr (by simpa using hx))]
  case slice t x lo hi mx =>
    rw [h x (by simp), optA_congr fun y hy => h y (by simp [hy]), optA_congr fun y hy => h y (by simp [hy]), optA_congr fun y hy => h y (by simp [hy])]
  case fieldAddr s x f => rw [h x (by simp)]
  case field s x f => rw [h x (by simp)]
  case indexAddr t x i => rw [h x (by simp), h i (by simp)]
  case index t x i => rw [h x (by simp), h i (by simp)]
  case extract x i => rw [h x (by simp)]
  case call c =>
    obtain ⟨callee, args, ats⟩ := c
    simp only [Call.operands] at h
    have hargs : ∀ x ∈ args.toList, ρ x = ρ' x := fun x hx => h x (by simp; exact .inr (by simpa using hx))
    cases callee with
    | value f => rfl
    | invoke a b => rfl
    | builtin b =>
      cases b <;> try rfl
      · cases h0 : ats[0]? <;> cases h1 : args[0]? <;> simp only
        rename_i x
        rw [hargs x (by have := Array.mem_of_getElem? h1; simpa using this)]
      · cases h0 : ats[0]? <;> cases h1 : args[0]? <;> simp only
        rename_i x
        rw [hargs x (by have := Array.mem_of_getElem? h1; simpa using this)]
      · rw [mapO_congr hargs]
      · rw [mapO_congr hargs]

theorem rdA_congr (o : Op) (h : ∀ x ∈ o.operands, ρ x = ρ' x) : rdA P ρ o = rdA P ρ' o := by
  cases o <;> simp only [Op.operands] at h <;> simp only [rdA]
  case load t a => rw [h a (by simp)]
  case convert s d x => rw [h x (by simp)]

theorem newA_congr (o : Op) (h : ∀ x ∈ o.operands, ρ x = ρ' x) : newA P ρ o = newA P ρ' o := by
  cases o <;> simp only [Op.operands] at h <;> simp only [newA]
  case box t x => rw [h x (by simp)]
  case makeSlice t l c => rw [h l (by simp), h c (by simp)]
  case makeMap t r => cases r <;> rfl

theorem effA_congr {call : CallF} {H : AHeap} (o : Op) (h : ∀ x ∈ o.operands, ρ x = ρ' x) : effA P call ρ H o = effA P call ρ' H o := by
  cases o <;> simp only [Op.operands] at h <;> simp only [effA]
  case store t a x => rw [h a (by simp), h x (by simp)]
  case mapUpdate t m k x => rw [h m (by simp), h k (by simp), h x (by simp)]
  case mapEntry t m k => rw [h m (by simp), h k (by simp)]
  case entryStore t m s x => rw [h m (by simp), h s (by simp), h x (by simp)]
  case lookup t m k ok => rw [h m (by simp), h k (by simp)]
  case call c =>
    obtain ⟨callee, args, ats⟩ := c
    simp only [Call.operands] at h
    have hargs : ∀ x ∈ args.toList, ρ x = ρ' x := fun x hx => h x (by simp; exact .inr (by simpa using hx))
    cases callee with
    | value f => simp only; rw [h f (by simp), mapO_congr hargs]
    | invoke a b => rfl
    | builtin b =>
      cases b <;> try rfl
      · simp only; rw [mapO_congr hargs]
      · simp only; rw [mapO_congr hargs]
end

/-! ## step by step -/
def dstep (P : Program) (call : CallF) (ops : Array Oper) (bef : Array Nat) (n0 : Nat) (i : Nat) (s : DS) : Option DS :=
  match ops[i]? with
  | none => none
  | some o =>
    match wantA ops s.tm o with
    | none => none
    | some true =>
      match kindA P o.op with
      | .pure => (pureA P (evA s.tm) o.op).map fun v => { s with tm := putT s.tm o.dst v }
      | .read => (rdA P (evA s.tm) o.op).bind fun rd => (aread P (commitA n0 s.cm (bef.getD i 0) s.news s.H) rd).map fun v => { s with tm := putT s.tm o.dst v, rds := (i, rd, v) :: s.rds }
      | .new => (newA P (evA s.tm) o.op).map fun b => { s with tm := putT s.tm o.dst (b.2 (n0 + i)), news := s.news ++ [(i, b.1)] }
      | .eff => (effA P call (evA s.tm) (commitA n0 s.cm (bef.getD i 0) s.news s.H) o.op).map fun x =>
          { s with tm := putT s.tm o.dst x.1, H := x.2, cm := s.cm ||| bef.getD i 0, hist := s.hist ++ [(x.2, s.cm ||| bef.getD i 0)] }
    | some false =>
      match kindA P o.op with
      | .eff => some { s with tm := putT s.tm o.dst undefA, H := commitA n0 s.cm (bef.getD i 0) s.news s.H, cm := s.cm ||| bef.getD i 0,
                              hist := s.hist ++ [(commitA n0 s.cm (bef.getD i 0) s.news s.H, s.cm ||| bef.getD i 0)] }
      | _ => some { s with tm := putT s.tm o.dst undefA }

theorem drawGo_cons {α : Type} {call : CallF} {ops : Array Oper} {bef : Array Nat} {n0 : Nat} {K : DS → Option α} (i : Nat) (r : List Nat) (s : DS) :
    drawGo P call ops bef n0 K (i :: r) s = (dstep P call ops bef n0 i s).bind (drawGo P call ops bef n0 K r) := by
  simp only [drawGo, dstep]
  cases ops[i]? with
  | none => rfl
  | some o =>
    simp only
    cases wantA ops s.tm o with
    | none => rfl
    | some b =>
      cases b with
      | true =>
        simp only
        cases kindA P o.op with
        | pure => simp only [Option.bind_map]; rfl
        | read =>
          simp only [Option.bind_assoc]
          congr 1; funext rd
          simp only [Option.bind_map]; rfl
        | new => simp only [Option.bind_map]; rfl
        | eff => simp only [Option.bind_map]; rfl
      | false =>
        simp only
        cases kindA P o.op <;> rfl

theorem drawGo_run {α : Type} {call : CallF} {ops : Array Oper} {bef : Array Nat} {n0 : Nat} {K : DS → Option α} {res : α} : ∀ (k i : Nat) (s : DS), drawGo P call ops bef n0 K (List.range' i k) s = some res →
    ∃ S : Nat → DS, S i = s ∧ (∀ j, i ≤ j → j < i + k → dstep P call ops bef n0 j (S j) = some (S (j + 1))) ∧ K (S (i + k)) = some res
  | 0, i, s, h => ⟨fun _ => s, rfl, fun j h1 h2 => by omega, by simpa [drawGo] using h⟩
  | k + 1, i, s, h => by
    rw [List.range'_succ, drawGo_cons, Option.bind_eq_some_iff] at h
    obtain ⟨s', hs, h⟩ := h
    obtain ⟨S, h0, h1, h2⟩ := drawGo_run k (i + 1) s' h
    refine ⟨fun j => if j = i then s else S j, by simp, fun j hj hj' => ?_, by simp only; rw [if_neg (by omega)]; rw [show i + (k + 1) = i + 1 + k by omega]; exact h2⟩
    by_cases e : j = i
    · subst e
      simp only [if_true]
      rw [if_neg (by omega), h0]; exact hs
    · simp only [e, if_false]
      rw [if_neg (by omega)]
      exact h1 j (by omega) (by omega)

/-! ## laying new blocks -/
def lkN (news : List (Nat × ABlk)) (i : Nat) : Option ABlk :=
  match news with
  | [] => none
  | (j, b) :: r => if j = i then some b else lkN r i

theorem commitP_get {n0 : Nat} {p : Nat → Bool} : ∀ (news : List (Nat × ABlk)) (H : AHeap) (x : Nat), (∀ q ∈ news, q.2 ≠ .dead) → (news.map (·.1)).Nodup →
    (commitP n0 p news H).get x = if n0 ≤ x ∧ p (x - n0) = true then (match lkN news (x - n0) with | some b => some b | none => H.get x) else H.get x
  | [], H, x, _, _ => by simp [commitP, lkN]
  | (i, b) :: r, H, x, hd, hn => by
    simp only [commitP]
    simp only [List.map_cons, List.nodup_cons] at hn
    have hd' := fun q hq => hd q (List.mem_cons_of_mem _ hq)
    have hb := hd (i, b) (List.mem_cons_self ..)
    rw [commitP_get r _ x hd' hn.2]
    have hset : (if p i = true then H.set (n0 + i) b else H).get x = if p i = true ∧ x = n0 + i then some b else H.get x := by
      by_cases h : p i = true
      · rw [if_pos h, AHeap.get_set _ _ _ hb]; simp [h]
      · rw [if_neg h]; simp [h]
    have hnone : ∀ (l : List (Nat × ABlk)), i ∉ l.map (·.1) → lkN l i = none := by
      intro l
      induction l with
      | nil => intro _; rfl
      | cons q l ih =>
        intro h
        obtain ⟨j, c⟩ := q
        simp only [List.map_cons, List.mem_cons, not_or] at h
        simp only [lkN]
        rw [if_neg (fun e => h.1 e.symm)]
        exact ih h.2
    rw [hset]
    simp only [lkN]
    by_cases hx : n0 ≤ x
    · by_cases e : i = x - n0
      · have e2 : x = n0 + i := by omega
        rw [← e, hnone r hn.1, if_pos rfl]
        by_cases hp : p i = true
        · simp [hp, e2]
        · simp [hp]
      · rw [if_neg e]
        have : ¬ (p i = true ∧ x = n0 + i) := by omega
        rw [if_neg this]
    · rw [if_neg (by omega), if_neg (by omega), if_neg (by omega)]

theorem commitP_n {n0 : Nat} {p : Nat → Bool} : ∀ (news : List (Nat × ABlk)) (H : AHeap), (commitP n0 p news H).n = H.n
  | [], H => rfl
  | (i, b) :: r, H => by simp only [commitP]; rw [commitP_n r]; split <;> rfl

theorem commitP_append {n0 : Nat} {p : Nat → Bool} : ∀ (l l' : List (Nat × ABlk)) (H : AHeap), commitP n0 p (l ++ l') H = commitP n0 p l' (commitP n0 p l H)
  | [], l', H => rfl
  | (i, b) :: r, l', H => by simp only [List.cons_append, commitP]; exact commitP_append r l' _

theorem commitP_none {n0 : Nat} {p : Nat → Bool} : ∀ (l : List (Nat × ABlk)) (H : AHeap), (∀ q ∈ l, p q.1 = false) → commitP n0 p l H = H
  | [], H, _ => rfl
  | (i, b) :: r, H, h => by
    simp only [commitP]
    have := h (i, b) (List.mem_cons_self ..)
    simp only at this
    rw [this]
    exact commitP_none r H fun q hq => h q (List.mem_cons_of_mem _ hq)

/-! ## a step beside other memory -/
theorem Sim.frame_rule {E E' : Env} {C C' D D' : AHeap} {w w' : World} (s : Sim E C w E' C' w') (rD : Rel E D w) (sub : ∀ x b, C.get x = some b → D.get x = some b) (hn : C.n = D.n)
    (hD' : ∀ x b, D'.get x = some b → C'.get x = some b ∨ (C.get x = none ∧ D.get x = some b)) (hn' : C'.n = D'.n) : Sim E D w E' D' w' := by
  have mineCD : ∀ k, Mine E C k → Mine E D k := fun k ⟨h, b, hb, hg, hβ, e⟩ => ⟨h, b, hb, sub _ _ hg, hβ, e⟩
  have ext : ∀ x b, C.get x = none → D.get x = some b → ∃ hb, E.β x = some hb ∧ BlkRel E hb w b ∧ ¬ Mine E C hb.blk := by
    intro x b hc hd
    obtain ⟨hb, hβ, hr⟩ := rD.live x b hd
    refine ⟨hb, hβ, hr, ?_⟩
    rintro ⟨h', b', hb', hg', hβ', e⟩
    have := rD.inj h' x b' b hb' hb (sub _ _ hg') hd hβ' hβ e
    subst this
    rw [hc] at hg'; cases hg'
  refine ⟨s.le, ⟨fun x b hx => ?_, fun x x' b b' hb hb' hx hx' hβ hβ' e => ?_, s.rel.imm, fun x b hb hx hβ => ?_, fun x hx => by have := s.rel.bound x hx; omega⟩, s.os, s.tape, s.output, s.size, fun k hk hm => s.frame k hk fun h => hm (mineCD k h), fun k hm => ?_, fun x hx hg => ?_, by have := s.n; omega, fun x hx => s.old x (by omega), s.newI⟩
  · rcases hD' x b hx with h | ⟨hc, hd⟩
    · exact s.rel.live x b h
    · obtain ⟨hb, hβ, hr, hnm⟩ := ext x b hc hd
      exact ⟨hb, s.le.b _ _ hβ, hr.mono s.le (s.frame _ hr.lt hnm)⟩
  · have two : ∀ y y' c c' hc hc', C'.get y = some c → C.get y' = none → D.get y' = some c' → E'.β y = some hc → E'.β y' = some hc' → hc.blk = hc'.blk → False := by
      intro y y' c c' hc hc' h1 h2 h3 h4 h5 e
      obtain ⟨hb1, hβ1, hr1, hnm⟩ := ext y' c' h2 h3
      obtain rfl : hb1 = hc' := Option.some.inj ((s.le.b _ _ hβ1).symm.trans h5)
      rcases s.mine hc.blk ⟨y, c, hc, h1, h4, rfl⟩ with h | h
      · exact hnm (e ▸ h)
      · have := hr1.lt; omega
    rcases hD' x b hx with h | ⟨hc, hd⟩ <;> rcases hD' x' b' hx' with h' | ⟨hc', hd'⟩
    · exact s.rel.inj x x' b b' hb hb' h h' hβ hβ' e
    · exact (two x x' b b' hb hb' h hc' hd' hβ hβ' e).elim
    · exact (two x' x b' b hb' hb h' hc hd hβ' hβ e.symm).elim
    · obtain ⟨hb1, hβ1, _, _⟩ := ext x b hc hd
      obtain ⟨hb2, hβ2, _, _⟩ := ext x' b' hc' hd'
      obtain rfl : hb1 = hb := Option.some.inj ((s.le.b _ _ hβ1).symm.trans hβ)
      obtain rfl : hb2 = hb' := Option.some.inj ((s.le.b _ _ hβ2).symm.trans hβ')
      exact rD.inj x x' b b' hb1 hb2 hd hd' hβ1 hβ2 e
  · rcases hD' x b hx with h | ⟨hc, hd⟩
    · exact s.rel.sep x b hb h hβ
    · obtain ⟨hb1, hβ1, hr1, _⟩ := ext x b hc hd
      obtain rfl : hb1 = hb := Option.some.inj ((s.le.b _ _ hβ1).symm.trans hβ)
      cases hI : E'.I hb1.blk with
      | none => rfl
      | some o =>
        have := s.newI hb1.blk (rD.sep x b hb1 hd hβ1) (by rw [hI]; simp)
        have := hr1.lt; omega
  · obtain ⟨x, b, hb, hx, hβ, rfl⟩ := hm
    rcases hD' x b hx with h | ⟨hc, hd⟩
    · exact (s.mine _ ⟨x, b, hb, h, hβ, rfl⟩).imp (mineCD _) id
    · obtain ⟨hb1, hβ1, _, _⟩ := ext x b hc hd
      obtain rfl : hb1 = hb := Option.some.inj ((s.le.b _ _ hβ1).symm.trans hβ)
      exact .inl ⟨x, b, hb1, hd, hβ1, rfl⟩
  · cases e : D'.get x with
    | none => rfl
    | some b =>
      rcases hD' x b e with h | ⟨_, hd⟩
      · have hc : C.get x = none := by
          cases e2 : C.get x with
          | none => rfl
          | some c => rw [sub _ _ e2] at hg; cases hg
        rw [s.live x (by omega) hc] at h; cases h
      · rw [hg] at hd; cases hd

/-- a new block, seen from the region's beginning -/
theorem Sim.extend {E₀ E : Env} {H₀ H H' : AHeap} {w₀ w w' : World} {h0 : Nat} {b : ABlk} {hb : HB} {o : Obj} (s : Sim E₀ H₀ w₀ E H w) (hh : H₀.n ≤ h0) (hβ : E.β h0 = none) (hn : H.n ≤ H'.n) (hlt : h0 < H'.n) (hblk : hb.blk = w.heap.size) (hd : b ≠ .dead)
    (hget : ∀ x, H'.get x = if x = h0 then some b else H.get x) (hw : w'.heap = w.heap.push o) (hos : w'.os = w.os) (htp : w'.tape = w.tape) (hout : w'.output = w.output) (hb' : BlkRel E hb w' b) :
    Sim E₀ H₀ w₀ ⟨fun x => if x = h0 then some hb else E.β x, E.I⟩ H' w' := by
  obtain ⟨rel, le, _⟩ := Sim.newAt s.rel hβ hn hlt hblk hd hget hw hos htp hout hb'
  have hsize : w'.heap.size = w.heap.size + 1 := by rw [hw]; simp
  refine ⟨s.le.trans le, rel, hos.trans s.os, htp.trans s.tape, hout.trans s.output, by have := s.size; omega, fun k hk hm => ?_, fun k hm => ?_, fun x hx hg => ?_, Nat.le_trans s.n hn, fun x hx => ?_, fun k h h' => s.newI k h h'⟩
  · have := s.size
    rw [hw, Array.getElem?_push, if_neg (by omega)]
    exact s.frame k hk hm
  · obtain ⟨x, b', hb1, hx, hβx, rfl⟩ := hm
    rw [hget] at hx
    simp only at hβx
    split at hx
    · rename_i e; rw [if_pos e] at hβx; cases hβx
      have := s.size
      exact .inr (by omega)
    · rename_i e; rw [if_neg e] at hβx
      exact s.mine _ ⟨x, b', hb1, hx, hβx, rfl⟩
  · rw [hget, if_neg (by omega)]
    exact s.live x hx hg
  · simp only
    rw [if_neg (by omega)]
    exact s.old x hx
end
end Go.AM
