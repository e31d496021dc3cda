/- The abstract machine, seventeenth part: what a body asks for, as a proposition: the way functions are gone through. -/
import Derived.Test.YtdjmoojonkjafaaGreatAMp
set_option linter.unusedSimpArgs false
set_option linter.unusedVariables false
namespace Go.AM
attribute [local simp] AHeap.n_set AHeap.n_push

def Pu {α : Type} (o : Option α) (K : α → Prop) : Prop :=
  match o with
  | some a => K a
  | none => False
theorem Pu_some {α : Type} {a : α} {K : α → Prop} : Pu (some a) K = K a := rfl
theorem Pu_none {α : Type} {K : α → Prop} : Pu none K = False := rfl
theorem Pu_iff {α : Type} {o : Option α} {K : α → Prop} : Pu o K ↔ ∃ a, o = some a ∧ K a := by
  cases o <;> simp [Pu]
theorem Pu_of {α : Type} {o : Option α} {a : α} {K : α → Prop} (h : o = some a) (k : K a) : Pu o K := by rw [h]; exact k

/-- a fork -/
def Br (c : AV) (A B : Prop) : Prop :=
  match c with
  | .bool true => A
  | .bool false => B
  | _ => False
/-- a guard: an operation that is gone through, or left out -/
def Gd (g : AV) (want : Bool) (run : (AV → Prop) → Prop) (K : AV → Prop) : Prop :=
  match g with
  | .bool b => if b = want then run K else K undefA
  | _ => K undefA
def Gd2 (g : AV) (want : Bool) (H : AHeap) (run : (AV → AHeap → Prop) → Prop) (K : AV → AHeap → Prop) : Prop :=
  match g with
  | .bool b => if b = want then run K else K undefA H
  | _ => K undefA H
def GdR (g : AV) (want : Bool) (run : (AV → Option Rd → Prop) → Prop) (K : AV → Option Rd → Prop) : Prop :=
  match g with
  | .bool b => if b = want then run K else K undefA none
  | _ => K undefA none
theorem Br_true {A B : Prop} : Br (.bool true) A B = A := rfl
theorem Br_false {A B : Prop} : Br (.bool false) A B = B := rfl
theorem Br_bool {b : Bool} {A B : Prop} : Br (.bool b) A B ↔ if b = true then A else B := by cases b <;> simp [Br]
theorem Gd_bool {b want : Bool} {run : (AV → Prop) → Prop} {K : AV → Prop} : Gd (.bool b) want run K = if b = want then run K else K undefA := rfl
theorem Gd2_bool {b want : Bool} {H : AHeap} {run : (AV → AHeap → Prop) → Prop} {K : AV → AHeap → Prop} : Gd2 (.bool b) want H run K = if b = want then run K else K undefA H := rfl
theorem GdR_bool {b want : Bool} {run : (AV → Option Rd → Prop) → Prop} {K : AV → Option Rd → Prop} : GdR (.bool b) want run K = if b = want then run K else K undefA none := rfl

def AllP {α : Type} (p : α → Prop) : List α → Prop
  | [] => True
  | a :: l => p a ∧ AllP p l

theorem AllP_iff {α : Type} {p : α → Prop} : ∀ {l : List α}, AllP p l ↔ ∀ a ∈ l, p a
  | [] => by simp [AllP]
  | a :: l => by simp [AllP, AllP_iff (l := l)]

/-- new memory: its value and the heap behind it, by name -/
def nwQ (b : ABlk × (Nat → AV)) (H : AHeap) (C : AV → AHeap → Prop) : Prop := ∀ v H', v = b.2 H.n → H' = H.push b.1 → C v H'
theorem nwQ_iff {b : ABlk × (Nat → AV)} {H : AHeap} {C : AV → AHeap → Prop} : nwQ b H C ↔ C (b.2 H.n) (H.push b.1) :=
  ⟨fun h => h _ _ rfl rfl, fun h v H' e1 e2 => by subst e1; subst e2; exact h⟩
def Nb (o : Option (ABlk × (Nat → AV))) (H : AHeap) (K : AV → AHeap → Prop) : Prop :=
  match o with
  | some b => nwQ b H K
  | none => False
theorem Nb_iff {o : Option (ABlk × (Nat → AV))} {H : AHeap} {K : AV → AHeap → Prop} : Nb o H K ↔ ∃ b, o = some b ∧ K (b.2 H.n) (H.push b.1) := by
  cases o with
  | none => simp [Nb]
  | some b => simp [Nb, nwQ_iff]
/-- a heap, by name -/
def Cq (Hc : AHeap) (K : AHeap → Prop) : Prop := ∀ H', H' = Hc → K H'
theorem Cq_iff {Hc : AHeap} {K : AHeap → Prop} : Cq Hc K ↔ K Hc := ⟨fun h => h _ rfl, fun h H' e => by subst e; exact h⟩
/-- the same, where something waits to be laid into it -/
abbrev cmQ (news : List (Nat × ABlk)) (Hc : AHeap) (K : AHeap → Prop) : Prop :=
  match news with
  | [] => K Hc
  | _ => Cq Hc K
theorem cmQ_iff {news : List (Nat × ABlk)} {Hc : AHeap} {K : AHeap → Prop} : cmQ news Hc K ↔ K Hc := by
  unfold cmQ; split
  · exact Iff.rfl
  · exact Cq_iff

section
variable (P : Program) (kp : FuncId → List (Nat × List Nat)) (S : List (Nat × List Nat))

/-- a call ends so: with fuel enough -/
def Big (f : FuncId) (args : List AV) (H : AHeap) (v : AV) (H' : AHeap) : Prop := ∃ k, ∀ j, k ≤ j → acall P kp j f args H = some (v, H')

def Ca (f : FuncId) (args : List AV) (H : AHeap) (K : AV → AHeap → Prop) : Prop := ∃ v H', Big P kp f args H v H' ∧ K v H'

def noCall : CallF := fun _ _ _ => none

def goC (ρ : Operand → Option AV) (o : Op) : Option (FuncId × List AV) :=
  match o with
  | .call c =>
    match c.callee with
    | .value f =>
      match ρ f with
      | some (.fn (.func g) first captured) => (mapO ρ c.args.toList).map fun args => (g, first ++ args ++ captured)
      | _ => none
    | _ => none
  | _ => none

def effE (ρ : Operand → Option AV) (H : AHeap) (o : Op) (K : AV → AHeap → Prop) : Prop :=
  match goCall o with
  | true => Pu (goC ρ o) fun x => Ca P kp x.1 x.2 H K
  | false =>
    match o with
    | .store t a x => Pu ((ρ a).bind fun a => (ρ x).bind fun v => storeA P H t a v) fun H' => K undefA H'
    | o => Pu (effA P noCall ρ H o) fun r => K r.1 r.2

/-- the slot of an operation's guard; is it wanted? -/
def gOf (ops : Array Oper) (tm : Tm) (o : Oper) : Option (Option (AV × Bool)) :=
  match o.guard with
  | none => some none
  | some (j, want) =>
    match (ops[j]?).bind (·.dst) with
    | none => none
    | some d =>
      match tm.get d with
      | some g => some (some (g, want))
      | none => none

abbrev gate1 (g : Option (Option (AV × Bool))) (run : (AV → Prop) → Prop) (K : AV → Prop) : Prop :=
  match g with
  | some none => run K
  | some (some x) => Gd x.1 x.2 run K
  | none => False
abbrev gate2 (g : Option (Option (AV × Bool))) (H : AHeap) (run : (AV → AHeap → Prop) → Prop) (K : AV → AHeap → Prop) : Prop :=
  match g with
  | some none => run K
  | some (some x) => Gd2 x.1 x.2 H run K
  | none => False
abbrev gateR (g : Option (Option (AV × Bool))) (run : (AV → Option Rd → Prop) → Prop) (K : AV → Option Rd → Prop) : Prop :=
  match g with
  | some none => run K
  | some (some x) => GdR x.1 x.2 run K
  | none => False

/-- an operation that but moves a value -/
def mvOf (o : Oper) : Option Operand :=
  match o.guard with
  | some _ => none
  | none =>
    match o.op with
    | .move x => some x
    | .assign x => some x
    | _ => none
abbrev mvG (o : Oper) (ρ : Operand → Option AV) (g : Option (Option (AV × Bool))) (run : (AV → Prop) → Prop) (K : AV → Prop) : Prop :=
  match mvOf o with
  | some x =>
    match ρ x with
    | some v => K v
    | none => False
  | none => gate1 g run K

def wpOpsE (ops : Array Oper) (K : Tm → AHeap → Prop) : List Oper → Tm → AHeap → Prop
  | [], tm, H => K tm H
  | o :: os, tm, H =>
    match kindA P o.op with
    | .pure => mvG o (evA tm) (gOf ops tm o) (Pu (pureA P (evA tm) o.op)) fun v => wpOpsE ops K os (putT tm o.dst v) H
    | .read => gate1 (gOf ops tm o) (Pu ((rdA P (evA tm) o.op).bind (aread P H))) fun v => wpOpsE ops K os (putT tm o.dst v) H
    | .new => gate2 (gOf ops tm o) H (Nb (newA P (evA tm) o.op) H) fun v H' => wpOpsE ops K os (putT tm o.dst v) H'
    | .eff => gate2 (gOf ops tm o) H (effE P kp (evA tm) H o.op) fun v H' => wpOpsE ops K os (putT tm o.dst v) H'

structure DE where
  tm : Tm
  H : AHeap
  cm : Nat
  news : List (Nat × ABlk)
  hist : List (AHeap × Nat)
  rds : List (Nat × Option Rd × AV)

def wpDraw (ops : Array Oper) (bef : Array Nat) (n0 : Nat) (K : DE → Prop) : List Nat → Tm → AHeap → Nat → List (Nat × ABlk) → List (AHeap × Nat) → List (Nat × Option Rd × AV) → Prop
  | [], tm, H, cm, news, hist, rds => K ⟨tm, H, cm, news, hist, rds⟩
  | i :: r, tm, H, cm, news, hist, rds =>
    match ops[i]? with
    | none => False
    | some o =>
      match kindA P o.op with
      | .pure => mvG o (evA tm) (gOf ops tm o) (Pu (pureA P (evA tm) o.op)) fun v => wpDraw ops bef n0 K r (putT tm o.dst v) H cm news hist rds
      | .read => gateR (gOf ops tm o)
          (fun C =>
            match rdA P (evA tm) o.op with
            | none => False
            | some rd => cmQ news (commitA n0 cm (bef.getD i 0) news H) fun Hr => Pu (aread P Hr rd) fun v => C v (some rd))
          fun v rd => wpDraw ops bef n0 K r (putT tm o.dst v) H cm news hist ((i, rd, v) :: rds)
      | .new =>
        match o.guard with
        | none => Pu (newA P (evA tm) o.op) fun b => wpDraw ops bef n0 K r (putT tm o.dst (b.2 (n0 + i))) H cm (news ++ [(i, b.1)]) hist rds
        | some _ => False
      | .eff => cmQ news (commitA n0 cm (bef.getD i 0) news H) fun Hc => gate2 (gOf ops tm o) Hc (effE P kp (evA tm) Hc o.op) fun v H' =>
          wpDraw ops bef n0 K r (putT tm o.dst v) H' (cm ||| bef.getD i 0) news (hist ++ [(H', cm ||| bef.getD i 0)]) rds

/-- is a reading the same at another place? -/
def Still (rd : Option Rd) (v : AV) (H : AHeap) : Prop :=
  match rd with
  | none => True
  | some rd => Pu (aread P H rd) fun u => AV.eqb u v = true

def stableE (ops : Array Oper) (bef : Array Nat) (n0 : Nat) (s : DE) : Prop :=
  AllP (fun x => AllP (fun j => if j < loA P ops bef x.1 then True else
      match s.hist[j]? with
      | some y => Still P x.2.1 x.2.2 (commitA n0 y.2 (bef.getD x.1 0) s.news y.1)
      | none => False) (List.range (hiA P ops bef x.1 + 1))) s.rds

/-- the least of what a step keeps -/
def LFP (F : (Tm → AHeap → Prop) → Tm → AHeap → Prop) (tm : Tm) (H : AHeap) : Prop := ∀ X : Tm → AHeap → Prop, (∀ tm H, F X tm H → X tm H) → X tm H

abbrev Kt := Ex → Tm → AHeap → Prop
abbrev kLoop (keep : List Nat) (K : Kt) (X : Tm → AHeap → Prop) : Kt := fun ex tm H =>
  match ex with
  | .normal => X (keepT keep tm) H
  | .exit i => K (.exit i) tm H
  | .ret => K .ret tm H
abbrev kSeq (B : Kt → Tm → AHeap → Prop) (K : Kt) : Kt := fun ex tm H =>
  match ex with
  | .normal => B K tm H
  | .exit i => K (.exit i) tm H
  | .ret => K .ret tm H
abbrev kBlock (id : Nat) (K : Kt) : Kt := fun ex tm H =>
  match ex with
  | .exit i => if i = id then K .normal tm H else K (.exit i) tm H
  | .normal => K .normal tm H
  | .ret => K .ret tm H

/-- a loop: its body's meaning, behind a name -/
def loopW (b : Code) (f : Kt → Tm → AHeap → Prop) (K : Kt) (tm : Tm) (H : AHeap) : Prop := LFP (fun X => f (kLoop (keepL S b) K X)) tm H

def wpE : Code → Kt → Tm → AHeap → Prop
  | .skip, K, tm, H => K .normal tm H
  | .label _, K, tm, H => K .normal tm H
  | .region _ ops false, K, tm, H => wpOpsE P kp ops (K .normal) ops.toList tm H
  | .region _ ops true, K, tm, H =>
    match drawOk P ops with
    | true => Cq ⟨H.m, H.n + ops.size⟩ fun H1 =>
        wpDraw P kp ops (Region.before ops) H.n (fun s => stableE P ops (Region.before ops) H.n s ∧ cmQ s.news (commitA H.n s.cm (2 ^ ops.size - 1) s.news s.H) fun H2 => K .normal s.tm H2)
          (List.range ops.size) tm H1 0 [] [(H1, 0)] []
    | false => False
  | .seq a b, K, tm, H => wpE a (kSeq (wpE b) K) tm H
  | .cond c a b, K, tm, H =>
    match evA tm c with
    | some v => Br v (wpE a K tm H) (wpE b K tm H)
    | none => False
  | .block id b, K, tm, H => wpE b (kBlock id K) tm H
  | .loop b, K, tm, H => loopW S b (wpE b) K (keepT (keepL S b) tm) H
  | .scope b, K, tm, H => wpE b K tm H
  | .exit id, K, tm, H => K (.exit id) tm H
  | .ret, K, tm, H => K .ret tm H
  | _, _, _, _ => False

abbrev retE (fn : Func) (R : AV → AHeap → Prop) (ex : Ex) (tm : Tm) (H : AHeap) : Prop :=
  match ex with
  | .exit _ => False
  | _ => Pu (retA P fn tm H) fun v => R v H

/-- with fuel enough, a body goes so -/
def Steps (c : Code) (tm : Tm) (H : AHeap) (ex : Ex) (tm' : Tm) (H' : AHeap) : Prop :=
  ∃ k, ∀ j, k ≤ j → ∀ (α : Type) (K : Ex → Tm → AHeap → Option α), exec P (acall P kp j) S j c tm H K = K ex tm' H'
end

section
variable {P : Program} {kp : FuncId → List (Nat × List Nat)} {S : List (Nat × List Nat)}

theorem effE_sound {ρ : Operand → Option AV} {H : AHeap} {o : Op} {K : AV → AHeap → Prop} (h : effE P kp ρ H o K) :
    ∃ v H', (∃ k, ∀ j, k ≤ j → effA P (acall P kp j) ρ H o = some (v, H')) ∧ K v H' := by
  unfold effE at h
  split at h
  · rename_i hg
    rw [Pu_iff] at h
    obtain ⟨⟨g, args⟩, hc, v, H', ⟨k, hk⟩, hK⟩ := h
    refine ⟨v, H', ⟨k, fun j hj => ?_⟩, hK⟩
    cases o <;> simp only [goC] at hc <;> (try (cases hc; done))
    rename_i c
    obtain ⟨callee, as, ats⟩ := c
    cases callee <;> simp only at hc <;> (try (cases hc; done))
    rename_i f
    split at hc
    · rename_i g' first captured hf
      simp only [Option.map_eq_some_iff, Prod.mk.injEq] at hc
      obtain ⟨l, hl, rfl, rfl⟩ := hc
      simp only [effA, hf, hl, Option.bind_some]
      exact hk j hj
    · cases hc
  · rename_i hg
    have key : ∀ r, effA P noCall ρ H o = some r → ∀ j, effA P (acall P kp j) ρ H o = some r := by
      intro r hr j
      rw [← hr]
      cases o <;> try rfl
      rename_i c
      obtain ⟨callee, as, ats⟩ := c
      cases callee <;> first | rfl | (simp [goCall] at hg; done) | skip
      case builtin b => cases b <;> rfl
    split at h
    · rename_i t a x
      rw [Pu_iff] at h
      obtain ⟨H', hr, hK⟩ := h
      refine ⟨undefA, H', ⟨0, fun j _ => key _ ?_ j⟩, hK⟩
      simp only [Option.bind_eq_some_iff] at hr
      obtain ⟨a', ha, v, hv, hs⟩ := hr
      simp [effA, ha, hv, hs]
    · rw [Pu_iff] at h
      obtain ⟨r, hr, hK⟩ := h
      exact ⟨r.1, r.2, ⟨0, fun j _ => key _ hr j⟩, hK⟩

theorem gOf_want {ops : Array Oper} {tm : Tm} {o : Oper} : wantA ops tm o = match gOf ops tm o with
    | some none => some true
    | some (some (.bool b, want)) => some (b == want)
    | some (some _) => some false
    | none => none := by
  unfold wantA gOf
  cases hg : o.guard with
  | none => rfl
  | some x =>
    obtain ⟨j, want⟩ := x
    simp only
    cases (ops[j]?).bind (·.dst) with
    | none => rfl
    | some d =>
      simp only
      cases tm.get d with
      | none => rfl
      | some g => cases g <;> rfl

theorem gate1_sound {ops : Array Oper} {tm : Tm} {o : Oper} {run : (AV → Prop) → Prop} {K : AV → Prop} (h : gate1 (gOf ops tm o) run K) : (wantA ops tm o = some true ∧ run K) ∨ (wantA ops tm o = some false ∧ K undefA) := by
  rw [gOf_want]
  unfold gate1 at h
  split at h
  · rename_i e; rw [e]; exact .inl ⟨rfl, h⟩
  · rename_i x e
    rw [e]
    obtain ⟨g, want⟩ := x
    cases g <;> simp only [Gd] at h <;> first
      | exact .inr ⟨rfl, h⟩
      | skip
    rename_i b
    simp only
    split at h
    · rename_i e; subst e; exact .inl ⟨by simp, h⟩
    · rename_i e; exact .inr ⟨by simpa using e, h⟩
  · exact h.elim
theorem mvG_gate {ops : Array Oper} {tm : Tm} {o : Oper} {K : AV → Prop} (h : mvG o (evA tm) (gOf ops tm o) (Pu (pureA P (evA tm) o.op)) K) : gate1 (gOf ops tm o) (Pu (pureA P (evA tm) o.op)) K := by
  unfold mvG at h
  split at h
  · rename_i x hx
    split at h
    · rename_i v hv
      unfold mvOf at hx
      split at hx
      · cases hx
      · rename_i hg
        have e : gOf ops tm o = some none := by unfold gOf; rw [hg]
        rw [e]
        simp only [gate1]
        split at hx
        · rename_i y ho; cases hx; rw [ho]; simp only [pureA, hv]; exact h
        · rename_i y ho; cases hx; rw [ho]; simp only [pureA, hv]; exact h
        · cases hx
    · exact h.elim
  · exact h
theorem mvG_mono {o : Oper} {ρ : Operand → Option AV} {g : Option (Option (AV × Bool))} {run : (AV → Prop) → Prop} {K K' : AV → Prop} (hr : run K → run K') (h : mvG o ρ g run K) (k : ∀ a, K a → K' a) : mvG o ρ g run K' := by
  unfold mvG at h ⊢
  split at h
  · split at h
    · exact k _ h
    · exact h
  · unfold gate1 at h ⊢
    split at h
    · exact hr h
    · rename_i x
      obtain ⟨g, want⟩ := x
      cases g <;> simp only [Gd] at h ⊢ <;> first | exact k _ h | skip
      split at h
      · rename_i e; rw [if_pos e]; exact hr h
      · rename_i e; rw [if_neg e]; exact k _ h
    · exact h
theorem gate2_sound {ops : Array Oper} {tm : Tm} {o : Oper} {H : AHeap} {run : (AV → AHeap → Prop) → Prop} {K : AV → AHeap → Prop} (h : gate2 (gOf ops tm o) H run K) : (wantA ops tm o = some true ∧ run K) ∨ (wantA ops tm o = some false ∧ K undefA H) := by
  rw [gOf_want]
  unfold gate2 at h
  split at h
  · rename_i e; rw [e]; exact .inl ⟨rfl, h⟩
  · rename_i x e
    rw [e]
    obtain ⟨g, want⟩ := x
    cases g <;> simp only [Gd2] at h <;> first
      | exact .inr ⟨rfl, h⟩
      | skip
    rename_i b
    simp only
    split at h
    · rename_i e; subst e; exact .inl ⟨by simp, h⟩
    · rename_i e; exact .inr ⟨by simpa using e, h⟩
  · exact h.elim
theorem gateR_sound {ops : Array Oper} {tm : Tm} {o : Oper} {run : (AV → Option Rd → Prop) → Prop} {K : AV → Option Rd → Prop} (h : gateR (gOf ops tm o) run K) : (wantA ops tm o = some true ∧ run K) ∨ (wantA ops tm o = some false ∧ K undefA none) := by
  rw [gOf_want]
  unfold gateR at h
  split at h
  · rename_i e; rw [e]; exact .inl ⟨rfl, h⟩
  · rename_i x e
    rw [e]
    obtain ⟨g, want⟩ := x
    cases g <;> simp only [GdR] at h <;> first
      | exact .inr ⟨rfl, h⟩
      | skip
    rename_i b
    simp only
    split at h
    · rename_i e; subst e; exact .inl ⟨by simp, h⟩
    · rename_i e; exact .inr ⟨by simpa using e, h⟩
  · exact h.elim

theorem wpOpsE_sound {ops : Array Oper} {K : Tm → AHeap → Prop} : ∀ (os : List Oper) (tm : Tm) (H : AHeap), wpOpsE P kp ops K os tm H →
    ∃ tm' H', (∃ k, ∀ j, k ≤ j → ∀ (α : Type) (C : Tm → AHeap → Option α), runOps P (acall P kp j) ops C os tm H = C tm' H') ∧ K tm' H'
  | [], tm, H, h => ⟨tm, H, ⟨0, fun j _ α C => rfl⟩, h⟩
  | o :: os, tm, H, h => by
    simp only [wpOpsE] at h
    have skip : wantA ops tm o = some false → wpOpsE P kp ops K os (putT tm o.dst undefA) H → ∃ tm' H', (∃ k, ∀ j, k ≤ j → ∀ (α : Type) (C : Tm → AHeap → Option α), runOps P (acall P kp j) ops C (o :: os) tm H = C tm' H') ∧ K tm' H' := by
      intro hw h
      obtain ⟨tm', H2, ⟨k2, hk2⟩, hK⟩ := wpOpsE_sound os _ _ h
      refine ⟨tm', H2, ⟨k2, fun j hj α C => ?_⟩, hK⟩
      simp only [runOps, hw]
      rw [hk2 j hj]
    split at h <;> rename_i hk
    · rcases gate1_sound (mvG_gate h) with ⟨hw, h⟩ | ⟨hw, h⟩
      · rw [Pu_iff] at h
        obtain ⟨v, hv, h⟩ := h
        obtain ⟨tm', H2, ⟨k2, hk2⟩, hK⟩ := wpOpsE_sound os _ _ h
        refine ⟨tm', H2, ⟨k2, fun j hj α C => ?_⟩, hK⟩
        simp only [runOps, hw, stepA, hk, hv, Option.bind_some]
        rw [hk2 j hj]
      · exact skip hw h
    · rcases gate1_sound h with ⟨hw, h⟩ | ⟨hw, h⟩
      · rw [Pu_iff] at h
        obtain ⟨v, hv, h⟩ := h
        simp only [Option.bind_eq_some_iff] at hv
        obtain ⟨rd, hr, hv⟩ := hv
        obtain ⟨tm', H2, ⟨k2, hk2⟩, hK⟩ := wpOpsE_sound os _ _ h
        refine ⟨tm', H2, ⟨k2, fun j hj α C => ?_⟩, hK⟩
        simp only [runOps, hw, stepA, hk, hr, hv, Option.bind_some]
        rw [hk2 j hj]
      · exact skip hw h
    · rcases gate2_sound h with ⟨hw, h⟩ | ⟨hw, h⟩
      · rw [Nb_iff] at h
        obtain ⟨b, hb, h⟩ := h
        obtain ⟨tm', H2, ⟨k2, hk2⟩, hK⟩ := wpOpsE_sound os _ _ h
        refine ⟨tm', H2, ⟨k2, fun j hj α C => ?_⟩, hK⟩
        simp only [runOps, hw, stepA, hk, hb, Option.bind_some]
        rw [hk2 j hj]
      · exact skip hw h
    · rcases gate2_sound h with ⟨hw, h⟩ | ⟨hw, h⟩
      · obtain ⟨v, H', ⟨k, hk'⟩, h⟩ := effE_sound h
        obtain ⟨tm', H2, ⟨k2, hk2⟩, hK⟩ := wpOpsE_sound os _ _ h
        refine ⟨tm', H2, ⟨max k k2, fun j hj α C => ?_⟩, hK⟩
        simp only [runOps, hw, stepA, hk, hk' j (by omega), Option.bind_some]
        rw [hk2 j (by omega)]
      · exact skip hw h

/-- the readings that took place -/
def took : List (Nat × Option Rd × AV) → List (Nat × Rd × AV)
  | [] => []
  | (i, some rd, v) :: r => (i, rd, v) :: took r
  | (_, none, _) :: r => took r

def DE.ds (s : DE) : DS := { tm := s.tm, H := s.H, cm := s.cm, news := s.news, hist := s.hist, rds := took s.rds }

theorem wpDraw_sound {ops : Array Oper} {bef : Array Nat} {n0 : Nat} {K : DE → Prop} : ∀ (l : List Nat) (s : DE), wpDraw P kp ops bef n0 K l s.tm s.H s.cm s.news s.hist s.rds →
    ∃ s', (∃ k, ∀ j, k ≤ j → ∀ (α : Type) (C : DS → Option α), drawGo P (acall P kp j) ops bef n0 C l s.ds = C s'.ds) ∧ K s'
  | [], s, h => ⟨s, ⟨0, fun j _ α C => rfl⟩, h⟩
  | i :: r, s, h => by
    simp only [wpDraw] at h
    split at h
    · exact h.elim
    rename_i o ho
    split at h <;> rename_i hk
    · rcases gate1_sound (mvG_gate h) with ⟨hw, h⟩ | ⟨hw, h⟩
      · rw [Pu_iff] at h
        obtain ⟨v, hv, h⟩ := h
        obtain ⟨s', ⟨k, hk'⟩, hK⟩ := wpDraw_sound r ⟨_, _, _, _, _, _⟩ h
        exact ⟨s', ⟨k, fun j hj α C => by simp only [drawGo, DE.ds, ho, hw, hk, hv, Option.bind_some]; exact hk' j hj α C⟩, hK⟩
      · obtain ⟨s', ⟨k, hk'⟩, hK⟩ := wpDraw_sound r ⟨_, _, _, _, _, _⟩ h
        exact ⟨s', ⟨k, fun j hj α C => by simp only [drawGo, DE.ds, ho, hw, hk]; exact hk' j hj α C⟩, hK⟩
    · rcases gateR_sound h with ⟨hw, h⟩ | ⟨hw, h⟩
      · split at h
        · exact h.elim
        · rename_i rd hrd
          rw [cmQ_iff, Pu_iff] at h
          obtain ⟨v, hv, h⟩ := h
          obtain ⟨s', ⟨k, hk'⟩, hK⟩ := wpDraw_sound r ⟨_, _, _, _, _, _⟩ h
          exact ⟨s', ⟨k, fun j hj α C => by simp only [drawGo, DE.ds, ho, hw, hk, hrd, hv, Option.bind_some]; exact hk' j hj α C⟩, hK⟩
      · obtain ⟨s', ⟨k, hk'⟩, hK⟩ := wpDraw_sound r ⟨_, _, _, _, _, _⟩ h
        exact ⟨s', ⟨k, fun j hj α C => by simp only [drawGo, DE.ds, ho, hw, hk]; exact hk' j hj α C⟩, hK⟩
    · split at h
      · rename_i hg
        have hw : wantA ops s.tm o = some true := by unfold wantA; rw [hg]
        rw [Pu_iff] at h
        obtain ⟨b, hb, h⟩ := h
        obtain ⟨s', ⟨k, hk'⟩, hK⟩ := wpDraw_sound r ⟨_, _, _, _, _, _⟩ h
        exact ⟨s', ⟨k, fun j hj α C => by simp only [drawGo, DE.ds, ho, hw, hk, hb, Option.bind_some]; exact hk' j hj α C⟩, hK⟩
      · exact h.elim
    · rw [cmQ_iff] at h
      rcases gate2_sound h with ⟨hw, h⟩ | ⟨hw, h⟩
      · obtain ⟨v, H', ⟨k1, hk1⟩, h⟩ := effE_sound h
        obtain ⟨s', ⟨k, hk'⟩, hK⟩ := wpDraw_sound r ⟨_, _, _, _, _, _⟩ h
        exact ⟨s', ⟨max k k1, fun j hj α C => by simp only [drawGo, DE.ds, ho, hw, hk, hk1 j (by omega), Option.bind_some]; exact hk' j (by omega) α C⟩, hK⟩
      · obtain ⟨s', ⟨k, hk'⟩, hK⟩ := wpDraw_sound r ⟨_, _, _, _, _, _⟩ h
        exact ⟨s', ⟨k, fun j hj α C => by simp only [drawGo, DE.ds, ho, hw, hk]; exact hk' j hj α C⟩, hK⟩

theorem took_mem : ∀ {l : List (Nat × Option Rd × AV)} {i : Nat} {rd : Rd} {v : AV}, (i, rd, v) ∈ took l → (i, some rd, v) ∈ l
  | [], i, rd, v, h => by simp [took] at h
  | (i', some rd', v') :: r, i, rd, v, h => by
    simp only [took, List.mem_cons, Prod.mk.injEq] at h
    rcases h with ⟨rfl, rfl, rfl⟩ | h
    · exact List.mem_cons_self ..
    · exact List.mem_cons_of_mem _ (took_mem h)
  | (i', none, v') :: r, i, rd, v, h => by
    simp only [took] at h
    exact List.mem_cons_of_mem _ (took_mem h)

theorem stableE_sound {ops : Array Oper} {bef : Array Nat} {n0 : Nat} {s : DE} (h : stableE P ops bef n0 s) : stableA P ops bef n0 s.ds = true := by
  unfold stableE at h
  unfold stableA
  rw [List.all_eq_true]
  rintro ⟨i, rd, v⟩ hx
  have h1 := AllP_iff.1 h _ (took_mem hx)
  rw [List.all_eq_true]
  intro j hj
  have h2 := AllP_iff.1 h1 j hj
  simp only at h2 ⊢
  split
  · rfl
  · rename_i hlo
    rw [if_neg hlo] at h2
    simp only [DE.ds]
    split at h2
    · rename_i y hy
      rw [hy]
      obtain ⟨H', cm⟩ := y
      simp only
      simp only [Still, Pu_iff] at h2
      obtain ⟨u, hu, he⟩ := h2
      rw [hu]
      exact he
    · exact h2.elim

theorem wpE_sound : ∀ (c : Code) (tm : Tm) (H : AHeap) (K : Kt), wpE P kp S c K tm H → ∃ ex tm' H', Steps P kp S c tm H ex tm' H' ∧ K ex tm' H' := by
  intro c
  induction c with
  | skip => intro tm H K h; exact ⟨_, _, _, ⟨0, fun j _ α C => rfl⟩, h⟩
  | label l => intro tm H K h; exact ⟨_, _, _, ⟨0, fun j _ α C => rfl⟩, h⟩
  | exit l => intro tm H K h; exact ⟨_, _, _, ⟨0, fun j _ α C => rfl⟩, h⟩
  | ret => intro tm H K h; exact ⟨_, _, _, ⟨0, fun j _ α C => rfl⟩, h⟩
  | goto l => intro tm H K h; exact h.elim
  | refuse l => intro tm H K h; exact h.elim
  | rangeFunc f p x y _ _ => intro tm H K h; exact h.elim
  | region id ops draw =>
    intro tm H K h
    cases draw with
    | false =>
      simp only [wpE] at h
      obtain ⟨tm', H', ⟨k, hk⟩, hK⟩ := wpOpsE_sound _ _ _ h
      exact ⟨_, _, _, ⟨k, fun j hj α C => by simp only [exec]; exact hk j hj α _⟩, hK⟩
    | true =>
      simp only [wpE] at h
      split at h
      case h_2 => exact h.elim
      rename_i hd
      rw [Cq_iff] at h
      obtain ⟨s, ⟨k, hk⟩, hst, hK⟩ := wpDraw_sound _ ⟨_, _, _, _, _, _⟩ h
      rw [cmQ_iff] at hK
      simp only [DE.ds, took] at hk
      refine ⟨_, _, _, ⟨k, fun j hj α C => ?_⟩, hK⟩
      simp only [exec, runDraw]
      rw [if_pos hd, hk j hj]
      have hst' := stableE_sound hst
      simp only [DE.ds] at hst'
      rw [if_pos hst']
  | seq a b iha ihb =>
    intro tm H K h
    simp only [wpE] at h
    obtain ⟨ex, tm', H', ⟨k, hk⟩, h⟩ := iha _ _ _ h
    cases ex with
    | normal =>
      obtain ⟨ex2, tm2, H2, ⟨k2, hk2⟩, h⟩ := ihb _ _ _ h
      exact ⟨_, _, _, ⟨max k k2, fun j hj α C => by simp only [exec]; rw [hk j (by omega)]; exact hk2 j (by omega) α C⟩, h⟩
    | exit i => exact ⟨_, _, _, ⟨k, fun j hj α C => by simp only [exec]; rw [hk j (by omega)]⟩, h⟩
    | ret => exact ⟨_, _, _, ⟨k, fun j hj α C => by simp only [exec]; rw [hk j (by omega)]⟩, h⟩
  | cond x a b iha ihb =>
    intro tm H K h
    simp only [wpE] at h
    split at h
    case h_2 => exact h.elim
    rename_i v hv
    cases v <;> simp only [Br] at h <;> (try (exact h.elim))
    rename_i t
    cases t with
    | true =>
      obtain ⟨ex, tm', H', ⟨k, hk⟩, h⟩ := iha _ _ _ h
      exact ⟨_, _, _, ⟨k, fun j hj α C => by simp only [exec, hv, if_true]; exact hk j hj α C⟩, h⟩
    | false =>
      obtain ⟨ex, tm', H', ⟨k, hk⟩, h⟩ := ihb _ _ _ h
      exact ⟨_, _, _, ⟨k, fun j hj α C => by simp only [exec, hv, Bool.false_eq_true, if_false]; exact hk j hj α C⟩, h⟩
  | block id b ih =>
    intro tm H K h
    simp only [wpE] at h
    obtain ⟨ex, tm', H', ⟨k, hk⟩, h⟩ := ih _ _ _ h
    cases ex with
    | normal => exact ⟨_, _, _, ⟨k, fun j hj α C => by simp only [exec]; rw [hk j (by omega)]⟩, h⟩
    | exit i =>
      simp only [kBlock] at h
      split at h
      · rename_i e; exact ⟨_, _, _, ⟨k, fun j hj α C => by simp only [exec]; rw [hk j (by omega)]; simp only [e, if_true]⟩, h⟩
      · rename_i e; exact ⟨_, _, _, ⟨k, fun j hj α C => by simp only [exec]; rw [hk j (by omega)]; simp only [e, if_false]⟩, h⟩
    | ret => exact ⟨_, _, _, ⟨k, fun j hj α C => by simp only [exec]; rw [hk j (by omega)]⟩, h⟩
  | loop b ih =>
    intro tm H K h
    simp only [wpE] at h
    have key := h (fun tm H => ∃ ex tm' H', (∃ k n, ∀ j, k ≤ j → ∀ m, n ≤ m → ∀ (α : Type) (C : Ex → Tm → AHeap → Option α) (tm0 : Tm), keepT (keepL S b) tm0 = tm →
        loopA (exec P (acall P kp j) S j b) (keepL S b) C m tm0 H = C ex tm' H') ∧ K ex tm' H') ?_
    · obtain ⟨ex, tm', H', ⟨k, n, hk⟩, hK⟩ := key
      exact ⟨ex, tm', H', ⟨max k n, fun j hj α C => by simp only [exec]; exact hk j (by omega) j (by omega) α C tm rfl⟩, hK⟩
    · intro tm H h
      obtain ⟨ex, tm', H', ⟨k, hk⟩, h⟩ := ih _ _ _ h
      cases ex with
      | normal =>
        obtain ⟨ex2, tm2, H2, ⟨k2, n2, hk2⟩, h⟩ := h
        refine ⟨_, _, _, ⟨max k k2, n2 + 1, fun j hj m hm α C tm0 e => ?_⟩, h⟩
        obtain ⟨m, rfl⟩ : ∃ m', m = m' + 1 := ⟨m - 1, by omega⟩
        simp only [loopA, e]
        rw [hk j (by omega)]
        exact hk2 j (by omega) m (by omega) α C _ rfl
      | exit i =>
        refine ⟨_, _, _, ⟨k, 1, fun j hj m hm α C tm0 e => ?_⟩, h⟩
        obtain ⟨m, rfl⟩ : ∃ m', m = m' + 1 := ⟨m - 1, by omega⟩
        simp only [loopA, e]
        rw [hk j (by omega)]
      | ret =>
        refine ⟨_, _, _, ⟨k, 1, fun j hj m hm α C tm0 e => ?_⟩, h⟩
        obtain ⟨m, rfl⟩ : ∃ m', m = m' + 1 := ⟨m - 1, by omega⟩
        simp only [loopA, e]
        rw [hk j (by omega)]
  | scope b ih =>
    intro tm H K h
    simp only [wpE] at h
    obtain ⟨ex, tm', H', ⟨k, hk⟩, h⟩ := ih _ _ _ h
    exact ⟨ex, tm', H', ⟨k, fun j hj α C => by simp only [exec]; exact hk j hj α C⟩, h⟩

/-! ## a greater continuation -/
theorem Pu_mono {α : Type} {o : Option α} {K K' : α → Prop} (h : Pu o K) (k : ∀ a, K a → K' a) : Pu o K' := by
  cases o with
  | none => exact h
  | some a => exact k a h
theorem Gd_mono {g : AV} {want : Bool} {run : (AV → Prop) → Prop} {K K' : AV → Prop} (hr : run K → run K') (h : Gd g want run K) (k : ∀ a, K a → K' a) : Gd g want run K' := by
  cases g <;> simp only [Gd] at h ⊢ <;> first | exact k _ h | skip
  split at h
  · rename_i e; rw [if_pos e]; exact hr h
  · rename_i e; rw [if_neg e]; exact k _ h
theorem Gd2_mono {g : AV} {want : Bool} {H : AHeap} {run : (AV → AHeap → Prop) → Prop} {K K' : AV → AHeap → Prop} (hr : run K → run K') (h : Gd2 g want H run K) (k : ∀ a H, K a H → K' a H) : Gd2 g want H run K' := by
  cases g <;> simp only [Gd2] at h ⊢ <;> first | exact k _ _ h | skip
  split at h
  · rename_i e; rw [if_pos e]; exact hr h
  · rename_i e; rw [if_neg e]; exact k _ _ h
theorem GdR_mono {g : AV} {want : Bool} {run : (AV → Option Rd → Prop) → Prop} {K K' : AV → Option Rd → Prop} (hr : run K → run K') (h : GdR g want run K) (k : ∀ a r, K a r → K' a r) : GdR g want run K' := by
  cases g <;> simp only [GdR] at h ⊢ <;> first | exact k _ _ h | skip
  split at h
  · rename_i e; rw [if_pos e]; exact hr h
  · rename_i e; rw [if_neg e]; exact k _ _ h
theorem gate1_mono {g : Option (Option (AV × Bool))} {run : (AV → Prop) → Prop} {K K' : AV → Prop} (hr : run K → run K') (h : gate1 g run K) (k : ∀ a, K a → K' a) : gate1 g run K' := by
  unfold gate1 at h ⊢
  split at h
  · exact hr h
  · exact Gd_mono hr h k
  · exact h
theorem gate2_mono {g : Option (Option (AV × Bool))} {H : AHeap} {run : (AV → AHeap → Prop) → Prop} {K K' : AV → AHeap → Prop} (hr : run K → run K') (h : gate2 g H run K) (k : ∀ a H, K a H → K' a H) : gate2 g H run K' := by
  unfold gate2 at h ⊢
  split at h
  · exact hr h
  · exact Gd2_mono hr h k
  · exact h
theorem gateR_mono {g : Option (Option (AV × Bool))} {run : (AV → Option Rd → Prop) → Prop} {K K' : AV → Option Rd → Prop} (hr : run K → run K') (h : gateR g run K) (k : ∀ a r, K a r → K' a r) : gateR g run K' := by
  unfold gateR at h ⊢
  split at h
  · exact hr h
  · exact GdR_mono hr h k
  · exact h
theorem Ca_mono {f : FuncId} {args : List AV} {H : AHeap} {R R' : AV → AHeap → Prop} (h : Ca P kp f args H R) (k : ∀ v H', R v H' → R' v H') : Ca P kp f args H R' := by
  obtain ⟨v, H', hb, hr⟩ := h
  exact ⟨v, H', hb, k _ _ hr⟩
theorem effE_mono {ρ : Operand → Option AV} {H : AHeap} {o : Op} {K K' : AV → AHeap → Prop} (h : effE P kp ρ H o K) (k : ∀ a H, K a H → K' a H) : effE P kp ρ H o K' := by
  unfold effE at h ⊢
  split at h
  · exact Pu_mono h fun x hx => Ca_mono hx k
  · split at h
    · exact Pu_mono h fun H' hx => k _ _ hx
    · exact Pu_mono h fun r hx => k _ _ hx

theorem wpOpsE_mono {ops : Array Oper} {K K' : Tm → AHeap → Prop} (k : ∀ tm H, K tm H → K' tm H) : ∀ (os : List Oper) (tm : Tm) (H : AHeap), wpOpsE P kp ops K os tm H → wpOpsE P kp ops K' os tm H
  | [], tm, H, h => k _ _ h
  | o :: os, tm, H, h => by
    simp only [wpOpsE] at h ⊢
    split at h
    · exact mvG_mono (fun h => Pu_mono h fun a => wpOpsE_mono k os _ _) h fun a => wpOpsE_mono k os _ _
    · exact gate1_mono (fun h => Pu_mono h fun a => wpOpsE_mono k os _ _) h fun a => wpOpsE_mono k os _ _
    · exact gate2_mono (fun h => by rw [Nb_iff] at h ⊢; obtain ⟨b, hb, h⟩ := h; exact ⟨b, hb, wpOpsE_mono k os _ _ h⟩) h fun a H' => wpOpsE_mono k os _ _
    · exact gate2_mono (fun h => effE_mono h fun a H' => wpOpsE_mono k os _ _) h fun a H' => wpOpsE_mono k os _ _

theorem wpDraw_mono {ops : Array Oper} {bef : Array Nat} {n0 : Nat} {K K' : DE → Prop} (k : ∀ s, K s → K' s) : ∀ (l : List Nat) (tm : Tm) (H : AHeap) (cm : Nat) (news : List (Nat × ABlk)) (hist : List (AHeap × Nat)) (rds : List (Nat × Option Rd × AV)), wpDraw P kp ops bef n0 K l tm H cm news hist rds → wpDraw P kp ops bef n0 K' l tm H cm news hist rds
  | [], _, _, _, _, _, _, h => k _ h
  | i :: r, _, _, _, _, _, _, h => by
    simp only [wpDraw] at h ⊢
    split at h
    · exact h
    split at h
    · exact mvG_mono (fun h => Pu_mono h fun a => wpDraw_mono k r _ _ _ _ _ _) h fun a => wpDraw_mono k r _ _ _ _ _ _
    · refine gateR_mono (fun h => ?_) h fun a rd => wpDraw_mono k r _ _ _ _ _ _
      split at h
      · exact h
      · rw [cmQ_iff] at h ⊢
        exact Pu_mono h fun a => wpDraw_mono k r _ _ _ _ _ _
    · split at h
      · exact Pu_mono h fun a => wpDraw_mono k r _ _ _ _ _ _
      · exact h
    · rw [cmQ_iff] at h ⊢
      exact gate2_mono (fun h => effE_mono h fun a H' => wpDraw_mono k r _ _ _ _ _ _) h fun a H' => wpDraw_mono k r _ _ _ _ _ _

theorem wpE_mono : ∀ (c : Code) (tm : Tm) (H : AHeap) (K K' : Kt), (∀ ex tm H, K ex tm H → K' ex tm H) → wpE P kp S c K tm H → wpE P kp S c K' tm H := by
  intro c
  induction c with
  | skip => intro tm H K K' k h; exact k _ _ _ h
  | label l => intro tm H K K' k h; exact k _ _ _ h
  | exit l => intro tm H K K' k h; exact k _ _ _ h
  | ret => intro tm H K K' k h; exact k _ _ _ h
  | goto l => intro tm H K K' k h; exact h
  | refuse l => intro tm H K K' k h; exact h
  | rangeFunc f p x y _ _ => intro tm H K K' k h; exact h
  | region id ops draw =>
    intro tm H K K' k h
    cases draw with
    | false => exact wpOpsE_mono (k .normal) _ _ _ h
    | true =>
      simp only [wpE] at h ⊢
      split at h
      · rw [Cq_iff] at h ⊢
        refine wpDraw_mono (fun s hs => ⟨hs.1, ?_⟩) _ _ _ _ _ _ _ h
        have := hs.2
        rw [cmQ_iff] at this ⊢
        exact k _ _ _ this
      · exact h
  | seq a b iha ihb =>
    intro tm H K K' k h
    refine iha _ _ _ _ (fun ex tm H h => ?_) h
    cases ex with
    | normal => exact ihb _ _ _ _ k h
    | exit i => exact k _ _ _ h
    | ret => exact k _ _ _ h
  | cond x a b iha ihb =>
    intro tm H K K' k h
    simp only [wpE] at h ⊢
    split at h
    case h_2 => exact h
    rename_i v hv
    cases v <;> simp only [Br] at h ⊢
    rename_i t
    cases t with
    | true => exact iha _ _ _ _ k h
    | false => exact ihb _ _ _ _ k h
  | block id b ih =>
    intro tm H K K' k h
    refine ih _ _ _ _ (fun ex tm H h => ?_) h
    cases ex with
    | normal => exact k _ _ _ h
    | exit i =>
      simp only [kBlock] at h ⊢
      split at h
      · rename_i e; rw [if_pos e]; exact k _ _ _ h
      · rename_i e; rw [if_neg e]; exact k _ _ _ h
    | ret => exact k _ _ _ h
  | loop b ih =>
    intro tm H K K' k h X hX
    refine h X fun tm H h => hX tm H (ih _ _ _ _ (fun ex tm H h => ?_) h)
    cases ex with
    | normal => exact h
    | exit i => exact k _ _ _ h
    | ret => exact k _ _ _ h
  | scope b ih => intro tm H K K' k h; exact ih _ _ _ _ k h

/-- a loop's body, once more -/
theorem loop_fold {b : Code} {K : Kt} {tm : Tm} {H : AHeap} (h : wpE P kp S b (kLoop (keepL S b) K (LFP fun X => wpE P kp S b (kLoop (keepL S b) K X))) tm H) : LFP (fun X => wpE P kp S b (kLoop (keepL S b) K X)) tm H := by
  intro X hX
  refine hX _ _ (wpE_mono b _ _ _ _ (fun ex tm H h => ?_) h)
  cases ex with
  | normal => exact h X hX
  | exit i => exact h
  | ret => exact h

/-- a loop: with a number that falls -/
theorem loop_rule {σ : Type} {b : Code} {K : Kt} (T : σ → Tm) (B : (Tm → AHeap → Prop) → σ → AHeap → Prop)
    (hB : ∀ (X : Tm → AHeap → Prop) (x : σ) (H : AHeap), B X x H = wpE P kp S b (kLoop (keepL S b) K X) (T x) H)
    (J : Nat → σ → AHeap → Prop) (step : ∀ n x H, J n x H → ∀ X : Tm → AHeap → Prop, (∀ m y H', m < n → J m y H' → X (T y) H') → B X x H) :
    ∀ n x H, J n x H → loopW S b (wpE P kp S b) K (T x) H := by
  intro n
  induction n using Nat.strongRecOn with
  | _ n ih =>
    intro x H hJ
    refine loop_fold ?_
    rw [← hB]
    exact step n x H hJ _ fun m y H' hm hy => ih m hm y H' hy

def bodyOf (fn : Func) : Code := fn.body.getD .skip
/-- a part of a body: 0 is the first part, 1 the second -/
def subC : List Nat → Code → Code
  | [], c => c
  | 0 :: p, .seq a _ => subC p a
  | _ :: p, .seq _ b => subC p b
  | 0 :: p, .cond _ a _ => subC p a
  | _ :: p, .cond _ _ b => subC p b
  | _ :: p, .block _ b => subC p b
  | _ :: p, .loop b => subC p b
  | _ :: p, .scope b => subC p b
  | _, c => c

/-- a function, gone through -/
theorem Ca.intro {f : FuncId} {fn : Func} {args : List AV} {H : AHeap} {R : AV → AHeap → Prop} (hf : P.funcs[f]? = some fn)
    (hok : (fn.body.isSome && (decide (args.length ≤ fn.ntmps) && (writesC (bodyOf fn)).all (fun d => decide (d < fn.ntmps)))) = true) (h : wpE P kp (kp f) (bodyOf fn) (retE P fn R) (argsT args 0 .nil) H) : Ca P kp f args H R := by
  obtain ⟨ex, tm', H', ⟨k, hk⟩, h⟩ := wpE_sound _ _ _ _ h
  simp only [Bool.and_eq_true, decide_eq_true_eq] at hok
  obtain ⟨hs, hok⟩ := hok
  obtain ⟨c, hb⟩ : ∃ c, fn.body = some c := by
    cases e : fn.body with
    | none => rw [e] at hs; cases hs
    | some c => exact ⟨c, rfl⟩
  have hc : bodyOf fn = c := by unfold bodyOf; rw [hb]; rfl
  rw [hc] at hok hk
  unfold retE at h
  have go : ∀ v, retA P fn tm' H' = some v → (∀ i, ex ≠ .exit i) → Big P kp f args H v H' := by
    intro v hv hex
    refine ⟨k + 1, fun j hj => ?_⟩
    obtain ⟨j, rfl⟩ : ∃ j', j = j' + 1 := ⟨j - 1, by omega⟩
    simp only [acall, hf, hb]
    rw [if_pos hok, hk j (by omega)]
    cases ex with
    | exit i => exact absurd rfl (hex i)
    | normal => simp [hv]
    | ret => simp [hv]
  cases ex with
  | exit i => exact h.elim
  | normal =>
    simp only [Pu_iff] at h
    obtain ⟨v, hv, hR⟩ := h
    exact ⟨v, H', go v hv (fun i => by simp), hR⟩
  | ret =>
    simp only [Pu_iff] at h
    obtain ⟨v, hv, hR⟩ := h
    exact ⟨v, H', go v hv (fun i => by simp), hR⟩

/-- the model's own call -/
theorem Big.calls (hP : Fit P) {f : FuncId} {args : List AV} {H : AHeap} {v : AV} {H' : AHeap} (h : Big P kp f args H v H') {E : Env} {w : World} {vs : List Value} (r : Rel E H w) (hv : VL E args vs) :
    Calls P f vs.toArray w (fun e w' => ∃ u E', e = .returned u ∧ V E' v u ∧ Sim E H w E' H' w') := by
  obtain ⟨k, hk⟩ := h
  exact (acall_sound hP kp k f args H v H' (hk k (Nat.le_refl _)) E w vs r hv).2
end
end Go.AM
