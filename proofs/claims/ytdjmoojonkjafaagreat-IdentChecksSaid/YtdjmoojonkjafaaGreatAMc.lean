/- The abstract machine, third part: how its values and its heap stand to the model's, and what a step may do to a world. -/
import Derived.Test.YtdjmoojonkjafaaGreatAMb
import Derived.Laws.Sem
import Derived.Laws.World
import Derived.Laws.Rows
import Derived.Laws.Cells
namespace Go.AM

/-- where a handle's block lies: its number, where it begins in it, how many cells an element has, how many cells the block has -/
structure HB where
  blk : Nat
  base : Nat
  sz : Nat
  lim : Nat

/-- the handles' places; the blocks that are never written -/
structure Env where
  β : Nat → Option HB
  I : Nat → Option Obj

structure Env.le (E E' : Env) : Prop where
  b : ∀ h x, E.β h = some x → E'.β h = some x
  i : ∀ k o, E.I k = some o → E'.I k = some o

theorem Env.le.refl (E : Env) : E.le E := ⟨fun _ _ h => h, fun _ _ h => h⟩
theorem Env.le.trans {A B C : Env} (h : A.le B) (k : B.le C) : A.le C := ⟨fun a x q => k.b a x (h.b a x q), fun a x q => k.i a x (h.i a x q)⟩

mutual
/-- an abstract value stands for a value -/
def V (E : Env) : AV → Value → Prop
  | .bool b, v => v = .bool b
  | .int k n, v => v = .int k n
  | .str s, v => v = .string s
  | .nilp, v => v = .pointer none
  | .ptr h off, v => ∃ hb, E.β h = some hb ∧ v = .pointer (some ⟨hb.blk, hb.base + off, none⟩)
  | .lptr es, v => ∃ a c T fz, v = .pointer (some a) ∧ a.spot = none ∧ E.I a.block = some (.cells c T fz) ∧ VL E es ((c.toList.drop a.off).take es.length)
  | .nils, v => v = .slice none 0 0
  | .sl h off len cp, v => ∃ hb a cap, E.β h = some hb ∧ v = .slice (some a) len cap ∧ len ≤ cap ∧
      ((len = 0 ∧ cap = 0) ∨ (a = ⟨hb.blk, hb.base + off, none⟩ ∧ ∀ z, cp = .gr z → hb.base + off + cap * z ≤ hb.lim)) ∧ ∀ c, cp = .ex c → cap = c
  | .lit es len ex, v => ∃ a cap, v = .slice (some a) len cap ∧ len ≤ cap ∧ (ex = true → cap = len) ∧
      ((len = 0 ∧ es = []) ∨ (a.spot = none ∧ ∃ c T fz, E.I a.block = some (.cells c T fz) ∧ VL E es ((c.toList.drop a.off).take es.length)))
  | .nilm, v => v = .map none
  | .map h, v => ∃ hb, E.β h = some hb ∧ v = .map (some hb.blk)
  | .fn f a b, v => ∃ va vb, v = .func f va vb ∧ VL E a va.toList ∧ VL E b vb.toList
  | .nilFn, v => v = .nilFunc
  | .iface t x, v => ∃ y, v = .iface t y ∧ V E x y
  | .nilIface, v => v = .nilIface
  | .agg cs, v => ∃ vs, v = .agg vs ∧ VL E cs vs.toList
  | .tup cs, v => ∃ vs, v = .tuple vs ∧ VL E cs vs.toList
def VL (E : Env) : List AV → List Value → Prop
  | [], vs => vs = []
  | a :: as, vs => ∃ v r, vs = v :: r ∧ V E a v ∧ VL E as r
end

section
variable {E : Env}
@[simp] theorem V_bool {b : Bool} {v : Value} : V E (.bool b) v ↔ v = .bool b := by simp [V]
@[simp] theorem V_int {k : IntKind} {n : Int} {v : Value} : V E (.int k n) v ↔ v = .int k n := by simp [V]
@[simp] theorem V_str {s : ByteArray} {v : Value} : V E (.str s) v ↔ v = .string s := by simp [V]
@[simp] theorem V_nilp {v : Value} : V E .nilp v ↔ v = .pointer none := by simp [V]
@[simp] theorem V_nils {v : Value} : V E .nils v ↔ v = .slice none 0 0 := by simp [V]
@[simp] theorem V_nilm {v : Value} : V E .nilm v ↔ v = .map none := by simp [V]
@[simp] theorem V_nilFn {v : Value} : V E .nilFn v ↔ v = .nilFunc := by simp [V]
@[simp] theorem V_nilIface {v : Value} : V E .nilIface v ↔ v = .nilIface := by simp [V]
theorem V_ptr {h off : Nat} {v : Value} : V E (.ptr h off) v ↔ ∃ hb, E.β h = some hb ∧ v = .pointer (some ⟨hb.blk, hb.base + off, none⟩) := by simp [V]
theorem V_agg {cs : List AV} {v : Value} : V E (.agg cs) v ↔ ∃ vs, v = .agg vs ∧ VL E cs vs.toList := by simp [V]
theorem V_tup {cs : List AV} {v : Value} : V E (.tup cs) v ↔ ∃ vs, v = .tuple vs ∧ VL E cs vs.toList := by simp [V]
theorem V_map {h : Nat} {v : Value} : V E (.map h) v ↔ ∃ hb, E.β h = some hb ∧ v = .map (some hb.blk) := by simp [V]
theorem V_fn {f : Fn} {a b : List AV} {v : Value} : V E (.fn f a b) v ↔ ∃ va vb, v = .func f va vb ∧ VL E a va.toList ∧ VL E b vb.toList := by simp [V]
@[simp] theorem VL_nil {vs : List Value} : VL E [] vs ↔ vs = [] := by simp [VL]
theorem VL_cons {a : AV} {as : List AV} {vs : List Value} : VL E (a :: as) vs ↔ ∃ v r, vs = v :: r ∧ V E a v ∧ VL E as r := by simp [VL]
@[simp] theorem VL_cons_cons {a : AV} {as : List AV} {v : Value} {r : List Value} : VL E (a :: as) (v :: r) ↔ V E a v ∧ VL E as r := by
  rw [VL_cons]; constructor
  · rintro ⟨_, _, h, x, y⟩; cases h; exact ⟨x, y⟩
  · rintro ⟨x, y⟩; exact ⟨_, _, rfl, x, y⟩
@[simp] theorem VL_cons_nil {a : AV} {as : List AV} : ¬ VL E (a :: as) [] := by rw [VL_cons]; rintro ⟨_, _, h, _⟩; cases h

theorem V_undef : V E undefA undef := by rw [V_tup]; exact ⟨#[], rfl, by simp⟩

theorem VL.length : ∀ {as : List AV} {vs : List Value}, VL E as vs → vs.length = as.length
  | [], vs, h => by rw [VL_nil] at h; rw [h]; rfl
  | a :: as, vs, h => by
    rw [VL_cons] at h
    obtain ⟨v, r, rfl, _, h⟩ := h
    simp [VL.length h]

theorem VL.get : ∀ {as : List AV} {vs : List Value} {i : Nat} {a : AV}, VL E as vs → as[i]? = some a → ∃ v, vs[i]? = some v ∧ V E a v
  | [], _, _, _, _, h => by simp at h
  | x :: as, vs, i, a, h, hi => by
    rw [VL_cons] at h
    obtain ⟨v, r, rfl, hv, h⟩ := h
    cases i with
    | zero => simp at hi; subst hi; exact ⟨v, rfl, hv⟩
    | succ i => simp at hi; simpa using VL.get h hi

theorem VL.append : ∀ {as bs : List AV} {vs us : List Value}, VL E as vs → VL E bs us → VL E (as ++ bs) (vs ++ us)
  | [], _, vs, _, h, k => by rw [VL_nil] at h; subst h; simpa using k
  | a :: as, _, vs, _, h, k => by
    rw [VL_cons] at h
    obtain ⟨v, r, rfl, hv, h⟩ := h
    simp only [List.cons_append, VL_cons_cons]
    exact ⟨hv, VL.append h k⟩

theorem VL.take : ∀ {as : List AV} {vs : List Value} (n : Nat), VL E as vs → VL E (as.take n) (vs.take n)
  | [], vs, n, h => by rw [VL_nil] at h; subst h; simp
  | a :: as, vs, n, h => by
    rw [VL_cons] at h
    obtain ⟨v, r, rfl, hv, h⟩ := h
    cases n with
    | zero => simp
    | succ n => simp only [List.take_succ_cons, VL_cons_cons]; exact ⟨hv, VL.take n h⟩

theorem VL.drop : ∀ {as : List AV} {vs : List Value} (n : Nat), VL E as vs → VL E (as.drop n) (vs.drop n)
  | [], vs, n, h => by rw [VL_nil] at h; subst h; simp
  | a :: as, vs, n, h => by
    rw [VL_cons] at h
    obtain ⟨v, r, rfl, hv, h⟩ := h
    cases n with
    | zero => simp only [List.drop_zero, VL_cons_cons]; exact ⟨hv, h⟩
    | succ n => simpa using VL.drop n h

theorem VL.set : ∀ {as : List AV} {vs : List Value} {a : AV} {v : Value} (n : Nat), VL E as vs → V E a v → VL E (as.set n a) (vs.set n v)
  | [], vs, _, _, n, h, _ => by rw [VL_nil] at h; subst h; simp
  | a :: as, vs, _, _, n, h, k => by
    rw [VL_cons] at h
    obtain ⟨v, r, rfl, hv, h⟩ := h
    cases n with
    | zero => simp only [List.set_cons_zero, VL_cons_cons]; exact ⟨k, h⟩
    | succ n => simp only [List.set_cons_succ, VL_cons_cons]; exact ⟨hv, VL.set n h k⟩

theorem VL.split {as bs : List AV} {vs : List Value} (h : VL E (as ++ bs) vs) : ∃ x y, vs = x ++ y ∧ VL E as x ∧ VL E bs y := by
  refine ⟨vs.take as.length, vs.drop as.length, (List.take_append_drop _ _).symm, ?_, ?_⟩
  · have := h.take as.length; simpa using this
  · have := h.drop as.length; simpa using this

theorem VL.rep {as : List AV} {vs : List Value} (h : VL E as vs) : ∀ n, VL E (repA as n) ((List.replicate n vs).flatten)
  | 0 => by simp [repA]
  | n + 1 => by simp only [repA, List.replicate_succ, List.flatten_cons]; exact h.append (VL.rep h n)

theorem repA_length (z : List AV) : ∀ n, (repA z n).length = n * z.length
  | 0 => by simp [repA]
  | n + 1 => by simp [repA, repA_length z n, Nat.succ_mul]; omega

theorem V.cells {a : AV} {v : Value} (h : V E a v) : VL E a.cells v.cells.toList := by
  cases a <;> simp only [V] at h <;>
    first
    | (obtain ⟨vs, rfl, h⟩ := h; exact h)
    | (subst h; simp only [AV.cells, Value.cells, VL_cons_cons, VL_nil]; simp [V])
    | skip
  case ptr => obtain ⟨hb, h1, rfl⟩ := h; simp only [AV.cells, Value.cells, VL_cons_cons, VL_nil]; exact ⟨by rw [V_ptr]; exact ⟨hb, h1, rfl⟩, trivial⟩
  case map => obtain ⟨hb, h1, rfl⟩ := h; simp only [AV.cells, Value.cells, VL_cons_cons, VL_nil]; exact ⟨by rw [V_map]; exact ⟨hb, h1, rfl⟩, trivial⟩
  case lptr => have h' := h; obtain ⟨a, c, T, fz, rfl, _⟩ := h'; simp only [AV.cells, Value.cells, VL_cons_cons, VL_nil]; exact ⟨by simp only [V]; exact h, trivial⟩
  case sl => have h' := h; obtain ⟨hb, a, cap, _, rfl, _⟩ := h'; simp only [AV.cells, Value.cells, VL_cons_cons, VL_nil]; exact ⟨by simp only [V]; exact h, trivial⟩
  case lit => have h' := h; obtain ⟨a, cap, rfl, _⟩ := h'; simp only [AV.cells, Value.cells, VL_cons_cons, VL_nil]; exact ⟨by simp only [V]; exact h, trivial⟩
  case fn => have h' := h; obtain ⟨a, b, rfl, _⟩ := h'; simp only [AV.cells, Value.cells, VL_cons_cons, VL_nil]; exact ⟨by simp only [V]; exact h, trivial⟩
  case iface => have h' := h; obtain ⟨y, rfl, _⟩ := h'; simp only [AV.cells, Value.cells, VL_cons_cons, VL_nil]; exact ⟨by simp only [V]; exact h, trivial⟩
  case tup => have h' := h; obtain ⟨y, rfl, _⟩ := h'; simp only [AV.cells, Value.cells, VL_cons_cons, VL_nil]; exact ⟨by simp only [V]; exact h, trivial⟩

theorem V.scalar {a : AV} {v : Value} (h : V E a v) (hs : scalarA a = true) : v.oneCell' = true := by
  cases a <;> simp only [V, scalarA, Bool.false_eq_true] at h hs <;>
    first
    | (subst h; rfl)
    | (obtain ⟨_, _, rfl⟩ := h; rfl)
    | (obtain ⟨_, _, _, _, rfl, _⟩ := h; rfl)
    | (obtain ⟨_, _, _, _, rfl, _⟩ := h; rfl)
    | (obtain ⟨_, _, rfl, _⟩ := h; rfl)
    | (obtain ⟨_, rfl, _⟩ := h; rfl)
end

mutual
theorem V.mono {E E' : Env} (h : E.le E') : ∀ {a : AV} {v : Value}, V E a v → V E' a v
  | .bool _, _, q | .int _ _, _, q | .str _, _, q | .nilp, _, q | .nils, _, q | .nilm, _, q | .nilFn, _, q | .nilIface, _, q => by simpa [V] using q
  | .ptr _ _, _, q => by simp only [V] at q ⊢; obtain ⟨hb, x, y⟩ := q; exact ⟨hb, h.b _ _ x, y⟩
  | .map _, _, q => by simp only [V] at q ⊢; obtain ⟨hb, x, y⟩ := q; exact ⟨hb, h.b _ _ x, y⟩
  | .lptr es, _, q => by
    simp only [V] at q ⊢
    obtain ⟨a, c, T, fz, x, y, z, u⟩ := q
    exact ⟨a, c, T, fz, x, y, h.i _ _ z, VL.mono h u⟩
  | .sl _ _ _ _, _, q => by
    simp only [V] at q ⊢
    obtain ⟨hb, a, cap, x, y⟩ := q
    exact ⟨hb, a, cap, h.b _ _ x, y⟩
  | .lit es _ _, _, q => by
    simp only [V] at q ⊢
    obtain ⟨a, cap, x, y, z, u⟩ := q
    refine ⟨a, cap, x, y, z, u.imp id ?_⟩
    rintro ⟨s, c, T, fz, i, k⟩
    exact ⟨s, c, T, fz, h.i _ _ i, VL.mono h k⟩
  | .fn _ a b, _, q => by
    simp only [V] at q ⊢
    obtain ⟨va, vb, x, y, z⟩ := q
    exact ⟨va, vb, x, VL.mono h y, VL.mono h z⟩
  | .iface _ a, _, q => by
    simp only [V] at q ⊢
    obtain ⟨y, x, z⟩ := q
    exact ⟨y, x, V.mono h z⟩
  | .agg a, _, q => by
    simp only [V] at q ⊢
    obtain ⟨y, x, z⟩ := q
    exact ⟨y, x, VL.mono h z⟩
  | .tup a, _, q => by
    simp only [V] at q ⊢
    obtain ⟨y, x, z⟩ := q
    exact ⟨y, x, VL.mono h z⟩
theorem VL.mono {E E' : Env} (h : E.le E') : ∀ {as : List AV} {vs : List Value}, VL E as vs → VL E' as vs
  | [], _, q => by simpa using q
  | a :: as, _, q => by
    rw [VL_cons] at q ⊢
    obtain ⟨v, r, x, y, z⟩ := q
    exact ⟨v, r, x, V.mono h y, VL.mono h z⟩
end

mutual
theorem ofVal_V {E : Env} : ∀ {v : Value} {a : AV}, ofVal v = some a → V E a v
  | .bool _, _, h | .int _ _, _, h | .string _, _, h | .nilFunc, _, h | .nilIface, _, h => by simp only [ofVal, Option.some.injEq] at h; subst h; simp
  | .pointer none, _, h | .map none, _, h | .slice none 0 0, _, h => by simp only [ofVal, Option.some.injEq] at h; subst h; simp
  | .pointer (some _), _, h | .map (some _), _, h | .slice (some _) _ _, _, h | .slice none (_ + 1) _, _, h | .slice none 0 (_ + 1), _, h => by simp [ofVal] at h
  | .float _ _, _, h | .complex _ _ _, _, h | .chan _, _, h | .func _ _ _, _, h | .iface _ _, _, h => by simp [ofVal] at h
  | .agg a, _, h => by
    simp only [ofVal, Option.map_eq_some_iff] at h
    obtain ⟨l, hl, rfl⟩ := h
    rw [V_agg]; exact ⟨a, rfl, ofValA_V hl⟩
  | .tuple a, _, h => by
    simp only [ofVal, Option.map_eq_some_iff] at h
    obtain ⟨l, hl, rfl⟩ := h
    rw [V_tup]; exact ⟨a, rfl, ofValA_V hl⟩
theorem ofValA_V {E : Env} : ∀ {a : Array Value} {l : List AV}, ofValA a = some l → VL E l a.toList
  | ⟨vs⟩, _, h => ofValL_V (by simpa [ofValA] using h)
theorem ofValL_V {E : Env} : ∀ {vs : List Value} {l : List AV}, ofValL vs = some l → VL E l vs
  | [], _, h => by simp only [ofValL, Option.some.injEq] at h; subst h; simp
  | v :: vs, _, h => by
    simp only [ofValL] at h
    split at h
    · rename_i a ha
      simp only [Option.map_eq_some_iff] at h
      obtain ⟨l, hl, rfl⟩ := h
      simp only [VL_cons_cons]
      exact ⟨ofVal_V ha, ofValL_V hl⟩
    · simp at h
end

/-! ## the heap -/
/-- an entry of a map -/
def VE (E : Env) : List (AV × AV × Nat) → List MapEntry → Prop
  | [], es => es = []
  | x :: xs, es => ∃ e r, es = e :: r ∧ V E x.1 e.key ∧ V E x.2.1 e.val ∧ e.born = x.2.2 ∧ VE E xs r

theorem VE.mono {E E' : Env} (h : E.le E') : ∀ {xs : List (AV × AV × Nat)} {es : List MapEntry}, VE E xs es → VE E' xs es
  | [], _, q => q
  | _ :: _, _, ⟨e, r, x, y, z, u, q⟩ => ⟨e, r, x, y.mono h, z.mono h, u, VE.mono h q⟩

def BlkRel (E : Env) (hb : HB) (w : World) : ABlk → Prop
  | .cells sz cs => hb.sz = sz ∧ ∃ c T fz, w.heap[hb.blk]? = some (.cells c T fz) ∧ c.size = hb.lim ∧ hb.base + cs.length ≤ hb.lim ∧
      VL E cs ((c.toList.drop hb.base).take cs.length) ∧ ∀ i, hb.base ≤ i → i < hb.lim → ¬ (fz.1 ≤ i ∧ i < fz.2)
  | .map es clock => ∃ ces, w.heap[hb.blk]? = some (.map ces clock) ∧ VE E es ces.toList
  | .dead => False

theorem BlkRel.mono {E E' : Env} {hb : HB} {w w' : World} {b : ABlk} (h : E.le E') (hw : w'.heap[hb.blk]? = w.heap[hb.blk]?) (q : BlkRel E hb w b) : BlkRel E' hb w' b := by
  cases b with
  | cells sz cs =>
    obtain ⟨x, c, T, fz, y, z, u, p, r⟩ := q
    exact ⟨x, c, T, fz, hw.trans y, z, u, p.mono h, r⟩
  | map es clock =>
    obtain ⟨ces, x, y⟩ := q
    exact ⟨ces, hw.trans x, y.mono h⟩
  | dead => exact q

theorem BlkRel.lt {E : Env} {hb : HB} {w : World} {b : ABlk} (q : BlkRel E hb w b) : hb.blk < w.heap.size := by
  have key : ∀ o : Obj, w.heap[hb.blk]? = some o → hb.blk < w.heap.size := fun o h => (Array.getElem?_eq_some_iff.1 h).1
  cases b with
  | cells sz cs => obtain ⟨x, c, T, fz, y, _⟩ := q; exact key _ y
  | map es clock => obtain ⟨ces, x, y⟩ := q; exact key _ x
  | dead => exact q.elim

/-- the heap of handles stands for a part of the world -/
structure Rel (E : Env) (H : AHeap) (w : World) : Prop where
  live : ∀ h b, H.get h = some b → ∃ hb, E.β h = some hb ∧ BlkRel E hb w b
  inj : ∀ h h' b b' hb hb', H.get h = some b → H.get h' = some b' → E.β h = some hb → E.β h' = some hb' → hb.blk = hb'.blk → h = h'
  imm : ∀ k o, E.I k = some o → w.heap[k]? = some o
  sep : ∀ h b hb, H.get h = some b → E.β h = some hb → E.I hb.blk = none
  bound : ∀ h, E.β h ≠ none → h < H.n

/-- is a block one of the heap's? -/
def Mine (E : Env) (H : AHeap) (k : Nat) : Prop := ∃ h b hb, H.get h = some b ∧ E.β h = some hb ∧ hb.blk = k

/-- what a step does -/
structure Sim (E : Env) (H : AHeap) (w : World) (E' : Env) (H' : AHeap) (w' : World) : Prop where
  le : E.le E'
  rel : Rel E' H' w'
  os : w'.os = w.os
  tape : w'.tape = w.tape
  output : w'.output = w.output
  size : w.heap.size ≤ w'.heap.size
  frame : ∀ k, k < w.heap.size → ¬ Mine E H k → w'.heap[k]? = w.heap[k]?
  mine : ∀ k, Mine E' H' k → Mine E H k ∨ w.heap.size ≤ k
  live : ∀ h, h < H.n → H.get h = none → H'.get h = none
  n : H.n ≤ H'.n
  old : ∀ h, h < H.n → E'.β h = E.β h
  newI : ∀ k, E.I k = none → E'.I k ≠ none → w.heap.size ≤ k

theorem Sim.refl {E : Env} {H : AHeap} {w : World} (r : Rel E H w) : Sim E H w E H w :=
  ⟨.refl _, r, rfl, rfl, rfl, Nat.le_refl _, fun _ _ _ => rfl, fun _ h => .inl h, fun _ _ h => h, Nat.le_refl _, fun _ _ => rfl, fun _ h h' => absurd h h'⟩

theorem Sim.trans {E₁ E₂ E₃ : Env} {H₁ H₂ H₃ : AHeap} {w₁ w₂ w₃ : World} (a : Sim E₁ H₁ w₁ E₂ H₂ w₂) (b : Sim E₂ H₂ w₂ E₃ H₃ w₃) : Sim E₁ H₁ w₁ E₃ H₃ w₃ where
  le := a.le.trans b.le
  rel := b.rel
  os := b.os.trans a.os
  tape := b.tape.trans a.tape
  output := b.output.trans a.output
  size := Nat.le_trans a.size b.size
  frame k hk hm := by
    rw [b.frame k (Nat.lt_of_lt_of_le hk a.size) (fun h => (a.mine k h).elim hm (fun h => by omega)), a.frame k hk hm]
  mine k h := (b.mine k h).elim (fun h => a.mine k h) (fun h => .inr (Nat.le_trans a.size h))
  live h hn hg := b.live h (Nat.lt_of_lt_of_le hn a.n) (a.live h hn hg)
  n := Nat.le_trans a.n b.n
  old h hn := (b.old h (Nat.lt_of_lt_of_le hn a.n)).trans (a.old h hn)
  newI k h h' := by
    by_cases h2 : E₂.I k = none
    · exact Nat.le_trans a.size (b.newI k h2 h')
    · exact a.newI k h h2

theorem Rel.weaken {E : Env} {H H' : AHeap} {w : World} (r : Rel E H w) (h : ∀ x b, H'.get x = some b → H.get x = some b) (hn : H.n ≤ H'.n) : Rel E H' w :=
  ⟨fun x b hx => r.live x b (h x b hx), fun x x' b b' hb hb' hx hx' => r.inj x x' b b' hb hb' (h _ _ hx) (h _ _ hx'), r.imm, fun x b hb hx => r.sep x b hb (h _ _ hx), fun x hx => Nat.lt_of_lt_of_le (r.bound x hx) hn⟩

theorem Sim.weaken {E E' : Env} {H H₁ H₂ : AHeap} {w w' : World} (s : Sim E H w E' H₁ w') (h : ∀ x b, H₂.get x = some b → H₁.get x = some b) (hn : H₁.n = H₂.n) : Sim E H w E' H₂ w' :=
  { s with
    rel := s.rel.weaken h (by omega)
    mine := fun k ⟨x, b, hb, hx, hβ, e⟩ => s.mine k ⟨x, b, hb, h _ _ hx, hβ, e⟩
    live := fun x hx hg => by
      cases e : H₂.get x with
      | none => rfl
      | some b => have := h _ _ e; rw [s.live x hx hg] at this; cases this
    n := by have := s.n; omega }

/-- a draw alone -/
theorem Rel.of_heap {E : Env} {H : AHeap} {w w' : World} (r : Rel E H w) (h : w'.heap = w.heap) : Rel E H w' :=
  ⟨fun x b hx => let ⟨hb, p, q⟩ := r.live x b hx; ⟨hb, p, q.mono (.refl _) (by rw [h])⟩, r.inj, fun k o hk => by rw [h]; exact r.imm k o hk, r.sep, r.bound⟩

theorem Sim.drew {E : Env} {H : AHeap} {w : World} (r : Rel E H w) : Sim E H w E H w.drew :=
  { Sim.refl r with rel := r.of_heap rfl, os := rfl, tape := rfl, output := rfl, size := Nat.le_refl _, frame := fun _ _ _ => rfl }

theorem AHeap.get_set (H : AHeap) (h : Nat) (b : ABlk) (hb : b ≠ .dead) (h' : Nat) : (H.set h b).get h' = if h' = h then some b else H.get h' := by
  simp only [AHeap.get, AHeap.set, Tr.get_set]
  by_cases e : h' = h
  · simp only [e, if_true]
    cases b <;> first | rfl | exact absurd rfl hb
  · simp only [e, if_false]

theorem AHeap.get_kill (H : AHeap) (h h' : Nat) : (H.set h .dead).get h' = if h' = h then none else H.get h' := by
  simp only [AHeap.get, AHeap.set, Tr.get_set]
  by_cases e : h' = h
  · simp only [e, if_true]
  · simp only [e, if_false]

theorem AHeap.get_push (H : AHeap) (b : ABlk) (hb : b ≠ .dead) (h' : Nat) : (H.push b).get h' = if h' = H.n then some b else H.get h' := by
  simp only [AHeap.get, AHeap.push, Tr.get_set]
  by_cases e : h' = H.n
  · simp only [e, if_true]
    cases b <;> first | rfl | exact absurd rfl hb
  · simp only [e, if_false]

theorem AHeap.n_set (H : AHeap) (h : Nat) (b : ABlk) : (H.set h b).n = H.n := rfl
theorem AHeap.n_push (H : AHeap) (b : ABlk) : (H.push b).n = H.n + 1 := rfl
attribute [local simp] AHeap.n_set AHeap.n_push

/-- a block of no handle is laid down, and never written -/
theorem Sim.imm {E : Env} {H : AHeap} {w : World} (r : Rel E H w) (o : Obj) :
    Sim E H w ⟨E.β, fun k => if k = w.heap.size then some o else E.I k⟩ H (w.alloc o) := by
  have hI : ∀ k, E.I k ≠ none → k < w.heap.size := by
    intro k hk
    cases e : E.I k with
    | none => exact absurd e hk
    | some x => exact (Array.getElem?_eq_some_iff.1 (r.imm k x e)).1
  have le : E.le ⟨E.β, fun k => if k = w.heap.size then some o else E.I k⟩ :=
    ⟨fun _ _ h => h, fun k x h => by have := hI k (by rw [h]; simp); simp only; rw [if_neg (by omega)]; exact h⟩
  refine ⟨le, ⟨fun x b hx => ?_, r.inj, ?_, ?_, r.bound⟩, rfl, rfl, rfl, by simp, ?_, fun _ h => .inl h, fun _ _ h => h, Nat.le_refl _, fun _ _ => rfl, ?_⟩
  · obtain ⟨hb, p, q⟩ := r.live x b hx
    exact ⟨hb, p, q.mono le (heap_alloc_old _ _ _ q.lt)⟩
  · intro k x hk
    simp only at hk
    split at hk
    · rename_i e; subst e; cases hk; exact heap_alloc_new _ _
    · rw [heap_alloc_old _ _ _ (hI k (by rw [hk]; simp))]; exact r.imm k x hk
  · intro x b hb hx hβ
    obtain ⟨hb', p, q⟩ := r.live x b hx
    have e : hb' = hb := Option.some.inj (p.symm.trans hβ)
    subst e
    have := q.lt
    simp only
    rw [if_neg (by omega)]
    exact r.sep x b hb' hx hβ
  · intro k hk _
    exact heap_alloc_old _ _ _ hk
  · intro k h h'
    simp only at h'
    split at h'
    · omega
    · exact absurd h h'
end Go.AM
