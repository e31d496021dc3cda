/- The abstract machine: a deterministic interpreter of the model's Code over a heap of handles. Definitions alone. -/
import Derived.Calls
import Derived.Below
import GoSem.Dispatch
namespace Go.AM

/-! ## a map from numbers, as a tree (quick in the kernel) -/
inductive Tr (α : Type) where
  | nil
  | node (l : Tr α) (v : Option α) (r : Tr α)

def Tr.get {α : Type} : Tr α → Nat → Option α
  | .nil, _ => none
  | .node l v r, i => if i = 0 then v else if i % 2 = 1 then l.get ((i - 1) / 2) else r.get ((i - 1) / 2)

def Tr.put {α : Type} : Nat → Tr α → Nat → Option α → Tr α
  | 0, t, _, _ => t
  | f + 1, .nil, i, o => if i = 0 then .node .nil o .nil else if i % 2 = 1 then .node (Tr.put f .nil ((i - 1) / 2) o) none .nil else .node .nil none (Tr.put f .nil ((i - 1) / 2) o)
  | f + 1, .node l v r, i, o => if i = 0 then .node l o r else if i % 2 = 1 then .node (Tr.put f l ((i - 1) / 2) o) v r else .node l v (Tr.put f r ((i - 1) / 2) o)

def Tr.set {α : Type} (t : Tr α) (i : Nat) (a : α) : Tr α := Tr.put (i + 1) t i (some a)
def Tr.nd {α : Type} (l : Tr α) (v : Option α) (r : Tr α) : Tr α :=
  match l, v, r with
  | .nil, none, .nil => .nil
  | l, v, r => .node l v r

/-- what is taken out leaves no empty node: a map has one tree -/
def Tr.del {α : Type} : Tr α → Nat → Tr α
  | .nil, _ => .nil
  | .node l v r, i => if i = 0 then .nd l none r else if i % 2 = 1 then .nd (l.del ((i - 1) / 2)) v r else .nd l v (r.del ((i - 1) / 2))

theorem Tr.get_nd {α : Type} (l : Tr α) (v : Option α) (r : Tr α) (i : Nat) : (Tr.nd l v r).get i = (Tr.node l v r).get i := by
  unfold Tr.nd
  split
  · simp [Tr.get]
  · rfl

theorem Tr.get_put {α : Type} : ∀ (f : Nat) (t : Tr α) (i : Nat) (o : Option α) (j : Nat), i < f → (Tr.put f t i o).get j = if j = i then o else t.get j := by
  intro f
  induction f with
  | zero => intro t i o j h; omega
  | succ f ih =>
    intro t i o j h
    cases t with
    | nil =>
      by_cases h0 : i = 0
      · subst h0; simp only [Tr.put, if_true, Tr.get]; by_cases hj : j = 0 <;> simp [hj]
      · by_cases h1 : i % 2 = 1
        · simp only [Tr.put, h0, h1, if_true, if_false, Tr.get]
          by_cases hj : j = 0
          · subst hj; simp; intro e; exact absurd e.symm h0
          · by_cases hj1 : j % 2 = 1
            · rw [if_neg hj, if_pos hj1, ih _ _ _ _ (by omega)]
              by_cases e : j = i
              · subst e; simp
              · rw [if_neg e, if_neg (by omega)]; rfl
            · rw [if_neg hj, if_neg hj1, if_neg (by omega)]
        · simp only [Tr.put, h0, h1, if_false, Tr.get]
          by_cases hj : j = 0
          · subst hj; simp; intro e; exact absurd e.symm h0
          · by_cases hj1 : j % 2 = 1
            · rw [if_neg hj, if_pos hj1, if_neg (by omega)]
            · rw [if_neg hj, if_neg hj1, ih _ _ _ _ (by omega)]
              by_cases e : j = i
              · subst e; simp
              · rw [if_neg e, if_neg (by omega)]; rfl
    | node l v r =>
      by_cases h0 : i = 0
      · subst h0; simp only [Tr.put, if_true, Tr.get]; by_cases hj : j = 0 <;> simp [hj]
      · by_cases h1 : i % 2 = 1
        · simp only [Tr.put, h0, h1, if_true, if_false, Tr.get]
          by_cases hj : j = 0
          · subst hj; simp; intro e; exact absurd e.symm h0
          · by_cases hj1 : j % 2 = 1
            · rw [if_neg hj, if_pos hj1, ih _ _ _ _ (by omega)]
              by_cases e : j = i
              · subst e; simp
              · rw [if_neg e, if_neg (by omega), if_neg hj, if_pos hj1]
            · rw [if_neg hj, if_neg hj1, if_neg (by omega), if_neg hj, if_neg hj1]
        · simp only [Tr.put, h0, h1, if_false, Tr.get]
          by_cases hj : j = 0
          · subst hj; simp; intro e; exact absurd e.symm h0
          · by_cases hj1 : j % 2 = 1
            · rw [if_neg hj, if_pos hj1, if_neg (by omega), if_neg hj, if_pos hj1]
            · rw [if_neg hj, if_neg hj1, ih _ _ _ _ (by omega)]
              by_cases e : j = i
              · subst e; simp
              · rw [if_neg e, if_neg (by omega), if_neg hj, if_neg hj1]

theorem Tr.get_set {α : Type} (t : Tr α) (i : Nat) (a : α) (j : Nat) : (t.set i a).get j = if j = i then some a else t.get j := Tr.get_put _ _ _ _ _ (by omega)
theorem Tr.get_del {α : Type} (t : Tr α) : ∀ (i : Nat) (j : Nat), (t.del i).get j = if j = i then none else t.get j := by
  induction t with
  | nil => intro i j; simp [Tr.del, Tr.get]
  | node l v r ihl ihr =>
    intro i j
    unfold Tr.del
    split
    · rename_i h0
      subst h0
      rw [Tr.get_nd]; simp only [Tr.get]
      by_cases hj : j = 0 <;> simp [hj]
    · rename_i h0
      split
      · rename_i h1
        rw [Tr.get_nd]; simp only [Tr.get, ihl]
        by_cases hj : j = 0
        · rw [if_pos hj, if_neg (by omega), if_pos hj]
        · rw [if_neg hj, if_neg hj]
          by_cases hj1 : j % 2 = 1
          · rw [if_pos hj1, if_pos hj1]
            by_cases e : j = i
            · subst e; simp
            · rw [if_neg e, if_neg (by omega)]
          · rw [if_neg hj1, if_neg hj1, if_neg (by omega)]
      · rename_i h1
        rw [Tr.get_nd]; simp only [Tr.get, ihr]
        by_cases hj : j = 0
        · rw [if_pos hj, if_neg (by omega), if_pos hj]
        · rw [if_neg hj, if_neg hj]
          by_cases hj1 : j % 2 = 1
          · rw [if_pos hj1, if_pos hj1, if_neg (by omega)]
          · rw [if_neg hj1, if_neg hj1]
            by_cases e : j = i
            · subst e; simp
            · rw [if_neg e, if_neg (by omega)]
@[simp] theorem Tr.get_set_same {α : Type} (t : Tr α) (i : Nat) (a : α) : (t.set i a).get i = some a := by rw [Tr.get_set, if_pos rfl]
theorem Tr.get_set_ne {α : Type} (t : Tr α) {i j : Nat} (a : α) (h : j ≠ i) : (t.set i a).get j = t.get j := by rw [Tr.get_set, if_neg h]

/-! ## values -/
/-- a slice's capacity: it reaches to its block's end, in elements of so many cells; or it is known -/
inductive Cp where
  | gr (sz : Nat)
  | ex (c : Nat)
  deriving DecidableEq

inductive AV where
  | bool (b : Bool)
  | int (k : IntKind) (n : Int)
  | str (s : ByteArray)
  | nilp
  | ptr (h off : Nat)
  /-- the address of cells that are never written -/
  | lptr (es : List AV)
  | nils
  /-- a slice of a block: its handle, where it begins (in cells), its length, its capacity -/
  | sl (h off len : Nat) (cp : Cp)
  /-- a slice whose cells are never written; is its capacity its length? -/
  | lit (es : List AV) (len : Nat) (ex : Bool)
  | nilm
  | map (h : Nat)
  | fn (f : Fn) (first captured : List AV)
  | nilFn
  | iface (t : TypeId) (v : AV)
  | nilIface
  | agg (cs : List AV)
  | tup (vs : List AV)
  deriving Inhabited

def AV.cells : AV → List AV
  | .agg cs => cs
  | v => [v]

mutual
def AV.eqb : AV → AV → Bool
  | .bool a, .bool b => a == b
  | .int k a, .int k' b => decide (k = k') && decide (a = b)
  | .str a, .str b => decide (a.data.toList = b.data.toList)
  | .nilp, .nilp => true
  | .ptr h o, .ptr h' o' => decide (h = h') && decide (o = o')
  | .lptr a, .lptr b => AV.eqbL a b
  | .nils, .nils => true
  | .sl h o n e, .sl h' o' n' e' => decide (h = h') && decide (o = o') && decide (n = n') && decide (e = e')
  | .lit a n e, .lit b n' e' => AV.eqbL a b && decide (n = n') && decide (e = e')
  | .nilm, .nilm => true
  | .map h, .map h' => decide (h = h')
  | .fn f a b, .fn f' a' b' => decide (f = f') && AV.eqbL a a' && AV.eqbL b b'
  | .nilFn, .nilFn => true
  | .iface t v, .iface t' v' => decide (t = t') && AV.eqb v v'
  | .nilIface, .nilIface => true
  | .agg a, .agg b => AV.eqbL a b
  | .tup a, .tup b => AV.eqbL a b
  | _, _ => false
def AV.eqbL : List AV → List AV → Bool
  | [], [] => true
  | a :: as, b :: bs => AV.eqb a b && AV.eqbL as bs
  | _, _ => false
end

mutual
theorem AV.eqb_refl : ∀ a : AV, AV.eqb a a = true
  | .bool _ | .nilp | .nils | .nilm | .nilFn | .nilIface | .int _ _ | .str _ | .ptr _ _ | .sl _ _ _ _ | .map _ => by simp [AV.eqb]
  | .lptr a | .agg a | .tup a => by simp [AV.eqb, AV.eqbL_refl a]
  | .lit a _ _ => by simp [AV.eqb, AV.eqbL_refl a]
  | .fn _ a b => by simp [AV.eqb, AV.eqbL_refl a, AV.eqbL_refl b]
  | .iface _ v => by simp [AV.eqb, AV.eqb_refl v]
theorem AV.eqbL_refl : ∀ a : List AV, AV.eqbL a a = true
  | [] => by simp [AV.eqbL]
  | a :: as => by simp [AV.eqbL, AV.eqb_refl a, AV.eqbL_refl as]
end
attribute [simp] AV.eqb_refl AV.eqbL_refl

mutual
theorem AV.eqb_eq : ∀ (a b : AV), AV.eqb a b = true → a = b := by
  intro a b h
  cases a <;> cases b <;> simp only [AV.eqb, Bool.and_eq_true, decide_eq_true_eq, beq_iff_eq, Bool.false_eq_true] at h
  case str.str a b =>
    congr 1
    cases a with | mk a => cases b with | mk b => cases a; cases b; simp at h; rw [h]
  case lptr.lptr => rw [AV.eqbL_eq _ _ h]
  case lit.lit => rw [AV.eqbL_eq _ _ h.1.1, h.1.2, h.2]
  case fn.fn => rw [h.1.1, AV.eqbL_eq _ _ h.1.2, AV.eqbL_eq _ _ h.2]
  case iface.iface => rw [h.1, AV.eqb_eq _ _ h.2]
  case agg.agg => rw [AV.eqbL_eq _ _ h]
  case tup.tup => rw [AV.eqbL_eq _ _ h]
  all_goals first | rfl | (obtain ⟨⟨⟨rfl, rfl⟩, rfl⟩, rfl⟩ := h; rfl) | (obtain ⟨rfl, rfl⟩ := h; rfl) | (subst h; rfl)
theorem AV.eqbL_eq : ∀ (a b : List AV), AV.eqbL a b = true → a = b
  | [], [], _ => rfl
  | a :: as, b :: bs, h => by
    simp only [AV.eqbL, Bool.and_eq_true] at h
    rw [AV.eqb_eq a b h.1, AV.eqbL_eq as bs h.2]
  | [], _ :: _, h => by simp [AV.eqbL] at h
  | _ :: _, [], h => by simp [AV.eqbL] at h
end

/-! ## constants -/
mutual
def ofVal : Value → Option AV
  | .bool b => some (.bool b)
  | .int k n => some (.int k n)
  | .string s => some (.str s)
  | .pointer none => some .nilp
  | .slice none 0 0 => some .nils
  | .map none => some .nilm
  | .nilFunc => some .nilFn
  | .nilIface => some .nilIface
  | .agg a => (ofValA a).map .agg
  | .tuple a => (ofValA a).map .tup
  | _ => none
def ofValA : Array Value → Option (List AV)
  | ⟨l⟩ => ofValL l
def ofValL : List Value → Option (List AV)
  | [] => some []
  | v :: vs => match ofVal v with
    | some a => (ofValL vs).map (a :: ·)
    | none => none
end

/-! ## the heap -/
inductive ABlk where
  /-- cells; how many make an element -/
  | cells (sz : Nat) (cs : List AV)
  | map (es : List (AV × AV × Nat)) (clock : Nat)
  | dead

structure AHeap where
  m : Tr ABlk
  n : Nat

def AHeap.empty : AHeap := ⟨.nil, 0⟩
def AHeap.get (H : AHeap) (h : Nat) : Option ABlk :=
  match H.m.get h with
  | some .dead => none
  | o => o
def AHeap.set (H : AHeap) (h : Nat) (b : ABlk) : AHeap := ⟨H.m.set h b, H.n⟩
def AHeap.push (H : AHeap) (b : ABlk) : AHeap := ⟨H.m.set H.n b, H.n + 1⟩

abbrev Tm := Tr AV
abbrev undefA : AV := .tup []

section
variable (P : Program)

def sizeT (t : TypeId) : Option Nat := (P.info? t).map (·.size)
def bytesT (t : TypeId) : Option Nat := (P.info? t).map (·.bytes)
def aggT (t : TypeId) : Option Bool :=
  match P.underlying t with
  | some (.struct _) | some (.array _ _) => some true
  | some _ => some false
  | none => none
def zeroT (t : TypeId) : Option AV := ((P.info? t).bind (·.zero)).bind ofVal

/-- a part of a row of cells, as a value of a type -/
def partA (t : TypeId) (cs : List AV) (off : Nat) : Option AV :=
  match aggT P t, sizeT P t with
  | some true, some n => if off + n ≤ cs.length then some (.agg ((cs.drop off).take n)) else none
  | some false, some _ => cs[off]?
  | _, _ => none

def blkCells (H : AHeap) (h : Nat) : Option (List AV) :=
  match H.get h with
  | some (.cells _ cs) => some cs
  | _ => none

/-- what is read without a change -/
inductive Rd where
  | load (t : TypeId) (a : AV)
  | str (v : AV)

def bytesOf : List AV → Option (List UInt8)
  | [] => some []
  | .int .u8 n :: r => if 0 ≤ n ∧ n < 256 then (bytesOf r).map (UInt8.ofNat n.toNat :: ·) else none
  | _ :: _ => none

/-- the cells of the first n elements of a slice (or the bytes of a string) -/
def firstA (sz n : Nat) (H : AHeap) : AV → Option (List AV)
  | .nils => if n * sz = 0 then some [] else none
  | .lit es _ _ => if n * sz ≤ es.length then some (es.take (n * sz)) else none
  | .sl h off len _ =>
    if n * sz = 0 then some [] else
    match H.get h with
    | some (.cells s cs) => if s = sz ∧ n ≤ len ∧ off + n * sz ≤ cs.length then some ((cs.drop off).take (n * sz)) else none
    | _ => none
  | .str s => if sz = 1 ∧ n ≤ s.size then some ((s.extract 0 n).data.toList.map fun b => .int .u8 b.toNat) else none
  | _ => none

def aread (H : AHeap) : Rd → Option AV
  | .load t (.ptr h off) => (blkCells H h).bind fun cs => partA P t cs off
  | .load t (.lptr es) => partA P t es 0
  | .str .nils => some (.str .empty)
  | .str (.lit es len _) => if len = es.length then (bytesOf es).map fun l => .str ⟨l.toArray⟩ else none
  | .str (.sl h off len cp) => (firstA 1 len H (.sl h off len cp)).bind fun cs => (bytesOf cs).map fun l => .str ⟨l.toArray⟩
  | _ => none

/-! ## pure operations -/
def aInt (op : BinOp) (k : IntKind) (x y : Int) : Option AV :=
  match op with
  | .add => some (.int k (k.wrap (x + y)))
  | .sub => some (.int k (k.wrap (x - y)))
  | .mul => some (.int k (k.wrap (x * y)))
  | .quo => if y = 0 then none else some (.int k (k.wrap (x.tdiv y)))
  | .rem => if y = 0 then none else some (.int k (x.tmod y))
  | .and => some (.int k (k.wrap (BitVec.ofInt k.bits x &&& BitVec.ofInt k.bits y).toNat))
  | .or => some (.int k (k.wrap (BitVec.ofInt k.bits x ||| BitVec.ofInt k.bits y).toNat))
  | .xor => some (.int k (k.wrap (BitVec.ofInt k.bits x ^^^ BitVec.ofInt k.bits y).toNat))
  | .andNot => some (.int k (k.wrap (BitVec.ofInt k.bits x &&& ~~~ BitVec.ofInt k.bits y).toNat))
  | .eql => some (.bool (x == y))
  | .neq => some (.bool (x != y))
  | .lss => some (.bool (decide (x < y)))
  | .leq => some (.bool (decide (x ≤ y)))
  | .gtr => some (.bool (decide (x > y)))
  | .geq => some (.bool (decide (x ≥ y)))
  | _ => none

def aShift (op : BinOp) (k : IntKind) (x y : Int) : Option AV :=
  if y < 0 then none else
  match op with
  | .shl => some (.int k (k.wrap (x * 2 ^ (min y.toNat k.bits))))
  | .shr => some (.int k (x.fdiv (2 ^ (min y.toNat k.bits))))
  | _ => none

def aStr (op : BinOp) (x y : ByteArray) : Option AV :=
  match op with
  | .eql => some (.bool (x.toList == y.toList))
  | .neq => some (.bool (!(x.toList == y.toList)))
  | _ => none

/-- fields, one by one -/
def aEqFl (eq : TypeId → AV → AV → Option Bool) (xs ys : List AV) : List Field → Option Bool
  | [] => some true
  | f :: fs =>
    if f.name ≠ "_" then
      match partA P f.type xs f.offset, partA P f.type ys f.offset with
      | some a, some b =>
        match eq f.type a b with
        | some true => aEqFl eq xs ys fs
        | some false => some false
        | none => none
      | _, _ => none
    else aEqFl eq xs ys fs

/-- elements, one by one: how many are left, from which one on -/
def aEqAl (eq : AV → AV → Option Bool) (elem : TypeId) (n : Nat) (xs ys : List AV) : Nat → Nat → Option Bool
  | 0, _ => some true
  | k + 1, i =>
    match partA P elem xs (i * n), partA P elem ys (i * n) with
    | some a, some b =>
      match eq a b with
      | some true => aEqAl eq elem n xs ys k (i + 1)
      | some false => some false
      | none => none
    | _, _ => none

/-- '==' -/
def aEq : Nat → TypeId → AV → AV → Option Bool
  | 0, _, _, _ => none
  | d + 1, t, x, y =>
    match P.underlying t, x, y with
    | some .bool, .bool a, .bool b => some (a == b)
    | some (.int _), .int k a, .int k' b => if k = k' then some (a == b) else none
    | some .string, .str a, .str b => some (a == b)
    | some (.pointer _), .nilp, .nilp => some true
    | some (.pointer _), .nilp, .ptr _ _ => some false
    | some (.pointer _), .nilp, .lptr _ => some false
    | some (.pointer _), .ptr _ _, .nilp => some false
    | some (.pointer _), .lptr _, .nilp => some false
    | some (.slice _), .nils, .nils => some true
    | some (.slice _), .nils, .sl _ _ _ _ => some false
    | some (.slice _), .nils, .lit _ _ _ => some false
    | some (.slice _), .sl _ _ _ _, .nils => some false
    | some (.slice _), .lit _ _ _, .nils => some false
    | some (.map _ _), .nilm, .nilm => some true
    | some (.map _ _), .nilm, .map _ => some false
    | some (.map _ _), .map _, .nilm => some false
    | some (.func _ _ _), .nilFn, .nilFn => some true
    | some (.func _ _ _), .nilFn, .fn _ _ _ => some false
    | some (.func _ _ _), .fn _ _ _, .nilFn => some false
    | some (.struct fields), .agg xs, .agg ys => if P.stoodInHeld t then none else aEqFl P (aEq d) xs ys fields.toList
    | some (.array len elem), .agg xs, .agg ys =>
      match sizeT P elem with
      | some n => aEqAl P (aEq d elem) elem n xs ys len 0
      | none => none
    | _, _, _ => none

def eqDepth : Nat := 10000

def aBin (op : BinOp) (t : TypeId) (x y : AV) : Option AV :=
  match op, x, y with
  | .shl, .int k a, .int _ b => aShift .shl k a b
  | .shr, .int k a, .int _ b => aShift .shr k a b
  | op, .int k a, .int k' b => if k = k' then aInt op k a b else none
  | op, .str a, .str b => aStr op a b
  | .eql, .agg a, .agg b => if P.eqGuardType P.depth t then none else (aEq P eqDepth t (.agg a) (.agg b)).map .bool
  | .neq, .agg a, .agg b => if P.eqGuardType P.depth t then none else (aEq P eqDepth t (.agg a) (.agg b)).map fun r => .bool (!r)
  | _, .nilIface, _ => none
  | .eql, x, y => (aEq P eqDepth t x y).map .bool
  | .neq, x, y => (aEq P eqDepth t x y).map fun r => .bool (!r)
  | _, _, _ => none

def aUn (op : UnOp) (x : AV) : Option AV :=
  match op, x with
  | .neg, .int k n => some (.int k (k.wrap (0 - n)))
  | .xor, .int k n => some (.int k (k.wrap (BitVec.ofInt k.bits (if k.signed then -1 else k.max) ^^^ BitVec.ofInt k.bits n).toNat))
  | .not, .bool b => some (.bool !b)
  | _, _ => none

/-- a conversion that reads no memory -/
def aConv (src dst : TypeId) (x : AV) : Option AV :=
  match P.underlying src, P.underlying dst, x with
  | some _, some (.int k), .int _ n => some (.int k (k.wrap n))
  | some .string, some .string, .str s => some (.str s)
  | _, _, _ => none

/-- a part laid over cells -/
def fillA (place : Nat → Option (Nat × Nat)) (cs : List AV) : List (Nat × AV) → Option (List AV)
  | [] => some cs
  | (i, v) :: rest =>
    match place i with
    | none => none
    | some (off, size) =>
      if v.cells.length = size ∧ off + v.cells.length ≤ cs.length then fillA place (cs.take off ++ v.cells ++ cs.drop (off + v.cells.length)) rest
      else none

def placesA (fields : Array Field) (i : Nat) : Option (Nat × Nat) :=
  match fields[i]? with
  | some f => (sizeT P f.type).map fun n => (f.offset, n)
  | none => none

def aBuild (t : TypeId) (parts : List (Nat × AV)) : Option AV :=
  match zeroT P t, P.underlying t with
  | some z, some (.struct fields) =>
    if fields.toList.all fun f => (sizeT P f.type).isSome then (fillA (placesA P fields) z.cells parts).map .agg else none
  | some z, some (.array _ elem) =>
    match sizeT P elem with
    | some n => (fillA (fun i => some (i * n, n)) z.cells parts).map .agg
    | none => none
  | _, _ => none

def repA (z : List AV) : Nat → List AV
  | 0 => []
  | n + 1 => z ++ repA z n

def aBuildSlice (t : TypeId) (len : Nat) (parts : List (Nat × AV)) : Option AV :=
  match P.underlying t with
  | some (.slice elem) =>
    match sizeT P elem, zeroT P elem with
    | some n, some z =>
      if n = z.cells.length ∧ 0 < n ∧ len * n ≤ 2 ^ 24 then (fillA (fun i => some (i * n, n)) (repA z.cells len) parts).map fun es => .lit es len true else none
    | _, _ => none
  | _ => none

def aFieldAddr (s : TypeId) (x : AV) (f : Nat) : Option AV :=
  match P.underlying s with
  | some (.struct fields) =>
    match fields[f]? with
    | some fd =>
      match sizeT P fd.type with
      | some 0 => none
      | some _ =>
        match x with
        | .ptr h off => some (.ptr h (off + fd.offset))
        | .lptr es => if fd.offset ≤ es.length then some (.lptr (es.drop fd.offset)) else none
        | _ => none
      | none => none
    | none => none
  | _ => none

def aField (s : TypeId) (x : AV) (f : Nat) : Option AV :=
  match P.underlying s, x with
  | some (.struct fields), .agg cs =>
    match fields[f]? with
    | some fd => partA P fd.type cs fd.offset
    | none => none
  | _, _ => none

def aIndexAddr (t : TypeId) (x i : AV) : Option AV :=
  match i with
  | .int _ i =>
    match P.underlying t, x with
    | some (.array len elem), .ptr h off =>
      match sizeT P elem with
      | some n => if 0 ≤ i ∧ i < len then some (.ptr h (off + i.toNat * n)) else none
      | none => none
    | some (.array len elem), .lptr es =>
      match sizeT P elem with
      | some n => if 0 ≤ i ∧ i < len ∧ i.toNat * n ≤ es.length then some (.lptr (es.drop (i.toNat * n))) else none
      | none => none
    | some (.slice elem), .sl h off len _ =>
      match sizeT P elem with
      | some n => if 0 ≤ i ∧ i < len then some (.ptr h (off + i.toNat * n)) else none
      | none => none
    | some (.slice elem), .lit es len _ =>
      match sizeT P elem with
      | some n => if 0 ≤ i ∧ i < len ∧ i.toNat * n ≤ es.length then some (.lptr (es.drop (i.toNat * n))) else none
      | none => none
    | _, _ => none
  | _ => none

def aIndex (t : TypeId) (x i : AV) : Option AV :=
  match i with
  | .int _ i =>
    match P.underlying t, x with
    | some (.array len elem), .agg cs =>
      match sizeT P elem with
      | some n => if 0 ≤ i ∧ i < len then partA P elem cs (i.toNat * n) else none
      | none => none
    | some .string, .str s =>
      if 0 ≤ i then
        match s[i.toNat]? with
        | some b => some (.int .u8 b.toNat)
        | none => none
      else none
    | _, _ => none
  | _ => none

/-- a bound of a slice expression: there is none, or a number within what may be -/
def boundA (d : Nat) (y : Nat) : Option AV → Option Nat
  | none => some d
  | some (.int _ i) => if 0 ≤ i ∧ i ≤ y then some i.toNat else none
  | some _ => none

def aSlice (t : TypeId) (x : AV) (lo hi mx : Option AV) : Option AV :=
  match P.underlying t, x with
  | some .string, .str s =>
    match mx with
    | some _ => none
    | none =>
      match boundA s.size s.size hi with
      | some h =>
        match boundA 0 h lo with
        | some l => some (.str (s.extract l h))
        | none => none
      | none => none
  | some (.slice elem), .nils =>
    match sizeT P elem with
    | none => none
    | some _ =>
      match mx with
      | none =>
        match boundA 0 0 hi with
        | some j =>
          match boundA 0 j lo with
          | some _ => some .nils
          | none => none
        | none => none
      | some m =>
        match boundA 0 0 (some m) with
        | some m =>
          match hi with
          | none => none
          | some _ =>
            match boundA m m hi with
            | some j =>
              match boundA 0 j lo with
              | some _ => some .nils
              | none => none
            | none => none
        | none => none
  | some (.slice elem), .sl h off len cp =>
    match sizeT P elem with
    | none => none
    | some n =>
      match mx with
      | none =>
        match boundA len len hi with
        | some j =>
          match boundA 0 j lo with
          | some i =>
            match cp with
            | .gr z => if z = n then some (.sl h (off + i * n) (j - i) (.gr z)) else none
            | .ex c => some (.sl h (off + i * n) (j - i) (.ex (c - i)))
          | none => none
        | none => none
      | some m =>
        match boundA len len (some m) with
        | some m =>
          match hi with
          | none => none
          | some _ =>
            match boundA m m hi with
            | some j =>
              match boundA 0 j lo with
              | some i => some (.sl h (off + i * n) (j - i) (.ex (m - i)))
              | none => none
            | none => none
        | none => none
  | some (.slice elem), .lit es len ex =>
    match sizeT P elem with
    | none => none
    | some n =>
      match mx with
      | none =>
        match boundA len len hi with
        | some j =>
          match boundA 0 j lo with
          | some i => if es.length = len * n then some (.lit ((es.drop (i * n)).take ((j - i) * n)) (j - i) (ex && j == len)) else none
          | none => none
        | none => none
      | some m =>
        match boundA len len (some m) with
        | some m =>
          match hi with
          | none => none
          | some _ =>
            match boundA m m hi with
            | some j =>
              match boundA 0 j lo with
              | some i => if es.length = len * n then some (.lit ((es.drop (i * n)).take ((j - i) * n)) (j - i) (j == m)) else none
              | none => none
            | none => none
        | none => none
  | _, _ => none

def aLen (t : TypeId) (x : AV) : Option AV :=
  match P.underlying t, x with
  | some .string, .str s => some (.int .i64 s.size)
  | some (.array n _), _ => some (.int .i64 n)
  | some (.slice _), .nils => some (.int .i64 0)
  | some (.slice _), .sl _ _ n _ => some (.int .i64 n)
  | some (.slice _), .lit _ n _ => some (.int .i64 n)
  | some (.map _ _), .nilm => some (.int .i64 0)
  | _, _ => none

def aCap (t : TypeId) (x : AV) : Option AV :=
  match P.underlying t, x with
  | some (.slice _), .nils => some (.int .i64 0)
  | some (.slice _), .sl _ _ _ (.ex c) => some (.int .i64 c)
  | some (.slice _), .lit _ n true => some (.int .i64 n)
  | _, _ => none

def aMax2 : AV → AV → Option AV
  | .int k x, .int _ y => some (.int k (if y > x then y else x))
  | _, _ => none
def aMin2 : AV → AV → Option AV
  | .int k x, .int _ y => some (.int k (if y < x then y else x))
  | _, _ => none
def foldA (f : AV → AV → Option AV) : AV → List AV → Option AV
  | x, [] => some x
  | x, y :: r => match f x y with
    | some z => foldA f z r
    | none => none

def mapO {α β : Type} (f : α → Option β) : List α → Option (List β)
  | [] => some []
  | a :: as => match f a with
    | some b => match mapO f as with
      | some bs => some (b :: bs)
      | none => none
    | none => none

/-- the value of an operand -/
def evA (tm : Tm) : Operand → Option AV
  | .tmp t => tm.get t
  | .const v => ofVal v
  | .global _ => none
  | .func f => some (.fn (.func f) [] [])
end
end Go.AM
