/- The abstract machine, eighteenth part: operations as they look once a type's sizes are known; a row's own plumbing lies elsewhere. -/
import Derived.Test.YtdjmoojonkjafaaGreatAMq
set_option linter.unusedSimpArgs false
set_option linter.unusedVariables false
namespace Go.AM
attribute [local simp] AHeap.n_set AHeap.n_push
/-- a variable of one cell is read -/
def ldS (H : AHeap) (p : AV) : Option AV :=
  match p with
  | .ptr h off => (blkCells H h).bind fun cs => cs[off]?
  | .lptr es => es[0]?
  | _ => none
/-- one of more cells -/
def ldG (n : Nat) (H : AHeap) (p : AV) : Option AV :=
  match p with
  | .ptr h off => (blkCells H h).bind fun cs => if off + n ≤ cs.length then some (.agg ((cs.drop off).take n)) else none
  | .lptr es => if 0 + n ≤ es.length then some (.agg ((es.drop 0).take n)) else none
  | _ => none
/-- a variable of so many cells is written -/
def stA (n : Nat) (H : AHeap) (p v : AV) : Option AHeap :=
  match p with
  | .ptr h off =>
    match H.get h with
    | some (.cells sz cs) => if v.cells.length = n ∧ off + n ≤ cs.length ∧ v.cells.all scalarA then some (H.set h (.cells sz (putCells cs off v.cells))) else none
    | _ => none
  | _ => none
def fdS (off : Nat) (x : AV) : Option AV :=
  match x with
  | .agg cs => cs[off]?
  | _ => none
def fdG (off n : Nat) (x : AV) : Option AV :=
  match x with
  | .agg cs => if off + n ≤ cs.length then some (.agg ((cs.drop off).take n)) else none
  | _ => none
def fdP (off : Nat) (x : AV) : Option AV :=
  match x with
  | .ptr h o => some (.ptr h (o + off))
  | .lptr es => if off ≤ es.length then some (.lptr (es.drop off)) else none
  | _ => none
/-- the address of an array's element -/
def ixA (len n : Nat) (x i : AV) : Option AV :=
  match i with
  | .int _ i =>
    match x with
    | .ptr h off => if 0 ≤ i ∧ i < len then some (.ptr h (off + i.toNat * n)) else none
    | .lptr es => if 0 ≤ i ∧ i < len ∧ i.toNat * n ≤ es.length then some (.lptr (es.drop (i.toNat * n))) else none
    | _ => none
  | _ => none
/-- of a slice's -/
def ixS (n : Nat) (x i : AV) : Option AV :=
  match i with
  | .int _ i =>
    match x with
    | .sl h off len _ => if 0 ≤ i ∧ i < len then some (.ptr h (off + i.toNat * n)) else none
    | .lit es len _ => if 0 ≤ i ∧ i < len ∧ i.toNat * n ≤ es.length then some (.lptr (es.drop (i.toNat * n))) else none
    | _ => none
  | _ => none
def pickA (c a b : AV) : Option AV :=
  match c with
  | .bool t => some (if t then a else b)
  | _ => none
def nilC (x : AV) : Option AV :=
  match x with
  | .ptr h o => some (.ptr h o)
  | .lptr es => some (.lptr es)
  | .fn (.func f) a b => some (.fn (.func f) a b)
  | _ => none
def exT (x : AV) (i : Nat) : Option AV :=
  match x with
  | .tup vs => vs[i]?
  | _ => none
def cvI (k : IntKind) (x : AV) : Option AV :=
  match x with
  | .int _ n => some (.int k (k.wrap n))
  | _ => none
def lnS (x : AV) : Option AV :=
  match x with
  | .nils => some (.int .i64 0)
  | .sl _ _ n _ => some (.int .i64 n)
  | .lit _ n _ => some (.int .i64 n)
  | _ => none
def fillL (cs : List AV) : List (Nat × Nat × AV) → Option (List AV)
  | [] => some cs
  | (off, size, v) :: rest => if v.cells.length = size ∧ off + v.cells.length ≤ cs.length then fillL (cs.take off ++ v.cells ++ cs.drop (off + v.cells.length)) rest else none
def bdS (zs : List AV) (ps : List (Nat × Nat × AV)) : Option AV := (fillL zs ps).map .agg
def bdL (len : Nat) (zs : List AV) (ps : List (Nat × Nat × AV)) : Option AV := (fillL zs ps).map fun es => .lit es len true
/-- new memory -/
abbrev Nw (b : ABlk) (f : Nat → AV) (H : AHeap) (K : AV → AHeap → Prop) : Prop := Nb (some (b, f)) H K
def Pp (o : Option (AV × AHeap)) (K : AV → AHeap → Prop) : Prop := Pu o fun r => K r.1 r.2
def bxA (n : Nat) (v : AV) : Option (ABlk × (Nat → AV)) := if n = v.cells.length then some (.cells n v.cells, fun h => .ptr h 0) else none
def mkS (n by_ : Nat) (z : List AV) (l c : AV) : Option (ABlk × (Nat → AV)) :=
  match l, c with
  | .int .i64 l, .int .i64 c => if n = z.length ∧ 0 < n ∧ 0 ≤ l ∧ l = c ∧ c.toNat * (by_ + 1) ≤ 2 ^ 40 then some (.cells n (repA z c.toNat), fun h => .sl h 0 l.toNat (.gr n)) else none
  | _, _ => none
def callF (P : Program) (kp : FuncId → List (Nat × List Nat)) (f : AV) (args : List AV) (H : AHeap) (K : AV → AHeap → Prop) : Prop :=
  Pu (match f with | .fn (.func g) first captured => some (g, first ++ args ++ captured) | _ => none) fun x => Ca P kp x.1 x.2 H K
def resC (l : List (Option AV)) : Option AV :=
  match mapO id l with
  | some [v] => some v
  | some vs => some (.tup vs)
  | none => none
/-- a join of ways -/
def Jn {α : Type} (J : α) (B : α → Prop) : Prop := B J
def StS (p v : AV) (H : AHeap) : Prop := Pu (ldS H p) fun u => AV.eqb u v = true
def StG (n : Nat) (p v : AV) (H : AHeap) : Prop := Pu (ldG n H p) fun u => AV.eqb u v = true
def hUp (H : AHeap) (k : Nat) : AHeap := ⟨H.m, H.n + k⟩
/-- slots and what they hold -/
def tmL : List (Nat × AV) → Tm
  | [] => .nil
  | (t, v) :: r => (tmL r).set t v
end Go.AM
