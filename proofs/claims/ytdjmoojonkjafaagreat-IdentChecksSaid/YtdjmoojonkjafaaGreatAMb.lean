/- The abstract machine, second part: operations, regions, code, calls. Definitions alone. -/
import Derived.Test.YtdjmoojonkjafaaGreatAMa
import Derived.Orders
namespace Go.AM
section
variable (P : Program)

/-- what an operation is: a value of its operands, a reading, new memory, or an effect -/
inductive Kd where
  | pure | read | new | eff
  deriving DecidableEq

def kindA (o : Op) : Kd :=
  match o with
  | .load _ _ => .read
  | .convert src dst _ =>
    match P.underlying src, P.underlying dst with
    | some (.slice _), some .string => .read
    | _, _ => .pure
  | .alloc _ | .box _ _ | .makeSlice _ _ _ | .makeMap _ _ => .new
  | .call c =>
    match c.callee with
    | .builtin .len | .builtin .cap | .builtin .max | .builtin .min => .pure
    | _ => .eff
  | .store _ _ _ | .mapUpdate _ _ _ _ | .mapEntry _ _ _ | .entryStore _ _ _ _ | .lookup _ _ _ _ => .eff
  | _ => .pure

def evParts (ρ : Operand → Option AV) (ps : Array (Nat × Operand)) : Option (List (Nat × AV)) :=
  mapO (fun p => (ρ p.2).map fun v => (p.1, v)) ps.toList

def optA (ρ : Operand → Option AV) : Option Operand → Option (Option AV)
  | none => some none
  | some o => (ρ o).map some

/-- an operation whose value hangs on its operands alone -/
def pureA (ρ : Operand → Option AV) (o : Op) : Option AV :=
  match o with
  | .move x | .assign x => ρ x
  | .pick c a b =>
    match ρ c, ρ a, ρ b with
    | some (.bool t), some x, some y => some (if t then x else y)
    | _, _, _ => none
  | .build t ps => (evParts ρ ps).bind (aBuild P t)
  | .buildSlice t n ps => (evParts ρ ps).bind (aBuildSlice P t n)
  | .nilCheck x =>
    match ρ x with
    | some (.ptr h o) => some (.ptr h o)
    | some (.lptr es) => some (.lptr es)
    | some (.fn (.func f) a b) => some (.fn (.func f) a b)
    | _ => none
  | .binOp op t x y _ => (ρ x).bind fun a => (ρ y).bind fun b => aBin P op t a b
  | .unOp op _ x => (ρ x).bind (aUn op)
  | .convert src dst x => (ρ x).bind (aConv P src dst)
  | .makeFunc (.func f) first captured => (mapO ρ first.toList).bind fun a => (mapO ρ captured.toList).map fun b => .fn (.func f) a b
  | .slice t x lo hi mx => (ρ x).bind fun v => (optA ρ lo).bind fun l => (optA ρ hi).bind fun h => (optA ρ mx).bind fun m => aSlice P t v l h m
  | .fieldAddr s x f => (ρ x).bind fun v => aFieldAddr P s v f
  | .field s x f => (ρ x).bind fun v => aField P s v f
  | .indexAddr t x i => (ρ x).bind fun v => (ρ i).bind fun j => aIndexAddr P t v j
  | .index t x i => (ρ x).bind fun v => (ρ i).bind fun j => aIndex P t v j
  | .extract x i =>
    match ρ x with
    | some (.tup vs) => vs[i]?
    | _ => none
  | .call c =>
    match c.callee with
    | .builtin .len =>
      match c.argTypes[0]?, c.args[0]? with
      | some t, some x => (ρ x).bind (aLen P t)
      | _, _ => none
    | .builtin .cap =>
      match c.argTypes[0]?, c.args[0]? with
      | some t, some x => (ρ x).bind (aCap P t)
      | _, _ => none
    | .builtin .max =>
      match mapO ρ c.args.toList with
      | some (x :: r) => foldA aMax2 x r
      | _ => none
    | .builtin .min =>
      match mapO ρ c.args.toList with
      | some (x :: r) => foldA aMin2 x r
      | _ => none
    | _ => none
  | _ => none

def rdA (ρ : Operand → Option AV) (o : Op) : Option Rd :=
  match o with
  | .load t a => (ρ a).map (.load t)
  | .convert src _ x =>
    match P.underlying src with
    | some (.slice e) =>
      match P.underlying e with
      | some (.int .u8) => (ρ x).map .str
      | _ => none
    | _ => none
  | _ => none

/-- new memory: the block, and how its handle becomes the operation's value -/
def newA (ρ : Operand → Option AV) (o : Op) : Option (ABlk × (Nat → AV)) :=
  match o with
  | .alloc t =>
    match sizeT P t, zeroT P t with
    | some n, some z => if n = z.cells.length then some (.cells n z.cells, fun h => .ptr h 0) else none
    | _, _ => none
  | .box t x =>
    match sizeT P t, ρ x with
    | some n, some v => if n = v.cells.length then some (.cells n v.cells, fun h => .ptr h 0) else none
    | _, _ => none
  | .makeSlice t l c =>
    match P.underlying t with
    | some (.slice elem) =>
      match sizeT P elem, zeroT P elem, bytesT P elem, ρ l, ρ c with
      | some n, some z, some by_, some (.int .i64 l), some (.int .i64 c) =>
        if n = z.cells.length ∧ 0 < n ∧ 0 ≤ l ∧ l = c ∧ c.toNat * (by_ + 1) ≤ 2 ^ 40 then some (.cells n (repA z.cells c.toNat), fun h => .sl h 0 l.toNat (.gr n)) else none
      | _, _, _, _, _ => none
    | _ => none
  | .makeMap _ none => some (.map [] 0, .map)
  | _ => none

def scalarA : AV → Bool
  | .agg _ | .tup _ => false
  | _ => true

/-- cells laid over others from a place on -/
def putCells (cs : List AV) (off : Nat) : List AV → List AV
  | [v] => cs.set off v
  | vs => cs.take off ++ vs ++ cs.drop (off + vs.length)

def storeA (H : AHeap) (t : TypeId) (a v : AV) : Option AHeap :=
  match a, sizeT P t with
  | .ptr h off, some n =>
    match H.get h with
    | some (.cells sz cs) => if v.cells.length = n ∧ off + n ≤ cs.length ∧ v.cells.all scalarA then some (H.set h (.cells sz (putCells cs off v.cells))) else none
    | _ => none
  | _, _ => none

def lenA : AV → Option Nat
  | .nils => some 0
  | .sl _ _ n _ => some n
  | .lit _ n _ => some n
  | .str s => some s.size
  | _ => none

/-- a slice's length -/
def lenS : AV → Option Nat
  | .nils => some 0
  | .sl _ _ n _ => some n
  | .lit _ n _ => some n
  | _ => none

/-- how many are appended, and their cells -/
def moreA (H : AHeap) (zeros : Bool) (n by_ : Nat) (z : AV) (x : AV) : Option (Nat × List AV) :=
  if zeros then
    match x with
    | .int .i64 l => if 0 ≤ l ∧ l.toNat * (by_ + 1) ≤ 2 ^ 40 then some (l.toNat, repA z.cells l.toNat) else none
    | _ => none
  else (lenA x).bind fun k => (firstA n k H x).map fun cs => (k, cs)

def appendTo (H : AHeap) (n by_ : Nat) (s : AV) (k : Nat) (xs : List AV) : Option (AV × AHeap) :=
  match s with
  | .nils =>
    if k = 0 then some (.nils, H)
    else if k * (by_ + 1) ≤ 2 ^ 40 then some (.sl H.n 0 k (.gr n), H.push (.cells n xs)) else none
  | .lit es len ex =>
    if k = 0 then some (s, H)
    else if ex ∧ es.length = len * n ∧ (len + k) * (by_ + 1) ≤ 2 ^ 40 then some (.sl H.n 0 (len + k) (.gr n), H.push (.cells n (es ++ xs))) else none
  | .sl _ _ len (.ex c) =>
    if k = 0 then some (s, H)
    else if c < len + k ∧ (len + k) * (by_ + 1) ≤ 2 ^ 40 then
      (firstA n len H s).map fun old => (.sl H.n 0 (len + k) (.gr n), H.push (.cells n (old ++ xs)))
    else none
  | .sl h off len (.gr z) =>
    if k = 0 then some (s, H)
    else if (len + k) * (by_ + 1) ≤ 2 ^ 40 then
      match H.get h with
      | some (.cells sz cs) =>
        if sz = n ∧ z = n ∧ off + len * n ≤ cs.length ∧ xs.all scalarA then some (.sl H.n 0 (len + k) (.gr n), (H.set h .dead).push (.cells n ((cs.drop off).take (len * n) ++ xs))) else none
      | _ => none
    else none
  | _ => none

def intT (t : TypeId) : Bool := match P.underlying t with | some (.int _) => true | _ => false

/-- is the second argument's type one of the table's? -/
def argOkA (argTypes : Array TypeId) : Bool := match argTypes[1]? with | some xt => (P.underlying xt).isSome | none => true

def appendA (H : AHeap) (argTypes : Array TypeId) (args : List AV) : Option (AV × AHeap) :=
  match argTypes[0]?, args with
  | some st, [s, x] =>
    match P.underlying st with
    | some (.slice elem) =>
      match sizeT P elem, zeroT P elem, bytesT P elem with
      | some n, some z, some by_ =>
        if n = z.cells.length ∧ 0 < n ∧ argOkA P argTypes = true then
          (moreA H (match argTypes[1]? with | some xt => intT P xt | none => false) n by_ z x).bind fun (k, xs) => appendTo H n by_ s k xs
        else none
      | _, _, _ => none
    | _ => none
  | _, _ => none

def copyA (H : AHeap) (argTypes : Array TypeId) (args : List AV) : Option (AV × AHeap) :=
  match argTypes[0]?, args with
  | some dt, [d, x] =>
    match P.underlying dt with
    | some (.slice elem) =>
      match sizeT P elem, lenS d, lenA x with
      | some n, some dl, some xl =>
        if min xl dl = 0 then some (.int .i64 0, H) else
        match d with
        | .sl h off _ _ =>
          match firstA n (min xl dl) H x, H.get h with
          | some xs, some (.cells sz cs) =>
            if off + min xl dl * n ≤ cs.length ∧ xs.length = min xl dl * n ∧ xs.all scalarA then some (.int .i64 (min xl dl : Nat), H.set h (.cells sz (cs.take off ++ xs ++ cs.drop (off + xs.length)))) else none
          | _, _ => none
        | _ => none
      | _, _, _ => none
    | _ => none
  | _, _ => none

/-! maps -/
/-- a key that is a plain value, or an array of numbers -/
def keyOkA (kt : TypeId) (k : AV) : Bool :=
  match P.underlying kt, k with
  | some (.int _), .int _ _ => true
  | some .string, .str _ => true
  | some .bool, .bool _ => true
  | some (.array len elem), .agg cs =>
    intT P elem && decide (sizeT P elem = some 1) && decide (cs.length = len) && cs.all fun c => match c with | .int _ _ => true | _ => false
  | _, _ => false

def findA (kt : TypeId) (k : AV) : List (AV × AV × Nat) → Nat → Option (Option (Nat × AV))
  | [], _ => some none
  | e :: es, i =>
    match aEq P eqDepth kt k e.1 with
    | some true => some (some (i, e.2.1))
    | some false => findA kt k es (i + 1)
    | none => none

def mapTy (t : TypeId) : Option (TypeId × TypeId) :=
  match P.underlying t with
  | some (.map k e) => some (k, e)
  | _ => none

def mapUpdateA (H : AHeap) (t : TypeId) (m k v : AV) : Option AHeap :=
  match mapTy P t, m with
  | some (kt, _), .map h =>
    match H.get h with
    | some (.map es clock) =>
      if keyOkA P kt k then
        match findA P kt k es 0 with
        | some none => some (H.set h (.map (es ++ [(k, v, clock)]) (clock + 1)))
        | some (some (i, _)) =>
          match es[i]? with
          | some e => if AV.eqb e.1 k then some (H.set h (.map (es.set i (k, v, e.2.2)) clock)) else none
          | none => none
        | none => none
      else none
    | _ => none
  | _, _ => none

def lookupA (H : AHeap) (t : TypeId) (m k : AV) (ok : Bool) : Option AV :=
  match mapTy P t with
  | some (kt, vt) =>
    let r : Option (Option (Nat × AV)) :=
      if keyOkA P kt k then
        match m with
        | .nilm => some none
        | .map h =>
          match H.get h with
          | some (.map es _) => findA P kt k es 0
          | _ => none
        | _ => none
      else none
    match r with
    | some (some (_, v)) => some (if ok then .tup [v, .bool true] else v)
    | some none => (zeroT P vt).map fun z => if ok then .tup [z, .bool false] else z
    | none => none
  | none => none

def mapEntryA (H : AHeap) (t : TypeId) (m k : AV) : Option (AV × AHeap) :=
  match mapTy P t, m with
  | some (kt, vt), .map h =>
    match H.get h with
    | some (.map es clock) =>
      if keyOkA P kt k then
        match findA P kt k es 0 with
        | some none =>
          match zeroT P vt with
          | some z => some (.tup [z, .int .i64 clock], H.set h (.map (es ++ [(k, z, clock)]) (clock + 1)))
          | none => none
        | some (some (i, v)) =>
          match es[i]? with
          | some e => if AV.eqb e.1 k then some (.tup [v, .int .i64 e.2.2], H.set h (.map (es.set i (k, e.2.1, e.2.2)) clock)) else none
          | none => none
        | none => none
      else none
    | _ => none
  | _, _ => none

def bornAt (n : Int) : List (AV × AV × Nat) → Nat → Option Nat
  | [], _ => none
  | e :: es, i => if (e.2.2 : Int) = n then some i else bornAt n es (i + 1)

def entryStoreA (H : AHeap) (m s v : AV) : Option AHeap :=
  match m, s with
  | .map h, .int _ n =>
    match H.get h with
    | some (.map es clock) =>
      match bornAt n es 0 with
      | some i =>
        match es[i]? with
        | some e => some (H.set h (.map (es.set i (e.1, v, e.2.2)) clock))
        | none => none
      | none => none
    | _ => none
  | _, _ => none

abbrev CallF := FuncId → List AV → AHeap → Option (AV × AHeap)

/-- an effect -/
def effA (call : CallF) (ρ : Operand → Option AV) (H : AHeap) (o : Op) : Option (AV × AHeap) :=
  match o with
  | .store t a x => (ρ a).bind fun a => (ρ x).bind fun v => (storeA P H t a v).map fun H' => (undefA, H')
  | .mapUpdate t m k x => (ρ m).bind fun m => (ρ k).bind fun k => (ρ x).bind fun v => (mapUpdateA P H t m k v).map fun H' => (undefA, H')
  | .mapEntry t m k => (ρ m).bind fun m => (ρ k).bind fun k => mapEntryA P H t m k
  | .entryStore _ m s x => (ρ m).bind fun m => (ρ s).bind fun s => (ρ x).bind fun v => (entryStoreA H m s v).map fun H' => (undefA, H')
  | .lookup t m k ok => (ρ m).bind fun m => (ρ k).bind fun k => (lookupA P H t m k ok).map fun v => (v, H)
  | .call c =>
    match c.callee with
    | .value f =>
      match ρ f with
      | some (.fn (.func g) first captured) => (mapO ρ c.args.toList).bind fun args => call g (first ++ args ++ captured) H
      | _ => none
    | .builtin .append => (mapO ρ c.args.toList).bind (appendA P H c.argTypes)
    | .builtin .copy => (mapO ρ c.args.toList).bind (copyA P H c.argTypes)
    | _ => none
  | _ => none

def putT (tm : Tm) (d : Option Tmp) (v : AV) : Tm :=
  match d with
  | some d => tm.set d v
  | none => tm

/-- is an operation's guard met? -/
def wantA (ops : Array Oper) (tm : Tm) (o : Oper) : Option Bool :=
  match o.guard with
  | none => some true
  | some (j, want) =>
    match (ops[j]?).bind (·.dst) with
    | none => none
    | some d =>
      match tm.get d with
      | some (.bool b) => some (b == want)
      | some _ => some false
      | none => none

/-- an operation in the order of the text -/
def stepA {α : Type} (call : CallF) (tm : Tm) (H : AHeap) (o : Oper) (K : AV → AHeap → Option α) : Option α :=
  match kindA P o.op with
  | .pure => (pureA P (evA tm) o.op).bind fun v => K v H
  | .read => (rdA P (evA tm) o.op).bind fun r => (aread P H r).bind fun v => K v H
  | .new => (newA P (evA tm) o.op).bind fun b => K (b.2 H.n) (H.push b.1)
  | .eff => (effA P call (evA tm) H o.op).bind fun r => K r.1 r.2

def runOps {α : Type} (call : CallF) (ops : Array Oper) (K : Tm → AHeap → Option α) : List Oper → Tm → AHeap → Option α
  | [], tm, H => K tm H
  | o :: os, tm, H =>
    match wantA ops tm o with
    | some true => stepA P call tm H o fun v H' => runOps call ops K os (putT tm o.dst v) H'
    | some false => runOps call ops K os (putT tm o.dst undefA) H
    | none => none

/-! ## a region that draws its order: the order of the text, and a look whether another one could tell the difference -/
def operTmps (o : Op) : List Nat := o.operands.toList.filterMap fun | .tmp t => some t | _ => none

/-- the operations ahead of one, off those of the ones that it names -/
def aheadA (bef : Array Nat) (o : Oper) : Nat :=
  o.after.toList.foldl (fun s e => if Region.binds .any e then s ||| 2 ^ e.on ||| bef.getD e.on 0 else s) 0

/-- what has to hold of the text of a region that draws -/
def drawOk (ops : Array Oper) : Bool :=
  let b := Region.before ops
  (List.range ops.size).all fun j =>
    match ops[j]? with
    | none => false
    | some oj =>
      (oj.after.toList.all fun e => !Region.binds .any e || decide (e.on < j)) &&
      (b.getD j 0 == aheadA b oj) &&
      (match oj.guard with | some (g, _) => decide (g < j) && (b.getD j 0).testBit g | none => true) &&
      (match oj.op with | .select .. => false | _ => true) &&
      (List.range j).all fun i =>
        (b.getD j 0).testBit i ||
        match ops[i]? with
        | none => false
        | some oi => oi.apart ops oj && !(kindA P oi.op == .eff && kindA P oj.op == .eff)

structure DS where
  tm : Tm
  H : AHeap
  cm : Nat
  news : List (Nat × ABlk)
  hist : List (AHeap × Nat)
  rds : List (Nat × Rd × AV)

/-- new blocks of the operations in a set are laid into the heap, but those that lie there -/
def commitP (n0 : Nat) (p : Nat → Bool) : List (Nat × ABlk) → AHeap → AHeap
  | [], H => H
  | (i, b) :: r, H => commitP n0 p r (if p i then H.set (n0 + i) b else H)
abbrev commitA (n0 : Nat) (cm mask : Nat) : List (Nat × ABlk) → AHeap → AHeap := commitP n0 fun i => mask.testBit i && !cm.testBit i

def drawGo {α : Type} (call : CallF) (ops : Array Oper) (bef : Array Nat) (n0 : Nat) (K : DS → Option α) : List Nat → DS → Option α
  | [], s => K s
  | i :: r, s =>
    match ops[i]? with
    | none => none
    | some o =>
      match wantA ops s.tm o with
      | none => none
      | some true =>
        match kindA P o.op with
        | .pure => (pureA P (evA s.tm) o.op).bind fun v => drawGo call ops bef n0 K r { s with tm := putT s.tm o.dst v }
        | .read => (rdA P (evA s.tm) o.op).bind fun rd => (aread P (commitA n0 s.cm (bef.getD i 0) s.news s.H) rd).bind fun v =>
            drawGo call ops bef n0 K r { s with tm := putT s.tm o.dst v, rds := (i, rd, v) :: s.rds }
        | .new => (newA P (evA s.tm) o.op).bind fun b => drawGo call ops bef n0 K r { s with tm := putT s.tm o.dst (b.2 (n0 + i)), news := s.news ++ [(i, b.1)] }
        | .eff => (effA P call (evA s.tm) (commitA n0 s.cm (bef.getD i 0) s.news s.H) o.op).bind fun x =>
            drawGo call ops bef n0 K r { s with tm := putT s.tm o.dst x.1, H := x.2, cm := s.cm ||| bef.getD i 0, hist := s.hist ++ [(x.2, s.cm ||| bef.getD i 0)] }
      | some false =>
        match kindA P o.op with
        | .eff =>
          drawGo call ops bef n0 K r { s with tm := putT s.tm o.dst undefA, H := commitA n0 s.cm (bef.getD i 0) s.news s.H, cm := s.cm ||| bef.getD i 0,
                                              hist := s.hist ++ [(commitA n0 s.cm (bef.getD i 0) s.news s.H, s.cm ||| bef.getD i 0)] }
        | _ => drawGo call ops bef n0 K r { s with tm := putT s.tm o.dst undefA }

/-- how many effects come surely ahead of an operation; how many may -/
def loA (ops : Array Oper) (bef : Array Nat) (i : Nat) : Nat :=
  ((List.range ops.size).filter fun e => (match ops[e]? with | some o => kindA P o.op == .eff | none => false) && (bef.getD i 0).testBit e).length
def hiA (ops : Array Oper) (bef : Array Nat) (i : Nat) : Nat :=
  ((List.range ops.size).filter fun e => (match ops[e]? with | some o => kindA P o.op == .eff | none => false) && !(bef.getD e 0).testBit i).length

def stableA (ops : Array Oper) (bef : Array Nat) (n0 : Nat) (s : DS) : Bool :=
  s.rds.all fun (i, rd, v) =>
    (List.range (hiA P ops bef i + 1)).all fun j =>
      if j < loA P ops bef i then true else
      match s.hist[j]? with
      | some (H, cm) =>
        match aread P (commitA n0 cm (bef.getD i 0) s.news H) rd with
        | some u => AV.eqb u v
        | none => false
      | none => false

def runDraw {α : Type} (call : CallF) (ops : Array Oper) (tm : Tm) (H : AHeap) (K : Tm → AHeap → Option α) : Option α :=
  if drawOk P ops then
    drawGo P call ops (Region.before ops) H.n (fun s =>
      if stableA P ops (Region.before ops) H.n s then K s.tm (commitA H.n s.cm (2 ^ ops.size - 1) s.news s.H) else none)
      (List.range ops.size) { tm := tm, H := ⟨H.m, H.n + ops.size⟩, cm := 0, news := [], hist := [(⟨H.m, H.n + ops.size⟩, 0)], rds := [] }
  else none

/-! ## code -/
inductive Ex where
  | normal | exit (id : Nat) | ret
  deriving DecidableEq

/-- slots that a piece of code may write -/
def writesC : Code → List Nat
  | .region _ ops _ => ops.toList.filterMap (·.dst)
  | .seq a b => writesC a ++ writesC b
  | .cond _ a b => writesC a ++ writesC b
  | .block _ b | .loop b | .scope b => writesC b
  | _ => []

/-- the slots of a list alone -/
def keepT : List Nat → Tm → Tm
  | [], _ => .nil
  | t :: S, tm =>
    match tm.get t with
    | some v => (keepT S tm).set t v
    | none => keepT S tm

/-- the number of the first region of a piece of code: a loop's name -/
def firstR : Code → Nat
  | .region id _ _ => id
  | .seq a _ => firstR a
  | .cond _ a _ => firstR a
  | .block _ b | .loop b | .scope b => firstR b
  | _ => 0
def keepL (S : List (Nat × List Nat)) (b : Code) : List Nat := (S.lookup (firstR b)).getD []

def loopA {α : Type} (body : Tm → AHeap → (Ex → Tm → AHeap → Option α) → Option α) (keep : List Nat) (K : Ex → Tm → AHeap → Option α) : Nat → Tm → AHeap → Option α
  | 0, _, _ => none
  | k + 1, tm, H => body (keepT keep tm) H fun ex tm' H' =>
    match ex with
    | .normal => loopA body keep K k tm' H'
    | ex => K ex tm' H'

def exec {α : Type} (call : CallF) (keep : List (Nat × List Nat)) (fuel : Nat) : Code → Tm → AHeap → (Ex → Tm → AHeap → Option α) → Option α
  | .skip, tm, H, K => K .normal tm H
  | .label _, tm, H, K => K .normal tm H
  | .region _ ops false, tm, H, K => runOps P call ops (K .normal) ops.toList tm H
  | .region _ ops true, tm, H, K => runDraw P call ops tm H (K .normal)
  | .seq a b, tm, H, K => exec call keep fuel a tm H fun ex tm' H' =>
    match ex with
    | .normal => exec call keep fuel b tm' H' K
    | ex => K ex tm' H'
  | .cond c a b, tm, H, K =>
    match evA tm c with
    | some (.bool t) => if t then exec call keep fuel a tm H K else exec call keep fuel b tm H K
    | _ => none
  | .block id b, tm, H, K => exec call keep fuel b tm H fun ex tm' H' =>
    match ex with
    | .exit i => if i = id then K .normal tm' H' else K (.exit i) tm' H'
    | ex => K ex tm' H'
  | .loop b, tm, H, K => loopA (exec call keep fuel b) (keepL keep b) K fuel tm H
  | .scope b, tm, H, K => exec call keep fuel b tm H K
  | .exit id, tm, H, K => K (.exit id) tm H
  | .ret, tm, H, K => K .ret tm H
  | _, _, _, _ => none

def argsT : List AV → Nat → Tm → Tm
  | [], _, tm => tm
  | a :: as, i, tm => argsT as (i + 1) (tm.set i a)

def resA (H : AHeap) (tm : Tm) : ResultVar → Option AV
  | .tmp t => tm.get t
  | .cell a t => (tm.get a).bind fun p => aread P H (.load t p)

def retA (fn : Func) (tm : Tm) (H : AHeap) : Option AV :=
  match mapO (resA P H tm) fn.results.toList with
  | some [v] => some v
  | some vs => some (.tup vs)
  | none => none

/-- a call, with so many levels of calls, and rounds of a loop, as 'k' says -/
def acall (keep : FuncId → List (Nat × List Nat)) : Nat → CallF
  | 0 => fun _ _ _ => none
  | k + 1 => fun f args H =>
    match P.funcs[f]? with
    | none => none
    | some fn =>
      match fn.body with
      | none => none
      | some c =>
        if args.length ≤ fn.ntmps ∧ (writesC c).all (fun d => decide (d < fn.ntmps)) = true then
          exec P (acall keep k) (keep f) k c (argsT args 0 .nil) H fun ex tm H' =>
            match ex with
            | .exit _ => none
            | _ => (retA P fn tm H').map fun v => (v, H')
        else none
end
end Go.AM
