/- The ghost interpreter: a deterministic reading of the machine's code on plain values. Definitions alone. -/
import Derived.WalkKit
import Derived.Calls
import Derived.Orders
namespace Gh
set_option linter.unusedVariables false
set_option linter.unusedSimpArgs false
open Go

/-- A plain value. 'fs': a slice whose elements never change again, by value (an element: a row of cells). 'os': a window into a block of the ghost heap. -/
inductive V where
  | int (k : IntKind) (n : Int)
  | bool (b : Bool)
  | nil
  | undef
  | fs (rows : List (List V))
  | os (id gen sz off len : Nat)
  | agg (cells : List V)
  | tup (vs : List V)
  | ptr (id gen row off : Nat)
  | fp (row : List V) (off : Nat)
  | fn (f : Nat) (cap : List V)
  deriving Inhabited

/-- A block of the ghost heap: rows of 'sz' cells; 'fz': it is never written again. -/
structure Blk where
  gen : Nat
  fz : Bool
  sz : Nat
  rows : List (List V)
  deriving Inhabited

/-- What a comparison or an operation is of: numbers, truth values, structs or arrays, slices. -/
inductive BK where
  | i
  | b
  | a (n : Nat)
  | s
  deriving DecidableEq, Inhabited

inductive A where
  | t (n : Nat)
  | c (v : V)
  deriving Inhabited

inductive GOp where
  | mv (x : A)
  | nilck (x : A)
  | pick (c a b : A)
  | alloc (z : List V)
  | box (sz : Nat) (x : A)
  | build (z : List V) (parts : List (Nat × Nat × A))
  | bsl (own : Bool) (sz : Nat) (z : List V) (len : Nat) (parts : List (Nat × A))
  | nilo (sz : Nat)
  | load (sz : Nat) (ag : Bool) (x : A)
  | store (sz : Nat) (x y : A)
  | bin (k : BK) (op : BinOp) (x y : A)
  | un (op : UnOp) (x : A)
  | conv (k : IntKind) (x : A)
  | mkfn (f : Nat) (caps : List A)
  | mksl (sz : Nat) (z : List V) (bytes : Nat) (l c : A)
  | slice (sz : Nat) (x : A) (lo hi : Option A)
  | faddr (off : Nat) (x : A)
  | field (off sz : Nat) (ag : Bool) (x : A)
  | iaddr (sz : Nat) (x i : A)
  | iaddrA (n esz : Nat) (x i : A)
  | index (n esz : Nat) (ag : Bool) (x i : A)
  | ext (i : Nat) (x : A)
  | len (x : A)
  | append (fr : Bool) (sz bytes : Nat) (x y : A)
  | copy (sz : Nat) (x y : A)
  | mx (xs : List A)
  | mn (xs : List A)
  | call (own : Bool) (f : A) (args : List A)
  | frz (x : A)
  | mvo (old x : A)
  deriving Inhabited

structure GOper where
  dst : Option Nat
  op : GOp
  guard : Option (Nat × Bool)
  deriving Inhabited

inductive GC where
  | skip
  | region (ops : List GOper) (unord : List (Nat × Nat)) (keep : Option (List Nat))
  | seq (a b : GC)
  | cond (c : A) (a b : GC)
  | block (id : Nat) (b : GC)
  | loop (keepH : Bool) (live : Option (List Nat)) (b : GC)
  | exit (id : Nat)
  | ret
  deriving Inhabited

inductive GRes where
  | tmp (t : Nat)
  | cell (t sz : Nat) (ag : Bool)
  deriving Inhabited

structure GFun where
  ntmps : Nat
  results : List GRes
  shared : Bool
  body : GC
  deriving Inhabited

abbrev Tm := List (Nat × V)

def look : Tm → Nat → V
  | [], _ => .undef
  | (k, v) :: T, n => if k = n then v else look T n

def A.ev (T : Tm) : A → V
  | .t n => look T n
  | .c v => v

def evs (T : Tm) : List A → List V
  | [] => []
  | x :: xs => x.ev T :: evs T xs

def V.cells : V → List V
  | .agg cs => cs
  | v => [v]

def V.okCell : V → Bool
  | .agg _ => false
  | .tup _ => false
  | .undef => false
  | _ => true

def okCells : List V → Bool
  | [] => true
  | v :: l => v.okCell && okCells l

/-- A cell that holds no reference into the ghost heap. -/
def V.pureC : V → Bool
  | .int _ _ => true
  | .bool _ => true
  | .nil => true
  | .fs _ => true
  | _ => false

def pureCs : List V → Bool
  | [] => true
  | v :: l => v.pureC && pureCs l

def pureRows : List (List V) → Bool
  | [] => true
  | r :: l => pureCs r && pureRows l

def mkVal (ag : Bool) (sz : Nat) (cs : List V) : Option V :=
  if ag then (if cs.length = sz then some (.agg cs) else none) else match cs with | [v] => some v | _ => none

/-- 'n' cells from 'off' on. -/
def seg (cs : List V) (off n : Nat) : List V := (cs.drop off).take n

def splice (cs : List V) (off : Nat) (ys : List V) : List V := cs.take off ++ ys ++ cs.drop (off + ys.length)

/-- The ghost heap as it is read. -/
abbrev Hp := Nat → Option Blk

def hp (H : List Blk) : Hp := fun id => H[id]?

def hget (h : Hp) (id g : Nat) : Option Blk :=
  match h id with
  | some b => if b.gen = g then some b else none
  | none => none

/-- What an operation does to the ghost heap: nothing; a block's rows turned; a block with a new generation; a new block; a block that takes another one's place. -/
inductive Up where
  | no
  | put (id : Nat) (b : Blk)
  | set (id : Nat) (b : Blk)
  | push (b : Blk)
  | swap (id : Nat) (b : Blk) (id2 : Nat) (b2 : Blk)

def Up.heap (H : List Blk) : Up → List Blk
  | .no => H
  | .put id b => H.set id b
  | .set id b => H.set id b
  | .push b => H ++ [b]
  | .swap id b id2 b2 => (H.set id b).set id2 b2

def Up.gens (ng : Nat) : Up → Nat
  | .no => ng
  | .put _ _ => ng
  | .set _ _ => ng + 1
  | .push _ => ng + 1
  | .swap _ _ _ _ => ng + 1

def room : Nat := 140737488355328

def eqCell : V → V → Option Bool
  | .int k a, .int k' b => if k = k' then some (a == b) else none
  | .bool a, .bool b => some (a == b)
  | _, _ => none

def eqCells : List V → List V → Option Bool
  | [], [] => some true
  | x :: xs, y :: ys => (eqCell x y).bind fun b => (eqCells xs ys).map fun c => b && c
  | _, _ => none

def binI (op : BinOp) (k : IntKind) (a : Int) (k' : IntKind) (b : Int) : Option V :=
  match op with
  | .shl => if 0 ≤ b then some (.int k (k.wrap (a * 2 ^ (min b.toNat k.bits)))) else none
  | .shr => if 0 ≤ b then some (.int k (a.fdiv (2 ^ (min b.toNat k.bits)))) else none
  | .add => if k = k' then some (.int k (k.wrap (a + b))) else none
  | .sub => if k = k' then some (.int k (k.wrap (a - b))) else none
  | .mul => if k = k' then some (.int k (k.wrap (a * b))) else none
  | .quo => if k = k' ∧ b ≠ 0 then some (.int k (k.wrap (a.tdiv b))) else none
  | .rem => if k = k' ∧ b ≠ 0 then some (.int k (a.tmod b)) else none
  | .and => if k = k' then some (.int k (k.wrap ((BitVec.ofInt k.bits a &&& BitVec.ofInt k.bits b).toNat : Int))) else none
  | .or => if k = k' then some (.int k (k.wrap ((BitVec.ofInt k.bits a ||| BitVec.ofInt k.bits b).toNat : Int))) else none
  | .andNot => if k = k' then some (.int k (k.wrap ((BitVec.ofInt k.bits a &&& ~~~ BitVec.ofInt k.bits b).toNat : Int))) else none
  | .eql => if k = k' then some (.bool (a == b)) else none
  | .neq => if k = k' then some (.bool (a != b)) else none
  | .lss => if k = k' then some (.bool (decide (a < b))) else none
  | .leq => if k = k' then some (.bool (decide (a ≤ b))) else none
  | .gtr => if k = k' then some (.bool (decide (a > b))) else none
  | .geq => if k = k' then some (.bool (decide (a ≥ b))) else none
  | _ => none

def eqOp (op : BinOp) (b : Bool) : Option V :=
  match op with
  | .eql => some (.bool b)
  | .neq => some (.bool (!b))
  | _ => none

/-- A row of so many integers. -/
def intsN : List V → Nat → Bool
  | [], 0 => true
  | .int _ _ :: xs, n + 1 => intsN xs n
  | _, _ => false
theorem intsN2 (k k' : IntKind) (a b : Int) : intsN [.int k a, .int k' b] 2 = true := rfl

def binV (t : BK) (op : BinOp) (x y : V) : Option V :=
  match t with
  | .i => match x, y with
    | .int k a, .int k' b => binI op k a k' b
    | _, _ => none
  | .b => match x, y with
    | .bool a, .bool b => eqOp op (a == b)
    | _, _ => none
  | .a n => match x, y with
    | .agg xs, .agg ys => if intsN xs n = true then (eqCells xs ys).bind (eqOp op) else none
    | _, _ => none
  | .s => match x, y with
    | .nil, .nil => eqOp op true
    | .fs (_ :: _), .nil => eqOp op false
    | _, _ => none

def unV (op : UnOp) : V → Option V
  | .int k n => match op with
    | .neg => some (.int k (k.wrap (0 - n)))
    | _ => none
  | .bool b => match op with
    | .not => some (.bool (!b))
    | _ => none
  | _ => none

/-- A struct or an array out of parts. -/
def fillG (T : Tm) : List V → List (Nat × Nat × A) → Option (List V)
  | cs, [] => some cs
  | cs, (off, sz, x) :: ps =>
    let p := (x.ev T).cells
    if p.length = sz ∧ off + sz ≤ cs.length ∧ okCells p = true then fillG T (splice cs off p) ps else none

/-- The rows of a slice literal. -/
def rowsG (T : Tm) (sz : Nat) : List (List V) → List (Nat × A) → Option (List (List V))
  | rows, [] => some rows
  | rows, (i, x) :: ps =>
    let p := (x.ev T).cells
    if p.length = sz ∧ i < rows.length ∧ okCells p = true then rowsG T sz (rows.set i p) ps else none

/-- A slice's rows, read. -/
def rowsOf (H : Hp) : V → Option (List (List V))
  | .nil => some []
  | .fs rows => some rows
  | .os id g _ off len => (hget H id g).bind fun b => if off + len ≤ b.rows.length then some ((b.rows.drop off).take len) else none
  | _ => none

def lenV : V → Option Nat
  | .nil => some 0
  | .fs rows => some rows.length
  | .os _ _ _ _ len => some len
  | _ => none

def rowsSz (sz : Nat) : List (List V) → Bool
  | [] => true
  | r :: l => r.length == sz && rowsSz sz l

def isInt : V → Option Int
  | .int _ n => some n
  | _ => none

def foldI (f : Int → Int → Int) (k : IntKind) : Int → List V → Option Int
  | a, [] => some a
  | a, .int k' b :: l => if k = k' then foldI f k (f a b) l else none
  | _, _ => none

def sliceV (sz : Nat) (x : V) (lo hi : Option V) : Option V :=
  (lenV x).bind fun n =>
  (match lo with | none => some 0 | some v => isInt v).bind fun l =>
  (match hi with | none => some (n : Int) | some v => isInt v).bind fun h =>
  if 0 ≤ l ∧ l ≤ h ∧ h ≤ (n : Int) then
    match x with
    | .fs rows => if rowsSz sz rows then some (.fs ((rows.take h.toNat).drop l.toNat)) else none
    | .os id g sz' off _ => if sz' = sz then some (.os id g sz' (off + l.toNat) (h.toNat - l.toNat)) else none
    | .nil => some .nil
    | _ => none
  else none

def mapMV {α β : Type} (f : α → Option β) : List α → Option (List β)
  | [] => some []
  | a :: l => (f a).bind fun b => (mapMV f l).map fun bs => b :: bs

/-- A cell, told by value; blocks below 'n0' are not told. -/
def expC (H : Hp) (n0 : Nat) : Nat → V → Option V
  | _, .int k n => some (.int k n)
  | _, .bool b => some (.bool b)
  | _, .nil => some .nil
  | _, .fs rows => some (.fs rows)
  | d + 1, .os id g _ off len =>
    if n0 ≤ id then
      (hget H id g).bind fun b =>
        if off + len ≤ b.rows.length then (mapMV (mapMV (expC H n0 d)) ((b.rows.drop off).take len)).map .fs else none
    else none
  | _, _ => none

def expDepth : Nat := 3

/-- An argument, told by value. -/
def expV (H : Hp) (n0 : Nat) : V → Option V
  | .agg cs => (mapMV (expC H n0 expDepth) cs).map .agg
  | .tup _ => none
  | v => expC H n0 expDepth v

/-- No reference into the ghost heap at all. -/
def V.far : V → Bool
  | .agg cs => pureCs cs
  | v => v.pureC

def fars : List V → Bool
  | [] => true
  | v :: l => v.far && fars l

/-- Only numbers and truth values. -/
def V.scal : V → Bool
  | .int _ _ => true
  | .bool _ => true
  | _ => false

def scalCs : List V → Bool
  | [] => true
  | v :: l => v.scal && scalCs l

def scalRows : List (List V) → Bool
  | [] => true
  | r :: l => scalCs r && scalRows l

/-- Of a result: nothing that may be part of an argument (flat rows of the callee's own, numbers, nil). -/
def freshC (H : Hp) (n0 : Nat) : V → Bool
  | .int _ _ => true
  | .bool _ => true
  | .nil => true
  | .fs rows => rows.isEmpty
  | .os id g _ _ _ => decide (n0 ≤ id) && (match hget H id g with | some b => !b.fz && scalRows b.rows | none => false)
  | _ => false

def freshCs (H : Hp) (n0 : Nat) : List V → Bool
  | [] => true
  | v :: l => freshC H n0 v && freshCs H n0 l

def freshV (H : Hp) (n0 : Nat) : V → Bool
  | .agg cs => freshCs H n0 cs
  | .tup vs => freshTs H n0 vs
  | v => freshC H n0 v
where
  freshTs (H : Hp) (n0 : Nat) : List V → Bool
    | [] => true
    | .agg cs :: l => freshCs H n0 cs && freshTs H n0 l
    | v :: l => freshC H n0 v && freshTs H n0 l

/-- A result's part: a block of the callee's is moved ('own'), or told by value. -/
def outC (own : Bool) (H1 : Hp) (n0 : Nat) (st : List Blk × List Nat × Nat) : V → Option (V × (List Blk × List Nat × Nat))
  | .os id g sz off len =>
    if id < n0 then some (.os id g sz off len, st)
    else if own then
      (hget H1 id g).bind fun b =>
        if b.fz = false ∧ off = 0 ∧ len = b.rows.length ∧ id ∉ st.2.1 ∧ scalRows b.rows = true then
          some (.os st.1.length st.2.2 sz 0 len, (st.1 ++ [⟨st.2.2, false, sz, b.rows⟩], id :: st.2.1, st.2.2 + 1))
        else none
    else (expC H1 n0 expDepth (.os id g sz off len)).map fun v => (v, st)
  | .int k n => some (.int k n, st)
  | .bool b => some (.bool b, st)
  | .nil => some (.nil, st)
  | .fs rows => some (.fs rows, st)
  | _ => none

def outCs (own : Bool) (H1 : Hp) (n0 : Nat) (st : List Blk × List Nat × Nat) : List V → Option (List V × (List Blk × List Nat × Nat))
  | [] => some ([], st)
  | v :: l => (outC own H1 n0 st v).bind fun r => (outCs own H1 n0 r.2 l).map fun s => (r.1 :: s.1, s.2)

def outV (own : Bool) (H1 : Hp) (n0 : Nat) (st : List Blk × List Nat × Nat) : V → Option (V × (List Blk × List Nat × Nat))
  | .agg cs => (outCs own H1 n0 st cs).map fun s => (.agg s.1, s.2)
  | v => outC own H1 n0 st v

def outVs (own : Bool) (H1 : Hp) (n0 : Nat) (st : List Blk × List Nat × Nat) : List V → Option (List V × (List Blk × List Nat × Nat))
  | [] => some ([], st)
  | v :: l => (outV own H1 n0 st v).bind fun r => (outVs own H1 n0 r.2 l).map fun s => (r.1 :: s.1, s.2)

def outR (own : Bool) (H1 : Hp) (n0 : Nat) (st : List Blk × List Nat × Nat) : V → Option (V × (List Blk × List Nat × Nat))
  | .tup vs => (outVs own H1 n0 st vs).map fun s => (.tup s.1, s.2)
  | v => outV own H1 n0 st v

abbrev Callee := Nat → List V → List Blk → Nat → Option (V × List Blk × Nat)

/-- The blocks that a cell leads to. -/
def idsC (H : Hp) : Nat → V → List Nat
  | d + 1, .os id g _ _ _ => id :: (match hget H id g with
    | some b => b.rows.flatMap fun r => r.flatMap (idsC H d)
    | none => [])
  | _, _ => []

def idsV (H : Hp) : V → List Nat
  | .agg cs => cs.flatMap (idsC H expDepth)
  | v => idsC H expDepth v

def idsVs (H : Hp) : List V → List Nat
  | [] => []
  | v :: l => idsV H v ++ idsVs H l

def frzAll (H : List Blk) : List Blk := H.map fun b => ⟨b.gen, true, b.sz, b.rows⟩

/-- What an operation touches: for operations whose order is open. -/
inductive Foot where
  | inert
  | touch (rd wr : List Nat)
  | all

/-- A call: of a pure function, by value; of one that shares the ghost heap, as it stands. -/
def gcall (sh : Nat → Bool) (cl : Callee) (own : Bool) (f : Nat) (args : List V) (H : List Blk) (ng : Nat) : Option (V × List Blk × Nat × Foot) :=
  if sh f then
    (cl f args H ng).bind fun r =>
      (outR own (hp r.2.1) H.length (r.2.1.take H.length, [], r.2.2) r.1).map fun s => (s.1, s.2.1, s.2.2.2, .all)
  else
    (mapMV (expV (hp H) 0) args).bind fun as =>
      (cl f as [] 0).bind fun r =>
        if fars args then
          (outR own (hp r.2.1) 0 (H, [], ng) r.1).map fun s => (s.1, s.2.1, s.2.2.2, if s.2.1.length = H.length ∧ s.2.2.2 = ng then .inert else .touch [] [])
        else if freshV (hp r.2.1) 0 r.1 then
          (outR own (hp r.2.1) 0 (H, [], ng) r.1).map fun s => (s.1, s.2.1, s.2.2.2, .touch (idsVs (hp H) args) [])
        else
          (outR own (hp r.2.1) 0 (frzAll H, [], ng) r.1).map fun s => (s.1, s.2.1, s.2.2.2, .all)

/-- An operation that is no call. -/
def gop (T : Tm) (H : Hp) (nid ng : Nat) : GOp → Option (V × Up)
  | .mv x => some (x.ev T, .no)
  | .nilck x => match x.ev T with
    | .ptr id g r o => some (.ptr id g r o, .no)
    | .fp r o => some (.fp r o, .no)
    | .fn f c => some (.fn f c, .no)
    | _ => none
  | .pick c a b => match c.ev T with
    | .bool p => some (if p then a.ev T else b.ev T, .no)
    | _ => none
  | .alloc z => some (.ptr nid ng 0 0, .push ⟨ng, false, z.length, [z]⟩)
  | .box sz x =>
    let p := (x.ev T).cells
    if p.length = sz ∧ okCells p = true then some (.ptr nid ng 0 0, .push ⟨ng, false, sz, [p]⟩) else none
  | .build z parts => (fillG T z parts).map fun cs => (.agg cs, .no)
  | .bsl own sz z len parts =>
    (rowsG T sz (List.replicate len z) parts).bind fun rows =>
      if own then some (.os nid ng sz 0 len, .push ⟨ng, false, sz, rows⟩)
      else if pureRows rows then some (.fs rows, .no) else none
  | .nilo sz => some (.os nid ng sz 0 0, .push ⟨ng, false, sz, []⟩)
  | .load sz ag x => match x.ev T with
    | .ptr id g row off => (hget H id g).bind fun b => (b.rows[row]?).bind fun r => (mkVal ag sz (seg r off sz)).map fun v => (v, .no)
    | .fp r off => (mkVal ag sz (seg r off sz)).map fun v => (v, .no)
    | _ => none
  | .store sz x y => match x.ev T with
    | .ptr id g row off => (hget H id g).bind fun b => (b.rows[row]?).bind fun r =>
        let p := (y.ev T).cells
        if b.fz = false ∧ p.length = sz ∧ off + sz ≤ r.length ∧ okCells p = true then
          some (.undef, .put id ⟨b.gen, false, b.sz, b.rows.set row (splice r off p)⟩) else none
    | _ => none
  | .bin k op x y => (binV k op (x.ev T) (y.ev T)).map fun v => (v, .no)
  | .un op x => (unV op (x.ev T)).map fun v => (v, .no)
  | .conv k x => match x.ev T with
    | .int _ n => some (.int k (k.wrap n), .no)
    | _ => none
  | .mkfn f caps => some (.fn f (evs T caps), .no)
  | .mksl sz z bytes l c => match l.ev T, c.ev T with
    | .int _ n, .int _ m =>
      if n = m ∧ 0 ≤ n ∧ n * bytes ≤ room ∧ n ≤ room then some (.os nid ng sz 0 n.toNat, .push ⟨ng, false, sz, List.replicate n.toNat z⟩) else none
    | _, _ => none
  | .slice sz x lo hi => (sliceV sz (x.ev T) (lo.map (A.ev T)) (hi.map (A.ev T))).map fun v => (v, .no)
  | .faddr o x => match x.ev T with
    | .ptr id g row off => some (.ptr id g row (off + o), .no)
    | .fp r off => some (.fp r (off + o), .no)
    | _ => none
  | .field off sz ag x => match x.ev T with
    | .agg cs => (mkVal ag sz (seg cs off sz)).map fun v => (v, .no)
    | _ => none
  | .iaddr sz x i => (isInt (i.ev T)).bind fun n =>
    if 0 ≤ n then match x.ev T with
      | .fs rows => (rows[n.toNat]?).bind fun r => if r.length = sz then some (.fp r 0, .no) else none
      | .os id g sz' off len => if n < (len : Int) ∧ sz' = sz then some (.ptr id g (off + n.toNat) 0, .no) else none
      | _ => none
    else none
  | .iaddrA n esz x i => (isInt (i.ev T)).bind fun m =>
    if 0 ≤ m ∧ m < (n : Int) then match x.ev T with
      | .ptr id g row off => some (.ptr id g row (off + m.toNat * esz), .no)
      | .fp r off => some (.fp r (off + m.toNat * esz), .no)
      | _ => none
    else none
  | .index n esz ag x i => (isInt (i.ev T)).bind fun m =>
    if 0 ≤ m ∧ m < (n : Int) then match x.ev T with
      | .agg cs => (mkVal ag esz (seg cs (m.toNat * esz) esz)).map fun v => (v, .no)
      | _ => none
    else none
  | .ext i x => match x.ev T with
    | .tup vs => (vs[i]?).map fun v => (v, .no)
    | _ => none
  | .len x => (lenV (x.ev T)).map fun (n : Nat) => (V.int .i64 (n : Int), Up.no)
  | .append fr sz bytes x y => (rowsOf H (y.ev T)).bind fun ys =>
    if rowsSz sz ys then match x.ev T with
      | .nil => if ys.length * bytes ≤ room ∧ ys.length ≤ room then
          (if ys.length = 0 then some (.nil, .no)
           else if fr then (if pureRows ys then some (.fs ys, .no) else none)
           else some (.os nid ng sz 0 ys.length, .push ⟨ng, false, sz, ys⟩)) else none
      | .os id g sz' off len => (hget H id g).bind fun b =>
          if b.fz = false ∧ off = 0 ∧ sz' = sz ∧ len ≤ b.rows.length ∧ (len + ys.length) * bytes ≤ room ∧ len + ys.length ≤ room then
            (if fr then (if pureRows (b.rows.take len ++ ys) then some (.fs (b.rows.take len ++ ys), .set id ⟨ng, false, sz, []⟩) else none)
             else some (.os id ng sz 0 (len + ys.length), .set id ⟨ng, false, sz, b.rows.take len ++ ys⟩)) else none
      | _ => none
    else none
  | .copy sz x y => (rowsOf H (y.ev T)).bind fun ys =>
    if rowsSz sz ys then match x.ev T with
      | .os id g sz' off len => (hget H id g).bind fun b =>
          if b.fz = false ∧ sz' = sz ∧ off + len ≤ b.rows.length then
            some (.int .i64 ((ys.take len).length : Nat), .put id ⟨b.gen, false, b.sz, b.rows.take off ++ ys.take len ++ b.rows.drop (off + (ys.take len).length)⟩) else none
      | _ => none
    else none
  | .mx xs => match evs T xs with
    | .int k a :: l => (foldI (fun x y => if y > x then y else x) k a l).map fun n => (.int k n, .no)
    | _ => none
  | .mn xs => match evs T xs with
    | .int k a :: l => (foldI (fun x y => if y < x then y else x) k a l).map fun n => (.int k n, .no)
    | _ => none
  | .frz x => match x.ev T with
    | .os id g _ off len => (hget H id g).bind fun b =>
        if off + len ≤ b.rows.length ∧ pureRows b.rows = true then
          some (.fs ((b.rows.drop off).take len), .put id ⟨b.gen, true, b.sz, b.rows⟩) else none
    | v => some (v, .no)
  | .mvo old x => match old.ev T, x.ev T with
    | .os id g _ _ _, .os id2 g2 sz2 off len =>
      if id = id2 then some (.os id2 g2 sz2 off len, .no)
      else match hget H id g with
        | none => some (.os id2 g2 sz2 off len, .no)
        | some b => (hget H id2 g2).bind fun b2 =>
          if b2.fz = false ∧ off = 0 ∧ len = b2.rows.length then
            some (.os id ng sz2 0 len, .swap id ⟨ng, false, b2.sz, b2.rows⟩ id2 ⟨ng, false, b2.sz, []⟩) else none
    | _, v => some (v, .no)
  | .call _ _ _ => none

def idOf : V → List Nat
  | .os id _ _ _ _ => [id]
  | .ptr id _ _ _ => [id]
  | _ => []

def wrOf : Up → List Nat
  | .put id _ => [id]
  | .set id _ => [id]
  | .swap id _ id2 _ => [id, id2]
  | _ => []

def footOf (T : Tm) (u : Up) : GOp → Foot
  | .load _ _ x => match idOf (x.ev T) with
    | [] => .inert
    | l => .touch l []
  | .store _ _ _ => .touch [] (wrOf u)
  | .append _ _ _ x y => .touch (idOf (x.ev T) ++ idOf (y.ev T)) (wrOf u)
  | .copy _ x y => .touch (idOf (x.ev T) ++ idOf (y.ev T)) (wrOf u)
  | .frz x => .touch (idOf (x.ev T)) (wrOf u)
  | .mvo old x => .touch (idOf (old.ev T) ++ idOf (x.ev T)) (wrOf u)
  | .alloc _ => .touch [] []
  | .box _ _ => .touch [] []
  | .bsl own _ _ _ _ => if own then .touch [] [] else .inert
  | .nilo _ => .touch [] []
  | .mksl _ _ _ _ _ => .touch [] []
  | _ => .inert

def meets : List Nat → List Nat → Bool
  | [], _ => false
  | x :: xs, l => l.contains x || meets xs l

def Foot.clash : Foot → Foot → Bool
  | .inert, _ => false
  | _, .inert => false
  | .touch r1 w1, .touch r2 w2 => meets w1 (r2 ++ w2) || meets w2 r1
  | _, _ => true

def clashes (fs : List Foot) : List (Nat × Nat) → Bool
  | [] => false
  | (i, j) :: l => (match fs[i]?, fs[j]? with | some a, some b => a.clash b | _, _ => true) || clashes fs l

/-- An operation's state: the slots, the ghost heap, the next generation. -/
structure St where
  T : Tm
  H : List Blk
  ng : Nat
  deriving Inhabited

/-- Whether an operation takes place: the one that guards it may itself have been passed over. -/
def wantedG (T : Tm) : Option (Nat × Bool) → Option Bool
  | none => some true
  | some (t, b) => match look T t with
    | .bool c => some (c == b)
    | .tup _ => some false
    | _ => none

/-- The blocks from 'n' to 'm' are new: written. -/
def Foot.ext (n m : Nat) : Foot → Foot
  | .touch rd wr => .touch rd (wr ++ List.range' n (m - n))
  | f => f

def bindD (d : Option Nat) (v : V) (T : Tm) : Tm :=
  match d with
  | some n => (n, v) :: T
  | none => T

/-- One operation. -/
def goper (sh : Nat → Bool) (cl : Callee) (o : GOper) (s : St) : Option (St × Foot) :=
  (wantedG s.T o.guard).bind fun wd => match wd with
  | true => match o.op with
    | .call own f args =>
      match f.ev s.T with
      | .fn n cap =>
        (gcall sh cl own n (evs s.T args ++ cap) s.H s.ng).map fun r =>
          (⟨bindD o.dst r.1 s.T, r.2.1, r.2.2.1⟩, r.2.2.2.ext s.H.length r.2.1.length)
      | _ => none
    | op => (gop s.T (hp s.H) s.H.length s.ng op).map fun r => (⟨bindD o.dst r.1 s.T, r.2.heap s.H, r.2.gens s.ng⟩, (footOf s.T r.2 op).ext s.H.length (r.2.heap s.H).length)
  | false => some (⟨bindD o.dst (.tup []) s.T, s.H, s.ng⟩, .inert)

def gops (sh : Nat → Bool) (cl : Callee) : List GOper → St → Option (St × List Foot)
  | [], s => some (s, [])
  | o :: os, s => (goper sh cl o s).bind fun r => (gops sh cl os r.1).map fun q => (q.1, r.2 :: q.2)

def keepT (T : Tm) : List Nat → Tm
  | [] => []
  | n :: l => (n, look T n) :: keepT T l

def maskT (keep : Option (List Nat)) (T : Tm) : Tm :=
  match keep with
  | none => T
  | some l => keepT T l

def gregion (sh : Nat → Bool) (cl : Callee) (ops : List GOper) (unord : List (Nat × Nat)) (keep : Option (List Nat)) (s : St) : Option St :=
  (gops sh cl ops s).bind fun r => if clashes r.2 unord then none else some ⟨maskT keep r.1.T, r.1.H, r.1.ng⟩

inductive Ex where
  | norm
  | ex (id : Nat)
  | ret
  deriving DecidableEq, Inhabited

def loopN (body : St → Option (Ex × St)) (cut : List Blk → List Blk) : Nat → St → Option (Ex × St)
  | 0, _ => none
  | n + 1, s => match body s with
    | some (.norm, s') => loopN body cut n ⟨s'.T, cut s'.H, s'.ng⟩
    | r => r

def gcode (sh : Nat → Bool) (cl : Callee) (L : Nat) : GC → St → Option (Ex × St)
  | .skip, s => some (.norm, s)
  | .region ops un kp, s => (gregion sh cl ops un kp s).map fun s' => (.norm, s')
  | .seq a b, s => match gcode sh cl L a s with
    | some (.norm, s') => gcode sh cl L b s'
    | r => r
  | .cond c a b, s => match c.ev s.T with
    | .bool p => if p then gcode sh cl L a s else gcode sh cl L b s
    | _ => none
  | .block id b, s => match gcode sh cl L b s with
    | some (.ex i, s') => if i = id then some (.norm, s') else some (.ex i, s')
    | r => r
  | .loop kh live b, s => loopN (fun s' => gcode sh cl L b ⟨maskT live s'.T, s'.H, s'.ng⟩) (fun H => if kh then H else H.take s.H.length) L s
  | .exit id, s => some (.ex id, s)
  | .ret, s => some (.ret, s)

def gres1 (s : St) : GRes → Option V
  | .tmp t => some (look s.T t)
  | .cell t sz ag => match look s.T t with
    | .ptr id g row off => (hget (hp s.H) id g).bind fun b => (b.rows[row]?).bind fun r => mkVal ag sz (seg r off sz)
    | _ => none

def gres (s : St) : List GRes → Option V
  | [r] => gres1 s r
  | rs => (mapMV (gres1 s) rs).map .tup

def argT : Nat → List V → Tm
  | _, [] => []
  | i, v :: l => (i, v) :: argT (i + 1) l

abbrev Table := Nat → Option GFun

def shOf (F : Table) (f : Nat) : Bool := match F f with | some g => g.shared | none => false

def gbody (F : Table) (L : Nat) (cl : Callee) (g : GFun) (args : List V) (H : List Blk) (ng : Nat) : Option (V × List Blk × Nat) :=
  if args.length ≤ g.ntmps then
    match gcode (shOf F) cl L g.body ⟨argT 0 args, H, ng⟩ with
    | some (.norm, s) => (gres s g.results).map fun v => (v, s.H, s.ng)
    | some (.ret, s) => (gres s g.results).map fun v => (v, s.H, s.ng)
    | _ => none
  else none

def gfun (F : Table) (L : Nat) : Nat → Callee
  | 0 => fun _ _ _ _ => none
  | d + 1 => fun f args H ng => match F f with
    | some g => gbody F L (gfun F L d) g args H ng
    | none => none

end Gh
