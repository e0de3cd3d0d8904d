/-
  The abstract machine: a deterministic interpreter over abstract block ids for the part of the language that the program uses.
  Own work of this project. It states no theorem about Go; XAmSound shows that it agrees with the model.
-/
import Derived.Calls
namespace Go.AM
open Go

/-- Abstract values: a pointer or a slice names an abstract block by its number. -/
inductive AV where
  | bool (b : Bool)
  | int (k : IntKind) (n : Int)
  | str (s : ByteArray)
  | ptr (id off : Nat)
  | nilp
  | sl (id off len : Nat) (cap : Option Nat) (sz : Nat)
  | nils
  | mp (id : Nat)
  | nilm
  | fn (f : Nat) (caps : List AV)
  | nilf
  | agg (cs : List AV)
  | tup (vs : List AV)
  | und
  | any

abbrev Env := List AV

/-- Abstract blocks. -/
inductive AB where
  | row (cells : List AV) (own : Bool)
  | map (es : List (AV × AV × Nat)) (clock : Nat)
  | iter (m : Option Nat) (since : Nat) (seen : List Nat) (last : Nat)
  | unborn
  | dead

def AB.live : AB → Bool
  | .row .. | .map .. | .iter .. => true
  | _ => false
def AB.owned : AB → Bool
  | .row _ o => o
  | .map .. | .iter .. => true
  | _ => false

/-- The abstract memory: newest block first; 'next' blocks were made; 'low': no block below it was written since the mark was set. -/
structure St where
  heap : List AB
  next : Nat
  low : Nat

def St.get (s : St) (id : Nat) : Option AB := if id < s.next then s.heap[s.next - 1 - id]? else none
def St.push (s : St) (b : AB) : St := { heap := b :: s.heap, next := s.next + 1, low := s.low }
def St.put (s : St) (id : Nat) (b : AB) : St := { heap := s.heap.set (s.next - 1 - id) b, next := s.next, low := min s.low id }
def St.born (s : St) (id : Nat) (b : AB) : St := { heap := s.heap.set (s.next - 1 - id) b, next := s.next, low := s.low }
def St.reserve (s : St) : Nat → St
  | 0 => s
  | n + 1 => (s.push .unborn).reserve n

/-- Operands. -/
inductive AO where
  | t (n : Nat)
  | c (v : AV)
  | f (n : Nat)
  | bad

/-- What may be compared with == and != beyond numbers and strings. -/
inductive FK where
  | b | i | s
  deriving DecidableEq
inductive EK where
  | no | bo | np | ns | nm | nf | fl (ks : List FK) | ky (k : FK)
  deriving DecidableEq

/-- What 'len' is asked of. -/
inductive LK where
  | st | sl | mp
  deriving DecidableEq

inductive AOp where
  | mv (x : AO)
  | pick (c a b : AO)
  | alloc (z : List AV)
  | box (n : Nat) (x : AO)
  | build (z : List AV) (ps : List (Nat × Nat × AO))
  | bsl (z : List AV) (len sz : Nat) (ps : List (Nat × AO))
  | load1 (a : AO)
  | loadn (n : Nat) (a : AO)
  | store (n : Nat) (a x : AO)
  | bin (op : BinOp) (k : EK) (x y : AO)
  | un (op : UnOp) (x : AO)
  | conv (k : IntKind) (x : AO)
  | s2b (x : AO)
  | b2s (x : AO)
  | mkfn (f : Nat) (caps : List AO)
  | mkmap (r : Option AO)
  | mksl (z : List AV) (bytes : Nat) (l c : AO)
  | slc (sz : Nat) (x : AO) (lo hi mx : Option AO)
  | slcs (x : AO) (lo hi : Option AO)
  | fad (off : Nat) (x : AO)
  | fld (one : Bool) (off n : Nat) (x : AO)
  | iad (sz : Nat) (x i : AO)
  | idxs (x i : AO)
  | look (z : AV) (k : EK) (ok : Bool) (m i : AO)
  | mset (k : EK) (m i x : AO)
  | mdel (k : EK) (m i : AO)
  | ext (x : AO) (i : Nat)
  | call (f : Nat) (cl : Bool) (args : List AO)
  | callv (x : AO) (cl : Bool) (args : List AO)
  | len (k : LK) (x : AO)
  | cap (x : AO)
  | app (sz bytes : Nat) (z : List AV) (s x : AO)
  | appz (sz bytes : Nat) (z : List AV) (s x : AO)
  | copy (sz : Nat) (d x : AO)
  | mm (big : Bool) (xs : List AO)
  | nchk (x : AO)
  | rng (x : AO)
  | nxt (x : AO)
  | ent (x : AO)
  | bad

def AOp.opds : AOp → List AO
  | .mv x | .box _ x | .load1 x | .loadn _ x | .un _ x | .conv _ x | .s2b x | .b2s x | .fad _ x | .fld _ _ _ x | .ext x _ | .len _ x | .cap x | .nchk x | .rng x | .nxt x | .ent x => [x]
  | .pick c a b => [c, a, b]
  | .alloc _ | .bad => []
  | .build _ ps => ps.map (·.2.2)
  | .bsl _ _ _ ps => ps.map (·.2)
  | .store _ a x | .bin _ _ a x | .mksl _ _ a x | .iad _ a x | .idxs a x | .look _ _ _ a x | .mdel _ a x | .app _ _ _ a x | .appz _ _ _ a x | .copy _ a x => [a, x]
  | .mkfn _ l | .call _ _ l | .mm _ l => l
  | .mkmap r => r.toList
  | .slc _ x lo hi mx => x :: (lo.toList ++ (hi.toList ++ mx.toList))
  | .slcs x lo hi => x :: (lo.toList ++ hi.toList)
  | .mset _ m i x => [m, i, x]
  | .callv x _ l => x :: l
inductive HK where
  | pure | alloc | read | write
  deriving DecidableEq
def AOp.kind : AOp → HK
  | .alloc .. | .box .. | .bsl .. | .mksl .. => .alloc
  | .load1 .. | .loadn .. | .look .. | .b2s .. | .ent .. | .len .mp _ => .read
  | .call _ cl _ | .callv _ cl _ => if cl then .read else .write
  | .store .. | .s2b .. | .mkmap .. | .mset .. | .mdel .. | .app .. | .appz .. | .copy .. | .rng .. | .nxt .. => .write
  | _ => .pure
def AOp.isCall : AOp → Bool
  | .call .. | .callv .. => true
  | _ => false

def AOp.isStore : AOp → Bool
  | .store .. => true
  | _ => false
/-- The first block that it may write where it may come up before or behind a load. -/
def AOp.floor (op : AOp) (base next : Nat) : Nat := if op.isStore = true then base else next

structure AOper where
  dst : Option Nat
  op : AOp
  guard : Option (Nat × Bool)
  res : Option Nat      -- in a region that draws its order: the number of the block that is kept for it
  fresh : Bool          -- in a region that draws its order: a writer may write nothing that was there (a store: nothing that was there ahead of the region), a load may look at nothing else

inductive AC where
  | skip
  | reg (ops : List AOper)
  | regd (k : Nat) (ops : List AOper)
  | seq (a b : AC)
  | cond (c : AO) (a b : AC)
  | block (id : Nat) (c : AC)
  | loop (c : AC)
  | exit (id : Nat)
  | ret
  | bad

inductive AR where
  | t (n : Nat)
  | cell1 (a : Nat)
  | celln (a n : Nat)

structure AFn where
  ntmps : Nat
  results : List AR
  body : AC

/-! ### Values -/
def AV.cells : AV → List AV
  | .agg cs => cs
  | v => [v]
def AV.one : AV → Bool
  | .agg _ | .tup _ | .und | .any => false
  | _ => true
def AV.whole : AV → Bool
  | .tup _ | .und | .any => false
  | _ => true
/-- No block is named in it. -/
def AV.plain : AV → Bool
  | .bool _ | .int .. | .str _ | .nilp | .nils | .nilm | .nilf => true
  | _ => false
def AV.plains : AV → Bool
  | .agg cs => cs.all AV.plain
  | v => v.plain
def AV.ground : AV → Bool
  | .tup vs => vs.all AV.plains
  | .agg cs => cs.all AV.plain
  | v => v.plain

/-- Two scalars of one kind. -/
def eqF : FK → AV → AV → Option Bool
  | .b, .bool a, .bool b => some (a == b)
  | .i, .int k a, .int k' b => if k = k' then some (a == b) else none
  | .s, .str a, .str b => some (a == b)
  | _, _, _ => none
def eqL : List FK → List AV → List AV → Option Bool
  | [], [], [] => some true
  | k :: ks, a :: as, b :: bs =>
    match eqF k a b, eqL ks as bs with
    | some x, some y => some (x && y)
    | _, _ => none
  | _, _, _ => none
def isNil : EK → AV → Option Bool
  | .np, .nilp => some true
  | .np, .ptr .. => some false
  | .ns, .nils => some true
  | .ns, .sl .. => some false
  | .nm, .nilm => some true
  | .nm, .mp _ => some false
  | .nf, .nilf => some true
  | .nf, .fn .. => some false
  | _, _ => none
def eqV (k : EK) (x y : AV) : Option Bool :=
  match k with
  | .bo => eqF .b x y
  | .fl ks => match x, y with
    | .agg a, .agg b => eqL ks a b
    | _, _ => none
  | _ => match isNil k x, isNil k y with
    | some a, some b => if a || b then some (a && b) else none
    | _, _ => none
/-- Keys of maps: numbers, strings, flat structs. -/
def eqK (k : EK) (x y : AV) : Option Bool :=
  match k with
  | .ky f => eqF f x y
  | .fl ks => match x, y with
    | .agg a, .agg b => eqL ks a b
    | _, _ => none
  | _ => none

def intOp (op : BinOp) (k : IntKind) (a b : Int) : Option AV :=
  match op with
  | .add => some (.int k (k.wrap (a + b)))
  | .sub => some (.int k (k.wrap (a - b)))
  | .mul => some (.int k (k.wrap (a * b)))
  | .quo => if b = 0 then none else some (.int k (k.wrap (a.tdiv b)))
  | .rem => if b = 0 then none else some (.int k (a.tmod b))
  | .and => some (.int k (k.wrap ((BitVec.ofInt k.bits a &&& BitVec.ofInt k.bits b).toNat : Int)))
  | .or => some (.int k (k.wrap ((BitVec.ofInt k.bits a ||| BitVec.ofInt k.bits b).toNat : Int)))
  | .xor => some (.int k (k.wrap ((BitVec.ofInt k.bits a ^^^ BitVec.ofInt k.bits b).toNat : Int)))
  | .eql => some (.bool (a == b))
  | .neq => some (.bool (a != b))
  | .lss => some (.bool (decide (a < b)))
  | .leq => some (.bool (decide (a ≤ b)))
  | .gtr => some (.bool (decide (a > b)))
  | .geq => some (.bool (decide (a ≥ b)))
  | _ => none
def shOp (op : BinOp) (k : IntKind) (a b : Int) : Option AV :=
  if b < 0 then none else
  match op with
  | .shl => some (.int k (k.wrap (a * 2 ^ (min b.toNat k.bits))))
  | .shr => some (.int k (a.fdiv (2 ^ (min b.toNat k.bits))))
  | _ => none
def strOp (op : BinOp) (a b : ByteArray) : Option AV :=
  match op with
  | .add => if ((a.size + b.size : Nat) : Int) > IntKind.i64.max then none else some (.str (a ++ b))
  | .eql => some (.bool (a.toList == b.toList))
  | .neq => some (.bool !(a.toList == b.toList))
  | .lss => some (.bool (Op.bytesLess a.toList b.toList))
  | .leq => some (.bool (Op.bytesLess a.toList b.toList || a.toList == b.toList))
  | .gtr => some (.bool !(Op.bytesLess a.toList b.toList || a.toList == b.toList))
  | .geq => some (.bool !(Op.bytesLess a.toList b.toList))
  | _ => none
def binOp (op : BinOp) (k : EK) (x y : AV) : Option AV :=
  match op, x, y with
  | .shl, .int k a, .int _ b => shOp .shl k a b
  | .shr, .int k a, .int _ b => shOp .shr k a b
  | op, .int k a, .int k' b => if k = k' then intOp op k a b else none
  | op, .str a, .str b => strOp op a b
  | .eql, x, y => (eqV k x y).map .bool
  | .neq, x, y => (eqV k x y).map fun b => .bool !b
  | _, _, _ => none

/-- 'vs' written over the cells from 'off' on. -/
def setAt (cs : List AV) (off : Nat) (vs : List AV) : List AV := cs.take off ++ vs ++ cs.drop (off + vs.length)
def zeros (z : List AV) (n : Nat) : List AV := (List.replicate n z).flatten
def bytesAV (s : ByteArray) : List AV := s.data.toList.map fun b => .int .u8 (b.toNat : Int)
def unbytes : List AV → Option (List UInt8)
  | [] => some []
  | .int .u8 n :: r => (unbytes r).map (UInt8.ofNat n.toNat :: ·)
  | _ => none

def aev (env : Env) : AO → AV
  | .t n => env.getD n .und
  | .c v => v
  | .f n => .fn n []
  | .bad => .und

def fillP (env : Env) (cs : List AV) : List (Nat × Nat × AO) → Option (List AV)
  | [] => some cs
  | (off, n, x) :: r =>
    let vs := (aev env x).cells
    if vs.length = n ∧ vs.all AV.one ∧ off + n ≤ cs.length then fillP env (setAt cs off vs) r else none

/-- The cells that a slice or a string shows. -/
def shown (s : St) (sz : Nat) : AV → Option (List AV)
  | .nils => some []
  | .str b => if sz = 1 then some (bytesAV b) else none
  | .sl id off len _ z =>
    if z = sz then
      match s.get id with
      | some (.row cs _) => if off + len * sz ≤ cs.length then some ((cs.drop off).take (len * sz)) else none
      | _ => none
    else none
  | _ => none
def lenOf : AV → Option Nat
  | .nils => some 0
  | .str b => some b.size
  | .sl _ _ len _ _ => some len
  | _ => none

def roomBytes : Nat := 140737488355328
def aappend (s : St) (sz bytes : Nat) (a : AV) (new : List AV) (k : Nat) : Option (AV × St) :=
  match a with
  | .nils =>
    if k = 0 then some (.nils, s)
    else if k * bytes ≤ roomBytes then some (.sl s.next 0 k none sz, s.push (.row new true)) else none
  | .sl id off len cap z =>
    if z = sz then
      match s.get id with
      | some (.row cs own) =>
        if k = 0 then some (a, s)
        else if off + len * sz ≤ cs.length ∧ (len + k) * bytes ≤ roomBytes then
          match cap with
          | some c =>
            if len + k ≤ c then
              if own && decide (off + (len + k) * sz ≤ cs.length) then
                some (.sl id off (len + k) (some c) sz, s.put id (.row (setAt cs (off + len * sz) new) own))
              else none
            else some (.sl s.next 0 (len + k) none sz, s.push (.row ((cs.drop off).take (len * sz) ++ new) true))
          | none =>
            if own then some (.sl s.next 0 (len + k) none sz, (s.put id .dead).push (.row ((cs.drop off).take (len * sz) ++ new) true))
            else none
        else none
      | _ => none
    else none
  | _ => none

def findE (k : EK) (x : AV) : List (AV × AV × Nat) → Nat → Option (Option (Nat × AV))
  | [], _ => some none
  | (y, v, _) :: r, i =>
    match eqK k x y with
    | some true => some (some (i, v))
    | some false => findE k x r (i + 1)
    | none => none
def AV.isK : FK → AV → Bool
  | .b, .bool _ => true
  | .i, .int .. => true
  | .s, .str _ => true
  | _, _ => false
def AV.areK : List FK → List AV → Bool
  | [], [] => true
  | k :: ks, x :: xs => x.isK k && AV.areK ks xs
  | _, _ => false
def AV.key (k : EK) (v : AV) : Bool :=
  match k, v with
  | .fl ks, .agg cs => AV.areK ks cs
  | .ky f, v => v.isK f
  | _, _ => false
def asNatIn (v : AV) (m : Nat) : Option Nat :=
  match v with
  | .int _ n => if 0 ≤ n ∧ n ≤ m then some n.toNat else none
  | _ => none
def optNat (v : Option AV) (m d : Nat) : Option Nat :=
  match v with
  | some v => asNatIn v m
  | none => some d

/-- An operation that makes one block: what it yields, and the block. -/
def aalloc (env : Env) : AOp → Option ((Nat → AV) × AB)
  | .alloc z => some (fun id => .ptr id 0, .row z true)
  | .box n x =>
    let cs := (aev env x).cells
    if cs.length = n ∧ cs.all AV.one then some (fun id => .ptr id 0, .row cs true) else none
  | .bsl z len sz ps => (fillP env z (ps.map fun (i, x) => (i * sz, sz, x))).map fun cs => (fun id => .sl id 0 len (some len) sz, .row cs true)
  | .mksl z bytes l c =>
    match aev env l, aev env c with
    | .int .i64 l, .int .i64 c =>
      if 0 ≤ l ∧ l ≤ c ∧ (bytes : Int) * c ≤ roomBytes ∧ c ≤ 9223372036854775807 then
        some (fun id => .sl id 0 l.toNat (some c.toNat) z.length, .row (zeros z c.toNat) true)
      else none
    | _, _ => none
  | _ => none

def mmL (big : Bool) : AV → List AV → Option AV
  | v, [] => some v
  | .int k x, .int k' y :: r => if k = k' then mmL big (.int k (if big then (if y > x then y else x) else (if y < x then y else x))) r else none
  | _, _ => none

/-- Operations that look at no memory and make none. -/
def apure (env : Env) : AOp → Option AV
  | .mv x => some (aev env x)
  | .pick c a b => match aev env c with | .bool t => some (if t then aev env a else aev env b) | _ => none
  | .build z ps => (fillP env z ps).map .agg
  | .bin op k x y => binOp op k (aev env x) (aev env y)
  | .un op x =>
    match op, aev env x with
    | .not, .bool b => some (.bool !b)
    | .neg, .int k n => some (.int k (k.wrap (0 - n)))
    | _, _ => none
  | .conv k x => match aev env x with | .int _ n => some (.int k (k.wrap n)) | _ => none
  | .mkfn f caps => some (.fn f (caps.map (aev env)))
  | .slc sz x lo hi mx =>
    match aev env x with
    | .sl id off len cap z =>
      if z = sz then
        match cap with
        | some c =>
          match optNat (mx.map (aev env)) c c with
          | some m => match optNat (hi.map (aev env)) m len with
            | some h => match optNat (lo.map (aev env)) h 0 with
              | some l => if mx.isSome && hi.isNone then none else some (.sl id (off + l * sz) (h - l) (some (m - l)) sz)
              | none => none
            | none => none
          | none => none
        | none =>
          match mx with
          | some m =>
            match asNatIn (aev env m) len with
            | some m => match optNat (hi.map (aev env)) m len with
              | some h => match optNat (lo.map (aev env)) h 0 with
                | some l => if hi.isNone then none else some (.sl id (off + l * sz) (h - l) (some (m - l)) sz)
                | none => none
              | none => none
            | none => none
          | none =>
            match optNat (hi.map (aev env)) len len with
            | some h => match optNat (lo.map (aev env)) h 0 with
              | some l => some (.sl id (off + l * sz) (h - l) none sz)
              | none => none
            | none => none
      else none
    | .nils =>
      match optNat (mx.map (aev env)) 0 0, optNat (hi.map (aev env)) 0 0, optNat (lo.map (aev env)) 0 0 with
      | some _, some _, some _ => if mx.isSome && hi.isNone then none else some .nils
      | _, _, _ => none
    | _ => none
  | .slcs x lo hi =>
    match aev env x with
    | .str b =>
      match optNat (hi.map (aev env)) b.size b.size with
      | some h => match optNat (lo.map (aev env)) h 0 with
        | some l => some (.str (b.extract l h))
        | none => none
      | none => none
    | _ => none
  | .fad off x => match aev env x with | .ptr id o => some (.ptr id (o + off)) | _ => none
  | .fld one off n x =>
    match aev env x with
    | .agg cs => if one then cs[off]? else if off + n ≤ cs.length then some (.agg ((cs.drop off).take n)) else none
    | _ => none
  | .iad sz x i =>
    match aev env x, aev env i with
    | .sl id off len _ z, .int _ n => if z = sz ∧ 0 ≤ n ∧ n < len then some (.ptr id (off + n.toNat * sz)) else none
    | _, _ => none
  | .idxs x i =>
    match aev env x, aev env i with
    | .str b, .int _ n => if 0 ≤ n then (b[n.toNat]?).map fun u => .int .u8 (u.toNat : Int) else none
    | _, _ => none
  | .ext x i => match aev env x with | .tup vs => vs[i]? | _ => none
  | .len .st x => match aev env x with | .str b => some (.int .i64 (b.size : Int)) | _ => none
  | .len .sl x => match aev env x with | .sl _ _ n _ _ => some (.int .i64 (n : Int)) | .nils => some (.int .i64 0) | _ => none
  | .cap x => match aev env x with | .sl _ _ _ (some c) _ => some (.int .i64 (c : Int)) | .nils => some (.int .i64 0) | _ => none
  | .mm big xs => match xs.map (aev env) with | v :: r => mmL big v r | [] => none
  | .nchk x => match aev env x with | .ptr id o => some (.ptr id o) | _ => none
  | _ => none

/-- A call, and what is left of the memory behind it: where the callee wrote nothing that was there and names no block in its answer, all is as it was. -/
def acall (c : List AV → St → Option (AV × St)) (cl : Bool) (args : List AV) (s : St) : Option (AV × St) :=
  match c args { s with low := s.next } with
  | some (r, s') =>
    if r.ground && decide (s.next ≤ s'.low) then some (r, s)
    else if cl then none
    else some (r, { s' with low := min s.low s'.low })
  | none => none

/-- Operations that read memory and leave it alone. -/
def aread (call : Nat → List AV → St → Option (AV × St)) (env : Env) (s : St) : AOp → Option AV
  | .load1 a =>
    match aev env a with
    | .ptr id o => match s.get id with | some (.row cs _) => cs[o]? | _ => none
    | _ => none
  | .loadn n a =>
    match aev env a with
    | .ptr id o => match s.get id with
      | some (.row cs _) => if o + n ≤ cs.length then some (.agg ((cs.drop o).take n)) else none
      | _ => none
    | _ => none
  | .b2s x =>
    match aev env x with
    | .str _ => none
    | v => match shown s 1 v with | some cs => (unbytes cs).map fun l => .str ⟨l.toArray⟩ | none => none
  | .look z k ok m i =>
    if (aev env i).key k then
      match aev env m with
      | .nilm => some (if ok then .tup [z, .bool false] else z)
      | .mp id => match s.get id with
        | some (.map es _) => match findE k (aev env i) es 0 with
          | some (some (_, v)) => some (if ok then .tup [v, .bool true] else v)
          | some none => some (if ok then .tup [z, .bool false] else z)
          | none => none
        | _ => none
      | _ => none
    else none
  | .len .mp x =>
    match aev env x with
    | .nilm => some (.int .i64 0)
    | .mp id => match s.get id with | some (.map es _) => some (.int .i64 (es.length : Int)) | _ => none
    | _ => none
  | .ent x =>
    match aev env x with
    | .ptr id 0 => match s.get id with
      | some (.iter (some m) _ seen last) => match seen.getLast?, s.get m with
        | some stamp, some (.map es ck) => if ck = last then (es.find? fun e => e.2.2 == stamp).map fun e => .tup [e.1, e.2.1] else none
        | _, _ => none
      | _ => none
    | _ => none
  | .call f true args => (acall (call f) true (args.map (aev env)) s).map (·.1)
  | .callv x true args => match aev env x with | .fn g caps => (acall (call g) true (args.map (aev env) ++ caps) s).map (·.1) | _ => none
  | _ => none

/-- Operations that change memory. -/
def aeff (call : Nat → List AV → St → Option (AV × St)) (env : Env) (s : St) : AOp → Option (AV × St)
  | .store n a x =>
    match aev env a with
    | .ptr id o =>
      let vs := (aev env x).cells
      match s.get id with
      | some (.row cs true) => if vs.length = n ∧ vs.all AV.one ∧ o + n ≤ cs.length then some (.und, s.put id (.row (setAt cs o vs) true)) else none
      | _ => none
    | _ => none
  | .s2b x => match aev env x with
    | .str b => if b.size ≤ roomBytes then some (.sl s.next 0 b.size none 1, s.push (.row (bytesAV b) true)) else none
    | _ => none
  | .mkmap r => match r.map (aev env) with
    | none | some (.int ..) => some (.mp s.next, s.push (.map [] 0))
    | _ => none
  | .rng x =>
    match aev env x with
    | .nilm => some (.ptr s.next 0, s.push (.iter none 0 [] 0))
    | .mp id => match s.get id with
      | some (.map _ ck) => some (.ptr s.next 0, s.push (.iter (some id) ck [] ck))
      | _ => none
    | _ => none
  | .mset k m i x =>
    if (aev env i).key k && (aev env x).whole then
      match aev env m with
      | .mp id => match s.get id with
        | some (.map es ck) => match findE k (aev env i) es 0 with
          | some (some (j, _)) => match es[j]? with
            | some (_, _, b) => some (.und, s.put id (.map (es.set j (aev env i, aev env x, b)) ck))
            | none => none
          | some none => some (.und, s.put id (.map (es ++ [(aev env i, aev env x, ck)]) (ck + 1)))
          | none => none
        | _ => none
      | _ => none
    else none
  | .mdel k m i =>
    if (aev env i).key k then
      match aev env m with
      | .nilm => some (.tup [], s)
      | .mp id => match s.get id with
        | some (.map es ck) => match findE k (aev env i) es 0 with
          | some (some (j, _)) => some (.tup [], s.put id (.map (es.eraseIdx j) ck))
          | some none => some (.tup [], s)
          | none => none
        | _ => none
      | _ => none
    else none
  | .call f false args => acall (call f) false (args.map (aev env)) s
  | .callv x false args => match aev env x with | .fn g caps => acall (call g) false (args.map (aev env) ++ caps) s | _ => none
  | .app sz bytes _ a x =>
    match shown s sz (aev env x), lenOf (aev env x) with
    | some new, some k => aappend s sz bytes (aev env a) new k
    | _, _ => none
  | .appz sz bytes z a x =>
    match aev env x with
    | .int .i64 n => if 0 ≤ n ∧ n ≤ 9223372036854775807 ∧ z.length = sz then aappend s sz bytes (aev env a) (zeros z n.toNat) n.toNat else none
    | _ => none
  | .copy sz d x =>
    match aev env d, shown s sz (aev env x), lenOf (aev env x) with
    | .nils, some _, some _ => some (.int .i64 0, s)
    | .sl id off len _ z, some new, some k =>
      if z = sz then
        match s.get id with
        | some (.row cs true) =>
          if off + len * sz ≤ cs.length then
            some (.int .i64 ((min k len : Nat) : Int), s.put id (.row (setAt cs off (new.take (min k len * sz))) true))
          else none
        | _ => none
      else none
    | _, _, _ => none
  | _ => none

/-- A load of what was there ahead of the region. -/
def oldLoad (base : Nat) (env : Env) : AOp → Bool
  | .load1 a | .loadn _ a => match aev env a with
    | .ptr id _ => decide (id < base)
    | _ => false
  | _ => false
/-- One operation; 'base': the first of the blocks that are kept for this region. -/
def aop (call : Nat → List AV → St → Option (AV × St)) (base : Nat) (o : AOper) (env : Env) (s : St) : Option (AV × St) :=
  match aalloc env o.op with
  | some (v, b) =>
    match o.res with
    | some j => match s.get (base + j) with
      | some .unborn => some (v (base + j), s.born (base + j) b)
      | _ => none
    | none => some (v s.next, s.push b)
  | none =>
    match apure env o.op with
    | some v => some (v, s)
    | none =>
      match aread call env s o.op with
      | some v => if (o.fresh && !oldLoad base env o.op) = true then none else some (v, s)
      | none =>
        if o.fresh then
          match aeff call env { s with low := s.next } o.op with
          | some (v, s') => if o.op.floor base s.next ≤ s'.low then some (v, { s' with low := min s.low s'.low }) else none
          | none => none
        else aeff call env s o.op

def putE (env : Env) (dst : Option Nat) (v : AV) : Env :=
  match dst with
  | some d => env.set d v
  | none => env
def wanted (o : AOper) (env : Env) : Option Bool :=
  match o.guard with
  | none => some true
  | some (t, want) => match env.getD t .und with
    | .bool b => some (b == want)
    | .any => none
    | _ => some false
def aops (call : Nat → List AV → St → Option (AV × St)) (base : Nat) : List AOper → Env → St → Option (Env × St)
  | [], env, s => some (env, s)
  | o :: rest, env, s =>
    match wanted o env with
    | some true =>
      match aop call base o env s with
      | some (v, s') => aops call base rest (putE env o.dst v) s'
      | none => none
    | some false => aops call base rest (putE env o.dst .und) s
    | none => none

/-- Whatever entry comes next: 'K' of what is handed out. -/
def anext (v : AV) (s : St) (K : AV → St → Prop) : Prop :=
  match v with
  | .ptr id 0 => match s.get id with
    | some (.iter none _ _ _) => K (.tup [.bool false]) s
    | some (.iter (some m) since seen last) => match s.get m with
      | some (.map es ck) => (∀ e ∈ es, e.2.2 < since) ∧ since ≤ last ∧
          ((∀ e ∈ es, e.2.2 ∈ seen) → K (.tup [.bool false]) s) ∧
          ∀ e ∈ es, e.2.2 ∉ seen → K (.tup [.bool true, e.1, e.2.1]) (s.put id (.iter (some m) since (seen ++ [e.2.2]) ck))
      | _ => False
    | _ => False
  | _ => False
def awops (call : Nat → List AV → St → Option (AV × St)) (base : Nat) : List AOper → (Env → St → Prop) → Env → St → Prop
  | [], Q, env, s => Q env s
  | o :: rest, Q, env, s =>
    match wanted o env with
    | some true =>
      match o.op with
      | .nxt x => anext (aev env x) s fun v s' => awops call base rest Q (putE env o.dst v) s'
      | _ => match aop call base o env s with
        | some (v, s') => awops call base rest Q (putE env o.dst v) s'
        | none => False
    | some false => awops call base rest Q (putE env o.dst .und) s
    | none => False

inductive AEx where
  | nor
  | exit (id : Nat)
  | ret
  deriving DecidableEq

def aexec (call : Nat → List AV → St → Option (AV × St)) : Nat → AC → Env → St → Option (AEx × Env × St)
  | 0, _, _, _ => none
  | n + 1, c, env, s =>
    match c with
    | .skip => some (.nor, env, s)
    | .reg os => match aops call 0 os env s with
      | some (env', s') => some (.nor, env', s')
      | none => none
    | .regd k os => match aops call s.next os env (s.reserve k) with
      | some (env', s') => some (.nor, env', s')
      | none => none
    | .seq a b => match aexec call n a env s with
      | some (.nor, env', s') => aexec call n b env' s'
      | r => r
    | .cond c a b => match aev env c with
      | .bool true => aexec call n a env s
      | .bool false => aexec call n b env s
      | _ => none
    | .block id c => match aexec call n c env s with
      | some (.exit i, env', s') => if i = id then some (.nor, env', s') else some (.exit i, env', s')
      | r => r
    | .loop c => match aexec call n c env s with
      | some (.nor, env', s') => aexec call n (.loop c) env' s'
      | r => r
    | .exit id => some (.exit id, env, s)
    | .ret => some (.ret, env, s)
    | .bad => none

/-- The rounds of a loop, at most so many. -/
def arounds (body : (AEx → Env → St → Prop) → Env → St → Prop) (Q : AEx → Env → St → Prop) : Nat → Env → St → Prop
  | 0, _, _ => False
  | n + 1, env, s => body (fun x e t => match x with
    | .nor => arounds body Q n e t
    | x => Q x e t) env s
/-- What holds behind the code, whatever the maps hand out. -/
def awp (call : Nat → List AV → St → Option (AV × St)) : AC → (AEx → Env → St → Prop) → Env → St → Prop
  | .skip, Q, env, s => Q .nor env s
  | .reg os, Q, env, s => awops call 0 os (Q .nor) env s
  | .regd k os, Q, env, s => ∃ env' s', aops call s.next os env (s.reserve k) = some (env', s') ∧ Q .nor env' s'
  | .seq a b, Q, env, s => awp call a (fun x e t => match x with
    | .nor => awp call b Q e t
    | x => Q x e t) env s
  | .cond c a b, Q, env, s => match aev env c with
    | .bool true => awp call a Q env s
    | .bool false => awp call b Q env s
    | _ => False
  | .block id c, Q, env, s => awp call c (fun x e t => match x with
    | .exit i => if i = id then Q .nor e t else Q (.exit i) e t
    | x => Q x e t) env s
  | .loop c, Q, env, s => ∃ n, arounds (awp call c) Q n env s
  | .exit id, Q, env, s => Q (.exit id) env s
  | .ret, Q, env, s => Q .ret env s
  | .bad, _, _, _ => False

def aresult (env : Env) (s : St) : AR → Option AV
  | .t n => some (env.getD n .und)
  | .cell1 a => match env.getD a .und with
    | .ptr id o => match s.get id with | some (.row cs _) => cs[o]? | _ => none
    | _ => none
  | .celln a n => match env.getD a .und with
    | .ptr id o => match s.get id with
      | some (.row cs _) => if o + n ≤ cs.length then some (.agg ((cs.drop o).take n)) else none
      | _ => none
    | _ => none
def aresults (env : Env) (s : St) (rs : List AR) : Option AV :=
  match rs.mapM (aresult env s) with
  | some [v] => some v
  | some vs => some (.tup vs)
  | none => none

def acallFn (call : Nat → List AV → St → Option (AV × St)) (fuel : Nat) (fn : AFn) (args : List AV) (s : St) : Option (AV × St) :=
  match aexec call fuel fn.body (args ++ List.replicate (fn.ntmps - args.length) .und) s with
  | some (.exit _, _, _) => none
  | some (_, env, s') => (aresults env s' fn.results).map fun v => (v, s')
  | none => none

end Go.AM
