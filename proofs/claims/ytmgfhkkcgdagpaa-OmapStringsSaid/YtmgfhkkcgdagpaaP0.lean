/-
  The abstract machine: a deterministic interpreter over abstract block ids for the part of the language that the program uses.
  Own work of this project. It states no theorem about Go; XAmSound shows that it agrees with the model.
-/
import Derived.Calls
import Derived.Below
import Derived.LoopN
import Derived.Laws.StructEq
import Derived.Laws.IdiomCopy
import Derived.Laws.Cover3
import Derived.WalkSpells
import Derived.MapKept
set_option linter.unusedVariables false
set_option linter.unusedSimpArgs false
section
namespace Go.AM
open Go

/-- Abstract values: a pointer or a slice names an abstract block by its number. -/
inductive AV where
  | bool (b : Bool)
  | int (k : IntKind) (n : Int)
  | str (s : ByteArray)
  | ptr (id off : Nat)
  | nilp
  | sl (id off len : Nat) (cap : Option Nat) (sz : Nat)
  | nils
  | mp (id : Nat)
  | nilm
  | fn (f : Nat) (caps : List AV)
  | nilf
  | agg (cs : List AV)
  | tup (vs : List AV)
  | und
  | any
  | yd (l : Nat)

abbrev Env := List AV

/-- Abstract blocks. -/
inductive AB where
  | row (cells : List AV) (own : Bool)
  | map (es : List (AV × AV × Nat)) (clock : Nat)
  | iter (m : Option Nat) (since : Nat) (seen : List Nat) (last : Nat)
  | unborn
  | dead

def AB.live : AB → Bool
  | .row .. | .map .. | .iter .. => true
  | _ => false
def AB.owned : AB → Bool
  | .row _ o => o
  | .map .. | .iter .. => true
  | _ => false

/-- The abstract memory: newest block first; 'next' blocks were made; 'low': no block below it was written since the mark was set. -/
structure St where
  heap : List AB
  next : Nat
  low : Nat

def St.get (s : St) (id : Nat) : Option AB := if id < s.next then s.heap[s.next - 1 - id]? else none
def St.push (s : St) (b : AB) : St := { heap := b :: s.heap, next := s.next + 1, low := s.low }
def St.put (s : St) (id : Nat) (b : AB) : St := { heap := s.heap.set (s.next - 1 - id) b, next := s.next, low := min s.low id }
def St.born (s : St) (id : Nat) (b : AB) : St := { heap := s.heap.set (s.next - 1 - id) b, next := s.next, low := s.low }
def St.reserve (s : St) : Nat → St
  | 0 => s
  | n + 1 => (s.push .unborn).reserve n

/-- Operands. -/
inductive AO where
  | t (n : Nat)
  | c (v : AV)
  | f (n : Nat)
  | bad

/-- What may be compared with == and != beyond numbers and strings. -/
inductive FK where
  | b | i | s
  deriving DecidableEq
inductive EK where
  | no | bo | np | ns | nm | nf | fl (ks : List FK) | ky (k : FK)
  deriving DecidableEq

/-- What 'len' is asked of. -/
inductive LK where
  | st | sl | mp
  deriving DecidableEq

inductive AOp where
  | mv (x : AO)
  | pick (c a b : AO)
  | alloc (z : List AV)
  | box (n : Nat) (x : AO)
  | build (z : List AV) (ps : List (Nat × Nat × AO))
  | bsl (z : List AV) (len sz : Nat) (ps : List (Nat × AO))
  | load1 (a : AO)
  | loadn (n : Nat) (a : AO)
  | store (n : Nat) (a x : AO)
  | bin (op : BinOp) (k : EK) (x y : AO)
  | un (op : UnOp) (x : AO)
  | conv (k : IntKind) (x : AO)
  | s2b (x : AO)
  | b2s (x : AO)
  | mkfn (f : Nat) (caps : List AO)
  | mkmap (r : Option AO)
  | mksl (z : List AV) (bytes : Nat) (l c : AO)
  | slc (sz : Nat) (x : AO) (lo hi mx : Option AO)
  | slcs (x : AO) (lo hi : Option AO)
  | fad (off : Nat) (x : AO)
  | fld (one : Bool) (off n : Nat) (x : AO)
  | iad (sz : Nat) (x i : AO)
  | idxs (x i : AO)
  | look (z : AV) (k : EK) (ok : Bool) (m i : AO)
  | mset (k : EK) (m i x : AO)
  | mdel (k : EK) (m i : AO)
  | ext (x : AO) (i : Nat)
  | call (f : Nat) (cl : Bool) (args : List AO)
  | callv (x : AO) (cl : Bool) (args : List AO)
  | len (k : LK) (x : AO)
  | cap (x : AO)
  | app (sz bytes : Nat) (z : List AV) (s x : AO)
  | appz (sz bytes : Nat) (z : List AV) (s x : AO)
  | copy (sz : Nat) (d x : AO)
  | clr (z : List AV) (x : AO)
  | ovl (x y : AO)
  | mm (big : Bool) (xs : List AO)
  | nchk (x : AO)
  | rng (x : AO)
  | nxt (x : AO)
  | ent (x : AO)
  | bad

def AOp.opds : AOp → List AO
  | .mv x | .box _ x | .load1 x | .loadn _ x | .un _ x | .conv _ x | .s2b x | .b2s x | .fad _ x | .fld _ _ _ x | .ext x _ | .len _ x | .cap x | .nchk x | .rng x | .nxt x | .ent x | .clr _ x => [x]
  | .pick c a b => [c, a, b]
  | .alloc _ | .bad => []
  | .build _ ps => ps.map (·.2.2)
  | .bsl _ _ _ ps => ps.map (·.2)
  | .store _ a x | .bin _ _ a x | .mksl _ _ a x | .iad _ a x | .idxs a x | .look _ _ _ a x | .mdel _ a x | .app _ _ _ a x | .appz _ _ _ a x | .copy _ a x | .ovl a x => [a, x]
  | .mkfn _ l | .call _ _ l | .mm _ l => l
  | .mkmap r => r.toList
  | .slc _ x lo hi mx => x :: (lo.toList ++ (hi.toList ++ mx.toList))
  | .slcs x lo hi => x :: (lo.toList ++ hi.toList)
  | .mset _ m i x => [m, i, x]
  | .callv x _ l => x :: l
inductive HK where
  | pure | alloc | read | write
  deriving DecidableEq
def AOp.kind : AOp → HK
  | .alloc .. | .box .. | .bsl .. | .mksl .. => .alloc
  | .load1 .. | .loadn .. | .look .. | .b2s .. | .ent .. | .ovl .. | .len .mp _ => .read
  | .call _ cl _ | .callv _ cl _ => if cl then .read else .write
  | .store .. | .s2b .. | .mkmap .. | .mset .. | .mdel .. | .app .. | .appz .. | .copy .. | .clr .. | .rng .. | .nxt .. => .write
  | _ => .pure
def AOp.isCall : AOp → Bool
  | .call .. | .callv .. => true
  | _ => false

def AOp.isStore : AOp → Bool
  | .store .. => true
  | _ => false
def AOp.isApp : AOp → Bool
  | .app .. => true
  | _ => false

structure AOper where
  dst : Option Nat
  op : AOp
  guard : Option (Nat × Bool)
  res : Option Nat      -- in a region that draws its order: the number of the block that is kept for it
  fresh : Bool          -- in a region that draws its order: a writer may write nothing that was there (a store: nothing that was there ahead of the region), a load may look at nothing else

/-- A store, or an append to what the region itself has made (marked by its 'res'). -/
def AOper.stores (o : AOper) : Bool := o.op.isStore || (o.op.isApp && o.res.isSome)
/-- The first block that it may write where it may come up before or behind a load. -/
def AOper.floor (o : AOper) (base next : Nat) : Nat := if o.stores = true then base else next

/-- Short for what is printed most. -/
abbrev oO (d : Nat) (op : AOp) : AOper := ⟨some d, op, none, none, false⟩
abbrev oG (d : Nat) (op : AOp) (t : Nat) (w : Bool) : AOper := ⟨some d, op, some (t, w), none, false⟩
inductive AC where
  | skip
  | reg (ops : List AOper)
  | regd (k : Nat) (ops : List AOper)
  | regw (ops : List AOper) (chk : List (Nat × Nat))
  | seq (a b : AC)
  | cond (c : AO) (a b : AC)
  | block (id : Nat) (c : AC)
  | loop (c : AC)
  | exit (id : Nat)
  | ret
  | bad

inductive AR where
  | t (n : Nat)
  | cell1 (a : Nat)
  | celln (a n : Nat)

structure AFn where
  ntmps : Nat
  results : List AR
  body : AC

/-! ### Values -/
def AV.cells : AV → List AV
  | .agg cs => cs
  | v => [v]
def AV.one : AV → Bool
  | .agg _ | .tup _ | .und | .any => false
  | _ => true
def AV.whole : AV → Bool
  | .tup _ | .und | .any => false
  | _ => true
/-- No block is named in it. -/
def AV.plain : AV → Bool
  | .bool _ | .int .. | .str _ | .nilp | .nils | .nilm | .nilf => true
  | _ => false
def AV.plains : AV → Bool
  | .agg cs => cs.all AV.plain
  | v => v.plain
def AV.ground : AV → Bool
  | .tup vs => vs.all AV.plains
  | .agg cs => cs.all AV.plain
  | v => v.plain

/-- Two scalars of one kind. -/
def eqF : FK → AV → AV → Option Bool
  | .b, .bool a, .bool b => some (a == b)
  | .i, .int k a, .int k' b => if k = k' then some (a == b) else none
  | .s, .str a, .str b => some (a == b)
  | _, _, _ => none
def eqL : List FK → List AV → List AV → Option Bool
  | [], [], [] => some true
  | k :: ks, a :: as0, b :: bs =>
    match eqF k a b, eqL ks as0 bs with
    | some x, some y => some (x && y)
    | _, _ => none
  | _, _, _ => none
def isNil : EK → AV → Option Bool
  | .np, .nilp => some true
  | .np, .ptr .. => some false
  | .ns, .nils => some true
  | .ns, .sl .. => some false
  | .nm, .nilm => some true
  | .nm, .mp _ => some false
  | .nf, .nilf => some true
  | .nf, .fn .. => some false
  | _, _ => none
def eqV (k : EK) (x y : AV) : Option Bool :=
  match k with
  | .bo => eqF .b x y
  | .fl ks => match x, y with
    | .agg a, .agg b => eqL ks a b
    | _, _ => none
  | _ => match isNil k x, isNil k y with
    | some a, some b => if a || b then some (a && b) else none
    | _, _ => none
/-- Keys of maps: numbers, strings, flat structs. -/
def eqK (k : EK) (x y : AV) : Option Bool :=
  match k with
  | .ky f => eqF f x y
  | .fl ks => match x, y with
    | .agg a, .agg b => eqL ks a b
    | _, _ => none
  | _ => none

def intOp (op : BinOp) (k : IntKind) (a b : Int) : Option AV :=
  match op with
  | .add => some (.int k (k.wrap (a + b)))
  | .sub => some (.int k (k.wrap (a - b)))
  | .mul => some (.int k (k.wrap (a * b)))
  | .quo => if b = 0 then none else some (.int k (k.wrap (a.tdiv b)))
  | .rem => if b = 0 then none else some (.int k (a.tmod b))
  | .and => some (.int k (k.wrap ((BitVec.ofInt k.bits a &&& BitVec.ofInt k.bits b).toNat : Int)))
  | .or => some (.int k (k.wrap ((BitVec.ofInt k.bits a ||| BitVec.ofInt k.bits b).toNat : Int)))
  | .xor => some (.int k (k.wrap ((BitVec.ofInt k.bits a ^^^ BitVec.ofInt k.bits b).toNat : Int)))
  | .eql => some (.bool (a == b))
  | .neq => some (.bool (a != b))
  | .lss => some (.bool (decide (a < b)))
  | .leq => some (.bool (decide (a ≤ b)))
  | .gtr => some (.bool (decide (a > b)))
  | .geq => some (.bool (decide (a ≥ b)))
  | _ => none
def shOp (op : BinOp) (k : IntKind) (a b : Int) : Option AV :=
  if b < 0 then none else
  match op with
  | .shl => some (.int k (k.wrap (a * 2 ^ (min b.toNat k.bits))))
  | .shr => some (.int k (a.fdiv (2 ^ (min b.toNat k.bits))))
  | _ => none
def strOp (op : BinOp) (a b : ByteArray) : Option AV :=
  match op with
  | .add => if ((a.size + b.size : Nat) : Int) > IntKind.i64.max then none else some (.str (a ++ b))
  | .eql => some (.bool (a.toList == b.toList))
  | .neq => some (.bool !(a.toList == b.toList))
  | .lss => some (.bool (Op.bytesLess a.toList b.toList))
  | .leq => some (.bool (Op.bytesLess a.toList b.toList || a.toList == b.toList))
  | .gtr => some (.bool !(Op.bytesLess a.toList b.toList || a.toList == b.toList))
  | .geq => some (.bool !(Op.bytesLess a.toList b.toList))
  | _ => none
def binOp (op : BinOp) (k : EK) (x y : AV) : Option AV :=
  match op, x, y with
  | .shl, .int k a, .int _ b => shOp .shl k a b
  | .shr, .int k a, .int _ b => shOp .shr k a b
  | op, .int k a, .int k' b => if k = k' then intOp op k a b else none
  | op, .str a, .str b => strOp op a b
  | .eql, x, y => (eqV k x y).map .bool
  | .neq, x, y => (eqV k x y).map fun b => .bool !b
  | _, _, _ => none

/-- 'vs' written over the cells from 'off' on. -/
def setAt (cs : List AV) (off : Nat) (vs : List AV) : List AV := cs.take off ++ vs ++ cs.drop (off + vs.length)
def zeros (z : List AV) (n : Nat) : List AV := (List.replicate n z).flatten
def bytesAV (s : ByteArray) : List AV := s.data.toList.map fun b => .int .u8 (b.toNat : Int)
def unbytes : List AV → Option (List UInt8)
  | [] => some []
  | .int .u8 n :: r => (unbytes r).map (UInt8.ofNat n.toNat :: ·)
  | _ => none

def aev (env : Env) : AO → AV
  | .t n => env.getD n .und
  | .c v => v
  | .f n => .fn n []
  | .bad => .und

def fillP (env : Env) (cs : List AV) : List (Nat × Nat × AO) → Option (List AV)
  | [] => some cs
  | (off, n, x) :: r =>
    let vs := (aev env x).cells
    if vs.length = n ∧ vs.all AV.one ∧ off + n ≤ cs.length then fillP env (setAt cs off vs) r else none

/-- The cells that a slice or a string shows. -/
def shown (s : St) (sz : Nat) : AV → Option (List AV)
  | .nils => some []
  | .str b => if sz = 1 then some (bytesAV b) else none
  | .sl id off len _ z =>
    if z = sz then
      match s.get id with
      | some (.row cs _) => if off + len * sz ≤ cs.length then some ((cs.drop off).take (len * sz)) else none
      | _ => none
    else none
  | _ => none
/-- The cells of the first 'm' elements. -/
def shownP (s : St) (sz m : Nat) (v : AV) : Option (List AV) := match v with
  | .sl id off len _ z =>
    if z = sz ∧ m ≤ len then
      match s.get id with
      | some (.row cs _) => if off + m * sz ≤ cs.length then some ((cs.drop off).take (m * sz)) else none
      | _ => none
    else none
  | v => (shown s sz v).map fun cs => cs.take (m * sz)
def lenOf : AV → Option Nat
  | .nils => some 0
  | .str b => some b.size
  | .sl _ _ len _ _ => some len
  | _ => none

def roomBytes : Nat := 140737488355328
def aappend (s : St) (sz bytes : Nat) (a : AV) (new : List AV) (k : Nat) : Option (AV × St) :=
  match a with
  | .nils =>
    if k = 0 then some (.nils, s)
    else if k * bytes ≤ roomBytes then some (.sl s.next 0 k none sz, s.push (.row new true)) else none
  | .sl id off len cap z =>
    if z = sz then
      match s.get id with
      | some (.row cs own) =>
        if k = 0 then some (a, s)
        else if off + len * sz ≤ cs.length ∧ (len + k) * bytes ≤ roomBytes then
          match cap with
          | some c =>
            if len + k ≤ c then
              if own && decide (off + (len + k) * sz ≤ cs.length) then
                some (.sl id off (len + k) (some c) sz, s.put id (.row (setAt cs (off + len * sz) new) own))
              else none
            else some (.sl s.next 0 (len + k) none sz, s.push (.row ((cs.drop off).take (len * sz) ++ new) true))
          | none =>
            if own then some (.sl s.next 0 (len + k) none sz, (s.put id .dead).push (.row ((cs.drop off).take (len * sz) ++ new) true))
            else none
        else none
      | _ => none
    else none
  | _ => none

def findE (k : EK) (x : AV) : List (AV × AV × Nat) → Nat → Option (Option (Nat × AV))
  | [], _ => some none
  | (y, v, _) :: r, i =>
    match eqK k x y with
    | some true => some (some (i, v))
    | some false => findE k x r (i + 1)
    | none => none
def AV.isK : FK → AV → Bool
  | .b, .bool _ => true
  | .i, .int .. => true
  | .s, .str _ => true
  | _, _ => false
def AV.areK : List FK → List AV → Bool
  | [], [] => true
  | k :: ks, x :: xs => x.isK k && AV.areK ks xs
  | _, _ => false
def AV.key (k : EK) (v : AV) : Bool :=
  match k, v with
  | .fl ks, .agg cs => AV.areK ks cs
  | .ky f, v => v.isK f
  | _, _ => false
def asNatIn (v : AV) (m : Nat) : Option Nat :=
  match v with
  | .int _ n => if 0 ≤ n ∧ n ≤ m then some n.toNat else none
  | _ => none
def optNat (v : Option AV) (m d : Nat) : Option Nat :=
  match v with
  | some v => asNatIn v m
  | none => some d

/-- An operation that makes one block: what it yields, and the block. -/
def aalloc (env : Env) : AOp → Option ((Nat → AV) × AB)
  | .alloc z => some (fun id => .ptr id 0, .row z true)
  | .box n x =>
    let cs := (aev env x).cells
    if cs.length = n ∧ cs.all AV.one then some (fun id => .ptr id 0, .row cs true) else none
  | .bsl z len sz ps => (fillP env z (ps.map fun (i, x) => (i * sz, sz, x))).map fun cs => (fun id => .sl id 0 len (some len) sz, .row cs true)
  | .mksl z bytes l c =>
    match aev env l, aev env c with
    | .int .i64 l, .int .i64 c =>
      if 0 ≤ l ∧ l ≤ c ∧ (bytes : Int) * c ≤ roomBytes ∧ c ≤ 9223372036854775807 then
        some (fun id => .sl id 0 l.toNat (some c.toNat) z.length, .row (zeros z c.toNat) true)
      else none
    | _, _ => none
  | _ => none

def mmL (big : Bool) : AV → List AV → Option AV
  | v, [] => some v
  | .int k x, .int k' y :: r => if k = k' then mmL big (.int k (if big then (if y > x then y else x) else (if y < x then y else x))) r else none
  | _, _ => none

/-- Operations that look at no memory and make none. -/
def apure (env : Env) : AOp → Option AV
  | .mv x => some (aev env x)
  | .pick c a b => match aev env c with | .bool t => some (if t then aev env a else aev env b) | _ => none
  | .build z ps => (fillP env z ps).map .agg
  | .bin op k x y => binOp op k (aev env x) (aev env y)
  | .un op x =>
    match op, aev env x with
    | .not, .bool b => some (.bool !b)
    | .neg, .int k n => some (.int k (k.wrap (0 - n)))
    | _, _ => none
  | .conv k x => match aev env x with | .int _ n => some (.int k (k.wrap n)) | _ => none
  | .mkfn f caps => some (.fn f (caps.map (aev env)))
  | .slc sz x lo hi mx =>
    match aev env x with
    | .sl id off len cap z =>
      if z = sz then
        match cap with
        | some c =>
          match optNat (mx.map (aev env)) c c with
          | some m => match optNat (hi.map (aev env)) m len with
            | some h => match optNat (lo.map (aev env)) h 0 with
              | some l => if mx.isSome && hi.isNone then none else some (.sl id (off + l * sz) (h - l) (some (m - l)) sz)
              | none => none
            | none => none
          | none => none
        | none =>
          match mx with
          | some m =>
            match asNatIn (aev env m) len with
            | some m => match optNat (hi.map (aev env)) m len with
              | some h => match optNat (lo.map (aev env)) h 0 with
                | some l => if hi.isNone then none else some (.sl id (off + l * sz) (h - l) (some (m - l)) sz)
                | none => none
              | none => none
            | none => none
          | none =>
            match optNat (hi.map (aev env)) len len with
            | some h => match optNat (lo.map (aev env)) h 0 with
              | some l => some (.sl id (off + l * sz) (h - l) none sz)
              | none => none
            | none => none
      else none
    | .nils =>
      match optNat (mx.map (aev env)) 0 0, optNat (hi.map (aev env)) 0 0, optNat (lo.map (aev env)) 0 0 with
      | some _, some _, some _ => if mx.isSome && hi.isNone then none else some .nils
      | _, _, _ => none
    | _ => none
  | .slcs x lo hi =>
    match aev env x with
    | .str b =>
      match optNat (hi.map (aev env)) b.size b.size with
      | some h => match optNat (lo.map (aev env)) h 0 with
        | some l => some (.str (b.extract l h))
        | none => none
      | none => none
    | _ => none
  | .fad off x => match aev env x with | .ptr id o => some (.ptr id (o + off)) | _ => none
  | .fld one off n x =>
    match aev env x with
    | .agg cs => if one then cs[off]? else if off + n ≤ cs.length then some (.agg ((cs.drop off).take n)) else none
    | _ => none
  | .iad sz x i =>
    match aev env x, aev env i with
    | .sl id off len _ z, .int _ n => if z = sz ∧ 0 ≤ n ∧ n < len then some (.ptr id (off + n.toNat * sz)) else none
    | _, _ => none
  | .idxs x i =>
    match aev env x, aev env i with
    | .str b, .int _ n => if 0 ≤ n then (b[n.toNat]?).map fun u => .int .u8 (u.toNat : Int) else none
    | _, _ => none
  | .ext x i => match aev env x with | .tup vs => vs[i]? | _ => none
  | .len .st x => match aev env x with | .str b => some (.int .i64 (b.size : Int)) | _ => none
  | .len .sl x => match aev env x with | .sl _ _ n _ _ => some (.int .i64 (n : Int)) | .nils => some (.int .i64 0) | _ => none
  | .cap x => match aev env x with | .sl _ _ _ (some c) _ => some (.int .i64 (c : Int)) | .nils => some (.int .i64 0) | _ => none
  | .mm big xs => match xs.map (aev env) with | v :: r => mmL big v r | [] => none
  | .nchk x => match aev env x with | .ptr id o => some (.ptr id o) | _ => none
  | _ => none

/-- A call, and what is left of the memory behind it: where the callee wrote nothing that was there and names no block in its answer, all is as it was. -/
def acall (c : List AV → St → Option (AV × St)) (cl : Bool) (args : List AV) (s : St) : Option (AV × St) :=
  match c args { s with low := s.next } with
  | some (r, s') =>
    if r.ground && decide (s.next ≤ s'.low) then some (r, s)
    else if cl then none
    else some (r, { s' with low := min s.low s'.low })
  | none => none

/-- Operations that read memory and leave it alone. -/
def aread (call : Nat → List AV → St → Option (AV × St)) (env : Env) (s : St) : AOp → Option AV
  | .load1 a =>
    match aev env a with
    | .ptr id o => match s.get id with | some (.row cs _) => cs[o]? | _ => none
    | _ => none
  | .loadn n a =>
    match aev env a with
    | .ptr id o => match s.get id with
      | some (.row cs _) => if o + n ≤ cs.length then some (.agg ((cs.drop o).take n)) else none
      | _ => none
    | _ => none
  | .b2s x =>
    match aev env x with
    | .str _ => none
    | v => match shown s 1 v with | some cs => (unbytes cs).map fun l => .str ⟨l.toArray⟩ | none => none
  | .look z k ok m i =>
    if (aev env i).key k then
      match aev env m with
      | .nilm => some (if ok then .tup [z, .bool false] else z)
      | .mp id => match s.get id with
        | some (.map es _) => match findE k (aev env i) es 0 with
          | some (some (_, v)) => some (if ok then .tup [v, .bool true] else v)
          | some none => some (if ok then .tup [z, .bool false] else z)
          | none => none
        | _ => none
      | _ => none
    else none
  | .len .mp x =>
    match aev env x with
    | .nilm => some (.int .i64 0)
    | .mp id => match s.get id with | some (.map es _) => some (.int .i64 (es.length : Int)) | _ => none
    | _ => none
  | .ent x =>
    match aev env x with
    | .ptr id 0 => match s.get id with
      | some (.iter (some m) _ seen last) => match seen.getLast?, s.get m with
        | some stamp, some (.map es ck) => if ck = last then (es.find? fun e => e.2.2 == stamp).map fun e => .tup [e.1, e.2.1] else none
        | _, _ => none
      | _ => none
    | _ => none
  | .ovl x y =>
    match aev env x, aev env y with
    | .sl i _ n _ _, .sl j _ m _ _ =>
      if i ≠ j ∧ 0 < n ∧ 0 < m then
        match s.get i, s.get j with
        | some (.row _ true), some (.row (_ :: _) true) => some (.bool false)
        | _, _ => none
      else none
    | _, _ => none
  | .call f true args => (acall (call f) true (args.map (aev env)) s).map (·.1)
  | .callv x true args => match aev env x with | .fn g caps => (acall (call g) true (args.map (aev env) ++ caps) s).map (·.1) | _ => none
  | _ => none

/-- Operations that change memory. -/
def aeff (call : Nat → List AV → St → Option (AV × St)) (env : Env) (s : St) : AOp → Option (AV × St)
  | .store n a x =>
    match aev env a with
    | .ptr id o =>
      let vs := (aev env x).cells
      match s.get id with
      | some (.row cs true) => if vs.length = n ∧ vs.all AV.one ∧ o + n ≤ cs.length then some (.und, s.put id (.row (setAt cs o vs) true)) else none
      | _ => none
    | _ => none
  | .s2b x => match aev env x with
    | .str b => if b.size ≤ roomBytes then some (.sl s.next 0 b.size none 1, s.push (.row (bytesAV b) false)) else none
    | _ => none
  | .mkmap r => match r.map (aev env) with
    | none | some (.int ..) => some (.mp s.next, s.push (.map [] 0))
    | _ => none
  | .rng x =>
    match aev env x with
    | .nilm => some (.ptr s.next 0, s.push (.iter none 0 [] 0))
    | .mp id => match s.get id with
      | some (.map _ ck) => some (.ptr s.next 0, s.push (.iter (some id) ck [] ck))
      | _ => none
    | _ => none
  | .mset k m i x =>
    if (aev env i).key k && (aev env x).whole then
      match aev env m with
      | .mp id => match s.get id with
        | some (.map es ck) => match findE k (aev env i) es 0 with
          | some (some (j, _)) => match es[j]? with
            | some (_, _, b) => some (.und, s.put id (.map (es.set j (aev env i, aev env x, b)) ck))
            | none => none
          | some none => some (.und, s.put id (.map (es ++ [(aev env i, aev env x, ck)]) (ck + 1)))
          | none => none
        | _ => none
      | _ => none
    else none
  | .mdel k m i =>
    if (aev env i).key k then
      match aev env m with
      | .nilm => some (.tup [], s)
      | .mp id => match s.get id with
        | some (.map es ck) => match findE k (aev env i) es 0 with
          | some (some (j, _)) => some (.tup [], s.put id (.map (es.eraseIdx j) ck))
          | some none => some (.tup [], s)
          | none => none
        | _ => none
      | _ => none
    else none
  | .call f false args => acall (call f) false (args.map (aev env)) s
  | .callv x false args => match aev env x with | .fn g caps => acall (call g) false (args.map (aev env) ++ caps) s | _ => none
  | .app sz bytes _ a x =>
    match shown s sz (aev env x), lenOf (aev env x) with
    | some new, some k => aappend s sz bytes (aev env a) new k
    | _, _ => none
  | .appz sz bytes z a x =>
    match aev env x with
    | .int .i64 n => if 0 ≤ n ∧ n ≤ 9223372036854775807 ∧ z.length = sz then aappend s sz bytes (aev env a) (zeros z n.toNat) n.toNat else none
    | _ => none
  | .copy sz d x =>
    match aev env d, lenOf (aev env x) with
    | .nils, some _ => match shown s sz (aev env x) with
      | some _ => some (.int .i64 0, s)
      | none => none
    | .sl id off len _ z, some k =>
      if z = sz then
        match shownP s sz (min k len) (aev env x), s.get id with
        | some new, some (.row cs true) =>
          if off ≤ cs.length then some (.int .i64 ((min k len : Nat) : Int), s.put id (.row (setAt cs off new) true)) else none
        | _, _ => none
      else none
    | _, _ => none
  | .clr z x =>
    match aev env x with
    | .nils => some (.tup [], s)
    | .sl id off len _ sz =>
      if len = 0 then some (.tup [], s) else
      if sz = z.length then
        match s.get id with
        | some (.row cs true) => if off + len * sz ≤ cs.length then some (.tup [], s.put id (.row (setAt cs off (zeros z len)) true)) else none
        | _ => none
      else none
    | _ => none
  | _ => none

/-- A load of what was there ahead of the region. -/
def oldLoad (base : Nat) (env : Env) : AOp → Bool
  | .load1 a | .loadn _ a => match aev env a with
    | .ptr id _ => decide (id < base)
    | _ => false
  | _ => false
/-- One operation; 'base': the first of the blocks that are kept for this region. -/
def aop (call : Nat → List AV → St → Option (AV × St)) (base : Nat) (o : AOper) (env : Env) (s : St) : Option (AV × St) :=
  match aalloc env o.op with
  | some (v, b) =>
    match o.res with
    | some j => match s.get (base + j) with
      | some .unborn => some (v (base + j), s.born (base + j) b)
      | _ => none
    | none => some (v s.next, s.push b)
  | none =>
    match apure env o.op with
    | some v => some (v, s)
    | none =>
      match aread call env s o.op with
      | some v => if (o.fresh && !oldLoad base env o.op) = true then none else some (v, s)
      | none =>
        if o.fresh then
          match aeff call env { s with low := s.next } o.op with
          | some (v, s') => if o.floor base s.next ≤ s'.low then some (v, { s' with low := min s.low s'.low }) else none
          | none => none
        else aeff call env s o.op

def putE (env : Env) (dst : Option Nat) (v : AV) : Env :=
  match dst with
  | some d => env.set d v
  | none => env
def wanted (o : AOper) (env : Env) : Option Bool :=
  match o.guard with
  | none => some true
  | some (t, want) => match env.getD t .und with
    | .bool b => some (b == want)
    | .any => none
    | _ => some false
def aops (call : Nat → List AV → St → Option (AV × St)) (base : Nat) : List AOper → Env → St → Option (Env × St)
  | [], env, s => some (env, s)
  | o :: rest, env, s =>
    match wanted o env with
    | some true =>
      match aop call base o env s with
      | some (v, s') => aops call base rest (putE env o.dst v) s'
      | none => none
    | some false => aops call base rest (putE env o.dst .und) s
    | none => none

/-- Whatever entry comes next: 'K' of what is handed out. -/
def anext (v : AV) (s : St) (K : AV → St → Prop) : Prop :=
  match v with
  | .ptr id 0 => match s.get id with
    | some (.iter none _ _ _) => K (.tup [.bool false]) s
    | some (.iter (some m) since seen last) => match s.get m with
      | some (.map es ck) => (∀ e ∈ es, e.2.2 < since) ∧ since ≤ last ∧
          ((∀ e ∈ es, e.2.2 ∈ seen) → K (.tup [.bool false]) s) ∧
          ∀ e ∈ es, e.2.2 ∉ seen → K (.tup [.bool true, e.1, e.2.1]) (s.put id (.iter (some m) since (seen ++ [e.2.2]) ck))
      | _ => False
    | _ => False
  | _ => False
def awops (call : Nat → List AV → St → Option (AV × St)) (base : Nat) : List AOper → (Env → St → Prop) → Env → St → Prop
  | [], Q, env, s => Q env s
  | o :: rest, Q, env, s =>
    match wanted o env with
    | some true =>
      match o.op with
      | .nxt x => anext (aev env x) s fun v s' => awops call base rest Q (putE env o.dst v) s'
      | _ => match aop call base o env s with
        | some (v, s') => awops call base rest Q (putE env o.dst v) s'
        | none => False
    | some false => awops call base rest Q (putE env o.dst .und) s
    | none => False

inductive AEx where
  | nor
  | exit (id : Nat)
  | ret
  deriving DecidableEq

/-- A load of one cell. -/
def ald (s : St) (v : AV) : Option AV :=
  match v with
  | .ptr id o => match s.get id with | some (.row cs _) => cs[o]? | _ => none
  | _ => none
/-- What was loaded stood there ahead of the region. -/
def chkP (chk : List (Nat × Nat)) (s : St) (env : Env) : Prop := ∀ c ∈ chk, c.1 < env.length ∧ ald s (aev env (.t c.2)) = some (aev env (.t c.1))
open Classical in
noncomputable def aexec (call : Nat → List AV → St → Option (AV × St)) : Nat → AC → Env → St → Option (AEx × Env × St)
  | 0, _, _, _ => none
  | n + 1, c, env, s =>
    match c with
    | .skip => some (.nor, env, s)
    | .reg os => match aops call s.next os env s with
      | some (env', s') => some (.nor, env', s')
      | none => none
    | .regd k os => match aops call s.next os env (s.reserve k) with
      | some (env', s') => some (.nor, env', s')
      | none => none
    | .regw os chk => match aops call s.next os env s with
      | some (env', s') => if chkP chk s env' then some (.nor, env', s') else none
      | none => none
    | .seq a b => match aexec call n a env s with
      | some (.nor, env', s') => aexec call n b env' s'
      | r => r
    | .cond c a b => match aev env c with
      | .bool true => aexec call n a env s
      | .bool false => aexec call n b env s
      | _ => none
    | .block id c => match aexec call n c env s with
      | some (.exit i, env', s') => if i = id then some (.nor, env', s') else some (.exit i, env', s')
      | r => r
    | .loop c => match aexec call n c env s with
      | some (.nor, env', s') => aexec call n (.loop c) env' s'
      | r => r
    | .exit id => some (.exit id, env, s)
    | .ret => some (.ret, env, s)
    | .bad => none

/-- The rounds of a loop, at most so many. -/
def arounds (body : (AEx → Env → St → Prop) → Env → St → Prop) (Q : AEx → Env → St → Prop) : Nat → Env → St → Prop
  | 0, _, _ => False
  | n + 1, env, s => body (fun x e t => match x with
    | .nor => arounds body Q n e t
    | x => Q x e t) env s
/-- What holds behind the code, whatever the maps hand out. -/
def awp (call : Nat → List AV → St → Option (AV × St)) : AC → (AEx → Env → St → Prop) → Env → St → Prop
  | .skip, Q, env, s => Q .nor env s
  | .reg os, Q, env, s => awops call s.next os (Q .nor) env s
  | .regd k os, Q, env, s => ∃ env' s', aops call s.next os env (s.reserve k) = some (env', s') ∧ Q .nor env' s'
  | .regw os chk, Q, env, s => ∃ env' s', aops call s.next os env s = some (env', s') ∧ chkP chk s env' ∧ Q .nor env' s'
  | .seq a b, Q, env, s => awp call a (fun x e t => match x with
    | .nor => awp call b Q e t
    | x => Q x e t) env s
  | .cond c a b, Q, env, s => match aev env c with
    | .bool true => awp call a Q env s
    | .bool false => awp call b Q env s
    | _ => False
  | .block id c, Q, env, s => awp call c (fun x e t => match x with
    | .exit i => if i = id then Q .nor e t else Q (.exit i) e t
    | x => Q x e t) env s
  | .loop c, Q, env, s => ∃ n, arounds (awp call c) Q n env s
  | .exit id, Q, env, s => Q (.exit id) env s
  | .ret, Q, env, s => Q .ret env s
  | .bad, _, _, _ => False

def aresult (env : Env) (s : St) : AR → Option AV
  | .t n => some (env.getD n .und)
  | .cell1 a => match env.getD a .und with
    | .ptr id o => match s.get id with | some (.row cs _) => cs[o]? | _ => none
    | _ => none
  | .celln a n => match env.getD a .und with
    | .ptr id o => match s.get id with
      | some (.row cs _) => if o + n ≤ cs.length then some (.agg ((cs.drop o).take n)) else none
      | _ => none
    | _ => none
def aresults (env : Env) (s : St) (rs : List AR) : Option AV :=
  match rs.mapM (aresult env s) with
  | some [v] => some v
  | some vs => some (.tup vs)
  | none => none

noncomputable def acallFn (call : Nat → List AV → St → Option (AV × St)) (fuel : Nat) (fn : AFn) (args : List AV) (s : St) : Option (AV × St) :=
  match aexec call fuel fn.body (args ++ List.replicate (fn.ntmps - args.length) .und) s with
  | some (.exit _, _, _) => none
  | some (_, env, s') => (aresults env s' fn.results).map fun v => (v, s')
  | none => none

end Go.AM
end
/-
  From the loaded program to the abstract machine's code. Own work of this project. It proves nothing: XAmSound does.
-/
section
namespace Go.AM
open Go

def cval1 : Value → Option AV
  | .bool b => some (.bool b)
  | .int k n => some (.int k n)
  | .string s => some (.str s)
  | .pointer none => some .nilp
  | .slice none 0 0 => some .nils
  | .map none => some .nilm
  | .nilFunc => some .nilf
  | _ => none
def cvals : List Value → Option (List AV)
  | [] => some []
  | v :: r => match cval1 v, cvals r with
    | some x, some xs => some (x :: xs)
    | _, _ => none
def cval : Value → Option AV
  | .agg cs => (cvals cs.toList).map .agg
  | v => cval1 v

def copd : Operand → AO
  | .tmp t => .t t
  | .const v => match cval v with | some x => .c x | none => .bad
  | .func f => .f f
  | .global _ => .bad

def AO.ok : AO → Bool
  | .bad => false
  | _ => true

variable (P : Program)

/-- The zero cells of a type. -/
def czero (t : TypeId) : Option (List AV) :=
  match P.info? t with
  | some i => match i.zero with
    | some z => match cvals z.cells.toList with
      | some cs => if cs.length = i.size then some cs else none
      | none => none
    | none => none
  | none => none
def cone (t : TypeId) : Bool :=
  match P.underlying t with
  | some (.struct _) | some (.array _ _) | none => false
  | _ => true
def csize (t : TypeId) : Option Nat := (P.info? t).map (·.size)
def cbytes (t : TypeId) : Option Nat := (P.info? t).map (·.bytes)

/-- The kinds of the cells of a type whose values are equal just if all their cells are: bool, integers, strings, and structs of these. -/
def cflat : Nat → TypeId → Option (List FK)
  | 0, _ => none
  | d + 1, t =>
    match P.underlying t with
    | some .bool => if csize P t == some 1 then some [.b] else none
    | some (.int _) => if csize P t == some 1 then some [.i] else none
    | some .string => if csize P t == some 1 then some [.s] else none
    | some (.struct fs) =>
      if !P.stoodInHeld t && !P.eqGuardType P.depth t then cfields (cflat d) fs.toList 0 (csize P t) else none
    | _ => none
where
  cfields (ok : TypeId → Option (List FK)) : List Field → Nat → Option Nat → Option (List FK)
    | [], at_, sz => if sz == some at_ then some [] else none
    | f :: r, at_, sz =>
      if f.name != "_" && f.offset == at_ then
        match ok f.type, csize P f.type with
        | some ks, some n => if n != 0 && ks.length == n then (cfields ok r (at_ + n) sz).map (ks ++ ·) else none
        | _, _ => none
      else none
def cek (t : TypeId) : EK :=
  match P.underlying t with
  | some .bool => .bo
  | some (.pointer _) => .np
  | some (.slice _) => .ns
  | some (.map _ _) => .nm
  | some (.func _ _ _) => .nf
  | some (.struct _) => match cflat P 8 t with
    | some ks => .fl ks
    | none => .no
  | _ => .no
def ckk (t : TypeId) : Option EK :=
  match P.underlying t with
  | some (.int _) => some (.ky .i)
  | some .string => some (.ky .s)
  | some .bool => some (.ky .b)
  | some (.struct _) => (cflat P 8 t).map .fl
  | _ => none

def cparts (fs : Array Field) : List (Nat × Operand) → Option (List (Nat × Nat × AO))
  | [] => some []
  | (i, x) :: r =>
    match fs[i]? with
    | some f => match csize P f.type, cparts fs r with
      | some n, some ps => some ((f.offset, n, copd x) :: ps)
      | _, _ => none
    | none => none

def slelem (t : TypeId) : Option TypeId := match P.underlying t with | some (.slice e) => some e | _ => none
def callable (f : FuncId) : Bool :=
  match P.funcs[f]? with
  | some fn => fn.body.isSome && fn.name != "runtime.NumGoroutine"
  | none => false

/-- The model's own entry for slices.overlaps. -/
def isOvl (f : FuncId) : Bool :=
  match P.funcs[f]? with
  | some fn => fn.body.isNone && fn.name != "runtime.NumGoroutine" && (Extern.allNextRows.lookup fn.name).isNone && (Extern.allNextRows.lookup fn.origin).isNone &&
      (Extern.allGenericRows.lookup fn.name).isNone && (Extern.allTypedRows.lookup fn.name).isNone && (Extern.allRows.lookup fn.name).isNone && fn.origin == "slices.overlaps" &&
      match fn.params[0]? with
      | some t => match slelem P t with
        | some e => (csize P e).isSome
        | none => false
      | none => false
  | none => false
def covl (f : FuncId) (l : List Operand) : AOp := match l with
  | [x, y] => if isOvl P f then .ovl (copd x) (copd y) else .bad
  | _ => .bad
def ccall (c : Call) (cl : Bool) : AOp :=
  match c.callee with
  | .value (.func f) => if callable P f then .call f cl (c.args.toList.map copd) else
      covl P f c.args.toList
  | .value x => .callv (copd x) cl (c.args.toList.map copd)
  | .invoke _ _ => .bad
  | .builtin b =>
    match b, c.args.toList, c.argTypes.toList with
    | .len, [x], [t] =>
      match P.underlying t with
      | some .string => .len .st (copd x)
      | some (.slice _) => .len .sl (copd x)
      | some (.map _ _) => .len .mp (copd x)
      | _ => .bad
    | .cap, [x], [t] => match P.underlying t with | some (.slice _) => .cap (copd x) | _ => .bad
    | .append, [s, x], [t, u] =>
      match slelem P t with
      | some e =>
        match csize P e, cbytes P e, czero P e, P.underlying u with
        | some n, some b, some z, some (.int _) => if n != 0 && b != 0 then .appz n b z (copd s) (copd x) else .bad
        | some n, some b, some z, some _ => if n != 0 && b != 0 then .app n b z (copd s) (copd x) else .bad
        | _, _, _, _ => .bad
      | none => .bad
    | .copy, [d, x], [t, _] =>
      match slelem P t with
      | some e => match csize P e with
        | some n => if n != 0 then .copy n (copd d) (copd x) else .bad
        | none => .bad
      | none => .bad
    | .clear, [x], [t] =>
      match slelem P t with
      | some e => match czero P e with
        | some z => if z.length != 0 then .clr z (copd x) else .bad
        | none => .bad
      | none => .bad
    | .max, xs, _ => .mm true (xs.map copd)
    | .min, xs, _ => .mm false (xs.map copd)
    | .delete, [m, k], t :: _ => match P.underlying t with
      | some (.map kt _) => match ckk P kt with | some k' => .mdel k' (copd m) (copd k) | none => .bad
      | _ => .bad
    | _, _, _ => .bad

def cop0 (cl : Bool) (op : Op) : AOp :=
  match op with
  | .move x | .assign x => .mv (copd x)
  | .pick c a b => .pick (copd c) (copd a) (copd b)
  | .alloc t => match czero P t with | some z => .alloc z | none => .bad
  | .box t x => match csize P t with | some n => .box n (copd x) | none => .bad
  | .build t ps =>
    match P.underlying t, czero P t with
    | some (.struct fs), some z => if fs.toList.all fun f => (csize P f.type).isSome then match cparts P fs ps.toList with | some l => .build z l | none => .bad else .bad
    | _, _ => .bad
  | .buildSlice t len ps =>
    match slelem P t with
    | some e => match csize P e, czero P e with
      | some n, some z => if n != 0 && len * n ≤ 16777216 then .bsl (zeros z len) len n (ps.toList.map fun (i, x) => (i, copd x)) else .bad
      | _, _ => .bad
    | none => .bad
  | .load t a => match csize P t with
    | some n => if cone P t then (if n = 1 then .load1 (copd a) else .bad) else match P.underlying t with | some (.struct _) | some (.array _ _) => .loadn n (copd a) | _ => .bad
    | none => .bad
  | .store t a x => match csize P t with | some n => .store n (copd a) (copd x) | none => .bad
  | .nilCheck x => .nchk (copd x)
  | .binOp op t x y _ => .bin op (cek P t) (copd x) (copd y)
  | .unOp op _ x => .un op (copd x)
  | .convert src dst x =>
    match P.underlying src, P.underlying dst with
    | some (.int _), some (.int k) => .conv k (copd x)
    | some (.slice e), some .string => match P.underlying e with | some (.int .u8) => .b2s (copd x) | _ => .bad
    | some .string, some (.slice e) => match P.underlying e, csize P e with | some (.int .u8), some 1 => .s2b (copd x) | _, _ => .bad
    | _, _ => .bad
  | .makeFunc (.func f) first caps => if first.isEmpty then .mkfn f (caps.toList.map copd) else .bad
  | .makeMap t r => match P.underlying t with | some (.map _ _) => .mkmap (r.map copd) | _ => .bad
  | .makeSlice t l c =>
    match slelem P t with
    | some e => match csize P e, cbytes P e, czero P e with
      | some n, some b, some z => if n != 0 && z.length = n then .mksl z b (copd l) (copd c) else .bad
      | _, _, _ => .bad
    | none => .bad
  | .slice t x lo hi mx =>
    match P.underlying t with
    | some (.slice e) => match csize P e with | some n => if n != 0 then .slc n (copd x) (lo.map copd) (hi.map copd) (mx.map copd) else .bad | none => .bad
    | some .string => if mx.isNone then .slcs (copd x) (lo.map copd) (hi.map copd) else .bad
    | _ => .bad
  | .fieldAddr t x i =>
    match P.underlying t with
    | some (.struct fs) => match fs[i]? with
      | some f => match csize P f.type with | some n => if n != 0 then .fad f.offset (copd x) else .bad | none => .bad
      | none => .bad
    | _ => .bad
  | .field t x i =>
    match P.underlying t with
    | some (.struct fs) => match fs[i]? with
      | some f => match csize P f.type, P.underlying f.type with
        | some n, some (.struct _) => .fld false f.offset n (copd x)
        | some n, some _ => if cone P f.type then .fld true f.offset n (copd x) else .bad
        | _, _ => .bad
      | none => .bad
    | _ => .bad
  | .indexAddr t x i => match slelem P t with
    | some e => match csize P e with | some n => if n != 0 then .iad n (copd x) (copd i) else .bad | none => .bad
    | none => .bad
  | .index t x i => match P.underlying t with | some .string => .idxs (copd x) (copd i) | _ => .bad
  | .lookup t m k ok =>
    match P.underlying t with
    | some (.map kt e) =>
      match ckk P kt, P.info? e with
      | some k', some i => match i.zero with
        | some z => match cval z with | some z => .look z k' ok (copd m) (copd k) | none => .bad
        | none => .bad
      | _, _ => .bad
    | _ => .bad
  | .mapUpdate t m k x => match P.underlying t with
    | some (.map kt _) => match ckk P kt with | some k' => .mset k' (copd m) (copd k) (copd x) | none => .bad
    | _ => .bad
  | .extract x i => .ext (copd x) i
  | .range t x => match P.underlying t with | some (.map _ _) => .rng (copd x) | _ => .bad
  | .next it str => if str then .bad else .nxt (copd it)
  | .entry it => .ent (copd it)
  | .call c => ccall P c cl
  | _ => .bad

def cop (cl : Bool) (op : Op) : AOp := if op.operands.toList.all fun x => (copd x).ok then cop0 P cl op else .bad

/-! ### Regions that draw their order -/
inductive OK where
  | pure | alloc | read | eff | call
  deriving DecidableEq
def opKind (op : Op) : OK :=
  match op with
  | .move _ | .assign _ | .pick .. | .build .. | .binOp .. | .unOp .. | .makeFunc .. | .slice .. | .fieldAddr .. | .field .. | .indexAddr .. | .index .. | .extract .. | .nilCheck _ => .pure
  | .convert src dst _ => match P.underlying src, P.underlying dst with
    | some (.int _), some (.int _) => .pure
    | some (.slice _), some .string => .read
    | _, _ => .eff
  | .alloc _ | .box .. | .buildSlice .. | .makeSlice .. => .alloc
  | .load .. | .lookup .. => .read
  | .call { callee := .builtin .len, .. } => .read
  | .call { callee := .builtin .cap, .. } | .call { callee := .builtin .max, .. } | .call { callee := .builtin .min, .. } => .pure
  | .call { callee := .builtin _, .. } => .eff
  | .call _ => .call
  | _ => .eff
def ancOf (acc : List Nat) : List Edge → Nat
  | [] => 0
  | e :: r => if Region.binds .any e then (1 <<< e.on) ||| acc.getD e.on 0 ||| ancOf acc r else ancOf acc r
/-- For each operation: the operations that come up before it in whatever order, as the bits of a number. -/
def ancGo : List Oper → List Nat → List Nat
  | [], acc => acc
  | o :: r, acc => ancGo r (acc ++ [ancOf acc o.after.toList])
def ancs (ops : Array Oper) : List Nat := ancGo ops.toList []
/-- 'i' comes up before 'j' in whatever order. -/
def precedes (A : List Nat) (i j : Nat) : Bool := (A.getD j 0).testBit i
def kindAt (ops : Array Oper) (i : Nat) : OK := match ops[i]? with | some o => opKind P o.op | none => .pure
def free (A : List Nat) (i j : Nat) : Bool := j != i && !precedes A i j && !precedes A j i
/-- A call that may come up before or behind something that looks at memory must leave it alone. -/
def mustClean (A : List Nat) (ops : Array Oper) (i : Nat) : Bool :=
  (List.range ops.size).any fun j => free A i j && kindAt P ops j != .pure && kindAt P ops j != .alloc
/-- Values of the type may name a block. -/
def blocky : Nat → TypeId → Bool
  | 0, _ => true
  | n + 1, t => match P.underlying t with
    | some .bool | some (.int _) | some .string => false
    | some (.struct fs) => fs.any fun f => blocky n f.type
    | some (.array _ e) => blocky n e
    | _ => true
def freshCall : Op → Bool
  | .call c => match c.callee with
    | .value (.func f) => match P.funcs[f]? with
      | some fn => fn.resultTypes.any (blocky P 8)
      | none => false
    | _ => false
  | _ => false
/-- A call that answers with new memory, and may come up before or behind loads alone. -/
def freshHere (A : List Nat) (ops : Array Oper) (i : Nat) : Bool :=
  mustClean P A ops i && (match ops[i]? with | some o => freshCall P o.op | none => false) &&
  (List.range ops.size).all fun j => !free A i j || (match kindAt P ops j with | .eff | .call => false | _ => true)
/-- What changes memory and may come up before or behind a load may write nothing that was there. -/
def mustFresh (A : List Nat) (ops : Array Oper) (i : Nat) : Bool :=
  kindAt P ops i == .eff && (List.range ops.size).any fun j => free A i j && kindAt P ops j == .read
def isStoreOp : Op → Bool
  | .store .. => true
  | _ => false
/-- An append to what another append of the region has made. -/
def chainApp (A : List Nat) (ops : Array Oper) (i : Nat) : Bool :=
  mustFresh P A ops i && match ops[i]? with
  | some o => match cop P false o.op with
    | .app _ _ _ (.t n) _ => ops.toList.any fun q => q.dst == some n && (cop P false q.op).isApp
    | _ => false
  | none => false
/-- A load that may come up before or behind a store. -/
def mustOld (A : List Nat) (ops : Array Oper) (i : Nat) : Bool :=
  kindAt P ops i == .read && (List.range ops.size).any fun j => free A i j && (chainApp P A ops j || match ops[j]? with | some o => isStoreOp o.op | none => false)
def guardOf (ops : Array Oper) (o : Oper) : Option (Option (Nat × Bool)) :=
  match o.guard with
  | none => some none
  | some (j, b) => match (ops[j]?).bind (·.dst) with
    | some t => some (some (t, b))
    | none => none
def cregP (ops : Array Oper) : List Oper → Option (List AOper)
  | [] => some []
  | o :: r => match guardOf ops o, cregP ops r with
    | some g, some l => some ({ dst := o.dst, op := cop P false o.op, guard := g, res := none, fresh := false } :: l)
    | _, _ => none
def cregD (A : List Nat) (ops : Array Oper) : List Oper → Nat → Nat → Option (List AOper × Nat)
  | [], _, k => some ([], k)
  | o :: r, i, k =>
    let a := opKind P o.op = .alloc
    match guardOf ops o, cregD A ops r (i + 1) (if a then k + 1 else k) with
    | some g, some (l, n) => some ({ dst := o.dst, op := cop P (mustClean P A ops i && !freshHere P A ops i) o.op, guard := g, res := if a then some k else if chainApp P A ops i then some (1000 + i) else none, fresh := mustFresh P A ops i || mustOld P A ops i || freshHere P A ops i } :: l, n)
    | _, _ => none

def AOper.looks (o : AOper) : List Nat := (match o.guard with | some (t, _) => [t] | none => []) ++ o.op.opds.filterMap fun | .t n => some n | _ => none
def noDst (d : Option Nat) (ts : List Nat) : Bool := match d with | some t => !ts.contains t | none => true
/-- These two may come up in either order. -/
def pairOk (a b : AOper) : Bool :=
  noDst a.dst (b.dst.toList ++ b.looks) && noDst b.dst (a.dst.toList ++ a.looks) &&
  match a.op.kind, b.op.kind with
  | .pure, _ | _, .pure | .alloc, _ | _, .alloc | .read, .read => true
  | .read, .write => b.fresh && !a.op.isCall && (!b.stores || a.fresh)
  | .write, .read => a.fresh && !b.op.isCall && (!a.stores || b.fresh)
  | .write, .write => false
def drawOk (A : List Nat) (ops : Array Oper) (l : List AOper) (k : Nat) : Bool :=
  l.length == ops.size &&
  ((List.range ops.size).all fun j => match ops[j]? with | some o => o.after.toList.all fun e => !Region.binds .any e || decide (e.on < j) | none => false) &&
  ((List.range ops.size).all fun j => (List.range j).all fun i => precedes A i j || match l[i]?, l[j]? with | some a, some b => pairOk a b | _, _ => false) &&
  (l.all fun o => o.op.kind != .alloc || match o.res with | some r => decide (r < k) | none => false) &&
  decide ((l.filterMap (·.res)).Nodup)
/-- Whether 'b' is a load that may come up ahead of the first writer 'a' or behind it. -/
def pairW (l : List AOper) (i j : Nat) (a b : AOper) : Option (Nat × Nat) :=
  if noDst a.dst (b.dst.toList ++ b.looks) && noDst b.dst (a.dst.toList ++ a.looks) && a.op.kind == .write && !b.fresh &&
    ((List.range j).all fun q => q == i || match l[q]? with | some o => o.op.kind != .write | none => false) then
    match b.dst, b.op, b.guard with
    | some t, .load1 (.t x), none =>
      if t != x && (List.range l.length).all (fun q => decide (q ≤ j) || match l[q]? with | some o => o.dst != some t && o.dst != some x | none => false) then some (t, x) else none
    | _, _, _ => none
  else none
/-- What is to be looked at behind a region that draws its order and has loads between its writers. -/
def drawW (A : List Nat) (ops : Array Oper) (l : List AOper) : Option (List (Nat × Nat)) :=
  if l.length == ops.size &&
    ((List.range ops.size).all fun j => match ops[j]? with | some o => o.after.toList.all fun e => !Region.binds .any e || decide (e.on < j) | none => false) &&
    (l.all fun o => o.op.kind != .alloc) &&
    ((List.range ops.size).all fun j => (List.range j).all fun i => precedes A i j || match l[i]?, l[j]? with | some a, some b => pairOk a b || (pairW l i j a b).isSome | _, _ => false) then
    some ((List.range ops.size).flatMap fun j => (List.range j).filterMap fun i => if precedes A i j then none else match l[i]?, l[j]? with | some a, some b => if pairOk a b then none else pairW l i j a b | _, _ => none)
  else none
def cregW (ops : Array Oper) : Option (List AOper × List (Nat × Nat)) :=
  if (List.range ops.size).any (fun i => (match kindAt P ops i with | .call => true | _ => false) && mustClean P (ancs ops) ops i && !freshHere P (ancs ops) ops i) then
    match cregP P ops ops.toList with
    | some l => match drawW (ancs ops) ops l with
      | some (c :: r) => some (l, c :: r)
      | _ => none
    | none => none
  else none
def cdraw (ops : Array Oper) : AC :=
  match cregW P ops with
  | some (l, chk) => .regw l chk
  | none => match cregD P (ancs ops) ops ops.toList 0 0 with
    | some (l, k) => if drawOk (ancs ops) ops l k then .regd k l else .bad
    | none => .bad
def ccode : Code → AC
  | .skip => .skip
  | .region _ ops false => match cregP P ops ops.toList with | some l => .reg l | none => .bad
  | .region _ ops true => cdraw P ops
  | .seq a b => .seq (ccode a) (ccode b)
  | .cond c a b => if (copd c).ok then .cond (copd c) (ccode a) (ccode b) else .bad
  | .block id c => .block id (ccode c)
  | .loop c => .loop (ccode c)
  | .exit id => .exit id
  | .ret => .ret
  | _ => .bad

def cres : List ResultVar → Option (List AR)
  | [] => some []
  | .tmp t :: r => (cres r).map (.t t :: ·)
  | .cell a t :: r =>
    match csize P t, cres r with
    | some n, some l => if cone P t then (if n = 1 then some (.cell1 a :: l) else none) else match P.underlying t with | some (.struct _) | some (.array _ _) => some (.celln a n :: l) | _ => none
    | _, _ => none
def cfn (fn : Func) : Option AFn :=
  match fn.body, cres P fn.results.toList with
  | some c, some rs => some { ntmps := fn.ntmps, results := rs, body := ccode P c }
  | _, _ => none

end Go.AM
end
/-
  How the abstract machine's values and memory stand to the model's. Own work of this project.
-/
section
namespace Go.AM
open Go

/-- Where a block lies: the model's block, the first cell, and how many cells the model's block has. -/
structure Loc where
  b : Nat
  o : Nat
  n : Nat
abbrev Ren := Nat → Option Loc

mutual
def VR (ρ : Ren) : AV → Value → Prop
  | .bool b, v => v = .bool b
  | .int k n, v => v = .int k n
  | .str s, v => v = .string s
  | .ptr id off, v => ∃ L, ρ id = some L ∧ v = .pointer (some ⟨L.b, L.o + off, none⟩)
  | .nilp, v => v = .pointer none
  | .sl id off len cap sz, v => ∃ (L : Loc) (a : Addr) (c : Nat), ρ id = some L ∧ v = .slice (some a) len c ∧ len ≤ c ∧ (∀ k, cap = some k → c = k) ∧
      (c = 0 ∨ (a = ⟨L.b, L.o + off, none⟩ ∧ L.o + off + c * sz ≤ L.n))
  | .nils, v => v = .slice none 0 0
  | .mp id, v => ∃ L, ρ id = some L ∧ v = .map (some L.b)
  | .nilm, v => v = .map none
  | .fn f caps, v => ∃ cs : List Value, v = .func (.func f) #[] cs.toArray ∧ VRs ρ caps cs
  | .nilf, v => v = .nilFunc
  | .agg xs, v => ∃ cs : List Value, v = .agg cs.toArray ∧ VRs ρ xs cs
  | .tup xs, v => ∃ cs : List Value, v = .tuple cs.toArray ∧ VRs ρ xs cs
  | .und, v => v = undef
  | .any, _ => True
  | .yd l, v => v = .func (.yield l) #[] #[]
def VRs (ρ : Ren) : List AV → List Value → Prop
  | [], cs => cs = []
  | x :: xs, cs => ∃ c r, cs = c :: r ∧ VR ρ x c ∧ VRs ρ xs r
end

def Ren.le (ρ ρ' : Ren) : Prop := ∀ id L, ρ id = some L → ρ' id = some L
theorem Ren.le_refl (ρ : Ren) : ρ.le ρ := fun _ _ h => h
theorem Ren.le_trans {a b c : Ren} (h : a.le b) (k : b.le c) : a.le c := fun id L e => k id L (h id L e)

mutual
theorem VR.mono {ρ ρ' : Ren} (h : ρ.le ρ') : ∀ (v : AV) (c : Value), VR ρ v c → VR ρ' v c
  | .bool _, _, e => by simpa [VR] using e
  | .int _ _, _, e => by simpa [VR] using e
  | .str _, _, e => by simpa [VR] using e
  | .ptr id off, c, e => by
    simp only [VR] at e ⊢
    obtain ⟨L, hL, rfl⟩ := e
    exact ⟨L, h _ _ hL, rfl⟩
  | .nilp, _, e => by simpa [VR] using e
  | .sl id off len cap sz, c, e => by
    simp only [VR] at e ⊢
    obtain ⟨L, a, k, hL, r⟩ := e
    exact ⟨L, a, k, h _ _ hL, r⟩
  | .nils, _, e => by simpa [VR] using e
  | .mp id, c, e => by
    simp only [VR] at e ⊢
    obtain ⟨L, hL, rfl⟩ := e
    exact ⟨L, h _ _ hL, rfl⟩
  | .nilm, _, e => by simpa [VR] using e
  | .fn f caps, c, e => by
    simp only [VR] at e ⊢
    obtain ⟨cs, rfl, r⟩ := e
    exact ⟨cs, rfl, VRs.mono h caps cs r⟩
  | .nilf, _, e => by simpa [VR] using e
  | .agg xs, c, e => by
    simp only [VR] at e ⊢
    obtain ⟨cs, rfl, r⟩ := e
    exact ⟨cs, rfl, VRs.mono h xs cs r⟩
  | .tup xs, c, e => by
    simp only [VR] at e ⊢
    obtain ⟨cs, rfl, r⟩ := e
    exact ⟨cs, rfl, VRs.mono h xs cs r⟩
  | .und, _, e => by simpa [VR] using e
  | .any, _, _ => by simp [VR]
  | .yd _, _, e => by simpa [VR] using e
theorem VRs.mono {ρ ρ' : Ren} (h : ρ.le ρ') : ∀ (v : List AV) (c : List Value), VRs ρ v c → VRs ρ' v c
  | [], _, e => by simpa [VRs] using e
  | x :: xs, c, e => by
    simp only [VRs] at e ⊢
    obtain ⟨y, r, rfl, h1, h2⟩ := e
    exact ⟨y, r, rfl, VR.mono h x y h1, VRs.mono h xs r h2⟩
end

theorem VRs_nil {ρ : Ren} : VRs ρ [] [] := by simp [VRs]
theorem VRs_cons {ρ : Ren} {x : AV} {xs : List AV} {c : Value} {cs : List Value} : VRs ρ (x :: xs) (c :: cs) ↔ VR ρ x c ∧ VRs ρ xs cs := by
  simp only [VRs]
  constructor
  · rintro ⟨y, r, e, h1, h2⟩
    injection e with e1 e2
    subst e1; subst e2
    exact ⟨h1, h2⟩
  · rintro ⟨h1, h2⟩
    exact ⟨_, _, rfl, h1, h2⟩
theorem VRs.len {ρ : Ren} : ∀ {xs : List AV} {cs : List Value}, VRs ρ xs cs → xs.length = cs.length
  | [], cs, h => by simp only [VRs] at h; subst h; rfl
  | x :: xs, cs, h => by
    simp only [VRs] at h
    obtain ⟨c, r, rfl, _, h2⟩ := h
    simp [VRs.len h2]
theorem VRs.at_ {ρ : Ren} : ∀ {xs : List AV} {cs : List Value} (i : Nat) {v : AV}, VRs ρ xs cs → xs[i]? = some v → ∃ c, cs[i]? = some c ∧ VR ρ v c
  | [], _, _, _, _, h => by simp at h
  | x :: xs, cs, i, v, h, hi => by
    simp only [VRs] at h
    obtain ⟨c, r, rfl, h1, h2⟩ := h
    cases i with
    | zero => simp at hi; subst hi; exact ⟨c, by simp, h1⟩
    | succ i => simp at hi; obtain ⟨d, hd, hv⟩ := VRs.at_ i h2 hi; exact ⟨d, by simpa using hd, hv⟩
theorem VRs.of {ρ : Ren} : ∀ {xs : List AV} {cs : List Value}, xs.length = cs.length → (∀ (i : Nat) (v : AV), xs[i]? = some v → ∃ c, cs[i]? = some c ∧ VR ρ v c) → VRs ρ xs cs
  | [], [], _, _ => VRs_nil
  | [], _ :: _, h, _ => by simp at h
  | _ :: _, [], h, _ => by simp at h
  | x :: xs, c :: cs, h, k => by
    rw [VRs_cons]
    refine ⟨?_, VRs.of (by simpa using h) fun i v hi => ?_⟩
    · obtain ⟨d, hd, hv⟩ := k 0 x (by simp)
      simp at hd; subst hd; exact hv
    · obtain ⟨d, hd, hv⟩ := k (i + 1) v (by simpa using hi)
      exact ⟨d, by simpa using hd, hv⟩
theorem VRs.append {ρ : Ren} {xs ys : List AV} {cs ds : List Value} (h : VRs ρ xs cs) (k : VRs ρ ys ds) : VRs ρ (xs ++ ys) (cs ++ ds) := by
  induction xs generalizing cs with
  | nil => simp only [VRs] at h; subst h; simpa using k
  | cons x xs ih =>
    simp only [VRs] at h
    obtain ⟨c, r, rfl, h1, h2⟩ := h
    simp only [List.cons_append]
    exact VRs_cons.2 ⟨h1, ih h2⟩
theorem VRs.take {ρ : Ren} {xs : List AV} {cs : List Value} (h : VRs ρ xs cs) (n : Nat) : VRs ρ (xs.take n) (cs.take n) := by
  induction n generalizing xs cs with
  | zero => simpa using VRs_nil
  | succ n ih =>
    cases xs with
    | nil => simp only [VRs] at h; subst h; simpa using VRs_nil
    | cons x xs =>
      simp only [VRs] at h
      obtain ⟨c, r, rfl, h1, h2⟩ := h
      simp only [List.take_succ_cons]
      exact VRs_cons.2 ⟨h1, ih h2⟩
theorem VRs.drop {ρ : Ren} {xs : List AV} {cs : List Value} (h : VRs ρ xs cs) (n : Nat) : VRs ρ (xs.drop n) (cs.drop n) := by
  induction n generalizing xs cs with
  | zero => simpa using h
  | succ n ih =>
    cases xs with
    | nil => simp only [VRs] at h; subst h; simpa using VRs_nil
    | cons x xs =>
      simp only [VRs] at h
      obtain ⟨c, r, rfl, h1, h2⟩ := h
      simpa using ih h2

/-! ### Values that name no block -/
theorem VR.plain {ρ ρ' : Ren} {v : AV} {c : Value} (h : v.plain = true) (k : VR ρ v c) : VR ρ' v c := by
  cases v <;> simp [AV.plain] at h <;> simpa [VR] using k
theorem VRs.plain {ρ ρ' : Ren} : ∀ {xs : List AV} {cs : List Value}, xs.all AV.plain = true → VRs ρ xs cs → VRs ρ' xs cs
  | [], _, _, k => by simpa [VRs] using k
  | x :: xs, cs, h, k => by
    simp only [List.all_cons, Bool.and_eq_true] at h
    simp only [VRs] at k
    obtain ⟨c, r, rfl, h1, h2⟩ := k
    exact VRs_cons.2 ⟨VR.plain h.1 h1, VRs.plain h.2 h2⟩
theorem VR.plains {ρ ρ' : Ren} {v : AV} {c : Value} (h : v.plains = true) (k : VR ρ v c) : VR ρ' v c := by
  cases v
  case agg xs =>
    simp only [AV.plains] at h
    simp only [VR] at k ⊢
    obtain ⟨cs, rfl, r⟩ := k
    exact ⟨cs, rfl, VRs.plain h r⟩
  all_goals exact VR.plain (by simpa [AV.plains] using h) k
theorem VRs.plains {ρ ρ' : Ren} : ∀ {xs : List AV} {cs : List Value}, xs.all AV.plains = true → VRs ρ xs cs → VRs ρ' xs cs
  | [], _, _, k => by simpa [VRs] using k
  | x :: xs, cs, h, k => by
    simp only [List.all_cons, Bool.and_eq_true] at h
    simp only [VRs] at k
    obtain ⟨c, r, rfl, h1, h2⟩ := k
    exact VRs_cons.2 ⟨VR.plains h.1 h1, VRs.plains h.2 h2⟩
theorem VR.ground {ρ ρ' : Ren} {v : AV} {c : Value} (h : v.ground = true) (k : VR ρ v c) : VR ρ' v c := by
  cases v
  case agg xs => exact VR.plains (by simpa [AV.plains, AV.ground] using h) k
  case tup xs =>
    simp only [AV.ground] at h
    simp only [VR] at k ⊢
    obtain ⟨cs, rfl, r⟩ := k
    exact ⟨cs, rfl, VRs.plains h r⟩
  all_goals exact VR.plain (by simpa [AV.ground] using h) k

/-- One cell's value is one cell's value. -/
theorem VR.one {ρ : Ren} {v : AV} {c : Value} (h : v.one = true) (k : VR ρ v c) : c.oneCell' = true ∧ c.cells = #[c] := by
  cases v <;> simp [AV.one] at h <;> simp only [VR] at k
  all_goals first
    | (subst k; exact ⟨rfl, rfl⟩)
    | (obtain ⟨L, _, rfl⟩ := k; exact ⟨rfl, rfl⟩)
    | (obtain ⟨L, a, n, _, rfl, _⟩ := k; exact ⟨rfl, rfl⟩)
    | (obtain ⟨cs, rfl, _⟩ := k; exact ⟨rfl, rfl⟩)
theorem VRs.ones {ρ : Ren} : ∀ {xs : List AV} {cs : List Value}, xs.all AV.one = true → VRs ρ xs cs → ∀ c ∈ cs, c.oneCell' = true
  | [], _, _, k => by simp only [VRs] at k; subst k; simp
  | x :: xs, cs, h, k => by
    simp only [List.all_cons, Bool.and_eq_true] at h
    simp only [VRs] at k
    obtain ⟨c, r, rfl, h1, h2⟩ := k
    intro d hd
    rcases List.mem_cons.1 hd with rfl | hd
    · exact (VR.one h.1 h1).1
    · exact VRs.ones h.2 h2 d hd
/-- The cells of a value. -/
theorem VR.cells {ρ : Ren} {v : AV} {c : Value} (h1 : v.cells.all AV.one = true) (k : VR ρ v c) : ∃ cs : List Value, c.cells = cs.toArray ∧ VRs ρ v.cells cs := by
  cases v
  case agg xs =>
    simp only [VR] at k
    obtain ⟨cs, rfl, r⟩ := k
    exact ⟨cs, rfl, r⟩
  all_goals
    simp only [AV.cells, List.all_cons, List.all_nil, Bool.and_true] at h1
    exact ⟨[c], (VR.one h1 k).2, VRs_cons.2 ⟨k, VRs_nil⟩⟩

theorem bytesAV_one (b : ByteArray) : (bytesAV b).all AV.one = true := by
  rw [List.all_eq_true]
  intro x hx
  obtain ⟨u, _, rfl⟩ := List.mem_map.1 hx
  rfl

/-! ### Blocks -/
def ER (ρ : Ren) (e : AV × AV × Nat) (m : MapEntry) : Prop := VR ρ e.1 m.key ∧ VR ρ e.2.1 m.val ∧ m.born = e.2.2
def BlkOk (ρ : Ren) (L : Loc) (w : World) : AB → Prop
  | .row cells own => ∃ (cs : Array Value) (e : TypeId) (fr : Nat × Nat), w.heap[L.b]? = some (.cells cs e fr) ∧ cs.size = L.n ∧ L.o + cells.length ≤ L.n ∧
      (∀ (i : Nat) (v : AV), cells[i]? = some v → ∃ c, cs[L.o + i]? = some c ∧ VR ρ v c) ∧ (own = true → ∀ i, i ≤ L.n → (fr.1 ≤ i && i < fr.2) = false) ∧ cells.all AV.one = true
  | .map es ck => ∃ ces : Array MapEntry, w.heap[L.b]? = some (.map ces ck) ∧ es.length = ces.size ∧ ∀ (i : Nat) (e : AV × AV × Nat), es[i]? = some e → ∃ m, ces[i]? = some m ∧ ER ρ e m
  | .iter m since seen last => ∃ m' : Option Nat, w.heap[L.b]? = some (.mapIter m' since seen.toArray last) ∧ L.o = 0 ∧ ((m = none ∧ m' = none) ∨ ∃ id M, m = some id ∧ ρ id = some M ∧ m' = some M.b)
  | .unborn | .dead => True

structure R (s : St) (ρ : Ren) (w : World) : Prop where
  bound : ∀ id L, ρ id = some L → L.b < w.heap.size
  blk : ∀ id b L, s.get id = some b → ρ id = some L → BlkOk ρ L w b
  inj : ∀ i j L M bi bj, i ≠ j → ρ i = some L → ρ j = some M → s.get i = some bi → s.get j = some bj → bi.owned = true → bj.live = true → L.b ≠ M.b

/-- What a step leaves. -/
structure Step (s s' : St) (ρ ρ' : Ren) (w w' : World) : Prop where
  next : s.next ≤ s'.next
  low : s'.low ≤ s.low
  ren : ∀ id, id < s.next ∨ s'.next ≤ id → ρ' id = ρ id
  size : w.heap.size ≤ w'.heap.size
  os : w'.os = w.os
  tape : w'.tape = w.tape
  output : w'.output = w.output
  drawn : w.drawn ≤ w'.drawn
  frame : ∀ b, b < w.heap.size → (∀ id L blk, s'.low ≤ id → ρ id = some L → s.get id = some blk → blk.owned = true → L.b ≠ b) → w'.heap[b]? = w.heap[b]?
  old : ∀ id blk', id < s.next → s'.get id = some blk' → blk'.live = true → ∃ blk, s.get id = some blk ∧ blk.live = true ∧ (blk'.owned = true → blk.owned = true)
  new : ∀ id L blk', s.next ≤ id → ρ' id = some L → s'.get id = some blk' → blk'.live = true → w.heap.size ≤ L.b ∨
    ∃ id0 L0 blk0, s'.low ≤ id0 ∧ ρ id0 = some L0 ∧ s.get id0 = some blk0 ∧ blk0.owned = true ∧ L0.b = L.b
  unm : ∀ id, id < s.next → ρ id = none → s'.get id = s.get id

theorem St.get_lt {s : St} {id : Nat} {b : AB} (h : s.get id = some b) : id < s.next := by
  unfold St.get at h
  split at h
  · assumption
  · cases h
theorem AB.live_of_owned {b : AB} (h : b.owned = true) : b.live = true := by cases b <;> simp_all [AB.owned, AB.live]

theorem Step.refl (s : St) (ρ : Ren) (w : World) : Step s s ρ ρ w w :=
  ⟨Nat.le_refl _, Nat.le_refl _, fun _ _ => rfl, Nat.le_refl _, rfl, rfl, rfl, Nat.le_refl _, fun _ _ _ => rfl, fun _ b _ h k => ⟨b, h, k, id⟩,
    fun id L b h _ k _ => absurd (St.get_lt k) (by omega), fun _ _ _ => rfl⟩
theorem Step.trans {s s1 s2 : St} {ρ ρ1 ρ2 : Ren} {w w1 w2 : World} (h : Step s s1 ρ ρ1 w w1) (k : Step s1 s2 ρ1 ρ2 w1 w2) : Step s s2 ρ ρ2 w w2 := by
  have hn := h.next
  have kn := k.next
  have kl := k.low
  refine ⟨by omega, Nat.le_trans k.low h.low, fun id hid => ?_, Nat.le_trans h.size k.size, k.os.trans h.os, k.tape.trans h.tape, k.output.trans h.output, Nat.le_trans h.drawn k.drawn, ?_, ?_, ?_, ?_⟩
  · rw [k.ren id (by omega), h.ren id (by omega)]
  · intro b hb H
    rw [k.frame b (Nat.lt_of_lt_of_le hb h.size) ?_, h.frame b hb fun id L blk hl => H id L blk (by omega)]
    intro id L blk hl hL hg ho
    by_cases hid : id < s.next
    · obtain ⟨blk0, hg0, _, ho0⟩ := h.old id blk hid hg (AB.live_of_owned ho)
      exact H id L blk0 hl (by rw [← h.ren id (.inl hid)]; exact hL) hg0 (ho0 ho)
    · rcases h.new id L blk (by omega) hL hg (AB.live_of_owned ho) with hh | ⟨id0, L0, blk0, h1, h2, h3, h4, h5⟩
      · omega
      · have := H id0 L0 blk0 (by omega) h2 h3 h4
        omega
  · intro id blk' hid hg hl
    obtain ⟨b1, g1, l1, o1⟩ := k.old id blk' (by omega) hg hl
    obtain ⟨b0, g0, l0, o0⟩ := h.old id b1 hid g1 l1
    exact ⟨b0, g0, l0, fun x => o0 (o1 x)⟩
  · intro id L blk' hid hL hg hl
    have key : ∀ id L b1, ρ1 id = some L → s1.get id = some b1 → b1.live = true → s.next ≤ id → w.heap.size ≤ L.b ∨
        ∃ id0 L0 blk0, s2.low ≤ id0 ∧ ρ id0 = some L0 ∧ s.get id0 = some blk0 ∧ blk0.owned = true ∧ L0.b = L.b := by
      intro id L b1 h1 h2 h3 h4
      rcases h.new id L b1 h4 h1 h2 h3 with hh | ⟨id0, L0, blk0, e1, e2⟩
      · exact .inl hh
      · exact .inr ⟨id0, L0, blk0, by omega, e2⟩
    by_cases h1 : id < s1.next
    · obtain ⟨b1, g1, l1, _⟩ := k.old id blk' h1 hg hl
      exact key id L b1 (by rw [← k.ren id (.inl h1)]; exact hL) g1 l1 hid
    · rcases k.new id L blk' (by omega) hL hg hl with hh | ⟨id0, L0, blk0, e1, e2, e3, e4, e5⟩
      · exact .inl (Nat.le_trans h.size hh)
      · by_cases h0 : id0 < s.next
        · obtain ⟨b0, g0, _, o0⟩ := h.old id0 blk0 h0 e3 (AB.live_of_owned e4)
          exact .inr ⟨id0, L0, b0, e1, by rw [← h.ren id0 (.inl h0)]; exact e2, g0, o0 e4, e5⟩
        · rcases key id0 L0 blk0 e2 e3 (AB.live_of_owned e4) (by omega) with hh | ⟨i, M, b, f1, f2, f3, f4, f5⟩
          · exact .inl (by omega)
          · exact .inr ⟨i, M, b, f1, f2, f3, f4, by omega⟩
  · intro id hid hn0
    rw [k.unm id (by omega) (by rw [h.ren id (.inl hid)]; exact hn0), h.unm id hid hn0]

/-- The renaming that is left has all of the elder one, if the numbers in between were free. -/
theorem Step.le {s s' : St} {ρ ρ' : Ren} {w w' : World} (h : Step s s' ρ ρ' w w') (hf : ∀ id, s.next ≤ id → id < s'.next → ρ id = none) : ρ.le ρ' := by
  intro id L hL
  by_cases h1 : id < s.next
  · rw [h.ren id (.inl h1)]; exact hL
  · by_cases h2 : s'.next ≤ id
    · rw [h.ren id (.inr h2)]; exact hL
    · rw [hf id (by omega) (by omega)] at hL; cases hL

/-- Nothing that was there was written. -/
structure Clean (w w' : World) : Prop where
  size : w.heap.size ≤ w'.heap.size
  os : w'.os = w.os
  tape : w'.tape = w.tape
  output : w'.output = w.output
  drawn : w.drawn ≤ w'.drawn
  block : ∀ b, b < w.heap.size → w'.heap[b]? = w.heap[b]?
theorem Clean.refl (w : World) : Clean w w := ⟨Nat.le_refl _, rfl, rfl, rfl, Nat.le_refl _, fun _ _ => rfl⟩
theorem BlkOk.same {ρ : Ren} {L : Loc} {w w' : World} {b : AB} (h : w'.heap[L.b]? = w.heap[L.b]?) (k : BlkOk ρ L w b) : BlkOk ρ L w' b := by
  cases b <;> simp only [BlkOk] at k ⊢ <;> simpa [h] using k
theorem BlkOk.mono {ρ ρ' : Ren} {L : Loc} {w : World} {b : AB} (h : ρ.le ρ') (k : BlkOk ρ L w b) : BlkOk ρ' L w b := by
  cases b with
  | row cells own =>
    simp only [BlkOk] at k ⊢
    obtain ⟨cs, e, fr, h1, h2, h3, h4, h5⟩ := k
    exact ⟨cs, e, fr, h1, h2, h3, fun i v hv => let ⟨c, e1, e2⟩ := h4 i v hv; ⟨c, e1, VR.mono h v c e2⟩, h5⟩
  | map es ck =>
    simp only [BlkOk] at k ⊢
    obtain ⟨ces, h1, h2, h3⟩ := k
    exact ⟨ces, h1, h2, fun i e he => let ⟨m, e1, e2, e3, e4⟩ := h3 i e he; ⟨m, e1, VR.mono h _ _ e2, VR.mono h _ _ e3, e4⟩⟩
  | iter m since seen last =>
    simp only [BlkOk] at k ⊢
    obtain ⟨m', h1, h2, h3⟩ := k
    refine ⟨m', h1, h2, ?_⟩
    rcases h3 with h3 | ⟨id, M, e1, e2, e3⟩
    · exact .inl h3
    · exact .inr ⟨id, M, e1, h _ _ e2, e3⟩
  | unborn => trivial
  | dead => trivial
theorem R.clean {s : St} {ρ : Ren} {w w' : World} (h : R s ρ w) (k : Clean w w') : R s ρ w' :=
  ⟨fun id L e => Nat.lt_of_lt_of_le (h.bound id L e) k.size, fun id b L e1 e2 => (h.blk id b L e1 e2).same (k.block _ (h.bound id L e2)), h.inj⟩
theorem Clean.step {w w' : World} (k : Clean w w') (s : St) (ρ : Ren) : Step s s ρ ρ w w' :=
  ⟨Nat.le_refl _, Nat.le_refl _, fun _ _ => rfl, k.size, k.os, k.tape, k.output, k.drawn, fun b hb _ => k.block b hb, fun _ b _ h k => ⟨b, h, k, id⟩,
    fun id L b h _ k _ => absurd (St.get_lt k) (by omega), fun _ _ _ => rfl⟩
/-- A step that wrote below no mark is clean. -/
theorem Step.clean {s s' : St} {ρ ρ' : Ren} {w w' : World} (h : Step s s' ρ ρ' w w') (hl : s.next ≤ s'.low) : Clean w w' :=
  ⟨h.size, h.os, h.tape, h.output, h.drawn, fun b hb => h.frame b hb fun id L blk h1 _ h3 _ => absurd (St.get_lt h3) (by omega)⟩

/-! ### The abstract memory -/
theorem St.get_push_new (s : St) (b : AB) : (s.push b).get s.next = some b := by simp [St.get, St.push]
theorem St.get_push_old (s : St) (b : AB) {id : Nat} (h : id < s.next) : (s.push b).get id = s.get id := by
  simp only [St.get, St.push, h, if_true, show id < s.next + 1 by omega]
  rw [show s.next + 1 - 1 - id = (s.next - 1 - id) + 1 by omega]
  simp
theorem St.get_push (s : St) (b : AB) (id : Nat) : (s.push b).get id = if id = s.next then some b else s.get id := by
  by_cases h : id = s.next
  · subst h; simp [St.get_push_new]
  · rw [if_neg h]
    by_cases h' : id < s.next
    · exact St.get_push_old s b h'
    · simp [St.get, St.push, h', show ¬ id < s.next + 1 by omega]
theorem St.get_put_same {s : St} {id : Nat} {b0 b : AB} (h : s.get id = some b0) : (s.put id b).get id = some b := by
  have hlt := St.get_lt h
  simp only [St.get, hlt, if_true] at h
  have := (List.getElem?_eq_some_iff.1 h).1
  simp [St.get, St.put, hlt, this]
theorem St.get_put_ne (s : St) {id j : Nat} (b : AB) (hi : id < s.next) (h : j ≠ id) : (s.put id b).get j = s.get j := by
  by_cases hj : j < s.next
  · simp only [St.get, St.put, hj, if_true]
    rw [List.getElem?_set_ne (by omega)]
  · simp [St.get, St.put, hj]
theorem St.get_born_same {s : St} {id : Nat} {b0 b : AB} (h : s.get id = some b0) : (s.born id b).get id = some b := by
  have hlt := St.get_lt h
  simp only [St.get, hlt, if_true] at h
  have := (List.getElem?_eq_some_iff.1 h).1
  simp [St.get, St.born, hlt, this]
theorem St.get_born_ne (s : St) {id j : Nat} (b : AB) (hi : id < s.next) (h : j ≠ id) : (s.born id b).get j = s.get j := by
  by_cases hj : j < s.next
  · simp only [St.get, St.born, hj, if_true]
    rw [List.getElem?_set_ne (by omega)]
  · simp [St.get, St.born, hj]
@[simp] theorem St.next_push (s : St) (b : AB) : (s.push b).next = s.next + 1 := rfl
@[simp] theorem St.low_push (s : St) (b : AB) : (s.push b).low = s.low := rfl
@[simp] theorem St.next_put (s : St) (id : Nat) (b : AB) : (s.put id b).next = s.next := rfl
@[simp] theorem St.low_put (s : St) (id : Nat) (b : AB) : (s.put id b).low = min s.low id := rfl
@[simp] theorem St.next_born (s : St) (id : Nat) (b : AB) : (s.born id b).next = s.next := rfl
@[simp] theorem St.low_born (s : St) (id : Nat) (b : AB) : (s.born id b).low = s.low := rfl
@[simp] theorem St.get_low (s : St) (n id : Nat) : ({ s with low := n } : St).get id = s.get id := rfl
theorem R.low {s : St} {ρ : Ren} {w : World} (n : Nat) (h : R s ρ w) : R { s with low := n } ρ w := ⟨h.bound, h.blk, h.inj⟩
theorem R.low' {s : St} {ρ : Ren} {w : World} {n : Nat} (h : R { s with low := n } ρ w) : R s ρ w := ⟨h.bound, h.blk, h.inj⟩

/-! ### A new block -/
def Ren.set (ρ : Ren) (id : Nat) (L : Loc) : Ren := fun j => if j = id then some L else ρ j
theorem Ren.set_same (ρ : Ren) (id : Nat) (L : Loc) : ρ.set id L id = some L := by simp [Ren.set]
theorem Ren.set_ne (ρ : Ren) {id j : Nat} (L : Loc) (h : j ≠ id) : ρ.set id L j = ρ j := by simp [Ren.set, h]
theorem Ren.le_set {ρ : Ren} {id : Nat} (L : Loc) (h : ρ id = none) : ρ.le (ρ.set id L) := by
  intro j M e
  by_cases hj : j = id
  · subst hj; rw [h] at e; cases e
  · rw [Ren.set_ne _ _ hj]; exact e

def pushW (w : World) (o : Obj) : World := { w with heap := w.heap.push o }
theorem pushW_old (w : World) (o : Obj) {b : Nat} (h : b < w.heap.size) : (pushW w o).heap[b]? = w.heap[b]? := by
  show (w.heap.push o)[b]? = _
  rw [Array.getElem?_push, if_neg (by omega)]
theorem pushW_new (w : World) (o : Obj) : (pushW w o).heap[w.heap.size]? = some o := by
  show (w.heap.push o)[w.heap.size]? = _
  simp
@[simp] theorem pushW_size (w : World) (o : Obj) : (pushW w o).heap.size = w.heap.size + 1 := by
  show (w.heap.push o).size = _
  simp
theorem clean_pushW (w : World) (o : Obj) : Clean w (pushW w o) := ⟨by simp, rfl, rfl, rfl, Nat.le_refl _, fun b hb => pushW_old w o hb⟩
theorem Clean.trans {a b c : World} (h : Clean a b) (k : Clean b c) : Clean a c :=
  ⟨Nat.le_trans h.size k.size, k.os.trans h.os, k.tape.trans h.tape, k.output.trans h.output, Nat.le_trans h.drawn k.drawn, fun i hi => (k.block i (Nat.lt_of_lt_of_le hi h.size)).trans (h.block i hi)⟩
theorem clean_drew (w : World) : Clean w { w with drawn := w.drawn + 1 } := ⟨Nat.le_refl _, rfl, rfl, rfl, Nat.le_succ _, fun _ _ => rfl⟩

/-- Behind a world in which what was there lies as it did, a block that lies beyond all is given the next number. -/
theorem R.push {s : St} {ρ : Ren} {w w' : World} {b : AB} {L : Loc} (h : R s ρ w) (hc : Clean w w') (hf : ρ s.next = none) (h1 : w.heap.size ≤ L.b) (h2 : L.b < w'.heap.size)
    (hb : BlkOk (ρ.set s.next L) L w' b) : R (s.push b) (ρ.set s.next L) w' ∧ Step s (s.push b) ρ (ρ.set s.next L) w w' := by
  have hle : ρ.le (ρ.set s.next L) := Ren.le_set L hf
  refine ⟨⟨fun id M e => ?_, fun id b' M e1 e2 => ?_, fun i j M N bi bj hij e1 e2 e3 e4 e5 e6 => ?_⟩, ⟨by simp, by simp, fun id hid => ?_, hc.size, hc.os, hc.tape, hc.output, hc.drawn, fun b hb _ => hc.block b hb, ?_, ?_, ?_⟩⟩
  · by_cases hid : id = s.next
    · subst hid; rw [Ren.set_same] at e; injection e with e; subst e; exact h2
    · rw [Ren.set_ne _ _ hid] at e; exact Nat.lt_of_lt_of_le (h.bound _ _ e) hc.size
  · by_cases hid : id = s.next
    · subst hid
      rw [Ren.set_same] at e2; injection e2 with e2; subst e2
      rw [St.get_push_new] at e1; injection e1 with e1; subst e1
      exact hb
    · rw [Ren.set_ne _ _ hid] at e2
      rw [St.get_push, if_neg hid] at e1
      exact (h.blk id b' M e1 e2).mono hle |>.same (hc.block _ (h.bound _ _ e2))
  · by_cases hi : i = s.next
    · subst hi
      rw [Ren.set_same] at e1; injection e1 with e1; subst e1
      rw [Ren.set_ne _ _ (Ne.symm hij)] at e2
      have := h.bound _ _ e2
      omega
    · rw [Ren.set_ne _ _ hi] at e1
      by_cases hj : j = s.next
      · subst hj
        rw [Ren.set_same] at e2; injection e2 with e2; subst e2
        have := h.bound _ _ e1
        omega
      · rw [Ren.set_ne _ _ hj] at e2
        rw [St.get_push, if_neg hi] at e3
        rw [St.get_push, if_neg hj] at e4
        exact h.inj i j M N bi bj hij e1 e2 e3 e4 e5 e6
  · simp at hid; exact Ren.set_ne _ _ (by omega)
  · intro id blk' hid hg hl
    rw [St.get_push, if_neg (by omega)] at hg
    exact ⟨blk', hg, hl, id_⟩
  · intro id M blk' hid hM hg hl
    have : id = s.next := by have := St.get_lt hg; simp at this; omega
    subst this
    rw [Ren.set_same] at hM; injection hM with hM; subst hM
    exact .inl h1
  · intro id hid _
    rw [St.get_push, if_neg (by omega)]
where id_ {p : Prop} (h : p) : p := h

end Go.AM
end
/-
  Operations that look at no memory: the model yields what the abstract machine yields. Own work of this project.
-/
section
namespace Go.AM
open Go

variable {P : Program} {ρ : Ren}

structure EnvR (ρ : Ren) (env : Env) (tmps : Array Value) : Prop where
  len : env.length = tmps.size
  at_ : ∀ t, VR ρ (env.getD t .und) (tmps.getD t undef)
theorem EnvR.mono {ρ ρ' : Ren} {env : Env} {tmps : Array Value} (h : ρ.le ρ') (k : EnvR ρ env tmps) : EnvR ρ' env tmps := ⟨k.len, fun t => VR.mono h _ _ (k.at_ t)⟩
theorem EnvR.put {env : Env} {a : Act} {v : AV} {c : Value} (k : EnvR ρ env a.tmps) (h : VR ρ v c) (dst : Option Nat) : EnvR ρ (putE env dst v) (a.put dst c).tmps := by
  cases dst with
  | none => exact k
  | some d =>
    refine ⟨by simp [putE, Act.put, k.len], fun t => ?_⟩
    simp only [putE, Act.put]
    by_cases ht : t = d
    · subst ht
      by_cases hlt : t < a.tmps.size
      · have hl : t < env.length := by rw [k.len]; exact hlt
        simp [List.getD_eq_getElem?_getD, List.getElem?_set_self hl, Array.getD_eq_getD_getElem?, hlt, h]
      · have hl : ¬ t < env.length := by rw [k.len]; exact hlt
        have := k.at_ t
        simp [List.getD_eq_getElem?_getD, Array.getD_eq_getD_getElem?, hlt, hl, VR]
    · have := k.at_ t
      simpa [List.getD_eq_getElem?_getD, List.getElem?_set_ne (Ne.symm ht), Array.getD_eq_getD_getElem?, Array.getElem?_setIfInBounds_ne (Ne.symm ht)] using this

theorem cval1_rel {v : Value} {x : AV} (h : cval1 v = some x) : VR ρ x v := by
  unfold cval1 at h
  split at h <;> first | (injection h with h; subst h; simp [VR]) | cases h
theorem cvals_rel : ∀ {vs : List Value} {xs : List AV}, cvals vs = some xs → VRs ρ xs vs
  | [], xs, h => by simp only [cvals] at h; injection h with h; subst h; exact VRs_nil
  | v :: r, xs, h => by
    simp only [cvals] at h
    split at h
    · rename_i x ys h1 h2
      injection h with h; subst h
      exact VRs_cons.2 ⟨cval1_rel h1, cvals_rel h2⟩
    · cases h
theorem cval_rel {v : Value} {x : AV} (h : cval v = some x) : VR ρ x v := by
  unfold cval at h
  split at h
  · rename_i cs
    obtain ⟨ys, h1, rfl⟩ := Option.map_eq_some_iff.1 h
    simp only [VR]
    exact ⟨cs.toList, by simp, cvals_rel h1⟩
  · exact cval1_rel h
theorem cvals_one : ∀ {vs : List Value} {xs : List AV}, cvals vs = some xs → xs.all AV.one = true
  | [], xs, h => by simp only [cvals] at h; injection h with h; subst h; rfl
  | v :: r, xs, h => by
    simp only [cvals] at h
    split at h
    · rename_i x ys h1 h2
      injection h with h; subst h
      simp only [List.all_cons, cvals_one h2, Bool.and_true]
      unfold cval1 at h1
      split at h1 <;> first | (injection h1 with h1; subst h1; rfl) | cases h1
    · cases h
theorem czero_spec {t : TypeId} {z : List AV} (h : czero P t = some z) : ∃ i zv, P.info? t = some i ∧ i.zero = some zv ∧ VRs ρ z zv.cells.toList ∧ z.length = i.size ∧ z.all AV.one = true := by
  unfold czero at h
  split at h
  · rename_i i hi
    split at h
    · rename_i zv hz
      split at h
      · rename_i cs hcs
        split at h
        · rename_i hl
          injection h with h; subst h
          exact ⟨i, zv, hi, hz, cvals_rel hcs, hl, cvals_one hcs⟩
        · cases h
      · cases h
    · cases h
  · cases h

theorem aev_rel {env : Env} {a : Act} {x : Operand} (k : EnvR ρ env a.tmps) (h : (copd x).ok = true) : VR ρ (aev env (copd x)) (a.eval x) := by
  cases x with
  | tmp t => exact k.at_ t
  | const v =>
    simp only [copd] at h ⊢
    split at h
    · rename_i x hx
      exact cval_rel hx
    · cases h
  | global g => cases h
  | func f => simp only [copd, aev, Act.eval, VR]; exact ⟨[], rfl, VRs_nil⟩

/-! ### Types -/
theorem run_info {t : TypeId} {i : TypeInfo} (h : P.info? t = some i) (w : World) : (typeInfo t).run P w = .ok i w := by simp [typeInfo, h]
theorem csize_spec {t : TypeId} {n : Nat} (h : csize P t = some n) : ∃ i, P.info? t = some i ∧ i.size = n := by
  unfold csize at h
  obtain ⟨i, h1, h2⟩ := Option.map_eq_some_iff.1 h
  exact ⟨i, h1, h2⟩
theorem cbytes_spec {t : TypeId} {n : Nat} (h : cbytes P t = some n) : ∃ i, P.info? t = some i ∧ i.bytes = n := by
  unfold cbytes at h
  obtain ⟨i, h1, h2⟩ := Option.map_eq_some_iff.1 h
  exact ⟨i, h1, h2⟩
theorem run_size {t : TypeId} {n : Nat} (h : csize P t = some n) (w : World) : (sizeOf t).run P w = .ok n w := by
  obtain ⟨i, hi, rfl⟩ := csize_spec h
  simp [sizeOf, run_info hi]
theorem slelem_spec {t e : TypeId} (h : slelem P t = some e) : P.underlying t = some (.slice e) := by
  unfold slelem at h
  split at h
  · rename_i hu; injection h with h; subst h; exact hu
  · cases h
theorem addr_add (b o n : Nat) : (⟨b, o, none⟩ : Addr).add n = ⟨b, o + n, none⟩ := by unfold Addr.add; split <;> simp_all
theorem run_isAgg_struct {t : TypeId} {fs : Array Field} (h : P.underlying t = some (.struct fs)) (w : World) : (isAgg t).run P w = .ok true w := by simp [isAgg, run_underlying h]
theorem run_isAgg_array {t e : TypeId} {n : Nat} (h : P.underlying t = some (.array n e)) (w : World) : (isAgg t).run P w = .ok true w := by simp [isAgg, run_underlying h]
theorem run_isAgg_one {t : TypeId} (h : cone P t = true) (w : World) : (isAgg t).run P w = .ok false w := by
  unfold cone at h
  cases hu : P.underlying t with
  | none => simp [hu] at h
  | some d => simp only [isAgg, Sem.run_bind, run_underlying hu, Result.andThen_ok]; cases d <;> simp_all

/-! ### Operations -/
def Yield (P : Program) (ρ : Ren) (m : Sem Value) (v : AV) : Prop := ∃ c, VR ρ v c ∧ ∀ w, m.run P w = .ok c w

theorem y_fad {x : AV} {c : Value} {t : TypeId} {i n : Nat} {fs : Array Field} {f : Field} {v : AV} (hu : P.underlying t = some (.struct fs)) (hf : fs[i]? = some f) (hn : csize P f.type = some n) (h0 : n ≠ 0)
    (hx : VR ρ x c) (h : (match (generalizing := false) x with | .ptr id o => some (AV.ptr id (o + f.offset)) | _ => none) = some v) : Yield P ρ (Instr.fieldAt t c i) v := by
  cases x <;> simp at h
  subst h
  simp only [VR] at hx
  obtain ⟨L, hL, rfl⟩ := hx
  refine ⟨_, ⟨L, hL, rfl⟩, fun w => ?_⟩
  simp [Instr.fieldAt, run_underlying hu, hf, Instr.sureAddr, fieldPlace, run_size hn, h0, addr_add, Nat.add_assoc]

theorem y_iad {x i : AV} {cx ci : Value} {t e : TypeId} {n : Nat} {v : AV} (hu : P.underlying t = some (.slice e)) (hn : csize P e = some n) (hx : VR ρ x cx) (hi : VR ρ i ci)
    (h : (match (generalizing := false) x, i with | .sl id off len _ z, .int _ k => if z = n ∧ 0 ≤ k ∧ k < len then some (AV.ptr id (off + k.toNat * n)) else none | _, _ => none) = some v) : Yield P ρ (Instr.indexAt t cx ci) v := by
  cases x <;> cases i <;> simp at h
  rename_i id off len cap z k m
  obtain ⟨⟨rfl, h0, h1⟩, rfl⟩ := h
  simp only [VR] at hx hi
  obtain ⟨L, a, c, hL, rfl, hlc, _, hc⟩ := hx
  subst hi
  rcases hc with hc | ⟨rfl, hc⟩
  · omega
  refine ⟨.pointer (some ⟨L.b, L.o + (off + m.toNat * z), none⟩), by simp only [VR]; exact ⟨L, hL, rfl⟩, fun w => ?_⟩
  simp [Instr.indexAt, asIntOf, run_underlying hu, h0, h1, run_size hn, addr_add, Nat.add_assoc]

theorem y_idxs {x i : AV} {cx ci : Value} {t : TypeId} {v : AV} (hu : P.underlying t = some .string) (hx : VR ρ x cx) (hi : VR ρ i ci)
    (h : (match (generalizing := false) x, i with | .str b, .int _ n => if 0 ≤ n then (b[n.toNat]?).map fun u => AV.int .u8 (u.toNat : Int) else none | _, _ => none) = some v) : Yield P ρ (Instr.index t cx ci) v := by
  cases x <;> cases i <;> simp at h
  rename_i b k n
  obtain ⟨h0, u, hu1, rfl⟩ := h
  simp only [VR] at hx hi
  subst hx; subst hi
  refine ⟨.int .u8 (u.toNat : Int), by simp [VR], fun w => ?_⟩
  simp [Instr.index, asIntOf, run_underlying hu, h0, hu1]

theorem y_ext {x : AV} {c : Value} {i : Nat} {v : AV} (hx : VR ρ x c) (h : (match (generalizing := false) x with | .tup vs => vs[i]? | _ => none) = some v) : Yield P ρ (Instr.extract c i) v := by
  cases x <;> simp at h
  rename_i vs
  simp only [VR] at hx
  obtain ⟨cs, rfl, hr⟩ := hx
  obtain ⟨d, hd, hv⟩ := VRs.at_ i hr h
  exact ⟨d, hv, fun w => by simp [Instr.extract, hd]⟩

theorem VRs.part {xs : List AV} {cs : List Value} (h : VRs ρ xs cs) (off n : Nat) : VRs ρ ((xs.drop off).take n) (cs.toArray.extract off (off + n)).toList := by
  have := (h.drop off).take n
  simpa [List.take_drop, Array.toList_extract, List.extract_eq_take_drop, Nat.add_comm] using this

theorem y_fld {x : AV} {c : Value} {t : TypeId} {i n : Nat} {fs : Array Field} {f : Field} {v : AV} {one : Bool} (hu : P.underlying t = some (.struct fs)) (hf : fs[i]? = some f) (hn : csize P f.type = some n)
    (ho : if one then cone P f.type = true else ∃ gs, P.underlying f.type = some (.struct gs))
    (hx : VR ρ x c) (h : (match (generalizing := false) x with | .agg cs => if one then cs[f.offset]? else if f.offset + n ≤ cs.length then some (AV.agg ((cs.drop f.offset).take n)) else none | _ => none) = some v) : Yield P ρ (Instr.field t c i) v := by
  cases x <;> simp at h
  rename_i cs
  simp only [VR] at hx
  obtain ⟨ds, rfl, hr⟩ := hx
  cases one
  · simp at h ho
    obtain ⟨h1, rfl⟩ := h
    obtain ⟨gs, hg⟩ := ho
    refine ⟨.agg (ds.toArray.extract f.offset (f.offset + n)), ?_, fun w => ?_⟩
    · simp only [VR]
      exact ⟨_, by simp, hr.part f.offset n⟩
    · simp [Instr.field, run_underlying hu, hf, asAgg, part, run_isAgg_struct hg, run_size hn]
  · simp at h ho
    obtain ⟨d, hd, hv⟩ := VRs.at_ _ hr h
    refine ⟨d, hv, fun w => ?_⟩
    simp [Instr.field, run_underlying hu, hf, asAgg, part, run_isAgg_one ho, hd]

theorem y_un {op : UnOp} {x : AV} {c : Value} {v : AV} (hx : VR ρ x c)
    (h : (match (generalizing := false) op, x with | .not, .bool b => some (AV.bool !b) | .neg, .int k n => some (AV.int k (k.wrap (0 - n))) | _, _ => none) = some v) : Yield P ρ (Op.unary op c) v := by
  cases op <;> cases x <;> simp at h
  · subst h
    simp only [VR] at hx; subst hx
    exact ⟨_, rfl, fun w => by simp [Op.unary, Op.intArith]⟩
  · subst h
    simp only [VR] at hx; subst hx
    exact ⟨_, rfl, fun w => by simp [Op.unary, Op.intArith]⟩

theorem y_conv {x : AV} {c : Value} {src dst : TypeId} {k k0 : IntKind} {v : AV} (hs : P.underlying src = some (.int k0)) (hd : P.underlying dst = some (.int k)) (hx : VR ρ x c)
    (h : (match (generalizing := false) x with | .int _ n => some (AV.int k (k.wrap n)) | _ => none) = some v) : Yield P ρ (convert src dst c) v := by
  cases x <;> simp at h
  subst h
  simp only [VR] at hx; subst hx
  exact ⟨_, rfl, fun w => by simp [convert, run_underlying hs, run_underlying hd, Conv.intToInt]⟩

theorem y_nchk {o : Oper} {a : Act} {x : AV} {y : Operand} {v : AV} (ho : o.op = .nilCheck y) (hx : VR ρ x (a.eval y))
    (h : (match (generalizing := false) x with | .ptr id o => some (AV.ptr id o) | _ => none) = some v) : ∃ c, VR ρ v c ∧ ∀ w, (execOp a.eval o).run P w = .ok (.value c) w := by
  cases x <;> simp at h
  subst h
  simp only [VR] at hx
  obtain ⟨L, hL, hv⟩ := hx
  refine ⟨.pointer (some ⟨L.b, L.o + _, none⟩), by simp only [VR]; exact ⟨L, hL, rfl⟩, fun w => ?_⟩
  simp [execOp, ho, hv]

theorem y_len_st {x : AV} {c : Value} {t ty : TypeId} {v : AV} (hu : P.underlying t = some .string) (hx : VR ρ x c)
    (h : (match (generalizing := false) x with | .str b => some (AV.int .i64 (b.size : Int)) | _ => none) = some v) : Yield P ρ (Builtin.len_ #[t] ty #[c]) v := by
  cases x <;> simp at h
  subst h
  simp only [VR] at hx; subst hx
  exact ⟨_, rfl, fun w => by simp [Builtin.len_, run_underlying hu, goInt]⟩
theorem y_len_sl {x : AV} {c : Value} {t e ty : TypeId} {v : AV} (hu : P.underlying t = some (.slice e)) (hx : VR ρ x c)
    (h : (match (generalizing := false) x with | .sl _ _ n _ _ => some (AV.int .i64 (n : Int)) | .nils => some (AV.int .i64 0) | _ => none) = some v) : Yield P ρ (Builtin.len_ #[t] ty #[c]) v := by
  cases x <;> simp at h
  · subst h
    simp only [VR] at hx
    obtain ⟨L, a, k, hL, rfl, _⟩ := hx
    exact ⟨_, rfl, fun w => by simp [Builtin.len_, run_underlying hu, goInt]⟩
  · subst h
    simp only [VR] at hx; subst hx
    exact ⟨_, rfl, fun w => by simp [Builtin.len_, run_underlying hu, goInt]⟩
theorem y_cap {x : AV} {c : Value} {t e ty : TypeId} {v : AV} (hu : P.underlying t = some (.slice e)) (hx : VR ρ x c)
    (h : (match (generalizing := false) x with | .sl _ _ _ (some c) _ => some (AV.int .i64 (c : Int)) | .nils => some (AV.int .i64 0) | _ => none) = some v) : Yield P ρ (Builtin.cap_ #[t] ty #[c]) v := by
  cases x <;> (try simp at h)
  · rename_i id off len cap sz
    cases cap <;> simp at h
    subst h
    simp only [VR] at hx
    obtain ⟨L, a, k, hL, rfl, _, hk, _⟩ := hx
    obtain rfl := hk _ rfl
    exact ⟨_, rfl, fun w => by simp [Builtin.cap_, run_underlying hu, goInt]⟩
  · subst h
    simp only [VR] at hx; subst hx
    exact ⟨_, rfl, fun w => by simp [Builtin.cap_, run_underlying hu, goInt]⟩

theorem y_mmL {big : Bool} : ∀ {r : List AV} {rc : List Value} {x : AV} {cx : Value} {v : AV}, VR ρ x cx → VRs ρ r rc → mmL big x r = some v →
    Yield P ρ (if big then rc.foldlM Builtin.max2 cx else rc.foldlM Builtin.min2 cx) v
  | [], rc, x, cx, v, hx, hr, h => by
    simp only [VRs] at hr; subst hr
    simp only [mmL] at h; injection h with h; subst h
    exact ⟨cx, hx, fun w => by cases big <;> simp⟩
  | y :: r, rc, x, cx, v, hx, hr, h => by
    simp only [VRs] at hr
    obtain ⟨cy, rc', rfl, hy, hr'⟩ := hr
    cases x <;> cases y <;> simp [mmL] at h
    rename_i k a k' b
    · obtain ⟨hk, h⟩ := h
      subst hk
      simp only [VR] at hx hy
      subst hx; subst hy
      obtain ⟨c, hc, hrun⟩ := y_mmL (big := big) (cx := .int k (if big then (if b > a then b else a) else (if b < a then b else a))) (by simp [VR]) hr' h
      refine ⟨c, hc, fun w => ?_⟩
      have := hrun w
      cases big <;> simp [Builtin.max2, Builtin.min2] at this ⊢ <;> exact this

end Go.AM
end
/-
  Binary operations, cuts of slices and strings, literals: the model yields what the abstract machine yields. Own work of this project.
-/
section
namespace Go.AM
open Go

variable {P : Program} {ρ : Ren}

theorem y_int {op : BinOp} {k : IntKind} {a b : Int} {t : TypeId} {v : AV} (h : intOp op k a b = some v) (hs : op ≠ .shl) (hs' : op ≠ .shr) : Yield P ρ (Go.binOp op t (.int k a) (.int k b)) v := by
  cases op <;> simp only [intOp] at h <;> (try cases h) <;> (try exact absurd rfl hs) <;> (try exact absurd rfl hs')
  case quo =>
    split at h
    · cases h
    · rename_i h0
      injection h with h; subst h
      exact ⟨_, rfl, fun w => by simp [Go.binOp, Op.intDiv, h0]⟩
  case rem =>
    split at h
    · cases h
    · rename_i h0
      injection h with h; subst h
      exact ⟨_, rfl, fun w => by simp [Go.binOp, Op.intDiv, h0]⟩
  all_goals exact ⟨_, rfl, fun w => by simp [Go.binOp, Op.intArith, Op.intBits, Op.intCmp]⟩
theorem y_sh {op : BinOp} {k k' : IntKind} {a b : Int} {t : TypeId} {v : AV} (h : shOp op k a b = some v) : Yield P ρ (Go.binOp op t (.int k a) (.int k' b)) v := by
  unfold shOp at h
  split at h
  · cases h
  · rename_i h0
    cases op <;> simp at h
    all_goals
      subst h
      exact ⟨_, rfl, fun w => by simp [Go.binOp, Op.shift, h0]⟩
theorem y_str {op : BinOp} {a b : ByteArray} {t : TypeId} {v : AV} (h : strOp op a b = some v) : Yield P ρ (Go.binOp op t (.string a) (.string b)) v := by
  cases op <;> simp only [strOp] at h <;> (try cases h)
  case add =>
    split at h
    · cases h
    · rename_i h0
      injection h with h; subst h
      exact ⟨_, rfl, fun w => by simp only [Go.binOp, Op.stringOp]; rw [if_neg h0]; simp⟩
  all_goals exact ⟨_, rfl, fun w => by simp [Go.binOp, Op.stringOp]⟩

/-! ### == and != -/
theorem eqF_bo {x y : AV} {r : Bool} (h : eqF .b x y = some r) : ∃ a b, x = .bool a ∧ y = .bool b ∧ r = (a == b) := by
  cases x <;> cases y <;> simp [eqF] at h
  exact ⟨_, _, rfl, rfl, h.symm⟩
theorem eqF_i {x y : AV} {r : Bool} (h : eqF .i x y = some r) : ∃ k a b, x = .int k a ∧ y = .int k b ∧ r = (a == b) := by
  cases x <;> cases y <;> simp [eqF] at h
  obtain ⟨rfl, h⟩ := h
  exact ⟨_, _, _, rfl, rfl, h.symm⟩
theorem eqF_s {x y : AV} {r : Bool} (h : eqF .s x y = some r) : ∃ a b, x = .str a ∧ y = .str b ∧ r = (a == b) := by
  cases x <;> cases y <;> simp [eqF] at h
  exact ⟨_, _, rfl, rfl, h.symm⟩
def fkOf (P : Program) (t : TypeId) : Option FK :=
  match P.underlying t with
  | some .bool => some .b
  | some (.int _) => some .i
  | some .string => some .s
  | _ => none
theorem run_eqF {t : TypeId} {k : FK} (hk : fkOf P t = some k) {x y : AV} {cx cy : Value} {r : Bool} (hx : VR ρ x cx) (hy : VR ρ y cy) (h : eqF k x y = some r) (d : Nat) (w : World) :
    (Op.equalIn (d + 1) t cx cy).run P w = .ok r w := by
  unfold fkOf at hk
  cases hu : P.underlying t with
  | none => simp [hu] at hk
  | some u =>
    simp only [hu] at hk
    cases u <;> simp at hk
    · subst hk
      obtain ⟨a, b, rfl, rfl, rfl⟩ := eqF_bo h
      simp only [VR] at hx hy; subst hx; subst hy
      simp [Op.equalIn, run_underlying hu]
    · subst hk
      obtain ⟨k, a, b, rfl, rfl, rfl⟩ := eqF_i h
      simp only [VR] at hx hy; subst hx; subst hy
      simp [Op.equalIn, run_underlying hu]
    · subst hk
      obtain ⟨a, b, rfl, rfl, rfl⟩ := eqF_s h
      simp only [VR] at hx hy; subst hx; subst hy
      simp [Op.equalIn, run_underlying hu]

theorem isNil_np {x : AV} {r : Bool} {c : Value} (h : isNil .np x = some r) (k : VR ρ x c) : ∃ a, c = .pointer a ∧ r = a.isNone := by
  cases x <;> simp [isNil] at h <;> subst h <;> simp only [VR] at k
  · obtain ⟨L, _, rfl⟩ := k; exact ⟨_, rfl, rfl⟩
  · exact ⟨_, k, rfl⟩
theorem isNil_ns {x : AV} {r : Bool} {c : Value} (h : isNil .ns x = some r) (k : VR ρ x c) : ∃ a n m, c = .slice a n m ∧ r = a.isNone ∧ (r = true → c = .slice none 0 0) := by
  cases x <;> simp [isNil] at h <;> subst h <;> simp only [VR] at k
  · obtain ⟨L, a, n, _, rfl, _⟩ := k; exact ⟨_, _, _, rfl, rfl, by simp⟩
  · exact ⟨_, _, _, k, rfl, fun _ => k⟩
theorem isNil_nm {x : AV} {r : Bool} {c : Value} (h : isNil .nm x = some r) (k : VR ρ x c) : ∃ a, c = .map a ∧ r = a.isNone := by
  cases x <;> simp [isNil] at h <;> subst h <;> simp only [VR] at k
  · obtain ⟨L, _, rfl⟩ := k; exact ⟨_, rfl, rfl⟩
  · exact ⟨_, k, rfl⟩
theorem isNil_nf {x : AV} {r : Bool} {c : Value} (h : isNil .nf x = some r) (k : VR ρ x c) : (r = true ∧ c = .nilFunc) ∨ (r = false ∧ ∃ f a b, c = .func f a b) := by
  cases x <;> simp [isNil] at h <;> subst h <;> simp only [VR] at k
  · obtain ⟨cs, rfl, _⟩ := k; exact .inr ⟨rfl, _, _, _, rfl⟩
  · exact .inl ⟨rfl, k⟩

def nilEq (a b : Option Bool) : Option Bool :=
  match a, b with
  | some a, some b => if a || b then some (a && b) else none
  | _, _ => none
theorem nilEq_spec {p q : Option Bool} {r : Bool} (h : nilEq p q = some r) : ∃ a b, p = some a ∧ q = some b ∧ (a = true ∨ b = true) ∧ r = (a && b) := by
  cases p with
  | none => simp [nilEq] at h
  | some a =>
    cases q with
    | none => simp [nilEq] at h
    | some b =>
      simp only [nilEq] at h
      split at h
      · rename_i hab
        injection h with h
        exact ⟨a, b, rfl, rfl, by simpa using hab, h.symm⟩
      · cases h
theorem eqV_np (x y : AV) : eqV .np x y = nilEq (isNil .np x) (isNil .np y) := rfl
theorem eqV_ns (x y : AV) : eqV .ns x y = nilEq (isNil .ns x) (isNil .ns y) := rfl
theorem eqV_nm (x y : AV) : eqV .nm x y = nilEq (isNil .nm x) (isNil .nm y) := rfl
theorem eqV_nf (x y : AV) : eqV .nf x y = nilEq (isNil .nf x) (isNil .nf y) := rfl
theorem eqV_no {x y : AV} : eqV .no x y = none := by cases x <;> rfl
theorem eqV_ky {k : FK} {x y : AV} : eqV (.ky k) x y = none := by cases x <;> cases k <;> rfl
theorem eqV_fl {ks : List FK} {x y : AV} {r : Bool} (h : eqV (.fl ks) x y = some r) : ∃ a b, x = .agg a ∧ y = .agg b ∧ eqL ks a b = some r := by
  simp only [eqV] at h
  split at h
  · exact ⟨_, _, rfl, rfl, h⟩
  · cases h

theorem cek_bo {t : TypeId} (h : cek P t = .bo) : P.underlying t = some .bool := by
  unfold cek at h
  split at h <;> first | assumption | cases h | (split at h <;> cases h)
theorem cek_np {t : TypeId} (h : cek P t = .np) : ∃ e, P.underlying t = some (.pointer e) := by
  unfold cek at h
  split at h <;> first | exact ⟨_, ‹_›⟩ | cases h | (split at h <;> cases h)
theorem cek_ns {t : TypeId} (h : cek P t = .ns) : ∃ e, P.underlying t = some (.slice e) := by
  unfold cek at h
  split at h <;> first | exact ⟨_, ‹_›⟩ | cases h | (split at h <;> cases h)
theorem cek_nm {t : TypeId} (h : cek P t = .nm) : ∃ e f, P.underlying t = some (.map e f) := by
  unfold cek at h
  split at h <;> first | exact ⟨_, _, ‹_›⟩ | cases h | (split at h <;> cases h)
theorem cek_nf {t : TypeId} (h : cek P t = .nf) : ∃ e f g, P.underlying t = some (.func e f g) := by
  unfold cek at h
  split at h <;> first | exact ⟨_, _, _, ‹_›⟩ | cases h | (split at h <;> cases h)
theorem cek_fl {t : TypeId} {ks : List FK} (h : cek P t = .fl ks) : ∃ fs, P.underlying t = some (.struct fs) ∧ cflat P 8 t = some ks := by
  unfold cek at h
  split at h <;> first | cases h | (split at h <;> first | (injection h with h; subst h; exact ⟨_, ‹_›, ‹_›⟩) | cases h)

theorem run_eq_np {t e : TypeId} (hu : P.underlying t = some (.pointer e)) (d : Nat) (p q : Option Addr) (h : p.isNone = true ∨ q.isNone = true) (w : World) :
    (Op.equalIn (d + 1) t (.pointer p) (.pointer q)).run P w = .ok (p.isNone && q.isNone) w := by
  cases p <;> cases q <;> simp at h <;> simp [Op.equalIn, run_underlying hu]
theorem run_eq_ns {t e : TypeId} (hu : P.underlying t = some (.slice e)) (d : Nat) (p q : Option Addr) (n m n' m' : Nat) (h : p = none ∧ n = 0 ∧ m = 0 ∨ q = none ∧ n' = 0 ∧ m' = 0) (w : World) :
    (Op.equalIn (d + 1) t (.slice p n m) (.slice q n' m')).run P w = .ok (p.isNone && q.isNone) w := by
  rcases h with ⟨rfl, rfl, rfl⟩ | ⟨rfl, rfl, rfl⟩
  · cases q <;> simp [Op.equalIn, run_underlying hu]
  · cases p <;> simp [Op.equalIn, run_underlying hu]
theorem run_eq_nm {t e f : TypeId} (hu : P.underlying t = some (.map e f)) (d : Nat) (p q : Option Nat) (h : p.isNone = true ∨ q.isNone = true) (w : World) :
    (Op.equalIn (d + 1) t (.map p) (.map q)).run P w = .ok (p.isNone && q.isNone) w := by
  cases p <;> cases q <;> simp at h <;> simp [Op.equalIn, run_underlying hu]
theorem run_eq_nf1 {t : TypeId} {e f g} (hu : P.underlying t = some (.func e f g)) (d : Nat) (w : World) : (Op.equalIn (d + 1) t .nilFunc .nilFunc).run P w = .ok true w := by simp [Op.equalIn, run_underlying hu]
theorem run_eq_nf2 {t : TypeId} {e f g} (hu : P.underlying t = some (.func e f g)) (d : Nat) (x : Fn) (y z : Array Value) (w : World) : (Op.equalIn (d + 1) t .nilFunc (.func x y z)).run P w = .ok false w := by simp [Op.equalIn, run_underlying hu]
theorem run_eq_nf3 {t : TypeId} {e f g} (hu : P.underlying t = some (.func e f g)) (d : Nat) (x : Fn) (y z : Array Value) (w : World) : (Op.equalIn (d + 1) t (.func x y z) .nilFunc).run P w = .ok false w := by simp [Op.equalIn, run_underlying hu]

/-- A flat type's cells are equal just if they are equal one by one. -/
def FlatEq (P : Program) (t : TypeId) (ks : List FK) (dd : Nat) : Prop :=
  ∀ (ρ : Ren) (xs ys : List AV) (cs ds : List Value) (r : Bool) (w : World), VRs ρ xs cs → VRs ρ ys ds → eqL ks xs ys = some r →
    ∀ a b, (if cone P t then cs = [a] ∧ ds = [b] else a = .agg cs.toArray ∧ b = .agg ds.toArray) → (Op.equalIn dd t a b).run P w = .ok r w

theorem eqL_len : ∀ {ks : List FK} {xs ys : List AV} {r : Bool}, eqL ks xs ys = some r → xs.length = ks.length ∧ ys.length = ks.length
  | [], [], [], _, _ => ⟨rfl, rfl⟩
  | [], [], _ :: _, _, h => by simp [eqL] at h
  | [], _ :: _, _, _, h => by simp [eqL] at h
  | _ :: _, [], _, _, h => by simp [eqL] at h
  | _ :: _, _ :: _, [], _, h => by simp [eqL] at h
  | k :: ks, x :: xs, y :: ys, r, h => by
    simp only [eqL] at h
    split at h
    · rename_i u v h1 h2
      have := eqL_len h2
      simp [this.1, this.2]
    · cases h
theorem eqL_append : ∀ {ks ks' : List FK} {xs ys : List AV} {r : Bool}, eqL (ks ++ ks') xs ys = some r →
    ∃ a b, eqL ks (xs.take ks.length) (ys.take ks.length) = some a ∧ eqL ks' (xs.drop ks.length) (ys.drop ks.length) = some b ∧ r = (a && b)
  | [], ks', xs, ys, r, h => ⟨true, r, by simp [eqL], by simpa using h, by simp⟩
  | k :: ks, ks', [], ys, r, h => by simp [eqL] at h
  | k :: ks, ks', x :: xs, [], r, h => by simp [eqL] at h
  | k :: ks, ks', x :: xs, y :: ys, r, h => by
    simp only [List.cons_append, eqL] at h
    split at h
    · rename_i u v h1 h2
      injection h with h; subst h
      obtain ⟨a, b, e1, e2, rfl⟩ := eqL_append h2
      exact ⟨u && a, b, by simp [eqL, h1, e1], by simpa using e2, by simp [Bool.and_assoc]⟩
    · cases h

theorem run_part_one {t : TypeId} (h : cone P t = true) {cs : List Value} {off : Nat} {v : Value} (hv : cs[off]? = some v) (w : World) : (part t cs.toArray off).run P w = .ok v w := by
  simp [part, run_isAgg_one h, hv]
theorem run_part_struct {t : TypeId} {fs : Array Field} (hu : P.underlying t = some (.struct fs)) {n : Nat} (hn : csize P t = some n) (cs : List Value) (off : Nat) (w : World) :
    (part t cs.toArray off).run P w = .ok (.agg ((cs.drop off).take n).toArray) w := by
  simp only [part, Sem.run_bind, run_isAgg_struct hu, Result.andThen_ok, if_true, run_size hn, Sem.run_pure]
  congr 2
  apply Array.ext'
  simp [List.extract_eq_take_drop, List.take_drop, Nat.add_comm]

theorem one_of_take {cs : List Value} {at_ : Nat} (h : at_ < cs.length) : (cs.drop at_).take 1 = [cs[at_]] := by
  rw [List.drop_eq_getElem_cons h]; rfl

theorem cflat_fields {dd : Nat} {ok : TypeId → Option (List FK)} (IH : ∀ t ks, ok t = some ks → FlatEq P t ks dd) (hcone : ∀ t ks, ok t = some ks → (cone P t = true ∧ ks.length = 1) ∨ ∃ fs, P.underlying t = some (.struct fs)) {ρ : Ren} :
    ∀ (fs : List Field) (at_ n : Nat) (ks : List FK) (xs ys : List AV) (cs ds : List Value) (r : Bool) (w : World), cflat.cfields P ok fs at_ (some n) = some ks → VRs ρ xs cs → VRs ρ ys ds → eqL ks (xs.drop at_) (ys.drop at_) = some r →
      (Op.eqFields dd cs.toArray ds.toArray fs).run P w = .ok r w
  | [], at_, n, ks, xs, ys, cs, ds, r, w, hc, hxs, hys, he => by
    simp [cflat.cfields] at hc
    obtain ⟨_, rfl⟩ := hc
    have h := eqL_len he
    rw [List.eq_nil_of_length_eq_zero h.1, List.eq_nil_of_length_eq_zero h.2] at he
    simp [eqL] at he
    subst he
    simp [Op.eqFields]
  | f :: fs, at_, n, ks, xs, ys, cs, ds, r, w, hc, hxs, hys, he => by
    simp only [cflat.cfields] at hc
    split at hc
    · rename_i hno
      simp only [Bool.and_eq_true, bne_iff_ne, ne_eq, beq_iff_eq] at hno
      obtain ⟨hname, hoff⟩ := hno
      split at hc
      · rename_i k1 m hok hm
        split at hc
        · rename_i hmk
          simp only [Bool.and_eq_true, bne_iff_ne, ne_eq, beq_iff_eq] at hmk
          obtain ⟨hm0, hkm⟩ := hmk
          obtain ⟨ks', hc', rfl⟩ := Option.map_eq_some_iff.1 hc
          have hlx := (eqL_len he)
          simp only [List.length_drop, List.length_append] at hlx
          obtain ⟨u, v, e1, e2, rfl⟩ := eqL_append he
          rw [hkm] at e1 e2
          simp only [List.drop_drop] at e2
          have hlc := hxs.len
          have hld := hys.len
          have hxp := (hxs.drop at_).take m
          have hyp := (hys.drop at_).take m
          have key : ∃ a b, (part f.type cs.toArray f.offset).run P w = .ok a w ∧ (part f.type ds.toArray f.offset).run P w = .ok b w ∧ (Op.equalIn dd f.type a b).run P w = .ok u w := by
            rcases hcone f.type k1 hok with ⟨h1, hl1⟩ | ⟨gs, h1⟩
            · have hm1 : m = 1 := by omega
              subst hm1
              have hcl : at_ < cs.length := by omega
              have hdl : at_ < ds.length := by omega
              refine ⟨cs[at_], ds[at_], ?_, ?_, ?_⟩
              · rw [hoff]; exact run_part_one h1 (List.getElem?_eq_getElem hcl) w
              · rw [hoff]; exact run_part_one h1 (List.getElem?_eq_getElem hdl) w
              · refine IH f.type k1 hok ρ _ _ _ _ u w hxp hyp e1 _ _ ?_
                rw [if_pos h1]
                exact ⟨one_of_take hcl, one_of_take hdl⟩
            · refine ⟨_, _, by rw [hoff]; exact run_part_struct h1 hm cs at_ w, by rw [hoff]; exact run_part_struct h1 hm ds at_ w, ?_⟩
              refine IH f.type k1 hok ρ _ _ _ _ u w hxp hyp e1 _ _ ?_
              rw [if_neg (by simp [cone, h1])]
              exact ⟨rfl, rfl⟩
          obtain ⟨a, b, p1, p2, p3⟩ := key
          have hn2 := cflat_fields IH hcone fs (at_ + m) n ks' xs ys cs ds v w hc' hxs hys (by simpa [Nat.add_comm] using e2)
          simp only [Op.eqFields, hname, ne_eq, not_false_eq_true, if_true, Sem.run_bind, p1, p2, p3, Result.andThen_ok]
          cases u
          · simp
          · simpa using hn2
        · cases hc
      · cases hc
    · cases hc

theorem cflat_cone {d : Nat} {t : TypeId} {ks : List FK} (h : cflat P d t = some ks) : (cone P t = true ∧ ∃ k, ks = [k] ∧ fkOf P t = some k) ∨ ∃ fs, P.underlying t = some (.struct fs) := by
  cases d with
  | zero => simp [cflat] at h
  | succ d =>
    unfold cflat at h
    cases hu : P.underlying t with
    | none => simp [hu] at h
    | some k =>
      simp only [hu] at h
      cases k <;> simp [cone, hu, fkOf] at h ⊢ <;> exact h.2.symm
theorem flat_eq : ∀ (d : Nat) (t : TypeId) (ks : List FK), cflat P d t = some ks → ∀ dd, d ≤ dd → FlatEq P t ks dd
  | 0, t, ks, h, _, _ => by simp [cflat] at h
  | d + 1, t, ks, h, dd, hd => by
    intro ρ xs ys cs ds r w hxs hys he a b hab
    obtain ⟨dd, rfl⟩ : ∃ k, dd = k + 1 := ⟨dd - 1, by omega⟩
    rcases cflat_cone h with ⟨hc, k, rfl, hk⟩ | ⟨fs, hu⟩
    · rw [if_pos hc] at hab
      obtain ⟨rfl, rfl⟩ := hab
      have hl := eqL_len he
      match xs, ys, hl with
      | [x], [y], _ =>
        simp only [VRs_cons] at hxs hys
        simp only [eqL] at he
        split at he
        · rename_i p q h1 h2
          injection h2 with h2; subst h2
          injection he with he; subst he
          simpa using run_eqF hk hxs.1 hys.1 h1 dd w
        · cases he
    · rw [if_neg (by simp [cone, hu])] at hab
      obtain ⟨rfl, rfl⟩ := hab
      unfold cflat at h
      simp only [hu] at h
      split at h
      · rename_i hg
        simp only [Bool.and_eq_true, Bool.not_eq_true'] at hg
        have hn : ∃ n, csize P t = some n := by
          cases hs : csize P t with
          | some n => exact ⟨n, rfl⟩
          | none =>
            exfalso
            rw [hs] at h
            have : ∀ (gs : List Field) (a : Nat) (ks : List FK), cflat.cfields P (cflat P d) gs a none = some ks → False := by
              intro gs
              induction gs with
              | nil => intro a ks h; simp [cflat.cfields] at h
              | cons g gs ih =>
                intro a ks h
                simp only [cflat.cfields] at h
                split at h
                · split at h
                  · split at h
                    · obtain ⟨_, h2, _⟩ := Option.map_eq_some_iff.1 h
                      exact ih _ _ h2
                    · cases h
                  · cases h
                · cases h
            exact this _ _ _ h
        obtain ⟨n, hn⟩ := hn
        rw [hn] at h
        rw [run_equalIn_struct w dd t _ _ (by simp [Program.fieldsOf, hu]) hg.1]
        have hfs : P.fieldsOf t = fs := by simp [Program.fieldsOf, hu]
        rw [hfs]
        refine cflat_fields (fun t ks ht => flat_eq d t ks ht dd (by omega)) (fun t ks ht => ?_) fs.toList 0 n ks xs ys cs ds r w h hxs hys (by simpa using he)
        rcases cflat_cone ht with ⟨h1, k, rfl, _⟩ | h1
        · exact .inl ⟨h1, rfl⟩
        · exact .inr h1
      · cases h

theorem run_eqV {t : TypeId} {x y : AV} {cx cy : Value} {r : Bool} (hx : VR ρ x cx) (hy : VR ρ y cy) (h : eqV (cek P t) x y = some r) (w : World) : (Op.equal t cx cy).run P w = .ok r w := by
  show (Op.equalIn 10000 t cx cy).run P w = _
  cases hk : cek P t with
  | no => rw [hk, eqV_no] at h; cases h
  | ky k => rw [hk, eqV_ky] at h; cases h
  | bo =>
    have hu := cek_bo hk
    rw [hk] at h
    exact run_eqF (k := .b) (by simp [fkOf, hu]) hx hy (by simpa [eqV] using h) 9999 w
  | np =>
    obtain ⟨e, hu⟩ := cek_np hk
    rw [hk, eqV_np] at h
    obtain ⟨a, b, h1, h2, h3, rfl⟩ := nilEq_spec h
    obtain ⟨p, rfl, rfl⟩ := isNil_np h1 hx
    obtain ⟨q, rfl, rfl⟩ := isNil_np h2 hy
    exact run_eq_np hu 9999 p q h3 w
  | ns =>
    obtain ⟨e, hu⟩ := cek_ns hk
    rw [hk, eqV_ns] at h
    obtain ⟨a, b, h1, h2, h3, rfl⟩ := nilEq_spec h
    obtain ⟨p, n, m, rfl, rfl, e1⟩ := isNil_ns h1 hx
    obtain ⟨q, n', m', rfl, rfl, e2⟩ := isNil_ns h2 hy
    refine run_eq_ns hu 9999 p q n m n' m' ?_ w
    rcases h3 with h3 | h3
    · have := e1 h3
      injection this with g1 g2 g3
      exact .inl ⟨g1, g2, g3⟩
    · have := e2 h3
      injection this with g1 g2 g3
      exact .inr ⟨g1, g2, g3⟩
  | nm =>
    obtain ⟨e, f, hu⟩ := cek_nm hk
    rw [hk, eqV_nm] at h
    obtain ⟨a, b, h1, h2, h3, rfl⟩ := nilEq_spec h
    obtain ⟨p, rfl, rfl⟩ := isNil_nm h1 hx
    obtain ⟨q, rfl, rfl⟩ := isNil_nm h2 hy
    exact run_eq_nm hu 9999 p q h3 w
  | nf =>
    obtain ⟨e, f, g, hu⟩ := cek_nf hk
    rw [hk, eqV_nf] at h
    obtain ⟨a, b, h1, h2, h3, rfl⟩ := nilEq_spec h
    rcases isNil_nf h1 hx with ⟨rfl, rfl⟩ | ⟨rfl, f1, f2, f3, rfl⟩ <;> rcases isNil_nf h2 hy with ⟨rfl, rfl⟩ | ⟨rfl, g1, g2, g3, rfl⟩
    · exact run_eq_nf1 hu 9999 w
    · exact run_eq_nf2 hu 9999 _ _ _ w
    · exact run_eq_nf3 hu 9999 _ _ _ w
    · simp at h3
  | fl ks =>
    obtain ⟨fs, hu, hks⟩ := cek_fl hk
    rw [hk] at h
    obtain ⟨a, b, rfl, rfl, he⟩ := eqV_fl h
    simp only [VR] at hx hy
    obtain ⟨cs, rfl, hx⟩ := hx
    obtain ⟨ds, rfl, hy⟩ := hy
    exact flat_eq 8 t ks hks 10000 (by omega) ρ _ _ cs ds r w hx hy he _ _ (by rw [if_neg (by simp [cone, hu])]; exact ⟨rfl, rfl⟩)

theorem cflat_guard {t : TypeId} {fs : Array Field} {ks : List FK} (hu : P.underlying t = some (.struct fs)) (h : cflat P 8 t = some ks) : P.stoodInHeld t = false ∧ P.eqGuardType P.depth t = false := by
  unfold cflat at h
  simp only [hu] at h
  split at h
  · rename_i hg
    simpa using hg
  · cases h
theorem run_eqGuard {op : BinOp} {t : TypeId} {x y : Operand} {u v : AV} {cx cy : Value} {r : Bool} (hx : VR ρ u cx) (hy : VR ρ v cy) (h : eqV (cek P t) u v = some r) (w : World) : (eqGuard op t x y cx cy).run P w = .ok () w := by
  cases hk : cek P t with
  | no => rw [hk, eqV_no] at h; cases h
  | ky k => rw [hk, eqV_ky] at h; cases h
  | bo =>
    rw [hk] at h
    obtain ⟨a, b, rfl, rfl, rfl⟩ := eqF_bo (by simpa [eqV] using h)
    simp only [VR] at hx hy; subst hx; subst hy
    cases op <;> simp [eqGuard]
  | np =>
    rw [hk, eqV_np] at h
    obtain ⟨a, b, h1, h2, h3, rfl⟩ := nilEq_spec h
    obtain ⟨p, rfl, rfl⟩ := isNil_np h1 hx
    obtain ⟨q, rfl, rfl⟩ := isNil_np h2 hy
    cases op <;> simp [eqGuard]
  | ns =>
    rw [hk, eqV_ns] at h
    obtain ⟨a, b, h1, h2, h3, rfl⟩ := nilEq_spec h
    obtain ⟨p, n, m, rfl, rfl, e1⟩ := isNil_ns h1 hx
    obtain ⟨q, n', m', rfl, rfl, e2⟩ := isNil_ns h2 hy
    cases op <;> simp [eqGuard]
  | nm =>
    rw [hk, eqV_nm] at h
    obtain ⟨a, b, h1, h2, h3, rfl⟩ := nilEq_spec h
    obtain ⟨p, rfl, rfl⟩ := isNil_nm h1 hx
    obtain ⟨q, rfl, rfl⟩ := isNil_nm h2 hy
    cases op <;> simp [eqGuard]
  | nf =>
    rw [hk, eqV_nf] at h
    obtain ⟨a, b, h1, h2, h3, rfl⟩ := nilEq_spec h
    rcases isNil_nf h1 hx with ⟨rfl, rfl⟩ | ⟨rfl, f1, f2, f3, rfl⟩ <;> rcases isNil_nf h2 hy with ⟨rfl, rfl⟩ | ⟨rfl, g1, g2, g3, rfl⟩ <;> cases op <;> simp [eqGuard]
  | fl ks =>
    obtain ⟨fs, hu, hks⟩ := cek_fl hk
    rw [hk] at h
    obtain ⟨a, b, rfl, rfl, he⟩ := eqV_fl h
    simp only [VR] at hx hy
    obtain ⟨cs, rfl, hx⟩ := hx
    obtain ⟨ds, rfl, hy⟩ := hy
    exact run_eqGuard_agg w op t x y _ _ (cflat_guard hu hks).2

theorem run_binOp_eql {t : TypeId} {k : EK} {u v : AV} {cx cy : Value} {r : Bool} (hx : VR ρ u cx) (hy : VR ρ v cy) (h : eqV k u v = some r) :
    (Go.binOp .eql t cx cy = do pure (.bool (← Op.equal t cx cy))) ∧ (Go.binOp .neq t cx cy = do pure (.bool (!(← Op.equal t cx cy)))) := by
  cases k with
  | no => rw [eqV_no] at h; cases h
  | ky k => rw [eqV_ky] at h; cases h
  | bo =>
    obtain ⟨a, b, rfl, rfl, rfl⟩ := eqF_bo (by simpa [eqV] using h)
    simp only [VR] at hx hy; subst hx; subst hy
    exact ⟨rfl, rfl⟩
  | np =>
    obtain ⟨a, b, h1, h2, h3, rfl⟩ := nilEq_spec (by rw [← eqV_np]; exact h)
    obtain ⟨p, rfl, rfl⟩ := isNil_np h1 hx
    obtain ⟨q, rfl, rfl⟩ := isNil_np h2 hy
    exact ⟨rfl, rfl⟩
  | ns =>
    obtain ⟨a, b, h1, h2, h3, rfl⟩ := nilEq_spec (by rw [← eqV_ns]; exact h)
    obtain ⟨p, n, m, rfl, rfl, e1⟩ := isNil_ns h1 hx
    obtain ⟨q, n', m', rfl, rfl, e2⟩ := isNil_ns h2 hy
    exact ⟨rfl, rfl⟩
  | nm =>
    obtain ⟨a, b, h1, h2, h3, rfl⟩ := nilEq_spec (by rw [← eqV_nm]; exact h)
    obtain ⟨p, rfl, rfl⟩ := isNil_nm h1 hx
    obtain ⟨q, rfl, rfl⟩ := isNil_nm h2 hy
    exact ⟨rfl, rfl⟩
  | nf =>
    obtain ⟨a, b, h1, h2, h3, rfl⟩ := nilEq_spec (by rw [← eqV_nf]; exact h)
    rcases isNil_nf h1 hx with ⟨rfl, rfl⟩ | ⟨rfl, f1, f2, f3, rfl⟩ <;> rcases isNil_nf h2 hy with ⟨rfl, rfl⟩ | ⟨rfl, g1, g2, g3, rfl⟩ <;> exact ⟨rfl, rfl⟩
  | fl ks =>
    obtain ⟨a, b, rfl, rfl, he⟩ := eqV_fl h
    simp only [VR] at hx hy
    obtain ⟨cs, rfl, hx⟩ := hx
    obtain ⟨ds, rfl, hy⟩ := hy
    exact ⟨rfl, rfl⟩

theorem y_bin {op : BinOp} {t : TypeId} {x y : Operand} {u v r : AV} {cx cy : Value} (hx : VR ρ u cx) (hy : VR ρ v cy) (h : binOp op (cek P t) u v = some r) :
    Yield P ρ (do eqGuard op t x y cx cy; Go.binOp op t cx cy) r := by
  unfold binOp at h
  split at h
  · simp only [VR] at hx hy; subst hx; subst hy
    obtain ⟨c, hc, hrun⟩ := y_sh (ρ := ρ) (P := P) (k' := ‹_›) (t := t) h
    exact ⟨c, hc, fun w => by simp [eqGuard, hrun w]⟩
  · simp only [VR] at hx hy; subst hx; subst hy
    obtain ⟨c, hc, hrun⟩ := y_sh (ρ := ρ) (P := P) (k' := ‹_›) (t := t) h
    exact ⟨c, hc, fun w => by simp [eqGuard, hrun w]⟩
  · rename_i k a k' b hs hs'
    split at h
    · rename_i hk
      subst hk
      simp only [VR] at hx hy; subst hx; subst hy
      obtain ⟨c, hc, hrun⟩ := y_int (ρ := ρ) (P := P) (t := t) h hs hs'
      refine ⟨c, hc, fun w => ?_⟩
      have : (eqGuard op t x y (.int k a) (.int k b)).run P w = .ok () w := by cases op <;> simp [eqGuard]
      simp [this, hrun w]
    · cases h
  · rename_i a b
    simp only [VR] at hx hy; subst hx; subst hy
    obtain ⟨c, hc, hrun⟩ := y_str (ρ := ρ) (P := P) (t := t) h
    refine ⟨c, hc, fun w => ?_⟩
    have : (eqGuard op t x y (.string a) (.string b)).run P w = .ok () w := by cases op <;> simp [eqGuard]
    simp [this, hrun w]
  · obtain ⟨b, hb, rfl⟩ := Option.map_eq_some_iff.1 h
    refine ⟨.bool b, by simp [VR], fun w => ?_⟩
    rw [(run_binOp_eql hx hy hb).1]
    simp [run_eqGuard hx hy hb, run_eqV hx hy hb]
  · obtain ⟨b, hb, rfl⟩ := Option.map_eq_some_iff.1 h
    refine ⟨.bool (!b), by simp [VR], fun w => ?_⟩
    rw [(run_binOp_eql hx hy hb).2]
    simp [run_eqGuard hx hy hb, run_eqV hx hy hb]
  · cases h

end Go.AM
end
/-
  Literals, cuts, and all operations that look at no memory together. Own work of this project.
-/
section
namespace Go.AM
open Go

variable {P : Program} {ρ : Ren}

/-! ### Literals -/
theorem foldl_set (vs : List Value) : ∀ (k off : Nat) (cs : Array Value), off + k + vs.length ≤ cs.size →
    ((vs.zipIdx k).foldl (fun cs (c, j) => cs.setIfInBounds (off + j) c) cs).toList = cs.toList.take (off + k) ++ vs ++ cs.toList.drop (off + k + vs.length) := by
  induction vs with
  | nil => intro k off cs _; simp
  | cons v vs ih =>
    intro k off cs h
    simp only [List.length_cons] at h
    simp only [List.zipIdx_cons, List.foldl_cons]
    rw [ih (k + 1) off _ (by simp; omega)]
    have hk : off + k < cs.toList.length := by simp; omega
    simp only [Array.toList_setIfInBounds, List.length_cons]
    rw [show off + (k + 1) = (off + k) + 1 by omega, show off + k + (vs.length + 1) = (off + k) + 1 + vs.length by omega]
    rw [List.take_succ_eq_append_getElem (by simpa using hk)]
    rw [List.drop_set_of_lt (by omega)]
    simp [List.take_set_of_le]
theorem VRs.setAt {xs vs : List AV} {cs ds : List Value} (h : VRs ρ xs cs) (k : VRs ρ vs ds) (off : Nat) : VRs ρ (setAt xs off vs) (cs.take off ++ ds ++ cs.drop (off + ds.length)) := by
  unfold AM.setAt
  rw [k.len]
  exact ((h.take off).append k).append (h.drop _)
theorem length_setAt (xs vs : List AV) (off : Nat) (h : off + vs.length ≤ xs.length) : (setAt xs off vs).length = xs.length := by
  simp [setAt]; omega

theorem fill_rel {env : Env} {a : Act} (hE : EnvR ρ env a.tmps) (place : Nat → Option (Nat × Nat)) :
    ∀ (l : List (Nat × Operand)) (ps : List (Nat × Nat × AO)) (cs : List AV) (ds : Array Value) (r : List AV), (∀ x ∈ l, (copd x.2).ok = true) →
      l.length = ps.length → (∀ (j i : Nat) (x : Operand) (off n : Nat) (y : AO), l[j]? = some (i, x) → ps[j]? = some (off, n, y) → place i = some (off, n) ∧ y = copd x) →
      VRs ρ cs ds.toList → fillP env cs ps = some r → ∃ es, Instr.fill place ds (l.map fun (i, x) => (i, a.eval x)) = some es ∧ VRs ρ r es.toList
  | [], [], cs, ds, r, _, _, _, hv, h => by
    simp only [fillP] at h; injection h with h; subst h
    exact ⟨ds, rfl, hv⟩
  | [], _ :: _, _, _, _, _, hl, _, _, _ => by simp at hl
  | _ :: _, [], _, _, _, _, hl, _, _, _ => by simp at hl
  | (i, x) :: l, (off, n, y) :: ps, cs, ds, r, hok, hl, hp, hv, h => by
    obtain ⟨hpl, rfl⟩ := hp 0 i x off n y (by simp) (by simp)
    simp only [fillP] at h
    split at h
    · rename_i hc
      obtain ⟨h1, h2, h3⟩ := hc
      have hx := aev_rel hE (hok (i, x) (by simp))
      obtain ⟨es, he, hes⟩ := VR.cells h2 hx
      have hle := hes.len
      have hld := hv.len
      have hsz : (a.eval x).cells.size = n := by rw [he]; simp; omega
      have hset := foldl_set es 0 off ds (by simp at hld; omega)
      have hnew := hv.setAt hes off
      simp only [List.map_cons, Instr.fill, hpl]
      rw [if_neg (by simp at hld; simp [hsz]; omega)]
      have hzip : (a.eval x).cells.zipIdx.foldl (fun cs (c, j) => cs.setIfInBounds (off + j) c) ds = ((es.zipIdx 0).foldl (fun cs (c, j) => cs.setIfInBounds (off + j) c) ds) := by
        rw [he]; simp
      rw [hzip]
      refine fill_rel hE place l ps _ _ r (fun x hx => hok x (by simp [hx])) (by simpa using hl) (fun j i' x' off' n' y' e1 e2 => hp (j + 1) i' x' off' n' y' (by simpa using e1) (by simpa using e2)) ?_ h
      rw [hset]
      simpa using hnew
    · cases h

theorem cparts_spec {fs : Array Field} : ∀ {l : List (Nat × Operand)} {ps : List (Nat × Nat × AO)}, cparts P fs l = some ps → l.length = ps.length ∧
    ∀ (j i : Nat) (x : Operand) (off n : Nat) (y : AO), l[j]? = some (i, x) → ps[j]? = some (off, n, y) → (∃ f, fs[i]? = some f ∧ f.offset = off ∧ csize P f.type = some n) ∧ y = copd x
  | [], ps, h => by simp only [cparts] at h; injection h with h; subst h; exact ⟨rfl, by simp⟩
  | (i, x) :: l, ps, h => by
    simp only [cparts] at h
    split at h
    · rename_i f hf
      split at h
      · rename_i n qs hn hq
        injection h with h; subst h
        obtain ⟨h1, h2⟩ := cparts_spec hq
        refine ⟨by simp [h1], fun j i' x' off' n' y' e1 e2 => ?_⟩
        cases j with
        | zero =>
          simp at e1 e2
          obtain ⟨rfl, rfl⟩ := e1
          obtain ⟨rfl, rfl, rfl⟩ := e2
          exact ⟨⟨f, hf, rfl, hn⟩, rfl⟩
        | succ j => exact h2 j i' x' off' n' y' (by simpa using e1) (by simpa using e2)
      · cases h
    · cases h

theorem run_places : ∀ (fs : List Field) (w : World), (fs.all fun f => (csize P f.type).isSome) = true →
    (fs.mapM (m := Sem) fun (f : Field) => do pure (f.offset, ← sizeOf f.type)).run P w = .ok (fs.map fun f => (f.offset, (csize P f.type).getD 0)) w
  | [], w, _ => by simp
  | f :: fs, w, h => by
    simp only [List.all_cons, Bool.and_eq_true] at h
    obtain ⟨n, hn⟩ := Option.isSome_iff_exists.1 h.1
    have ih := run_places fs w h.2
    simp only [List.mapM_cons, Sem.run_bind, run_size hn, Result.andThen_ok, Sem.run_pure, ih, List.map_cons, hn, Option.getD_some]

theorem run_zero {t : TypeId} {i : TypeInfo} {z : Value} (hi : P.info? t = some i) (hz : i.zero = some z) (w : World) : (zeroValue t).run P w = .ok z w := by simp [zeroValue, run_info hi, hz]

theorem y_build {env : Env} {a : Act} (hE : EnvR ρ env a.tmps) {t : TypeId} {fs : Array Field} {z : List AV} {ps : Array (Nat × Operand)} {l : List (Nat × Nat × AO)} {v : AV} (hu : P.underlying t = some (.struct fs)) (hz : czero P t = some z)
    (hall : (fs.toList.all fun f => (csize P f.type).isSome) = true) (hl : cparts P fs ps.toList = some l) (hok : ∀ x ∈ ps.toList, (copd x.2).ok = true) (h : (fillP env z l).map AV.agg = some v) :
    Yield P ρ (Instr.build t (ps.map fun (i, x) => (i, a.eval x))) v := by
  obtain ⟨r, hr, rfl⟩ := Option.map_eq_some_iff.1 h
  obtain ⟨i, zv, hi, hzv, hzr, _, _⟩ := czero_spec (ρ := ρ) hz
  obtain ⟨h1, h2⟩ := cparts_spec hl
  obtain ⟨es, he, hes⟩ := fill_rel hE (fun i => (fs.map fun f => (f.offset, (csize P f.type).getD 0))[i]?) ps.toList l z zv.cells r hok h1 (fun j i x off n y e1 e2 => by
    obtain ⟨⟨f, hf, rfl, hn⟩, rfl⟩ := h2 j i x off n y e1 e2
    exact ⟨by simp [hf, hn], rfl⟩) hzr hr
  refine ⟨.agg es, by simp only [VR]; exact ⟨es.toList, by simp, hes⟩, fun w => ?_⟩
  have hpl : (fs.mapM (m := Sem) fun (f : Field) => do pure (f.offset, ← sizeOf f.type)).run P w = .ok (fs.map fun f => (f.offset, (csize P f.type).getD 0)) w := by
    rw [Array.mapM_eq_mapM_toList]
    simp only [Sem.run_map, run_places fs.toList w hall, Result.andThen_ok]
    congr 1
    apply Array.ext'
    simp
  simp only [Instr.build, Sem.run_bind, run_zero hi hzv, Result.andThen_ok, run_underlying hu, hpl, Array.toList_map]
  rw [he]
  simp

theorem zeros_length (z : List AV) (n : Nat) : (zeros z n).length = n * z.length := by
  induction n with
  | zero => simp [zeros]
  | succ n ih =>
    simp only [zeros] at ih ⊢
    rw [List.replicate_succ, List.flatten_cons, List.length_append, ih, Nat.succ_mul, Nat.add_comm]
theorem zeros_get (z : List AV) : ∀ (n i : Nat), i < n * z.length → (zeros z n)[i]? = z[i % z.length]?
  | 0, i, h => by simp at h
  | n + 1, i, h => by
    simp only [zeros]
    rw [List.replicate_succ, List.flatten_cons]
    by_cases hi : i < z.length
    · rw [List.getElem?_append_left hi, Nat.mod_eq_of_lt hi]
    · rw [List.getElem?_append_right (by omega)]
      have hn : i - z.length < n * z.length := by
        have : (n + 1) * z.length = n * z.length + z.length := Nat.succ_mul _ _
        omega
      have := zeros_get z n (i - z.length) hn
      simp only [zeros] at this
      rw [this, ← Nat.mod_eq_sub_mod (by omega)]
theorem VRs_zeros {z : List AV} {zv : Array Value} (h : VRs ρ z zv.toList) (n m : Nat) (hm : m = n * z.length) : VRs ρ (zeros z n) ((Array.range m).map (fun i => zv[i % zv.size]!)).toList := by
  have hl := h.len
  refine VRs.of (by simp [zeros_length, hm]) fun i v hv => ?_
  have hi : i < n * z.length := by
    have := (List.getElem?_eq_some_iff.1 hv).1
    rwa [zeros_length] at this
  rw [zeros_get z n i hi] at hv
  obtain ⟨c, hc, hvc⟩ := h.at_ _ hv
  refine ⟨c, ?_, hvc⟩
  simp at hl
  have hlt : i % zv.size < zv.size := Nat.mod_lt _ (by rcases Nat.eq_zero_or_pos zv.size with h0 | h0; · rw [hl, h0] at hi; omega
                                                       · exact h0)
  rw [hl] at hc
  have hc' : zv[i % zv.size]? = some c := by simpa using hc
  simp [hm, hi, getElem!_def, hc']

/-! ### Cuts -/
theorem asNatIn_spec {v : AV} {c : Value} {m n : Nat} (hv : VR ρ v c) (h : asNatIn v m = some n) (code : BoundsCode) : n ≤ m ∧ ∀ w, (Instr.sliceBound c m code).run P w = .ok n w := by
  unfold asNatIn at h
  split at h
  · split at h
    · rename_i k i hi
      injection h with h; subst h
      simp only [VR] at hv; subst hv
      refine ⟨by omega, fun w => ?_⟩
      simp [Instr.sliceBound, asIntOf, hi]
    · cases h
  · cases h
theorem asNatIn_mono {v : AV} {m m' n : Nat} (h : asNatIn v m = some n) (hm : m ≤ m') : asNatIn v m' = some n := by
  unfold asNatIn at h ⊢
  split at h
  · split at h
    · rename_i k i hi
      rw [if_pos ⟨hi.1, by omega⟩]; exact h
    · cases h
  · cases h

theorem run_bounds {env : Env} {a : Act} (hE : EnvR ρ env a.tmps) {isSlice : Bool} {lo hi mx : Option Operand} (hok : ∀ x ∈ lo.toList ++ hi.toList ++ mx.toList, (copd x).ok = true) {len cap m h l : Nat}
    (hm : optNat ((mx.map copd).map (aev env)) cap cap = some m) (hh : optNat ((hi.map copd).map (aev env)) m len = some h) (hl : optNat ((lo.map copd).map (aev env)) h 0 = some l)
    (hx : mx.isSome = true → hi.isSome = true) (hlen : len ≤ cap) :
    l ≤ h ∧ (hi.isSome = true → h ≤ m) ∧ (hi = none → h = len) ∧ m ≤ cap ∧ (mx = none → m = cap) ∧ ∀ w, (Instr.sliceBounds isSlice len cap (lo.map a.eval) (hi.map a.eval) (mx.map a.eval)).run P w = .ok (l, h, m) w := by
  have getM : m ≤ cap ∧ (mx = none → m = cap) ∧ ∀ w, (match mx.map a.eval with | some v => Instr.sliceBound v cap (if isSlice then .slice3Acap else .slice3Alen) | none => pure cap : Sem Nat).run P w = .ok m w := by
    cases mx with
    | none => simp [optNat] at hm; subst hm; exact ⟨Nat.le_refl _, fun _ => rfl, fun w => by simp⟩
    | some x =>
      simp only [Option.map_some, optNat] at hm
      have := asNatIn_spec (P := P) (aev_rel hE (hok x (by simp))) hm (if isSlice then .slice3Acap else .slice3Alen)
      exact ⟨this.1, fun h => (by cases h), fun w => by simpa using this.2 w⟩
  have getH : (hi.isSome = true → h ≤ m) ∧ (hi = none → h = len) ∧ ∀ w, (match hi.map a.eval, mx.map a.eval with
      | some v, some _ => Instr.sliceBound v m .slice3B
      | some v, none => Instr.sliceBound v m (if isSlice then .sliceAcap else .sliceAlen)
      | none, none => pure len
      | none, some _ => stuck "Slice: max without high" : Sem Nat).run P w = .ok h w := by
    cases hi with
    | none =>
      cases mx with
      | none => simp [optNat] at hh; subst hh; exact ⟨fun h => (by cases h), fun _ => rfl, fun w => by simp⟩
      | some y => simp at hx
    | some x =>
      simp only [Option.map_some, optNat] at hh
      have := fun code => asNatIn_spec (P := P) (aev_rel hE (hok x (by simp))) hh code
      refine ⟨fun _ => (this .index).1, fun h => (by cases h), fun w => ?_⟩
      cases mx with
      | none => simpa using (this _).2 w
      | some y => simpa using (this _).2 w
  have getL : l ≤ h ∧ ∀ w, (match lo.map a.eval with | some v => Instr.sliceBound v h (if (mx.map a.eval).isSome then .slice3C else .sliceB) | none => pure 0 : Sem Nat).run P w = .ok l w := by
    cases lo with
    | none => simp [optNat] at hl; subst hl; exact ⟨Nat.zero_le _, fun w => by simp⟩
    | some x =>
      simp only [Option.map_some, optNat] at hl
      have := asNatIn_spec (P := P) (aev_rel hE (hok x (by simp))) hl (if (mx.map a.eval).isSome then .slice3C else .sliceB)
      exact ⟨this.1, fun w => by simpa using this.2 w⟩
  refine ⟨getL.1, getH.1, getH.2.1, getM.1, getM.2.1, fun w => ?_⟩
  have e1 := getM.2.2 w
  have e2 := getH.2.2 w
  have e3 := getL.2 w
  clear getM getH getL hm hh hl hok hE
  cases mx <;> cases hi <;> cases lo <;> simp [Instr.sliceBounds] at e1 e2 e3 hx ⊢ <;> simp [e1, e2, e3]

theorem run_slice_sl {t e : TypeId} {n : Nat} (hu : P.underlying t = some (.slice e)) (hn : csize P e = some n) {A : Option Addr} {len cap l h m : Nat} {lo hi mx : Option Value} {w : World}
    (hb : (Instr.sliceBounds true len cap lo hi mx).run P w = .ok (l, h, m) w) : (Instr.sliceAt t (.slice A len cap) lo hi mx).run P w = .ok (.slice (if m = l then A else A.map (·.add (l * n))) (h - l) (m - l)) w := by
  simp [Instr.sliceAt, Instr.slice, run_underlying hu, hb, run_size hn]

theorem y_slc {env : Env} {a : Act} (hE : EnvR ρ env a.tmps) {t e : TypeId} {n : Nat} {x : Operand} {lo hi mx : Option Operand} {v : AV} (hu : P.underlying t = some (.slice e)) (hn : csize P e = some n)
    (hok : ∀ y ∈ lo.toList ++ hi.toList ++ mx.toList, (copd y).ok = true) (hx : (copd x).ok = true)
    (h : apure env (.slc n (copd x) (lo.map copd) (hi.map copd) (mx.map copd)) = some v) : Yield P ρ (Instr.sliceAt t (a.eval x) (lo.map a.eval) (hi.map a.eval) (mx.map a.eval)) v := by
  have hv := aev_rel hE hx
  simp only [apure] at h
  cases hav : aev env (copd x) with
  | sl id off len cap z =>
    rw [hav] at h hv
    simp only at h
    split at h
    · rename_i hz
      subst hz
      simp only [VR] at hv
      obtain ⟨L, A, c, hL, hval, hlc, hcap, hc⟩ := hv
      rw [hval]
      have fin : ∀ (l h m : Nat) (k : Option Nat), l ≤ h → h ≤ m → m ≤ c → (∀ j, k = some j → m - l = j) → VR ρ (.sl id (off + l * z) (h - l) k z) (.slice (if m = l then some A else (some A).map (·.add (l * z))) (h - l) (m - l)) := by
        intro l h m k h1 h2 h3 h4
        simp only [VR]
        rcases hc with hc | ⟨hA, hc⟩
        · have hm0 : m = l := by omega
          refine ⟨L, A, m - l, hL, by rw [if_pos hm0], by omega, h4, .inl (by omega)⟩
        · by_cases hm0 : m = l
          · refine ⟨L, A, m - l, hL, by rw [if_pos hm0], by omega, h4, .inl (by omega)⟩
          · refine ⟨L, A.add (l * z), m - l, hL, by rw [if_neg hm0]; rfl, by omega, h4, .inr ⟨?_, ?_⟩⟩
            · rw [hA, addr_add, Nat.add_assoc]
            · have : (m - l) * z + l * z ≤ c * z := by rw [← Nat.add_mul]; exact Nat.mul_le_mul_right z (by omega)
              omega
      cases cap with
      | some c0 =>
        obtain rfl := hcap c0 rfl
        simp only at h
        split at h
        · rename_i m hm
          split at h
          · rename_i hh hhh
            split at h
            · rename_i l hl
              split at h
              · cases h
              · rename_i hmx
                injection h with h; subst h
                obtain ⟨b1, b2, b3, b4, b5, b6⟩ := run_bounds hE (P := P) (isSlice := true) hok hm hhh hl (by intro q; cases hi <;> simp_all) hlc
                refine ⟨_, fin l hh m (some (m - l)) b1 ?_ b4 (fun j hj => by injection hj), fun w => run_slice_sl hu hn (b6 w)⟩
                cases hi with
                | none => cases mx <;> simp at hmx; have := b3 rfl; have := b5 rfl; omega
                | some y => exact b2 rfl
            · cases h
          · cases h
        · cases h
      | none =>
        simp only at h
        cases mx with
        | some q =>
          simp only [Option.map_some] at h
          split at h
          · rename_i m hm
            split at h
            · rename_i hh hhh
              split at h
              · rename_i l hl
                split at h
                · cases h
                · rename_i hmx
                  injection h with h; subst h
                  have hm' : optNat ((Option.map copd (some q)).map (aev env)) c c = some m := by simp only [Option.map_some, optNat]; exact asNatIn_mono hm hlc
                  obtain ⟨b1, b2, b3, b4, b5, b6⟩ := run_bounds hE (P := P) (isSlice := true) hok hm' hhh hl (by intro q; cases hi <;> simp_all) hlc
                  refine ⟨_, fin l hh m (some (m - l)) b1 ?_ b4 (fun j hj => by injection hj), fun w => run_slice_sl hu hn (b6 w)⟩
                  cases hi with
                  | none => simp at hmx
                  | some y => exact b2 rfl
              · cases h
            · cases h
          · cases h
        | none =>
          simp only [Option.map_none] at h
          split at h
          · rename_i hh hhh
            split at h
            · rename_i l hl
              injection h with h; subst h
              have hle : hh ≤ len := by
                cases hi with
                | none => simp [optNat] at hhh; omega
                | some y => simp only [Option.map_some, optNat] at hhh; exact (asNatIn_spec (P := P) (aev_rel hE (hok y (by simp))) hhh .index).1
              have hhh' : optNat ((hi.map copd).map (aev env)) c len = some hh := by
                cases hi with
                | none => simpa [optNat] using hhh
                | some y => simp only [Option.map_some, optNat] at hhh ⊢; exact asNatIn_mono hhh hlc
              obtain ⟨b1, b2, b3, b4, b5, b6⟩ := run_bounds hE (P := P) (isSlice := true) (mx := none) hok (m := c) (cap := c) (by simp [optNat]) hhh' hl (by simp) hlc
              exact ⟨_, fin l hh c none b1 (by omega) (Nat.le_refl _) (fun j hj => by cases hj), fun w => run_slice_sl hu hn (b6 w)⟩
            · cases h
          · cases h
    · cases h
  | nils =>
    rw [hav] at h hv
    simp only at h
    split at h
    · rename_i m hh l hm hhh hl
      split at h
      · cases h
      · rename_i hmx
        injection h with h; subst h
        simp only [VR] at hv
        rw [hv]
        have hm0 : m = 0 := by
          cases mx with
          | none => simp [optNat] at hm; omega
          | some y => simp only [Option.map_some, optNat] at hm; have := (asNatIn_spec (P := P) (aev_rel hE (hok y (by simp))) hm .index).1; omega
        subst hm0
        have hh0 : hh = 0 := by
          cases hi with
          | none => simp [optNat] at hhh; omega
          | some y => simp only [Option.map_some, optNat] at hhh; have := (asNatIn_spec (P := P) (aev_rel hE (hok y (by simp))) hhh .index).1; omega
        subst hh0
        obtain ⟨b1, b2, b3, b4, b5, b6⟩ := run_bounds hE (P := P) (isSlice := true) hok hm hhh hl (by intro q; cases hi <;> simp_all) (Nat.le_refl _)
        have : l = 0 := by omega
        subst this
        exact ⟨.slice none 0 0, by simp [VR], fun w => by rw [run_slice_sl hu hn (b6 w)]; simp⟩
    · cases h
  | _ => rw [hav] at h; simp at h

theorem y_slcs {env : Env} {a : Act} (hE : EnvR ρ env a.tmps) {t : TypeId} {x : Operand} {lo hi : Option Operand} {v : AV} (hu : P.underlying t = some .string)
    (hok : ∀ y ∈ lo.toList ++ hi.toList, (copd y).ok = true) (hx : (copd x).ok = true)
    (h : apure env (.slcs (copd x) (lo.map copd) (hi.map copd)) = some v) : Yield P ρ (Instr.sliceAt t (a.eval x) (lo.map a.eval) (hi.map a.eval) none) v := by
  have hv := aev_rel hE hx
  simp only [apure] at h
  cases hav : aev env (copd x) with
  | str b =>
    rw [hav] at h hv
    simp only at h
    split at h
    · rename_i hh hhh
      split at h
      · rename_i l hl
        injection h with h; subst h
        simp only [VR] at hv
        rw [hv]
        obtain ⟨b1, b2, b3, b4, b5, b6⟩ := run_bounds hE (P := P) (isSlice := false) (mx := none) (by simpa using hok) (m := b.size) (cap := b.size) (by simp [optNat]) hhh hl (by simp) (Nat.le_refl _)
        refine ⟨.string (b.extract l hh), by simp [VR], fun w => ?_⟩
        have := b6 w
        simp only [Option.map_none] at this
        simp [Instr.sliceAt, Instr.slice, run_underlying hu, this]
      · cases h
    · cases h
  | _ => rw [hav] at h; simp at h

end Go.AM
end
/-
  Every operation that looks at no memory, and every one that makes one block. Own work of this project.
-/
section
namespace Go.AM
open Go

variable {P : Program} {ρ : Ren}

theorem cop_ok {cl : Bool} {op : Op} (h : cop P cl op ≠ .bad) : (∀ x ∈ op.operands, (copd x).ok = true) ∧ cop P cl op = cop0 P cl op := by
  unfold cop at h ⊢
  split at h
  · rename_i hall
    refine ⟨fun x hx => ?_, by rw [if_pos hall]⟩
    have := List.all_eq_true.1 hall x (by simpa using hx)
    exact this
  · exact absurd rfl h

theorem yield_exec {o : Oper} {a : Act} {m : Sem Value} {v : AV} (hy : Yield P ρ m v) (he : execOp a.eval o = do pure (.value (← m))) : ∃ c, VR ρ v c ∧ ∀ w, (execOp a.eval o).run P w = .ok (.value c) w := by
  obtain ⟨c, hc, hrun⟩ := hy
  exact ⟨c, hc, fun w => by rw [he]; simp [hrun w]⟩

/-- A call of a builtin of one, two or more arguments. -/
theorem covl_cases (P : Program) (f : FuncId) (l : List Operand) : covl P f l = .bad ∨ ∃ x y, l = [x, y] ∧ isOvl P f = true ∧ covl P f l = .ovl (copd x) (copd y) := by
  unfold covl
  split
  · split
    · rename_i x y h
      exact .inr ⟨x, y, rfl, h, rfl⟩
    · exact .inl rfl
  · exact .inl rfl
theorem covl_pure (env : Env) (f : FuncId) (l : List Operand) : apure env (covl P f l) = none := by
  rcases covl_cases P f l with h | ⟨x, y, _, _, h⟩ <;> rw [h] <;> rfl
theorem covl_alloc (env : Env) (f : FuncId) (l : List Operand) : aalloc env (covl P f l) = none := by
  rcases covl_cases P f l with h | ⟨x, y, _, _, h⟩ <;> rw [h] <;> rfl
theorem covl_eff (call : Nat → List AV → St → Option (AV × St)) (env : Env) (s : St) (f : FuncId) (l : List Operand) : aeff call env s (covl P f l) = none := by
  rcases covl_cases P f l with h | ⟨x, y, _, _, h⟩ <;> rw [h] <;> rfl
theorem covl_call (f : FuncId) (l : List Operand) : (covl P f l).isCall = false := by
  rcases covl_cases P f l with h | ⟨x, y, _, _, h⟩ <;> rw [h] <;> rfl
theorem exec_builtin {o : Oper} {a : Act} {c : Call} {b : Builtin} (hop : o.op = .call c) (hb : c.callee = .builtin b) :
    execOp a.eval o = builtin b c.argTypes o.type (c.args.map fun | .const _ => true | _ => false) (c.args.map a.eval) := by
  obtain ⟨callee, args, argTypes⟩ := c
  simp only at hb
  subst hb
  simp only [execOp, hop, resolve, invoke]
  rfl

theorem VRs_map {env : Env} {a : Act} (hE : EnvR ρ env a.tmps) : ∀ (l : List Operand), (∀ x ∈ l, (copd x).ok = true) → VRs ρ ((l.map copd).map (aev env)) (l.map a.eval)
  | [], _ => VRs_nil
  | x :: l, h => by
    simp only [List.map_cons]
    exact VRs_cons.2 ⟨aev_rel hE (h x (by simp)), VRs_map hE l fun y hy => h y (by simp [hy])⟩

theorem pure_builtin {o : Oper} {a : Act} {env : Env} {cl : Bool} {c : Call} {b : Builtin} {v : AV} (hE : EnvR ρ env a.tmps) (hop : o.op = .call c) (hb : c.callee = .builtin b) (hok : ∀ x ∈ c.operands, (copd x).ok = true)
    (h : apure env (ccall P c cl) = some v) : ∃ r, VR ρ v r ∧ ∀ w, (execOp a.eval o).run P w = .ok (.value r) w := by
  have hex := exec_builtin (a := a) hop hb
  have hargs : ∀ x ∈ c.args.toList, (copd x).ok = true := fun x hx => hok x (by simp [Call.operands]; exact .inr (by simpa using hx))
  unfold ccall at h
  rw [hb] at h
  simp only at h
  split at h
  · rename_i x t hA hT
    have hA' : c.args = #[x] := by apply Array.ext'; simpa using hA
    have hT' : c.argTypes = #[t] := by apply Array.ext'; simpa using hT
    have hx := aev_rel hE (hargs x (by rw [hA]; simp))
    split at h
    · rename_i hu
      exact yield_exec (m := Builtin.len_ #[t] o.type #[a.eval x]) (y_len_st hu hx (by simp only [apure] at h; exact h)) (by rw [hex, hA', hT']; simp [builtin])
    · rename_i e hu
      exact yield_exec (m := Builtin.len_ #[t] o.type #[a.eval x]) (y_len_sl hu hx (by simp only [apure] at h; exact h)) (by rw [hex, hA', hT']; simp [builtin])
    · simp [apure] at h
    · simp [apure] at h
  · rename_i x t hA hT
    have hA' : c.args = #[x] := by apply Array.ext'; simpa using hA
    have hT' : c.argTypes = #[t] := by apply Array.ext'; simpa using hT
    have hx := aev_rel hE (hargs x (by rw [hA]; simp))
    split at h
    · rename_i e hu
      exact yield_exec (m := Builtin.cap_ #[t] o.type #[a.eval x]) (y_cap hu hx (by simp only [apure] at h; exact h)) (by rw [hex, hA', hT']; simp [builtin])
    · simp [apure] at h
  · split at h
    · split at h
      · split at h <;> simp [apure] at h
      · split at h <;> simp [apure] at h
      · simp [apure] at h
    · simp [apure] at h
  · split at h
    · split at h
      · split at h <;> simp [apure] at h
      · simp [apure] at h
    · simp [apure] at h
  · split at h
    · split at h
      · split at h <;> simp [apure] at h
      · simp [apure] at h
    · simp [apure] at h
  · simp only [apure] at h
    have hl := VRs_map hE c.args.toList hargs
    cases hcl : c.args.toList with
    | nil => rw [hcl] at h; simp at h
    | cons x r =>
      rw [hcl] at h hl
      simp only [List.map_cons] at h hl
      obtain ⟨h1, h2⟩ := VRs_cons.1 hl
      have hA' : c.args = (x :: r).toArray := by apply Array.ext'; simpa using hcl
      refine yield_exec (m := Builtin.max_ c.argTypes o.type (c.args.map a.eval)) ?_ (by rw [hex]; simp [builtin])
      have := y_mmL (P := P) (big := true) h1 h2 h
      simpa [Builtin.max_, hA'] using this
  · simp only [apure] at h
    have hl := VRs_map hE c.args.toList hargs
    cases hcl : c.args.toList with
    | nil => rw [hcl] at h; simp at h
    | cons x r =>
      rw [hcl] at h hl
      simp only [List.map_cons] at h hl
      obtain ⟨h1, h2⟩ := VRs_cons.1 hl
      have hA' : c.args = (x :: r).toArray := by apply Array.ext'; simpa using hcl
      refine yield_exec (m := Builtin.min_ c.argTypes o.type (c.args.map a.eval)) ?_ (by rw [hex]; simp [builtin])
      have := y_mmL (P := P) (big := false) h1 h2 h
      simpa [Builtin.min_, hA'] using this
  · split at h
    · split at h <;> simp [apure] at h
    · simp [apure] at h
  · simp [apure] at h

theorem pure_run {o : Oper} {a : Act} {env : Env} {cl : Bool} {v : AV} (hE : EnvR ρ env a.tmps) (h : apure env (cop P cl o.op) = some v) : ∃ c, VR ρ v c ∧ ∀ w, (execOp a.eval o).run P w = .ok (.value c) w := by
  obtain ⟨hok, hc⟩ := cop_ok (P := P) (cl := cl) (op := o.op) (by intro e; rw [e] at h; simp [apure] at h)
  rw [hc] at h
  clear hc
  cases hop : o.op with
  | move x =>
    rw [hop] at h hok
    simp only [cop0, apure] at h
    injection h with h; subst h
    exact ⟨a.eval x, aev_rel hE (hok x (by simp [Op.operands])), fun w => by simp [execOp, hop]⟩
  | assign x =>
    rw [hop] at h hok
    simp only [cop0, apure] at h
    injection h with h; subst h
    exact ⟨a.eval x, aev_rel hE (hok x (by simp [Op.operands])), fun w => by simp [execOp, hop]⟩
  | pick c x y =>
    rw [hop] at h hok
    simp only [cop0, apure] at h
    have hcv := aev_rel hE (hok c (by simp [Op.operands]))
    have hx := aev_rel hE (hok x (by simp [Op.operands]))
    have hy := aev_rel hE (hok y (by simp [Op.operands]))
    split at h
    · rename_i t ht
      rw [ht] at hcv
      simp only [VR] at hcv
      injection h with h; subst h
      cases t
      · exact ⟨a.eval y, hy, fun w => by simp [execOp, hop, hcv, asBool]⟩
      · exact ⟨a.eval x, hx, fun w => by simp [execOp, hop, hcv, asBool]⟩
    · cases h
  | build t ps =>
    rw [hop] at h hok
    simp only [cop0] at h
    split at h
    · rename_i fs z hu hz
      split at h
      · rename_i hall
        split at h
        · rename_i l hl
          refine yield_exec (y_build hE hu hz hall hl (fun x hx => hok x.2 ?_) (by simp only [apure] at h; exact h)) (by simp only [execOp, hop])
          simp only [Op.operands, List.mem_toArray, List.mem_map]
          exact ⟨x, hx, rfl⟩
        · simp [apure] at h
      · simp [apure] at h
    · simp [apure] at h
  | nilCheck x =>
    rw [hop] at h hok
    exact y_nchk hop (aev_rel hE (hok x (by simp [Op.operands]))) (by simp only [cop0, apure] at h; exact h)
  | binOp op t x y ty =>
    rw [hop] at h hok
    exact yield_exec (y_bin (x := x) (y := y) (aev_rel hE (hok x (by simp [Op.operands]))) (aev_rel hE (hok y (by simp [Op.operands]))) (by simp only [cop0, apure] at h; exact h)) (by simp only [execOp, hop])
  | unOp op t x =>
    rw [hop] at h hok
    exact yield_exec (y_un (aev_rel hE (hok x (by simp [Op.operands]))) (by simp only [cop0, apure] at h; exact h)) (by simp only [execOp, hop])
  | convert src dst x =>
    rw [hop] at h hok
    simp only [cop0] at h
    split at h
    · rename_i k0 k h1 h2
      exact yield_exec (y_conv h1 h2 (aev_rel hE (hok x (by simp [Op.operands]))) (by simp only [cop0, apure] at h; exact h)) (by simp only [execOp, hop])
    · split at h <;> simp [apure] at h
    · split at h <;> simp [apure] at h
    · simp [apure] at h
  | makeFunc fn first caps =>
    rw [hop] at h hok
    cases fn <;> simp only [cop0] at h <;> (try (simp [apure] at h; done))
    rename_i f
    split at h
    · rename_i hf
      simp only [apure] at h
      injection h with h; subst h
      have hf' : first = #[] := by simpa using hf
      refine ⟨.func (.func f) #[] (caps.map a.eval), ?_, fun w => by simp [execOp, hop, Instr.makeFunc, hf']⟩
      simp only [VR]
      refine ⟨caps.toList.map a.eval, by congr 1; apply Array.ext'; simp, ?_⟩
      exact VRs_map hE caps.toList fun x hx => hok x (by simp [Op.operands]; exact .inr (by simpa using hx))
    · simp [apure] at h
  | slice t x lo hi mx =>
    rw [hop] at h hok
    simp only [cop0] at h
    split at h
    · rename_i e hu
      split at h
      · rename_i n hn
        split at h
        · exact yield_exec (y_slc hE hu hn (fun y hy => hok y (by simp [Op.operands] at hy ⊢; rcases hy with hy | hy | hy <;> simp [hy])) (hok x (by simp [Op.operands])) h) (by simp only [execOp, hop])
        · simp [apure] at h
      · simp [apure] at h
    · rename_i hu
      split at h
      · rename_i hmx
        have hmx' : mx = none := by simpa using hmx
        subst hmx'
        exact yield_exec (y_slcs hE hu (fun y hy => hok y (by simp [Op.operands] at hy ⊢; rcases hy with hy | hy <;> simp [hy])) (hok x (by simp [Op.operands])) h) (by simp only [execOp, hop]; rfl)
      · simp [apure] at h
    · simp [apure] at h
  | fieldAddr t x i =>
    rw [hop] at h hok
    simp only [cop0] at h
    split at h
    · rename_i fs hu
      split at h
      · rename_i f hf
        split at h
        · rename_i n hn
          split at h
          · rename_i h0
            exact yield_exec (y_fad hu hf hn (by simpa using h0) (aev_rel hE (hok x (by simp [Op.operands]))) (by simp only [apure] at h; exact h)) (by simp only [execOp, hop])
          · simp [apure] at h
        · simp [apure] at h
      · simp [apure] at h
    · simp [apure] at h
  | field t x i =>
    rw [hop] at h hok
    simp only [cop0] at h
    split at h
    · rename_i fs hu
      split at h
      · rename_i f hf
        split at h
        · rename_i n gs hn hg
          exact yield_exec (y_fld (one := false) hu hf hn (by simpa using ⟨gs, hg⟩) (aev_rel hE (hok x (by simp [Op.operands]))) (by simp only [apure] at h; exact h)) (by simp only [execOp, hop])
        · rename_i n d hn hg
          split at h
          · rename_i h1
            exact yield_exec (y_fld (one := true) hu hf hn (by simpa using h1) (aev_rel hE (hok x (by simp [Op.operands]))) (by simp only [apure] at h; exact h)) (by simp only [execOp, hop])
          · simp [apure] at h
        · simp [apure] at h
      · simp [apure] at h
    · simp [apure] at h
  | indexAddr t x i =>
    rw [hop] at h hok
    simp only [cop0] at h
    split at h
    · rename_i e he
      split at h
      · rename_i n hn
        split at h
        · exact yield_exec (y_iad (slelem_spec he) hn (aev_rel hE (hok x (by simp [Op.operands]))) (aev_rel hE (hok i (by simp [Op.operands]))) (by simp only [apure] at h; exact h)) (by simp only [execOp, hop])
        · simp [apure] at h
      · simp [apure] at h
    · simp [apure] at h
  | index t x i =>
    rw [hop] at h hok
    simp only [cop0] at h
    split at h
    · rename_i hu
      exact yield_exec (y_idxs hu (aev_rel hE (hok x (by simp [Op.operands]))) (aev_rel hE (hok i (by simp [Op.operands]))) (by simp only [apure] at h; exact h)) (by simp only [execOp, hop])
    · simp [apure] at h
  | extract x i =>
    rw [hop] at h hok
    exact yield_exec (y_ext (aev_rel hE (hok x (by simp [Op.operands]))) (by simp only [cop0, apure] at h; exact h)) (by simp only [execOp, hop])
  | call c =>
    rw [hop] at h hok
    simp only [cop0] at h
    cases hcal : c.callee with
    | value f =>
      unfold ccall at h
      rw [hcal] at h
      cases f <;> simp only at h
      · simp [apure] at h
      · simp [apure] at h
      · simp [apure] at h
      · split at h
        · simp [apure] at h
        · rw [covl_pure] at h; cases h
    | invoke r m => unfold ccall at h; rw [hcal] at h; simp [apure] at h
    | builtin b => exact pure_builtin hE hop hcal hok h
  | _ =>
    rw [hop] at h
    simp only [cop0] at h
    repeat' split at h
    all_goals simp [apure] at h

/-! ### Operations that make one block -/
theorem zeros_one {z : List AV} (h : z.all AV.one = true) (n : Nat) : (zeros z n).all AV.one = true := by
  induction n with
  | zero => rfl
  | succ n ih =>
    simp only [zeros] at ih ⊢
    rw [List.replicate_succ, List.flatten_cons, List.all_append, h, ih]
    rfl
theorem setAt_one {cs vs : List AV} (h : cs.all AV.one = true) (k : vs.all AV.one = true) (off : Nat) : (setAt cs off vs).all AV.one = true := by
  rw [List.all_eq_true] at h k ⊢
  intro x hx
  simp only [setAt, List.mem_append] at hx
  rcases hx with (hx | hx) | hx
  · exact h x (List.mem_of_mem_take hx)
  · exact k x hx
  · exact h x (List.mem_of_mem_drop hx)
theorem fillP_one {env : Env} : ∀ (ps : List (Nat × Nat × AO)) (cs r : List AV), cs.all AV.one = true → fillP env cs ps = some r → r.all AV.one = true
  | [], cs, r, h, hf => by simp only [fillP] at hf; injection hf with hf; subst hf; exact h
  | (off, n, x) :: ps, cs, r, h, hf => by
    simp only [fillP] at hf
    split at hf
    · rename_i hh
      exact fillP_one ps _ r (setAt_one h hh.2.1 off) hf
    · cases hf
theorem alloc_run {o : Oper} {a : Act} {env : Env} {cl : Bool} {mk : Nat → AV} {b : AB} (hE : EnvR ρ env a.tmps) (h : aalloc env (cop P cl o.op) = some (mk, b)) :
    ∃ (cs : Array Value) (e : TypeId) (c : Nat → Value), (∀ w, (execOp a.eval o).run P w = .ok (.value (c w.heap.size)) (pushW w (.cells cs e))) ∧
      (∀ (id : Nat) (ρ' : Ren) (B : Nat), ρ.le ρ' → ρ' id = some ⟨B, 0, cs.size⟩ → VR ρ' (mk id) (c B)) ∧
      (∃ cells, b = .row cells true ∧ cells.length ≤ cs.size ∧ VRs ρ cells cs.toList ∧ cells.all AV.one = true) := by
  obtain ⟨hok, hc⟩ := cop_ok (P := P) (cl := cl) (op := o.op) (by intro e; rw [e] at h; simp [aalloc] at h)
  rw [hc] at h
  clear hc
  cases hop : o.op with
  | alloc t =>
    rw [hop] at h hok
    simp only [cop0] at h
    split at h
    · rename_i z hz
      simp only [aalloc] at h
      injection h with h
      obtain ⟨rfl, rfl⟩ := Prod.mk.inj h
      obtain ⟨i, zv, hi, hzv, hzr, hzl, hzo⟩ := czero_spec (ρ := ρ) hz
      refine ⟨zv.cells, t, fun B => .pointer (some ⟨B, 0, none⟩), fun w => ?_, fun id ρ' B _ hid => ?_, z, rfl, ?_, hzr, hzo⟩
      · simp [execOp, hop, Instr.alloc, run_zero hi hzv, newVar, newRow, pushW]
      · simp only [VR]; exact ⟨_, hid, by simp⟩
      · have := hzr.len; simp at this; omega
    · simp [aalloc] at h
  | box t x =>
    rw [hop] at h hok
    simp only [cop0] at h
    split at h
    · rename_i n hn
      simp only [aalloc] at h
      split at h
      · rename_i hcs
        injection h with h
        obtain ⟨rfl, rfl⟩ := Prod.mk.inj h
        obtain ⟨cs, he, hv⟩ := VR.cells hcs.2 (aev_rel hE (hok x (by simp [Op.operands])))
        refine ⟨(a.eval x).cells, t, fun B => .pointer (some ⟨B, 0, none⟩), fun w => ?_, fun id ρ' B _ hid => ?_, _, rfl, ?_, (by rw [he]; exact hv), hcs.2⟩
        · simp [execOp, hop, Instr.box, newVar, newRow, pushW]
        · simp only [VR]; exact ⟨_, hid, by simp⟩
        · rw [he]; have := hv.len; simp; omega
      · cases h
    · simp [aalloc] at h
  | buildSlice t len ps =>
    rw [hop] at h hok
    simp only [cop0] at h
    split at h
    · rename_i e he
      split at h
      · rename_i n z hn hz
        split at h
        · rename_i hlim
          simp only [Bool.and_eq_true, bne_iff_ne, ne_eq, decide_eq_true_eq] at hlim
          simp only [aalloc] at h
          obtain ⟨r, hr, h⟩ := Option.map_eq_some_iff.1 h
          obtain ⟨rfl, rfl⟩ := Prod.mk.inj h
          obtain ⟨i, zv, hi, hzv, hzr, hzl, hzo⟩ := czero_spec (ρ := ρ) hz
          obtain ⟨i', hi', hin⟩ := csize_spec hn
          rw [hi] at hi'; injection hi' with hi'; subst hi'
          have hz0 := VRs_zeros hzr len (len * n) (by rw [hzl, hin])
          obtain ⟨es, hfill, hes⟩ := fill_rel (ρ := ρ) hE (fun i => some (i * n, n)) ps.toList ((ps.toList.map fun (i, x) => (i, copd x)).map fun (i, x) => (i * n, n, x)) (zeros z len) ((Array.range (len * n)).map (fun i => zv.cells[i % zv.cells.size]!)) r
            (fun x hx => hok x.2 (by simp only [Op.operands, List.mem_toArray, List.mem_map]; exact ⟨x, hx, rfl⟩)) (by simp)
            (fun j i x off m y e1 e2 => by
              simp only [List.map_map] at e2
              rw [List.getElem?_map, e1] at e2
              simp at e2
              obtain ⟨rfl, rfl, rfl⟩ := e2
              exact ⟨rfl, rfl⟩) hz0 (by simpa [List.map_map, Function.comp_def] using hr)
          have hsz : es.size = len * n := by
            have h1 := hes.len
            have h2 : r.length = len * n := by
              have : ∀ (ps : List (Nat × Nat × AO)) (cs r : List AV), fillP env cs ps = some r → r.length = cs.length := by
                intro ps
                induction ps with
                | nil => intro cs r h; simp only [fillP] at h; injection h with h; subst h; rfl
                | cons p ps ih =>
                  obtain ⟨off, m, x⟩ := p
                  intro cs r h
                  simp only [fillP] at h
                  split at h
                  · rename_i hh
                    rw [ih _ _ h, length_setAt _ _ _ (by omega)]
                  · cases h
              rw [this _ _ _ hr, zeros_length, hzl, hin]
            simp at h1; omega
          have hu := slelem_spec he
          refine ⟨es, e, fun B => .slice (some ⟨B, 0, none⟩) len len, fun w => ?_, fun id ρ' B _ hid => ?_, r, rfl, ?_, hes, fillP_one _ _ _ (zeros_one hzo _) hr⟩
          · simp only [execOp, hop, Instr.buildSlice, Sem.run_bind, run_underlying hu, Result.andThen_ok, run_size hn]
            rw [if_neg (by omega)]
            simp only [Array.toList_map] at hfill
            by_cases h0 : len * n = 0
            · have hr0 : Array.range 0 = #[] := rfl
              rw [h0, hr0] at hfill
              simp only [Array.map_empty] at hfill
              simp [h0, hr0, hfill, newRow, pushW]
            · simp [h0, run_zero hi hzv, hfill, newRow, pushW]
          · simp only [VR]
            exact ⟨_, _, _, hid, rfl, Nat.le_refl _, fun k hk => by injection hk, .inr ⟨by simp, by simp [hsz]⟩⟩
          · have := hes.len; simp at this; omega
        · simp [aalloc] at h
      · simp [aalloc] at h
    · simp [aalloc] at h
  | makeSlice t l c =>
    rw [hop] at h hok
    simp only [cop0] at h
    split at h
    · rename_i e he
      split at h
      · rename_i n b' z hn hb hz
        split at h
        · rename_i hlim
          simp only [Bool.and_eq_true, bne_iff_ne, ne_eq, decide_eq_true_eq] at hlim
          simp only [aalloc] at h
          have hl := aev_rel hE (hok l (by simp [Op.operands]))
          have hcv := aev_rel hE (hok c (by simp [Op.operands]))
          split at h
          · rename_i li ci hl' hc'
            rw [hl'] at hl
            rw [hc'] at hcv
            simp only [VR] at hl hcv
            split at h
            · rename_i hb'
              obtain ⟨h0, h1, h2, h3⟩ := hb'
              injection h with h
              obtain ⟨rfl, rfl⟩ := Prod.mk.inj h
              obtain ⟨i, zv, hi, hzv, hzr, hzl, hzo⟩ := czero_spec (ρ := ρ) hz
              obtain ⟨i', hi', hin⟩ := csize_spec hn
              rw [hi] at hi'; injection hi' with hi'; subst hi'
              obtain ⟨i', hi', hbi⟩ := cbytes_spec hb
              rw [hi] at hi'; injection hi' with hi'; subst hi'
              have hz0 := VRs_zeros hzr ci.toNat (ci.toNat * n) (by rw [hzl, hin])
              have hu := slelem_spec he
              have wl : IntKind.i64.wrap li = li := by simp [IntKind.wrap, IntKind.bits, IntKind.signed]; omega
              have wc : IntKind.i64.wrap ci = ci := by simp [IntKind.wrap, IntKind.bits, IntKind.signed]; omega
              refine ⟨(Array.range (ci.toNat * n)).map (fun i => zv.cells[i % zv.cells.size]!), e, fun B => .slice (some ⟨B, 0, none⟩) li.toNat ci.toNat, fun w => ?_, fun id ρ' B _ hid => ?_, _, rfl, ?_, hz0, zeros_one hzo _⟩
              · simp only [execOp, hop, Instr.makeSlice, Sem.run_bind, run_underlying hu, Result.andThen_ok, hl, hcv, asInt, asIntOf, Sem.run_pure, run_info hi, wl, wc, hbi]
                rw [if_neg (by
                  unfold roomBytes at h2
                  simp only [Bool.or_eq_true, decide_eq_true_eq, not_or]
                  refine ⟨⟨⟨by omega, by omega⟩, by omega⟩, by omega⟩)]
                simp only [Sem.run_bind, run_askRoom, Result.andThen_ok, run_size hn]
                by_cases h0 : ci.toNat * n = 0
                · have hr0 : Array.range 0 = #[] := rfl
                  simp [h0, hr0, newRow, pushW]
                · simp only [h0, if_false]
                  simp [run_zero hi hzv, newRow, pushW]
              · simp only [VR]
                refine ⟨_, _, _, hid, rfl, by omega, fun k hk => by injection hk, .inr ⟨by simp, ?_⟩⟩
                simp [hzl, hin]
              · simp [zeros_length, hzl, hin]
            · cases h
          · cases h
        · simp [aalloc] at h
      · simp [aalloc] at h
    · simp [aalloc] at h
  | makeFunc fn first caps =>
    rw [hop] at h
    cases fn <;> simp only [cop0] at h <;> (try split at h) <;> simp [aalloc] at h
  | _ =>
    rw [hop] at h
    simp only [cop0, ccall] at h
    repeat' split at h
    all_goals first | (rw [covl_alloc] at h; cases h) | simp [aalloc] at h

end Go.AM
end
/-
  Operations that read memory and leave it alone. Own work of this project.
-/
section
namespace Go.AM
open Go

variable {P : Program} {ρ : Ren}

/-! ### Keys -/
theorem isK_val {f : FK} {v : AV} {c : Value} (h : v.isK f = true) (k : VR ρ v c) : (f = .b ∧ ∃ b, v = .bool b ∧ c = .bool b) ∨ (f = .i ∧ ∃ q n, v = .int q n ∧ c = .int q n) ∨ (f = .s ∧ ∃ s, v = .str s ∧ c = .string s) := by
  cases f <;> cases v <;> simp [AV.isK] at h <;> simp only [VR] at k <;> subst k <;> simp
theorem run_checkKey1 {t : TypeId} {f : FK} (hk : fkOf P t = some f) {v : AV} {c : Value} (h : v.isK f = true) (k : VR ρ v c) (e : Bool) (d : Nat) (w : World) : (Instr.checkKey e (d + 1) t c).run P w = .ok () w := by
  unfold fkOf at hk
  cases hu : P.underlying t with
  | none => simp [hu] at hk
  | some u =>
    simp only [hu] at hk
    rcases isK_val h k with ⟨rfl, b, rfl, rfl⟩ | ⟨rfl, q, n, rfl, rfl⟩ | ⟨rfl, s, rfl, rfl⟩ <;> cases u <;> simp at hk <;> simp [Instr.checkKey, run_underlying hu]

theorem areK_len : ∀ {ks : List FK} {xs : List AV}, AV.areK ks xs = true → xs.length = ks.length
  | [], [], _ => rfl
  | [], _ :: _, h => by simp [AV.areK] at h
  | _ :: _, [], h => by simp [AV.areK] at h
  | k :: ks, x :: xs, h => by
    simp only [AV.areK, Bool.and_eq_true] at h
    simp [areK_len h.2]
theorem areK_append : ∀ {ks ks' : List FK} {xs : List AV}, AV.areK (ks ++ ks') xs = true → AV.areK ks (xs.take ks.length) = true ∧ AV.areK ks' (xs.drop ks.length) = true
  | [], ks', xs, h => ⟨by simp [AV.areK], by simpa using h⟩
  | k :: ks, ks', [], h => by simp [AV.areK] at h
  | k :: ks, ks', x :: xs, h => by
    simp only [List.cons_append, AV.areK, Bool.and_eq_true] at h
    have := areK_append h.2
    exact ⟨by simp [AV.areK, h.1, this.1], by simpa using this.2⟩

def FlatKey (P : Program) (t : TypeId) (ks : List FK) (dd : Nat) : Prop :=
  ∀ (ρ : Ren) (xs : List AV) (cs : List Value) (e : Bool) (w : World), VRs ρ xs cs → AV.areK ks xs = true →
    ∀ a, (if cone P t then cs = [a] else a = .agg cs.toArray) → (Instr.checkKey e dd t a).run P w = .ok () w

def checkFields (e : Bool) (d : Nat) (xs : Array Value) : List Field → Sem Unit
  | [] => pure ()
  | f :: fs => do
    if f.name ≠ "_" then Instr.checkKey e d f.type (← part f.type xs f.offset)
    checkFields e d xs fs
theorem run_checkKey_struct {t : TypeId} {fs : Array Field} (hu : P.underlying t = some (.struct fs)) (e : Bool) (d : Nat) (xs : Array Value) (w : World) :
    (Instr.checkKey e (d + 1) t (.agg xs)).run P w = (checkFields e d xs fs.toList).run P w := by
  simp only [Instr.checkKey, Sem.run_bind, run_underlying hu, Result.andThen_ok]
  rw [← Array.forIn_toList]
  generalize fs.toList = l
  clear hu
  induction l generalizing w with
  | nil => simp [checkFields]
  | cons f l ih =>
    simp only [List.forIn_cons, checkFields, Sem.run_bind]
    split
    · simp only [Sem.run_bind]
      generalize (part f.type xs f.offset).run P w = r1
      cases r1 with
      | ok a w1 =>
        simp only [Result.andThen_ok]
        generalize (Instr.checkKey e d f.type a).run P w1 = r2
        cases r2 with
        | ok b w2 => simpa using ih w2
        | halt x w2 => simp [Result.andThen]
      | halt x w1 => simp [Result.andThen]
    · simpa using ih w

theorem ckey_fields {dd : Nat} {ok : TypeId → Option (List FK)} (IH : ∀ t ks, ok t = some ks → FlatKey P t ks dd) (hcone : ∀ t ks, ok t = some ks → (cone P t = true ∧ ks.length = 1) ∨ ∃ fs, P.underlying t = some (.struct fs)) {ρ : Ren} :
    ∀ (fs : List Field) (at_ n : Nat) (ks : List FK) (xs : List AV) (cs : List Value) (e : Bool) (w : World), cflat.cfields P ok fs at_ (some n) = some ks → VRs ρ xs cs → AV.areK ks (xs.drop at_) = true →
      (checkFields e dd cs.toArray fs).run P w = .ok () w
  | [], at_, n, ks, xs, cs, e, w, hc, hxs, he => by simp [checkFields]
  | f :: fs, at_, n, ks, xs, cs, e, w, hc, hxs, he => by
    simp only [cflat.cfields] at hc
    split at hc
    · rename_i hno
      simp only [Bool.and_eq_true, bne_iff_ne, ne_eq, beq_iff_eq] at hno
      obtain ⟨hname, hoff⟩ := hno
      split at hc
      · rename_i k1 m hok hm
        split at hc
        · rename_i hmk
          simp only [Bool.and_eq_true, bne_iff_ne, ne_eq, beq_iff_eq] at hmk
          obtain ⟨hm0, hkm⟩ := hmk
          obtain ⟨ks', hc', rfl⟩ := Option.map_eq_some_iff.1 hc
          have hlx := areK_len he
          simp only [List.length_drop, List.length_append] at hlx
          obtain ⟨e1, e2⟩ := areK_append he
          rw [hkm] at e1 e2
          simp only [List.drop_drop] at e2
          have hlc := hxs.len
          have hxp := (hxs.drop at_).take m
          have key : ∃ a, (part f.type cs.toArray f.offset).run P w = .ok a w ∧ (Instr.checkKey e dd f.type a).run P w = .ok () w := by
            rcases hcone f.type k1 hok with ⟨h1, hl1⟩ | ⟨gs, h1⟩
            · have hm1 : m = 1 := by omega
              subst hm1
              have hcl : at_ < cs.length := by omega
              refine ⟨cs[at_], ?_, ?_⟩
              · rw [hoff]; exact run_part_one h1 (List.getElem?_eq_getElem hcl) w
              · refine IH f.type k1 hok ρ _ _ e w hxp e1 _ ?_
                rw [if_pos h1]
                exact one_of_take hcl
            · refine ⟨_, by rw [hoff]; exact run_part_struct h1 hm cs at_ w, ?_⟩
              refine IH f.type k1 hok ρ _ _ e w hxp e1 _ ?_
              rw [if_neg (by simp [cone, h1])]
          obtain ⟨a, p1, p3⟩ := key
          have hn2 := ckey_fields IH hcone fs (at_ + m) n ks' xs cs e w hc' hxs (by simpa [Nat.add_comm] using e2)
          simp only [checkFields, hname, ne_eq, not_false_eq_true, if_true, Sem.run_bind, p1, p3, Result.andThen_ok]
          exact hn2
        · cases hc
      · cases hc
    · cases hc

theorem cflat_size {d : Nat} {t : TypeId} {fs : Array Field} {ks : List FK} (hu : P.underlying t = some (.struct fs)) (h : cflat P (d + 1) t = some ks) : ∃ n, csize P t = some n ∧ cflat.cfields P (cflat P d) fs.toList 0 (some n) = some ks := by
  unfold cflat at h
  simp only [hu] at h
  split at h
  · cases hs : csize P t with
    | some n => rw [hs] at h; exact ⟨n, rfl, h⟩
    | none =>
      exfalso
      rw [hs] at h
      have : ∀ (gs : List Field) (a : Nat) (ks : List FK), cflat.cfields P (cflat P d) gs a none = some ks → False := by
        intro gs
        induction gs with
        | nil => intro a ks h; simp [cflat.cfields] at h
        | cons g gs ih =>
          intro a ks h
          simp only [cflat.cfields] at h
          split at h
          · split at h
            · split at h
              · obtain ⟨_, h2, _⟩ := Option.map_eq_some_iff.1 h
                exact ih _ _ h2
              · cases h
            · cases h
          · cases h
      exact this _ _ _ h
  · cases h

theorem flat_key : ∀ (d : Nat) (t : TypeId) (ks : List FK), cflat P d t = some ks → ∀ dd, d ≤ dd → FlatKey P t ks dd
  | 0, t, ks, h, _, _ => by simp [cflat] at h
  | d + 1, t, ks, h, dd, hd => by
    intro ρ xs cs e w hxs he a hab
    obtain ⟨dd, rfl⟩ : ∃ k, dd = k + 1 := ⟨dd - 1, by omega⟩
    rcases cflat_cone h with ⟨hc, k, rfl, hk⟩ | ⟨fs, hu⟩
    · rw [if_pos hc] at hab
      subst hab
      have hl := areK_len he
      match xs, hl with
      | [x], _ =>
        simp only [VRs_cons] at hxs
        simp only [AV.areK, Bool.and_true] at he
        exact run_checkKey1 hk he hxs.1 e dd w
    · rw [if_neg (by simp [cone, hu])] at hab
      subst hab
      obtain ⟨n, _, hf⟩ := cflat_size hu h
      rw [run_checkKey_struct hu]
      refine ckey_fields (fun t ks ht => flat_key d t ks ht dd (by omega)) (fun t ks ht => ?_) fs.toList 0 n ks xs cs e w hf hxs (by simpa using he)
      rcases cflat_cone ht with ⟨h1, k, rfl, _⟩ | h1
      · exact .inl ⟨h1, rfl⟩
      · exact .inr h1

theorem ckk_cases {t : TypeId} {k : EK} (h : ckk P t = some k) : (∃ f, k = .ky f ∧ fkOf P t = some f) ∨ (∃ ks fs, k = .fl ks ∧ P.underlying t = some (.struct fs) ∧ cflat P 8 t = some ks) := by
  unfold ckk at h
  unfold fkOf
  split at h
  · rename_i hu; injection h with h; subst h; exact .inl ⟨_, rfl, by simp [hu]⟩
  · rename_i hu; injection h with h; subst h; exact .inl ⟨_, rfl, by simp [hu]⟩
  · rename_i hu; injection h with h; subst h; exact .inl ⟨_, rfl, by simp [hu]⟩
  · rename_i fs hu
    obtain ⟨ks, hks, rfl⟩ := Option.map_eq_some_iff.1 h
    exact .inr ⟨ks, fs, rfl, hu, hks⟩
  · cases h
theorem key_agg {ks : List FK} {v : AV} (h : v.key (.fl ks) = true) : ∃ xs, v = .agg xs ∧ AV.areK ks xs = true := by
  cases v <;> simp [AV.key] at h
  exact ⟨_, rfl, h⟩
theorem key_ky {f : FK} {v : AV} (h : v.key (.ky f) = true) : v.isK f = true := by
  cases v <;> simpa [AV.key] using h
theorem run_checkKey_ok {t : TypeId} {k : EK} (hk : ckk P t = some k) {v : AV} {c : Value} (h : v.key k = true) (hv : VR ρ v c) (e : Bool) (w : World) : (Instr.checkKey e 10000 t c).run P w = .ok () w := by
  rcases ckk_cases hk with ⟨f, rfl, hf⟩ | ⟨ks, fs, rfl, hu, hks⟩
  · exact run_checkKey1 hf (key_ky h) hv e 9999 w
  · obtain ⟨xs, rfl, hx⟩ := key_agg h
    simp only [VR] at hv
    obtain ⟨cs, rfl, hv⟩ := hv
    exact flat_key 8 t ks hks 10000 (by omega) ρ xs cs e w hv hx _ (by rw [if_neg (by simp [cone, hu])])

/-! ### Looking up -/
theorem run_eqK {t : TypeId} {k : EK} (hk : ckk P t = some k) {x y : AV} {cx cy : Value} {r : Bool} (hx : VR ρ x cx) (hy : VR ρ y cy) (h : eqK k x y = some r) (w : World) : (Op.equal t cx cy).run P w = .ok r w := by
  show (Op.equalIn 10000 t cx cy).run P w = _
  rcases ckk_cases hk with ⟨f, rfl, hf⟩ | ⟨ks, fs, rfl, hu, hks⟩
  · exact run_eqF hf hx hy (by simpa [eqK] using h) 9999 w
  · simp only [eqK] at h
    cases x <;> cases y <;> simp at h
    simp only [VR] at hx hy
    obtain ⟨cs, rfl, hx⟩ := hx
    obtain ⟨ds, rfl, hy⟩ := hy
    exact flat_eq 8 t ks hks 10000 (by omega) ρ _ _ cs ds r w hx hy h _ _ (by rw [if_neg (by simp [cone, hu])]; exact ⟨rfl, rfl⟩)

def ERs (ρ : Ren) (es : List (AV × AV × Nat)) (ms : List MapEntry) : Prop := es.length = ms.length ∧ ∀ (i : Nat) (e : AV × AV × Nat), es[i]? = some e → ∃ m, ms[i]? = some m ∧ ER ρ e m
theorem ERs.cons {e : AV × AV × Nat} {es : List (AV × AV × Nat)} {m : MapEntry} {ms : List MapEntry} (h : ERs ρ (e :: es) (m :: ms)) : ER ρ e m ∧ ERs ρ es ms := by
  obtain ⟨h1, h2⟩ := h
  refine ⟨?_, by simpa using h1, fun i e' he => ?_⟩
  · obtain ⟨m', hm, he⟩ := h2 0 e (by simp)
    simp at hm; subst hm; exact he
  · obtain ⟨m', hm, he⟩ := h2 (i + 1) e' (by simpa using he)
    exact ⟨m', by simpa using hm, he⟩
/-- What is found: the place, and the value. -/
def Found (ρ : Ren) (r : Option (Nat × AV)) (q : Option (Nat × Value)) : Prop :=
  match r, q with
  | none, none => True
  | some (j, v), some (j', c) => j = j' ∧ VR ρ v c
  | _, _ => False
theorem run_findAsking {t : TypeId} {k : EK} (hk : ckk P t = some k) {x : AV} {cx : Value} (hx : VR ρ x cx) : ∀ {es : List (AV × AV × Nat)} {ms : List MapEntry} (i : Nat) {r : Option (Nat × AV)} (w : World), ERs ρ es ms → findE k x es i = some r →
    ∃ q, (Instr.findAsking t cx ms i).run P w = .ok q w ∧ Found ρ r q
  | [], [], i, r, w, _, h => by
    simp only [findE] at h; injection h with h; subst h
    exact ⟨none, by simp [Instr.findAsking], trivial⟩
  | [], _ :: _, _, _, _, hE, _ => by simp [ERs] at hE
  | _ :: _, [], _, _, _, hE, _ => by simp [ERs] at hE
  | (y, v, b) :: es, m :: ms, i, r, w, hE, h => by
    obtain ⟨⟨h1, h2, h3⟩, hr⟩ := hE.cons
    simp only [findE] at h
    cases he : eqK k x y with
    | none => simp [he] at h
    | some q =>
      have hrun := run_eqK hk hx h1 he w
      cases q with
      | true =>
        simp only [he] at h
        injection h with h; subst h
        exact ⟨some (i, m.val), by simp [Instr.findAsking, hrun], rfl, h2⟩
      | false =>
        simp only [he] at h
        obtain ⟨q, hq, hm⟩ := run_findAsking hk hx (i + 1) w hr h
        exact ⟨q, by simp [Instr.findAsking, hrun, hq], hm⟩
theorem findNow_of {d : TypeDesc} {f : FK} (hd : (match d with | .bool => some FK.b | .int _ => some .i | .string => some .s | _ => none) = some f) {x : AV} {cx : Value} (hx : VR ρ x cx) : ∀ {es : List (AV × AV × Nat)} {ms : List MapEntry} (i : Nat) {r : Option (Nat × AV)},
    ERs ρ es ms → findE (.ky f) x es i = some r → ∃ q, Instr.findNow d cx ms i = some q ∧ Found ρ r q
  | [], [], i, r, _, h => by
    simp only [findE] at h; injection h with h; subst h
    exact ⟨none, by simp [Instr.findNow], trivial⟩
  | [], _ :: _, _, _, hE, _ => by simp [ERs] at hE
  | _ :: _, [], _, _, hE, _ => by simp [ERs] at hE
  | (y, v, b) :: es, m :: ms, i, r, hE, h => by
    obtain ⟨⟨h1, h2, h3⟩, hr⟩ := hE.cons
    simp only [findE, eqK] at h
    have hsame : ∀ q, eqF f x y = some q → Instr.sameNow d cx m.key = some q := by
      intro q hq
      cases d <;> simp at hd <;> subst hd
      · obtain ⟨a, b, rfl, rfl, rfl⟩ := eqF_bo hq
        simp only [VR] at hx h1; subst hx; rw [h1]; rfl
      · obtain ⟨k, a, b, rfl, rfl, rfl⟩ := eqF_i hq
        simp only [VR] at hx h1; subst hx; rw [h1]; simp [Instr.sameNow]
      · obtain ⟨a, b, rfl, rfl, rfl⟩ := eqF_s hq
        simp only [VR] at hx h1; subst hx; rw [h1]; rfl
    cases he : eqF f x y with
    | none => simp [he] at h
    | some q =>
      have hs := hsame q he
      cases q with
      | true =>
        simp only [he] at h
        injection h with h; subst h
        exact ⟨some (i, m.val), by simp [Instr.findNow, hs], rfl, h2⟩
      | false =>
        simp only [he] at h
        obtain ⟨q, hq, hm⟩ := findNow_of hd hx (i + 1) hr h
        exact ⟨q, by simp [Instr.findNow, hs, hq], hm⟩
theorem findNow_struct {fs : Array Field} {cx : Value} : ∀ (ms : List MapEntry) (i : Nat) (q : Option (Nat × Value)), Instr.findNow (.struct fs) cx ms i = some q → ms = [] ∧ q = none
  | [], i, q, h => by simp [Instr.findNow] at h; exact ⟨rfl, h.symm⟩
  | m :: ms, i, q, h => by simp [Instr.findNow, Instr.sameNow] at h
theorem run_findKey {t : TypeId} {k : EK} (hk : ckk P t = some k) {x : AV} {cx : Value} (hx : VR ρ x cx) {es : List (AV × AV × Nat)} {ms : List MapEntry} {r : Option (Nat × AV)} (w : World) (hE : ERs ρ es ms) (h : findE k x es 0 = some r) :
    ∃ q, (Instr.findKey t cx ms).run P w = .ok q w ∧ Found ρ r q := by
  rcases ckk_cases hk with ⟨f, rfl, hf⟩ | ⟨ks, fs, rfl, hu, hks⟩
  · unfold fkOf at hf
    cases hu : P.underlying t with
    | none => simp [hu] at hf
    | some d =>
      rw [hu] at hf
      obtain ⟨q, hq, hm⟩ := findNow_of (d := d) (f := f) (by cases d <;> first | (simp at hf; done) | simpa using hf) hx 0 hE h
      exact ⟨q, by simp [Instr.findKey, run_underlying hu, hq], hm⟩
  · obtain ⟨q, hq, hm⟩ := run_findAsking hk hx 0 w hE h
    cases hn : Instr.findNow (.struct fs) cx ms 0 with
    | none => exact ⟨q, by simp [Instr.findKey, run_underlying hu, hn, hq], hm⟩
    | some z =>
      obtain ⟨rfl, rfl⟩ := findNow_struct ms 0 z hn
      simp [Instr.findAsking] at hq
      subst hq
      exact ⟨none, by simp [Instr.findKey, run_underlying hu, hn], hm⟩

/-! ### Cells -/
theorem row_cells {s : St} {w : World} (hR : R s ρ w) {id : Nat} {cells : List AV} {own : Bool} {L : Loc} (hg : s.get id = some (.row cells own)) (hL : ρ id = some L) :
    ∃ (cs : Array Value) (e : TypeId) (fr : Nat × Nat), w.heap[L.b]? = some (.cells cs e fr) ∧ cs.size = L.n ∧ L.o + cells.length ≤ L.n ∧ VRs ρ cells ((cs.toList.drop L.o).take cells.length) ∧ (own = true → ∀ i, i ≤ L.n → (fr.1 ≤ i && i < fr.2) = false) ∧ cells.all AV.one = true := by
  have := hR.blk id _ L hg hL
  simp only [BlkOk] at this
  obtain ⟨cs, e, fr, h1, h2, h3, h4, h5⟩ := this
  refine ⟨cs, e, fr, h1, h2, h3, VRs.of (by simp; omega) fun i v hv => ?_, h5⟩
  obtain ⟨c, hc, hvc⟩ := h4 i v hv
  have hi := (List.getElem?_eq_some_iff.1 hv).1
  refine ⟨c, ?_, hvc⟩
  rw [List.getElem?_take_of_lt hi, List.getElem?_drop]
  simpa using hc
theorem cell_at {w : World} {b : Nat} {cs : Array Value} {e : TypeId} {fr : Nat × Nat} (h : w.heap[b]? = some (.cells cs e fr)) (o : Nat) : w.cell? ⟨b, o, none⟩ = cs[o]? := by simp [World.cell?, h]

theorem run_loadCells_at {w : World} {b o : Nat} {cs : Array Value} {e : TypeId} {fr : Nat × Nat} (h : w.heap[b]? = some (.cells cs e fr)) (n : Nat) (hn : o + n ≤ cs.size) :
    (loadCells ⟨b, o, none⟩ n).run P w = .ok ((cs.toList.drop o).take n).toArray w := by
  have hl : ((cs.toList.drop o).take n).length = n := by simp; omega
  have := run_loadCells_list (P := P) w ⟨b, o, none⟩ ((cs.toList.drop o).take n) (fun j v hv => by
    have hj : j < n := by have := (List.getElem?_eq_some_iff.1 hv).1; omega
    rw [addr_add, cell_at h]
    rw [List.getElem?_take_of_lt hj, List.getElem?_drop] at hv
    simpa using hv)
  rwa [hl] at this

/-- The cells that a slice or a string shows, as the model reads them. -/
theorem run_shown {s : St} {w : World} (hR : R s ρ w) {sz : Nat} {x : AV} {c : Value} {xs : List AV} {k : Nat} (hx : VR ρ x c) (h : shown s sz x = some xs) (hk : lenOf x = some k) (m : Nat) (hm : m ≤ k) :
    xs.all AV.one = true ∧ xs.length = k * sz ∧ (∀ w, (Builtin.lenOf c).run P w = .ok k w) ∧ ∃ cs : List Value, (∀ w2 : World, w2.heap = w.heap → (Builtin.firstCells sz m c).run P w2 = .ok cs.toArray w2) ∧ VRs ρ (xs.take (m * sz)) cs := by
  cases x <;> simp [shown] at h <;> simp [lenOf] at hk
  · subst hk
    obtain ⟨rfl, h⟩ := h
    subst h
    rename_i b
    simp only [VR] at hx; subst hx
    refine ⟨bytesAV_one b, by simp [bytesAV], by simp [Builtin.lenOf], ((b.data.toList.take m).map fun u => Value.int .u8 (u.toNat : Int)), fun w2 _ => ?_, ?_⟩
    · simp only [Builtin.firstCells, Sem.run_pure]
      congr 1
      apply Array.ext'
      simp
    · have : (bytesAV b).take (m * 1) = (b.data.toList.take m).map fun u => AV.int .u8 (u.toNat : Int) := by simp [bytesAV, List.map_take]
      rw [this]
      refine VRs.of (by simp) fun i v hv => ?_
      rw [List.getElem?_map] at hv ⊢
      obtain ⟨u, hu, rfl⟩ := Option.map_eq_some_iff.1 hv
      exact ⟨.int .u8 (u.toNat : Int), by simp [hu], by simp [VR]⟩
  · subst hk
    rename_i id off len cap z
    obtain ⟨rfl, h⟩ := h
    split at h
    · rename_i cells own hg
      split at h
      · rename_i hlen
        injection h with h; subst h
        simp only [VR] at hx
        obtain ⟨L, A, cc, hL, rfl, hlc, _, hc⟩ := hx
        obtain ⟨cs, e, fr, h1, h2, h3, h4, _, h6⟩ := row_cells hR hg hL
        refine ⟨?_, by simp; omega, by simp [Builtin.lenOf], ?_⟩
        · rw [List.all_eq_true] at h6 ⊢
          intro x hx
          exact h6 x (List.mem_of_mem_drop (List.mem_of_mem_take hx))
        rcases hc with hc | ⟨rfl, hc⟩
        · have hm0 : m = 0 := by omega
          subst hm0
          exact ⟨[], fun _ _ => by simp [Builtin.firstCells, loadCells, loadCellsFrom], by simpa using VRs_nil⟩
        · have hmz : m * z ≤ len * z := Nat.mul_le_mul_right z hm
          refine ⟨(cs.toList.drop (L.o + off)).take (m * z), fun w2 hw2 => ?_, ?_⟩
          · simp only [Builtin.firstCells]
            exact run_loadCells_at (w := w2) (by rw [hw2]; exact h1) (m * z) (by omega)
          · have := ((h4.drop off).take (len * z)).take (m * z)
            rw [List.drop_take, List.drop_drop, List.take_take, List.take_take, List.take_take] at this
            rw [show min (m * z) (len * z) = m * z by omega, show min (m * z) (cells.length - off) = m * z by omega] at this
            rw [List.take_take, show min (m * z) (len * z) = m * z by omega]
            exact this
      · cases h
    · cases h
  · subst h; subst hk
    simp only [VR] at hx; subst hx
    exact ⟨rfl, by simp, by simp [Builtin.lenOf], [], fun _ _ => by simp [Builtin.firstCells], by simpa using VRs_nil⟩

/-! ### Reading -/
theorem run_shownP {s : St} {w : World} (hR : R s ρ w) {sz m : Nat} {x : AV} {c : Value} {xs : List AV} {k : Nat} (hx : VR ρ x c) (h : shownP s sz m x = some xs) (hk : lenOf x = some k) (hm : m ≤ k) :
    xs.all AV.one = true ∧ xs.length = m * sz ∧ (∀ w, (Builtin.lenOf c).run P w = .ok k w) ∧ ∃ cs : List Value, (∀ w2 : World, w2.heap = w.heap → (Builtin.firstCells sz m c).run P w2 = .ok cs.toArray w2) ∧ VRs ρ xs cs := by
  have key : ∀ (v : AV), x = v → (∀ id off len cap z, v ≠ .sl id off len cap z) → xs.all AV.one = true ∧ xs.length = m * sz ∧ (∀ w, (Builtin.lenOf c).run P w = .ok k w) ∧ ∃ cs : List Value, (∀ w2 : World, w2.heap = w.heap → (Builtin.firstCells sz m c).run P w2 = .ok cs.toArray w2) ∧ VRs ρ xs cs := by
    rintro v rfl hv
    have h' : (shown s sz x).map (fun cs => cs.take (m * sz)) = some xs := by
      unfold shownP at h
      split at h
      · exact absurd rfl (hv _ _ _ _ _)
      · exact h
    obtain ⟨ys, hys, rfl⟩ := Option.map_eq_some_iff.1 h'
    obtain ⟨h1, h2, h3, cs, h4, h5⟩ := run_shown (P := P) hR hx hys hk m hm
    have hmk : m * sz ≤ k * sz := Nat.mul_le_mul_right sz hm
    refine ⟨?_, by rw [List.length_take]; omega, h3, cs, h4, h5⟩
    rw [List.all_eq_true] at h1 ⊢
    intro y hy
    exact h1 y (List.mem_of_mem_take hy)
  cases x
  case sl id off len cap z =>
    simp only [lenOf, Option.some.injEq] at hk
    subst hk
    simp only [shownP] at h
    split at h
    · rename_i hz
      obtain ⟨rfl, _⟩ := hz
      split at h
      · rename_i cells own hg
        split at h
        · rename_i hlen
          injection h with h; subst h
          simp only [VR] at hx
          obtain ⟨L, A, cc, hL, rfl, hlc, _, hc⟩ := hx
          obtain ⟨cs, e, fr, h1, h2, h3, h4, _, h6⟩ := row_cells hR hg hL
          refine ⟨?_, by simp; omega, by simp [Builtin.lenOf], ?_⟩
          · rw [List.all_eq_true] at h6 ⊢
            intro x hx
            exact h6 x (List.mem_of_mem_drop (List.mem_of_mem_take hx))
          rcases hc with hc | ⟨rfl, hc⟩
          · have hm0 : m = 0 := by omega
            subst hm0
            exact ⟨[], fun _ _ => by simp [Builtin.firstCells, loadCells, loadCellsFrom], by simpa using VRs_nil⟩
          · refine ⟨(cs.toList.drop (L.o + off)).take (m * z), fun w2 hw2 => ?_, ?_⟩
            · simp only [Builtin.firstCells]
              exact run_loadCells_at (w := w2) (by rw [hw2]; exact h1) (m * z) (by omega)
            · have := (h4.drop off).take (m * z)
              rw [List.drop_take, List.drop_drop, List.take_take, show min (m * z) (cells.length - off) = m * z by omega] at this
              exact this
        · cases h
      · cases h
    · cases h
  all_goals exact key _ rfl (by intros; simp)

theorem unbytes_spec : ∀ {xs : List AV} {cs : List Value} {l : List UInt8}, VRs ρ xs cs → unbytes xs = some l → ∃ ns : List Int, cs = ns.map (fun n => Value.int .u8 n) ∧ l = ns.map fun n => UInt8.ofNat n.toNat
  | [], cs, l, h, hu => by
    simp only [VRs] at h; subst h
    simp only [unbytes] at hu; injection hu with hu; subst hu
    exact ⟨[], rfl, rfl⟩
  | x :: xs, cs, l, h, hu => by
    simp only [VRs] at h
    obtain ⟨c, r, rfl, h1, h2⟩ := h
    cases x <;> try (simp [unbytes] at hu; done)
    rename_i k n
    cases k <;> simp only [unbytes] at hu <;> try (cases hu; done)
    obtain ⟨l', hl', rfl⟩ := Option.map_eq_some_iff.1 hu
    obtain ⟨ns, rfl, rfl⟩ := unbytes_spec h2 hl'
    simp only [VR] at h1; subst h1
    exact ⟨n :: ns, rfl, rfl⟩
theorem run_b2s_loop : ∀ (ns : List Int) (s : ByteArray) (w : World), (forIn (m := Sem) (ns.map fun n => Value.int .u8 n) s fun c s => (do
      let .int .u8 n := c | stuck "bytesToString: byte expected"
      pure (ForInStep.yield (s.push (UInt8.ofNat n.toNat))) : Sem (ForInStep ByteArray))).run P w = .ok ⟨s.data ++ (ns.map fun n => UInt8.ofNat n.toNat).toArray⟩ w
  | [], s, w => by simp
  | n :: ns, s, w => by
    simp only [List.map_cons, List.forIn_cons, Sem.run_bind, Sem.run_pure, Result.andThen_ok]
    rw [run_b2s_loop ns]
    congr 2
    apply Array.ext'
    simp [ByteArray.push]
theorem y_b2s {s : St} {w : World} (hR : R s ρ w) {x : AV} {c : Value} {xs : List AV} {l : List UInt8} (hx : VR ρ x c) (hs : ∀ b, x ≠ .str b) (h : shown s 1 x = some xs) (hu : unbytes xs = some l) :
    (Conv.bytesToString c).run P w = .ok (.string ⟨l.toArray⟩) w := by
  cases x <;> simp [shown] at h
  · exact absurd rfl (hs _)
  · rename_i id off len cap z
    obtain ⟨rfl, h⟩ := h
    split at h
    · rename_i cells own hg
      split at h
      · rename_i hlen
        injection h with h; subst h
        simp only [VR] at hx
        obtain ⟨L, A, cc, hL, rfl, hlc, _, hc⟩ := hx
        obtain ⟨cs, e, fr, h1, h2, h3, h4, _⟩ := row_cells hR hg hL
        rcases hc with hc | ⟨rfl, hc⟩
        · have hm0 : len = 0 := by omega
          subst hm0
          simp [unbytes] at hu
          subst hu
          simp [Conv.bytesToString, loadCells, loadCellsFrom]
          rfl
        · have hv := (h4.drop off).take len
          rw [List.drop_take, List.drop_drop, List.take_take] at hv
          rw [show min len (cells.length - off) = len by omega] at hv
          obtain ⟨ns, hns, rfl⟩ := unbytes_spec hv hu
          have hld := run_loadCells_at (P := P) h1 (o := L.o + off) len (by omega)
          simp only [Conv.bytesToString, Sem.run_bind, hld, Result.andThen_ok]
          rw [hns]
          have hlp := run_b2s_loop (P := P) ns ByteArray.empty w
          rw [← List.forIn_toArray] at hlp
          refine Eq.trans (congrArg (fun r => Result.andThen r fun a w' => Sem.run P (pure (Value.string a)) w') hlp) ?_
          simp
      · cases h
    · cases h
  · subst h
    simp [unbytes] at hu
    subst hu
    simp only [VR] at hx; subst hx
    simp [Conv.bytesToString]
    rfl

theorem map_entries {s : St} {w : World} (hR : R s ρ w) {id : Nat} {es : List (AV × AV × Nat)} {ck : Nat} {L : Loc} (hg : s.get id = some (.map es ck)) (hL : ρ id = some L) :
    ∃ ces : Array MapEntry, w.heap[L.b]? = some (.map ces ck) ∧ ERs ρ es ces.toList := by
  have := hR.blk id _ L hg hL
  simp only [BlkOk] at this
  obtain ⟨ces, h1, h2, h3⟩ := this
  exact ⟨ces, h1, by simpa using h2, fun i e he => by obtain ⟨m, hm, hr⟩ := h3 i e he; exact ⟨m, by simpa using hm, hr⟩⟩

theorem y_look {s : St} {w : World} (hR : R s ρ w) {t kt e : TypeId} {k : EK} {zv : Value} {z m i : AV} {cm ci : Value} {ok : Bool} {inf : TypeInfo} {v : AV} (hu : P.underlying t = some (.map kt e)) (hk : ckk P kt = some k) (hi : P.info? e = some inf) (hz : inf.zero = some zv)
    (hzr : VR ρ z zv) (hm : VR ρ m cm) (hiv : VR ρ i ci) (hkey : i.key k = true)
    (h : (match (generalizing := false) m with
      | .nilm => some (if ok then AV.tup [z, .bool false] else z)
      | .mp id => match s.get id with
        | some (.map es _) => match findE k i es 0 with
          | some (some (_, v)) => some (if ok then .tup [v, .bool true] else v)
          | some none => some (if ok then .tup [z, .bool false] else z)
          | none => none
        | _ => none
      | _ => none) = some v) : ∃ c, VR ρ v c ∧ (Instr.lookup t cm ci ok).run P w = .ok c w := by
  have hck := fun em w => run_checkKey_ok (P := P) hk hkey hiv em w
  cases m <;> simp at h
  · rename_i id
    simp only [VR] at hm
    obtain ⟨L, hL, rfl⟩ := hm
    split at h
    · rename_i es ck hg
      obtain ⟨ces, hh, hE⟩ := map_entries hR hg hL
      have hget : (getObj L.b).run P w = .ok (.map ces ck) w := by simp [getObj, Sem.run, hh]
      split at h
      · rename_i j v' hf
        injection h with h; subst h
        obtain ⟨q, hq, hfd⟩ := run_findKey (P := P) hk hiv w hE hf
        cases q with
        | none => exact absurd hfd (by simp [Found])
        | some jc =>
          obtain ⟨j', c⟩ := jc
          simp only [Found] at hfd
          cases ok
          · exact ⟨c, by simpa using hfd.2, by simp [Instr.lookup, run_underlying hu, hget, hck, hq]⟩
          · refine ⟨.tuple #[c, .bool true], ?_, by simp [Instr.lookup, run_underlying hu, hget, hck, hq]⟩
            simp only [if_true, VR]
            exact ⟨[c, .bool true], rfl, VRs_cons.2 ⟨hfd.2, VRs_cons.2 ⟨by simp [VR], VRs_nil⟩⟩⟩
      · rename_i hf
        injection h with h; subst h
        obtain ⟨q, hq, hfd⟩ := run_findKey (P := P) hk hiv w hE hf
        cases q with
        | some jc => exact absurd hfd (by simp [Found])
        | none =>
          cases ok
          · exact ⟨zv, by simpa using hzr, by simp [Instr.lookup, run_underlying hu, hget, hck, hq, run_zero hi hz]⟩
          · refine ⟨.tuple #[zv, .bool false], ?_, by simp [Instr.lookup, run_underlying hu, hget, hck, hq, run_zero hi hz]⟩
            simp only [if_true, VR]
            exact ⟨[zv, .bool false], rfl, VRs_cons.2 ⟨hzr, VRs_cons.2 ⟨by simp [VR], VRs_nil⟩⟩⟩
      · cases h
    · cases h
  · subst h
    simp only [VR] at hm; subst hm
    obtain ⟨q, hq, hfd⟩ := run_findKey (P := P) (ρ := ρ) hk hiv (es := []) (ms := []) (r := none) w ⟨rfl, by simp⟩ rfl
    cases q with
    | some jc => exact absurd hfd (by simp [Found])
    | none =>
      cases ok
      · exact ⟨zv, by simpa using hzr, by simp [Instr.lookup, run_underlying hu, hck, hq, run_zero hi hz]⟩
      · refine ⟨.tuple #[zv, .bool false], ?_, by simp [Instr.lookup, run_underlying hu, hck, hq, run_zero hi hz]⟩
        simp only [if_true, VR]
        exact ⟨[zv, .bool false], rfl, VRs_cons.2 ⟨hzr, VRs_cons.2 ⟨by simp [VR], VRs_nil⟩⟩⟩

/-- Reads that are no calls. -/
theorem ERs.find {st : Nat} : ∀ {es : List (AV × AV × Nat)} {ms : List MapEntry} {e : AV × AV × Nat}, ERs ρ es ms → (es.find? fun e => e.2.2 == st) = some e → ∃ m, (ms.find? (·.born == st)) = some m ∧ ER ρ e m
  | [], ms, e, _, h => by simp at h
  | x :: es, [], e, hE, h => by have := hE.1; simp at this
  | x :: es, m :: ms, e, hE, h => by
    obtain ⟨h1, h2⟩ := hE.cons
    by_cases hb : x.2.2 = st
    · have : x = e := by simpa [List.find?_cons, hb] using h
      subst this
      exact ⟨m, by simp [List.find?_cons, h1.2.2, hb], h1⟩
    · have hx : (x.2.2 == st) = false := by simpa using hb
      rw [List.find?_cons, hx] at h
      obtain ⟨m', e1, e2⟩ := ERs.find h2 h
      exact ⟨m', by rw [List.find?_cons, h1.2.2, hx]; exact e1, e2⟩
theorem y_entry {s : St} {w : World} (hR : R s ρ w) {x v : AV} {c : Value} (hx : VR ρ x c)
    (h : (match (generalizing := false) x with
      | .ptr id 0 => match s.get id with
        | some (.iter (some m) _ seen last) => match seen.getLast?, s.get m with
          | some stamp, some (.map es ck) => if ck = last then (es.find? fun e => e.2.2 == stamp).map fun e => AV.tup [e.1, e.2.1] else none
          | _, _ => none
        | _ => none
      | _ => none) = some v) : ∃ cv, VR ρ v cv ∧ (Instr.entry c).run P w = .ok cv w := by
  cases x <;> try (simp at h; done)
  rename_i id off
  cases off with
  | succ off => simp at h
  | zero =>
    simp only [VR] at hx
    obtain ⟨L, hL, rfl⟩ := hx
    simp only at h
    cases hg : s.get id with
    | none => rw [hg] at h; simp at h
    | some b =>
      rw [hg] at h
      cases b <;> try (simp at h; done)
      rename_i m since seen last
      cases m with
      | none => simp at h
      | some m =>
        simp only at h
        cases hsl : seen.getLast? with
        | none => rw [hsl] at h; simp at h
        | some stamp =>
          rw [hsl] at h
          cases hgm : s.get m with
          | none => rw [hgm] at h; simp at h
          | some bm =>
            rw [hgm] at h
            cases bm <;> try (simp at h; done)
            rename_i es ck
            simp only at h
            split at h
            · rename_i hck
              obtain ⟨e, he, rfl⟩ := Option.map_eq_some_iff.1 h
              have hb := hR.blk id _ L hg hL
              simp only [BlkOk] at hb
              obtain ⟨m', k1, k2, k3⟩ := hb
              rcases k3 with ⟨k3, _⟩ | ⟨id', M, k4, k5, k6⟩
              · cases k3
              · injection k4 with k4; subst k4; subst k6
                obtain ⟨ces, hh, hEr⟩ := map_entries hR hgm k5
                obtain ⟨me, hme, hke, hve, hbe⟩ := hEr.find he
                refine ⟨.tuple #[me.key, me.val], by simp only [VR]; exact ⟨[me.key, me.val], rfl, VRs_cons.2 ⟨hke, VRs_cons.2 ⟨hve, VRs_nil⟩⟩⟩, ?_⟩
                have hbk : seen.toArray.back? = some stamp := by simpa using hsl
                have hf : ces.find? (·.born == stamp) = some me := by rw [← Array.find?_toList]; exact hme
                subst hck
                simp [Instr.entry, k2, getObj, Sem.run, Sem.run_bind, k1, hh, hbk, hf]
            · cases h

/-- The model's entry for slices.overlaps at two slices in two blocks. -/
theorem run_overlaps_apart {w : World} {params results : Array TypeId} {tS e : TypeId} (hp : params[0]? = some tS) (ht : P.underlying tS = some (.slice e)) {size : Nat} (hz : csize P e = some size)
    {a b : Addr} {la ca lb cb : Nat} (hne : a.block ≠ b.block) {csa csb : Array Value} {ea eb : TypeId} {fa fb : Nat × Nat}
    (ha : w.heap[a.block]? = some (.cells csa ea fa)) (hb : w.heap[b.block]? = some (.cells csb eb fb)) (hkb : csb.size ≠ 0)
    (hfa : w.frozen? a = false) (hfe : w.frozen? { block := a.block, off := csa.size } = false) :
    (Extern.SlicesOverlaps.overlaps params results #[.slice (some a) la ca, .slice (some b) lb cb]).run P w = .ok (.bool false) w := by
  have hnb : (a.block != b.block) = true := by simpa using hne
  have hnb' : (a.block == b.block) = false := by simpa using hne
  have hzr : ∀ w, (Go.sizeOf e).run P w = .ok size w := fun w => run_size hz w
  have hsa : w.shape? a.block = some (ea, csa.size) := by simp [World.shape?, ha]
  have hsb : w.shape? b.block = some (eb, csb.size) := by simp [World.shape?, hb]
  have hp0 : params[0]? = some tS := hp
  change Sem.run P (α := Value) (do
    let some t := params[0]? | stuck "slices.overlaps: no parameter types"
    let .slice elem ← underlying t | stuck "slices.overlaps: slice type expected"
    let size ← sizeOf elem
    match (some a : Option Addr), (some b : Option Addr) with
    | some a, some b =>
      if la = 0 ∨ lb = 0 ∨ size = 0 then pure (Value.bool false)
      else if a.block != b.block && (← frozen a) && (← frozen b) then unsupported .addressObserved
      else do
        if a.block != b.block then do
          noView a; noView b
          if ← mayBeOne a b then return Value.bool ((← choose (.extern "sameAddr.stringBytes" 2)) == 1)
        pure (Value.bool (a.block == b.block && a.off < b.off + lb * size && b.off < a.off + la * size))
    | _, _ => pure (Value.bool false)) w = _
  rw [hp0]
  by_cases h0 : la = 0 ∨ lb = 0 ∨ size = 0
  · simp [run_underlying ht, hzr, h0]
  · cases hk : csb.size with
    | zero => exact absurd hk hkb
    | succ k =>
      rw [hk] at hsb
      simp [run_underlying ht, hzr, h0, hnb, hnb', frozen, noView, viewAt, mayBeOne, stringish, shape, Sem.run, hsa, hsb, hfa, hfe]
theorem y_ovl {env : Env} {call : Nat → List AV → St → Option (AV × St)} {s : St} {w : World} (hR : R s ρ w) {f : Nat} (hf : isOvl P f = true) {x y : AO} {cx cy : Value} (hx : VR ρ (aev env x) cx) (hy : VR ρ (aev env y) cy) {v : AV} (h : aread call env s (.ovl x y) = some v) :
    v = .bool false ∧ (callFunc f #[cx, cy]).run P w = .ok (.value (.bool false)) w := by
  simp only [aread] at h
  split at h
  · rename_i i oi n ci zi j oj m cj zj h1 h2
    split at h
    · rename_i hc
      obtain ⟨hij, hn, hm⟩ := hc
      split at h
      · rename_i r1 h2' r2 g1 g2
        injection h with h
        subst h
        refine ⟨rfl, ?_⟩
        rw [h1] at hx
        rw [h2] at hy
        simp only [VR] at hx hy
        obtain ⟨L, A, k, hL, rfl, hle, _, hk⟩ := hx
        obtain ⟨M, B, q, hM, rfl, hle2, _, hq⟩ := hy
        obtain ⟨rfl, hk⟩ := hk.resolve_left (by omega)
        obtain ⟨rfl, hq⟩ := hq.resolve_left (by omega)
        obtain ⟨csa, ea, fa, a1, a2, a3, _, a5, _⟩ := row_cells hR g1 hL
        obtain ⟨csb, eb, fb, b1, b2, b3, _, b5, _⟩ := row_cells hR g2 hM
        have hne := hR.inj i j L M _ _ hij hL hM g1 g2 rfl rfl
        unfold isOvl at hf
        split at hf
        · rename_i fn hfn
          simp only [Bool.and_eq_true, bne_iff_ne, ne_eq, beq_iff_eq, Option.isNone_iff_eq_none] at hf
          obtain ⟨⟨⟨⟨⟨⟨⟨⟨hb, hnm⟩, l1⟩, l2⟩, l3⟩, l4⟩, l5⟩, ho⟩, hp⟩ := hf
          split at hp
          · rename_i t ht
            split at hp
            · rename_i e he
              obtain ⟨sz, hsz⟩ := Option.isSome_iff_exists.1 hp
              have hnext : Extern.findNext fn = none := by
                unfold Extern.findNext
                simp [l1, l2]
              have hfind : Extern.find fn = some (Extern.SlicesOverlaps.overlaps fn.params fn.resultTypes) := by
                have e1 : Extern.allGenericRows.lookup "slices.overlaps" = none := by kernel_rfl
                have e2 : Extern.allTypedRows.lookup "slices.overlaps" = some Extern.SlicesOverlaps.overlaps := by kernel_rfl
                unfold Extern.find
                simp [l3, l4, l5, ho, e1, e2]
              have hrun := run_overlaps_apart (P := P) (w := w) (results := fn.resultTypes) (la := n) (ca := k) (lb := m) (cb := q) ht (slelem_spec he) hsz (a := ⟨L.b, L.o + oi, none⟩) (b := ⟨M.b, M.o + oj, none⟩) hne a1 b1
                (by
                  simp only [List.length_cons] at b3
                  omega)
                (by
                  simp only [World.frozen?, a1]
                  by_cases hlt : L.o + oi ≤ L.n
                  · exact a5 rfl _ hlt
                  · exact absurd (show L.o + oi ≤ L.n by omega) hlt)
                (by
                  simp only [World.frozen?, a1]
                  exact a5 rfl _ (by omega))
              have hnm' : fn.name ≠ "runtime.NumGoroutine" := hnm
              simp [callFunc, hfn, hnm', hb, hnext, hfind, mark, Sem.run, hrun]
            · cases hp
          · cases hp
        · cases hf
      · cases h
    · cases h
  · cases h
theorem exec_call0 {o : Oper} {a : Act} {c : Call} (hop : o.op = .call c) {f : Nat} (hc : c.callee = .value (.func f)) (w : World) : (execOp a.eval o).run P w = (callFunc f (c.args.toList.map a.eval).toArray).run P w := by
  obtain ⟨callee, args, argTypes⟩ := c
  simp only at hc
  subst hc
  have : (args.map a.eval) = (args.toList.map a.eval).toArray := by apply Array.ext'; simp
  simp [execOp, hop, resolve, Deferred.ofValue, Act.eval, invoke, this]
theorem read_run {call : Nat → List AV → St → Option (AV × St)} {o : Oper} {a : Act} {env : Env} {s : St} {w : World} {cl : Bool} {v : AV} (hE : EnvR ρ env a.tmps) (hR : R s ρ w) (hn : (cop P cl o.op).isCall = false)
    (h : aread call env s (cop P cl o.op) = some v) : ∃ c, VR ρ v c ∧ (execOp a.eval o).run P w = .ok (.value c) w := by
  obtain ⟨hok, hc⟩ := cop_ok (P := P) (cl := cl) (op := o.op) (by intro e; rw [e] at h; simp [aread] at h)
  rw [hc] at h hn
  clear hc
  cases hop : o.op with
  | load t x =>
    rw [hop] at h hok
    simp only [cop0] at h
    have hx := aev_rel hE (hok x (by simp [Op.operands]))
    split at h
    · rename_i n hn'
      split at h
      · rename_i h1
        split at h
        · rename_i hn1
          simp only [aread] at h
          split at h
          · rename_i id o' hav
            rw [hav] at hx
            simp only [VR] at hx
            obtain ⟨L, hL, hval⟩ := hx
            split at h
            · rename_i cells own hg
              obtain ⟨cs, e, fr, g1, g2, g3, g4, _⟩ := row_cells hR hg hL
              obtain ⟨c, hc, hvc⟩ := g4.at_ _ h
              have hlt := (List.getElem?_eq_some_iff.1 h).1
              rw [List.getElem?_take_of_lt hlt, List.getElem?_drop] at hc
              refine ⟨c, hvc, ?_⟩
              have hcell := cell_at g1 (L.o + o')
              simp only [execOp, hop, Instr.loadAt, hval, Instr.sureAddr, Sem.run_bind, Sem.run_pure, Result.andThen_ok, loadVar, run_isAgg_one h1, Bool.false_eq_true, if_false, run_load, hcell]
              simp at hc
              simp [hc]
            · cases h
          · cases h
        · simp [aread] at h
      · split at h
        · rename_i fs hu
          simp only [aread] at h
          split at h
          · rename_i id o' hav
            rw [hav] at hx
            simp only [VR] at hx
            obtain ⟨L, hL, hval⟩ := hx
            split at h
            · rename_i cells own hg
              split at h
              · rename_i hlen
                injection h with h; subst h
                obtain ⟨cs, e, fr, g1, g2, g3, g4, _⟩ := row_cells hR hg hL
                have hv := (g4.drop o').take n
                rw [List.drop_take, List.drop_drop, List.take_take] at hv
                rw [show min n (cells.length - o') = n by omega] at hv
                refine ⟨.agg ((cs.toList.drop (L.o + o')).take n).toArray, by simp only [VR]; exact ⟨_, rfl, hv⟩, ?_⟩
                have hld := run_loadCells_at (P := P) g1 (o := L.o + o') n (by omega)
                simp [execOp, hop, Instr.loadAt, hval, Instr.sureAddr, loadVar, run_isAgg_struct hu, run_size hn', hld]
              · cases h
            · cases h
          · cases h
        · rename_i len e' hu
          simp only [aread] at h
          split at h
          · rename_i id o' hav
            rw [hav] at hx
            simp only [VR] at hx
            obtain ⟨L, hL, hval⟩ := hx
            split at h
            · rename_i cells own hg
              split at h
              · rename_i hlen
                injection h with h; subst h
                obtain ⟨cs, e, fr, g1, g2, g3, g4, _⟩ := row_cells hR hg hL
                have hv := (g4.drop o').take n
                rw [List.drop_take, List.drop_drop, List.take_take] at hv
                rw [show min n (cells.length - o') = n by omega] at hv
                refine ⟨.agg ((cs.toList.drop (L.o + o')).take n).toArray, by simp only [VR]; exact ⟨_, rfl, hv⟩, ?_⟩
                have hld := run_loadCells_at (P := P) g1 (o := L.o + o') n (by omega)
                simp [execOp, hop, Instr.loadAt, hval, Instr.sureAddr, loadVar, run_isAgg_array hu, run_size hn', hld]
              · cases h
            · cases h
          · cases h
        · simp [aread] at h
    · simp [aread] at h
  | convert src dst x =>
    rw [hop] at h hok
    simp only [cop0] at h
    have hx := aev_rel hE (hok x (by simp [Op.operands]))
    split at h
    · simp [aread] at h
    · rename_i e hu1 hu2
      split at h
      · rename_i hu3
        simp only [aread] at h
        split at h
        · cases h
        · rename_i hns
          split at h
          · rename_i xs hxs
            obtain ⟨l, hl, rfl⟩ := Option.map_eq_some_iff.1 h
            refine ⟨.string ⟨l.toArray⟩, by simp [VR], ?_⟩
            have hrun := y_b2s (P := P) hR hx (fun b hb => hns b hb) hxs hl
            have : (convert src dst (a.eval x)).run P w = .ok (.string ⟨l.toArray⟩) w := by
              have hshape : ∃ p q r, a.eval x = .slice p q r := by
                cases hav : aev env (copd x) <;> rw [hav] at hx hxs hns <;> simp [shown] at hxs
                · exact absurd rfl (hns _)
                · simp only [VR] at hx; obtain ⟨L, A, cc, _, hv, _⟩ := hx; exact ⟨_, _, _, hv⟩
                · simp only [VR] at hx; exact ⟨_, _, _, hx⟩
              obtain ⟨p, q, r, hsl⟩ := hshape
              rw [hsl] at hrun ⊢
              simp only [convert, Sem.run_bind, run_underlying hu1, run_underlying hu2, Result.andThen_ok, run_underlying hu3]
              exact hrun
            simp [execOp, hop, this]
          · cases h
      · simp [aread] at h
    · split at h <;> simp [aread] at h
    · simp [aread] at h
  | lookup t m k ok =>
    rw [hop] at h hok
    simp only [cop0] at h
    split at h
    · rename_i kt e hu
      split at h
      · rename_i k' inf hk hi
        split at h
        · rename_i zv hz
          split at h
          · rename_i z hzc
            simp only [aread] at h
            split at h
            · rename_i hkey
              obtain ⟨c, hc, hrun⟩ := y_look hR hu hk hi hz (cval_rel hzc) (aev_rel hE (hok m (by simp [Op.operands]))) (aev_rel hE (hok k (by simp [Op.operands]))) hkey h
              exact ⟨c, hc, by simp [execOp, hop, hrun]⟩
            · cases h
          · simp [aread] at h
        · simp [aread] at h
      · simp [aread] at h
    · simp [aread] at h
  | call c =>
    rw [hop] at h hok hn
    simp only [cop0] at h hn
    cases hcal : c.callee with
    | value f =>
      unfold ccall at h hn
      rw [hcal] at h hn
      cases f <;> simp only at h hn
      · simp [AOp.isCall] at hn
      · simp [AOp.isCall] at hn
      · simp [AOp.isCall] at hn
      · split at hn
        · simp [AOp.isCall] at hn
        · rename_i f hcb
          rw [if_neg hcb] at h
          rcases covl_cases P f c.args.toList with q | ⟨x, y, hA, hov, q⟩
          · rw [q] at h; simp [aread] at h
          · rw [q] at h
            have hx0 : x ∈ c.args.toList := by rw [hA]; simp
            have hy0 : y ∈ c.args.toList := by rw [hA]; simp
            have hx1 := aev_rel hE (hok x (by simp [Op.operands, Call.operands]; exact .inr (by simpa using hx0)))
            have hy1 := aev_rel hE (hok y (by simp [Op.operands, Call.operands]; exact .inr (by simpa using hy0)))
            obtain ⟨hv, hrun⟩ := y_ovl hR hov hx1 hy1 h
            refine ⟨.bool false, by rw [hv]; simp [VR], ?_⟩
            rw [exec_call0 hop hcal w, hA]
            exact hrun
    | invoke r m => unfold ccall at h; rw [hcal] at h; simp [aread] at h
    | builtin b =>
      have hex := exec_builtin (a := a) hop hcal
      unfold ccall at h
      rw [hcal] at h
      simp only at h
      split at h
      · rename_i x t hA hT
        have hA' : c.args = #[x] := by apply Array.ext'; simpa using hA
        have hT' : c.argTypes = #[t] := by apply Array.ext'; simpa using hT
        have hx := aev_rel hE (hok x (by simp [Op.operands, Call.operands, hA']))
        split at h
        · simp [aread] at h
        · simp [aread] at h
        · rename_i kt e hu
          simp only [aread] at h
          split at h
          · rename_i hav
            rw [hav] at hx
            injection h with h; subst h
            simp only [VR] at hx
            exact ⟨.int .i64 0, by simp [VR], by rw [hex]; simp [builtin, hA', hT', Builtin.len_, run_underlying hu, hx, goInt]⟩
          · rename_i id hav
            rw [hav] at hx
            simp only [VR] at hx
            obtain ⟨L, hL, hval⟩ := hx
            split at h
            · rename_i es ck hg
              injection h with h; subst h
              obtain ⟨ces, hh, hE'⟩ := map_entries hR hg hL
              have hget : (getObj L.b).run P w = .ok (.map ces ck) w := by simp [getObj, Sem.run, hh]
              have hl := hE'.1
              exact ⟨.int .i64 (ces.size : Int), by simp [VR] at hl ⊢; omega, by rw [hex]; simp [builtin, hA', hT', Builtin.len_, run_underlying hu, hval, hget, goInt]⟩
            · cases h
          · cases h
        · simp [aread] at h
      all_goals
        repeat' split at h
        all_goals simp [aread] at h
  | makeFunc fn first caps =>
    rw [hop] at h
    cases fn <;> simp only [cop0] at h <;> (try split at h) <;> simp [aread] at h
  | entry it =>
    rw [hop] at h hok
    simp only [cop0, aread] at h
    have hx := aev_rel hE (hok it (by simp [Op.operands]))
    obtain ⟨cv, h1, h2⟩ := y_entry (P := P) hR hx h
    exact ⟨cv, h1, by simp [execOp, hop, h2]⟩
  | _ =>
    rw [hop] at h
    simp only [cop0] at h
    repeat' split at h
    all_goals simp [aread] at h

end Go.AM
end
