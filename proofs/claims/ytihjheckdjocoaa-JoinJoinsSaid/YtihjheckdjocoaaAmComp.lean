/-
  From the loaded program to the abstract machine's code. Own work of this project. It proves nothing: XAmSound does.
-/
import Derived.Test.YtihjheckdjocoaaAmCore
namespace Go.AM
open Go

def cval1 : Value → Option AV
  | .bool b => some (.bool b)
  | .int k n => some (.int k n)
  | .string s => some (.str s)
  | .pointer none => some .nilp
  | .slice none 0 0 => some .nils
  | .map none => some .nilm
  | .nilFunc => some .nilf
  | _ => none
def cvals : List Value → Option (List AV)
  | [] => some []
  | v :: r => match cval1 v, cvals r with
    | some x, some xs => some (x :: xs)
    | _, _ => none
def cval : Value → Option AV
  | .agg cs => (cvals cs.toList).map .agg
  | v => cval1 v

def copd : Operand → AO
  | .tmp t => .t t
  | .const v => match cval v with | some x => .c x | none => .bad
  | .func f => .f f
  | .global _ => .bad

def AO.ok : AO → Bool
  | .bad => false
  | _ => true

variable (P : Program)

/-- The zero cells of a type. -/
def czero (t : TypeId) : Option (List AV) :=
  match P.info? t with
  | some i => match i.zero with
    | some z => match cvals z.cells.toList with
      | some cs => if cs.length = i.size then some cs else none
      | none => none
    | none => none
  | none => none
def cone (t : TypeId) : Bool :=
  match P.underlying t with
  | some (.struct _) | some (.array _ _) | none => false
  | _ => true
def csize (t : TypeId) : Option Nat := (P.info? t).map (·.size)
def cbytes (t : TypeId) : Option Nat := (P.info? t).map (·.bytes)

/-- The kinds of the cells of a type whose values are equal just if all their cells are: bool, integers, strings, and structs of these. -/
def cflat : Nat → TypeId → Option (List FK)
  | 0, _ => none
  | d + 1, t =>
    match P.underlying t with
    | some .bool => if csize P t == some 1 then some [.b] else none
    | some (.int _) => if csize P t == some 1 then some [.i] else none
    | some .string => if csize P t == some 1 then some [.s] else none
    | some (.struct fs) =>
      if !P.stoodInHeld t && !P.eqGuardType P.depth t then cfields (cflat d) fs.toList 0 (csize P t) else none
    | _ => none
where
  cfields (ok : TypeId → Option (List FK)) : List Field → Nat → Option Nat → Option (List FK)
    | [], at_, sz => if sz == some at_ then some [] else none
    | f :: r, at_, sz =>
      if f.name != "_" && f.offset == at_ then
        match ok f.type, csize P f.type with
        | some ks, some n => if n != 0 && ks.length == n then (cfields ok r (at_ + n) sz).map (ks ++ ·) else none
        | _, _ => none
      else none
def cek (t : TypeId) : EK :=
  match P.underlying t with
  | some .bool => .bo
  | some (.pointer _) => .np
  | some (.slice _) => .ns
  | some (.map _ _) => .nm
  | some (.func _ _ _) => .nf
  | some (.struct _) => match cflat P 8 t with
    | some ks => .fl ks
    | none => .no
  | _ => .no
def ckk (t : TypeId) : Option EK :=
  match P.underlying t with
  | some (.int _) => some (.ky .i)
  | some .string => some (.ky .s)
  | some .bool => some (.ky .b)
  | some (.struct _) => (cflat P 8 t).map .fl
  | _ => none

def cparts (fs : Array Field) : List (Nat × Operand) → Option (List (Nat × Nat × AO))
  | [] => some []
  | (i, x) :: r =>
    match fs[i]? with
    | some f => match csize P f.type, cparts fs r with
      | some n, some ps => some ((f.offset, n, copd x) :: ps)
      | _, _ => none
    | none => none

def slelem (t : TypeId) : Option TypeId := match P.underlying t with | some (.slice e) => some e | _ => none
def callable (f : FuncId) : Bool :=
  match P.funcs[f]? with
  | some fn => fn.body.isSome && fn.name != "runtime.NumGoroutine"
  | none => false

def ccall (c : Call) (cl : Bool) : AOp :=
  match c.callee with
  | .value (.func f) => if callable P f then .call f cl (c.args.toList.map copd) else .bad
  | .value x => .callv (copd x) cl (c.args.toList.map copd)
  | .invoke _ _ => .bad
  | .builtin b =>
    match b, c.args.toList, c.argTypes.toList with
    | .len, [x], [t] =>
      match P.underlying t with
      | some .string => .len .st (copd x)
      | some (.slice _) => .len .sl (copd x)
      | some (.map _ _) => .len .mp (copd x)
      | _ => .bad
    | .cap, [x], [t] => match P.underlying t with | some (.slice _) => .cap (copd x) | _ => .bad
    | .append, [s, x], [t, u] =>
      match slelem P t with
      | some e =>
        match csize P e, cbytes P e, czero P e, P.underlying u with
        | some n, some b, some z, some (.int _) => if n != 0 && b != 0 then .appz n b z (copd s) (copd x) else .bad
        | some n, some b, some z, some _ => if n != 0 && b != 0 then .app n b z (copd s) (copd x) else .bad
        | _, _, _, _ => .bad
      | none => .bad
    | .copy, [d, x], [t, _] =>
      match slelem P t with
      | some e => match csize P e with
        | some n => if n != 0 then .copy n (copd d) (copd x) else .bad
        | none => .bad
      | none => .bad
    | .max, xs, _ => .mm true (xs.map copd)
    | .min, xs, _ => .mm false (xs.map copd)
    | .delete, [m, k], t :: _ => match P.underlying t with
      | some (.map kt _) => match ckk P kt with | some k' => .mdel k' (copd m) (copd k) | none => .bad
      | _ => .bad
    | _, _, _ => .bad

def cop0 (cl : Bool) (op : Op) : AOp :=
  match op with
  | .move x | .assign x => .mv (copd x)
  | .pick c a b => .pick (copd c) (copd a) (copd b)
  | .alloc t => match czero P t with | some z => .alloc z | none => .bad
  | .box t x => match csize P t with | some n => .box n (copd x) | none => .bad
  | .build t ps =>
    match P.underlying t, czero P t with
    | some (.struct fs), some z => if fs.toList.all fun f => (csize P f.type).isSome then match cparts P fs ps.toList with | some l => .build z l | none => .bad else .bad
    | _, _ => .bad
  | .buildSlice t len ps =>
    match slelem P t with
    | some e => match csize P e, czero P e with
      | some n, some z => if n != 0 && len * n ≤ 16777216 then .bsl (zeros z len) len n (ps.toList.map fun (i, x) => (i, copd x)) else .bad
      | _, _ => .bad
    | none => .bad
  | .load t a => match csize P t with
    | some n => if cone P t then (if n = 1 then .load1 (copd a) else .bad) else match P.underlying t with | some (.struct _) | some (.array _ _) => .loadn n (copd a) | _ => .bad
    | none => .bad
  | .store t a x => match csize P t with | some n => .store n (copd a) (copd x) | none => .bad
  | .nilCheck x => .nchk (copd x)
  | .binOp op t x y _ => .bin op (cek P t) (copd x) (copd y)
  | .unOp op _ x => .un op (copd x)
  | .convert src dst x =>
    match P.underlying src, P.underlying dst with
    | some (.int _), some (.int k) => .conv k (copd x)
    | some (.slice e), some .string => match P.underlying e with | some (.int .u8) => .b2s (copd x) | _ => .bad
    | some .string, some (.slice e) => match P.underlying e, csize P e with | some (.int .u8), some 1 => .s2b (copd x) | _, _ => .bad
    | _, _ => .bad
  | .makeFunc (.func f) first caps => if first.isEmpty then .mkfn f (caps.toList.map copd) else .bad
  | .makeMap t r => match P.underlying t with | some (.map _ _) => .mkmap (r.map copd) | _ => .bad
  | .makeSlice t l c =>
    match slelem P t with
    | some e => match csize P e, cbytes P e, czero P e with
      | some n, some b, some z => if n != 0 && z.length = n then .mksl z b (copd l) (copd c) else .bad
      | _, _, _ => .bad
    | none => .bad
  | .slice t x lo hi mx =>
    match P.underlying t with
    | some (.slice e) => match csize P e with | some n => if n != 0 then .slc n (copd x) (lo.map copd) (hi.map copd) (mx.map copd) else .bad | none => .bad
    | some .string => if mx.isNone then .slcs (copd x) (lo.map copd) (hi.map copd) else .bad
    | _ => .bad
  | .fieldAddr t x i =>
    match P.underlying t with
    | some (.struct fs) => match fs[i]? with
      | some f => match csize P f.type with | some n => if n != 0 then .fad f.offset (copd x) else .bad | none => .bad
      | none => .bad
    | _ => .bad
  | .field t x i =>
    match P.underlying t with
    | some (.struct fs) => match fs[i]? with
      | some f => match csize P f.type, P.underlying f.type with
        | some n, some (.struct _) => .fld false f.offset n (copd x)
        | some n, some _ => if cone P f.type then .fld true f.offset n (copd x) else .bad
        | _, _ => .bad
      | none => .bad
    | _ => .bad
  | .indexAddr t x i => match slelem P t with
    | some e => match csize P e with | some n => if n != 0 then .iad n (copd x) (copd i) else .bad | none => .bad
    | none => .bad
  | .index t x i => match P.underlying t with | some .string => .idxs (copd x) (copd i) | _ => .bad
  | .lookup t m k ok =>
    match P.underlying t with
    | some (.map kt e) =>
      match ckk P kt, P.info? e with
      | some k', some i => match i.zero with
        | some z => match cval z with | some z => .look z k' ok (copd m) (copd k) | none => .bad
        | none => .bad
      | _, _ => .bad
    | _ => .bad
  | .mapUpdate t m k x => match P.underlying t with
    | some (.map kt _) => match ckk P kt with | some k' => .mset k' (copd m) (copd k) (copd x) | none => .bad
    | _ => .bad
  | .extract x i => .ext (copd x) i
  | .range t x => match P.underlying t with | some (.map _ _) => .rng (copd x) | _ => .bad
  | .next it str => if str then .bad else .nxt (copd it)
  | .entry it => .ent (copd it)
  | .call c => ccall P c cl
  | _ => .bad

def cop (cl : Bool) (op : Op) : AOp := if op.operands.toList.all fun x => (copd x).ok then cop0 P cl op else .bad

/-! ### Regions that draw their order -/
inductive OK where
  | pure | alloc | read | eff | call
  deriving DecidableEq
def opKind (op : Op) : OK :=
  match op with
  | .move _ | .assign _ | .pick .. | .build .. | .binOp .. | .unOp .. | .makeFunc .. | .slice .. | .fieldAddr .. | .field .. | .indexAddr .. | .index .. | .extract .. | .nilCheck _ => .pure
  | .convert src dst _ => match P.underlying src, P.underlying dst with
    | some (.int _), some (.int _) => .pure
    | some (.slice _), some .string => .read
    | _, _ => .eff
  | .alloc _ | .box .. | .buildSlice .. | .makeSlice .. => .alloc
  | .load .. | .lookup .. => .read
  | .call { callee := .builtin .len, .. } => .read
  | .call { callee := .builtin .cap, .. } | .call { callee := .builtin .max, .. } | .call { callee := .builtin .min, .. } => .pure
  | .call { callee := .builtin _, .. } => .eff
  | .call _ => .call
  | _ => .eff
def ancOf (acc : List Nat) : List Edge → Nat
  | [] => 0
  | e :: r => if Region.binds .any e then (1 <<< e.on) ||| acc.getD e.on 0 ||| ancOf acc r else ancOf acc r
/-- For each operation: the operations that come up before it in whatever order, as the bits of a number. -/
def ancGo : List Oper → List Nat → List Nat
  | [], acc => acc
  | o :: r, acc => ancGo r (acc ++ [ancOf acc o.after.toList])
def ancs (ops : Array Oper) : List Nat := ancGo ops.toList []
/-- 'i' comes up before 'j' in whatever order. -/
def precedes (A : List Nat) (i j : Nat) : Bool := (A.getD j 0).testBit i
def kindAt (ops : Array Oper) (i : Nat) : OK := match ops[i]? with | some o => opKind P o.op | none => .pure
def free (A : List Nat) (i j : Nat) : Bool := j != i && !precedes A i j && !precedes A j i
/-- A call that may come up before or behind something that looks at memory must leave it alone. -/
def mustClean (A : List Nat) (ops : Array Oper) (i : Nat) : Bool :=
  (List.range ops.size).any fun j => free A i j && kindAt P ops j != .pure && kindAt P ops j != .alloc
/-- What changes memory and may come up before or behind a load may write nothing that was there. -/
def mustFresh (A : List Nat) (ops : Array Oper) (i : Nat) : Bool :=
  kindAt P ops i == .eff && (List.range ops.size).any fun j => free A i j && kindAt P ops j == .read
def isStoreOp : Op → Bool
  | .store .. => true
  | _ => false
/-- A load that may come up before or behind a store. -/
def mustOld (A : List Nat) (ops : Array Oper) (i : Nat) : Bool :=
  kindAt P ops i == .read && (List.range ops.size).any fun j => free A i j && (match ops[j]? with | some o => isStoreOp o.op | none => false)
def guardOf (ops : Array Oper) (o : Oper) : Option (Option (Nat × Bool)) :=
  match o.guard with
  | none => some none
  | some (j, b) => match (ops[j]?).bind (·.dst) with
    | some t => some (some (t, b))
    | none => none
def cregP (ops : Array Oper) : List Oper → Option (List AOper)
  | [] => some []
  | o :: r => match guardOf ops o, cregP ops r with
    | some g, some l => some ({ dst := o.dst, op := cop P false o.op, guard := g, res := none, fresh := false } :: l)
    | _, _ => none
def cregD (A : List Nat) (ops : Array Oper) : List Oper → Nat → Nat → Option (List AOper × Nat)
  | [], _, k => some ([], k)
  | o :: r, i, k =>
    let a := opKind P o.op = .alloc
    match guardOf ops o, cregD A ops r (i + 1) (if a then k + 1 else k) with
    | some g, some (l, n) => some ({ dst := o.dst, op := cop P (mustClean P A ops i) o.op, guard := g, res := if a then some k else none, fresh := mustFresh P A ops i || mustOld P A ops i } :: l, n)
    | _, _ => none

def AOper.looks (o : AOper) : List Nat := (match o.guard with | some (t, _) => [t] | none => []) ++ o.op.opds.filterMap fun | .t n => some n | _ => none
def noDst (d : Option Nat) (ts : List Nat) : Bool := match d with | some t => !ts.contains t | none => true
/-- These two may come up in either order. -/
def pairOk (a b : AOper) : Bool :=
  noDst a.dst (b.dst.toList ++ b.looks) && noDst b.dst (a.dst.toList ++ a.looks) &&
  match a.op.kind, b.op.kind with
  | .pure, _ | _, .pure | .alloc, _ | _, .alloc | .read, .read => true
  | .read, .write => b.fresh && !b.op.isCall && !a.op.isCall && (!b.op.isStore || a.fresh)
  | .write, .read => a.fresh && !a.op.isCall && !b.op.isCall && (!a.op.isStore || b.fresh)
  | .write, .write => false
def drawOk (A : List Nat) (ops : Array Oper) (l : List AOper) (k : Nat) : Bool :=
  l.length == ops.size &&
  ((List.range ops.size).all fun j => match ops[j]? with | some o => o.after.toList.all fun e => !Region.binds .any e || decide (e.on < j) | none => false) &&
  ((List.range ops.size).all fun j => (List.range j).all fun i => precedes A i j || match l[i]?, l[j]? with | some a, some b => pairOk a b | _, _ => false) &&
  (l.all fun o => o.op.kind != .alloc || match o.res with | some r => decide (r < k) | none => false) &&
  decide ((l.filterMap (·.res)).Nodup)
def ccode : Code → AC
  | .skip => .skip
  | .region _ ops false => match cregP P ops ops.toList with | some l => .reg l | none => .bad
  | .region _ ops true =>
    match cregD P (ancs ops) ops ops.toList 0 0 with
    | some (l, k) => if drawOk (ancs ops) ops l k then .regd k l else .bad
    | none => .bad
  | .seq a b => .seq (ccode a) (ccode b)
  | .cond c a b => if (copd c).ok then .cond (copd c) (ccode a) (ccode b) else .bad
  | .block id c => .block id (ccode c)
  | .loop c => .loop (ccode c)
  | .exit id => .exit id
  | .ret => .ret
  | _ => .bad

def cres : List ResultVar → Option (List AR)
  | [] => some []
  | .tmp t :: r => (cres r).map (.t t :: ·)
  | .cell a t :: r =>
    match csize P t, cres r with
    | some n, some l => if cone P t then (if n = 1 then some (.cell1 a :: l) else none) else match P.underlying t with | some (.struct _) | some (.array _ _) => some (.celln a n :: l) | _ => none
    | _, _ => none
def cfn (fn : Func) : Option AFn :=
  match fn.body, cres P fn.results.toList with
  | some c, some rs => some { ntmps := fn.ntmps, results := rs, body := ccode P c }
  | _, _ => none

end Go.AM
