/-
  Runes, dots and nodes: what the program's small functions answer. Own work of this project; in part printed by a program of it.
-/
import Derived.Test.YtihjheckdjocoaaAmFDot
set_option linter.unusedVariables false
set_option linter.unusedSimpArgs false
namespace Go.AM
open Go Go.Proofs

def validRune (x : Int) : Bool := decide (0 ≤ x) && decide (x < 55296) || decide (57343 < x) && decide (x ≤ 1114111)
def goodRune (x : Int) : Bool := decide (x ≠ 0) && validRune x
def Dot.valid (d : Dot) : Bool := decide (1 ≤ d.r) && decide (d.r ≤ 64) && decide (1 ≤ d.c) && decide (d.c ≤ 4294967295)
def Dot.root (d : Dot) : Bool := decide (d.r = 0) && decide (d.c = 0)
def cValidRune : Con := fun xs s => match xs with
  | [.int .i32 x] => some (.bool (validRune x), s)
  | _ => none
def cGoodRune : Con := fun xs s => match xs with
  | [.int .i32 x] => some (.bool (goodRune x), s)
  | _ => none
def cDotValid : Con := fun xs s => match xs with
  | [.agg [.int .i64 a, .int .i64 b]] => some (.bool (Dot.valid ⟨a, b⟩), s)
  | _ => none
def cDotRoot : Con := fun xs s => match xs with
  | [.agg [.int .i64 a, .int .i64 b]] => some (.bool (Dot.root ⟨a, b⟩), s)
  | _ => none
def cNodeDead : Con := fun xs s => match xs with
  | [.agg [.int .i64 _, .int .i64 _, .int .i64 _, .int .i64 _, .int .i64 _, .int .i32 x]] => some (.bool (x == 0), s)
  | _ => none
def cNodeKill : Con := fun xs s => match xs with
  | [.agg [.int .i64 a, .int .i64 b, .int .i64 c, .int .i64 d, .int .i64 e, .int .i32 _]] => some (.agg [.int .i64 a, .int .i64 b, .int .i64 c, .int .i64 d, .int .i64 e, .int .i32 0], s)
  | _ => none

set_option maxHeartbeats 4000000 in
theorem s_validRune : SoundAt Try.prog 57 cValidRune :=
  pure_of (fn_sound (tb_sound (l := []) (by simp)) mixed Try.func57 k57 c57 40) fun xs s r s' h => by
    unfold cValidRune at h
    split at h
    · rename_i x
      injection h with h
      obtain ⟨rfl, rfl⟩ := Prod.mk.inj h
      refine ⟨rfl, rfl, rfl, ?_⟩
      by_cases h1 : 0 ≤ x <;> by_cases h2 : x < 55296 <;> by_cases h3 : 57343 < x <;> by_cases h4 : x ≤ 1114111 <;> simp [h1, h2, h3, h4, tb, acallFn, a57, aexec, aops, aop, aalloc, apure, aread, aeff, wanted, putE, aev, acall, binOp, intOp, aresults, aresult, AV.ground, AV.plains, AV.plain, St.empty, St.push, St.put, St.get, St.reserve, St.born, AV.cells, AV.one, fillP, setAt, eqV, eqL, eqF, isNil, beq_dec, bne_dec, validRune]
    · cases h
set_option maxHeartbeats 4000000 in
theorem s_goodRune : SoundAt Try.prog 53 cGoodRune :=
  pure_of (fn_sound (tb_sound (l := [(57, cValidRune)]) (by simpa using s_validRune)) mixed Try.func53 k53 c53 40) fun xs s r s' h => by
    unfold cGoodRune at h
    split at h
    · rename_i x
      injection h with h
      obtain ⟨rfl, rfl⟩ := Prod.mk.inj h
      refine ⟨rfl, rfl, rfl, ?_⟩
      by_cases h1 : x = 0 <;> simp [h1, tb, cValidRune, acallFn, a53, aexec, aops, aop, aalloc, apure, aread, aeff, wanted, putE, aev, acall, binOp, intOp, aresults, aresult, AV.ground, AV.plains, AV.plain, St.empty, St.push, St.put, St.get, St.reserve, St.born, AV.cells, AV.one, fillP, setAt, eqV, eqL, eqF, isNil, beq_dec, bne_dec, goodRune]
    · cases h
set_option maxHeartbeats 4000000 in
theorem s_dotValid : SoundAt Try.prog 51 cDotValid :=
  pure_of (fn_sound (tb_sound (l := []) (by simp)) mixed Try.func51 k51 c51 40) fun xs s r s' h => by
    unfold cDotValid at h
    split at h
    · rename_i a b
      injection h with h
      obtain ⟨rfl, rfl⟩ := Prod.mk.inj h
      refine ⟨rfl, rfl, rfl, ?_⟩
      by_cases h1 : 1 ≤ a
      · by_cases h2 : a ≤ 64
        · by_cases h3 : 1 ≤ b
          · by_cases h4 : b ≤ 4294967295
            · simp [h1, h2, h3, h4, tb, acallFn, a51, aexec, aops, aop, aalloc, apure, aread, aeff, wanted, putE, aev, acall, binOp, intOp, aresults, aresult, AV.ground, AV.plains, AV.plain, St.empty, St.push, St.put, St.get, St.reserve, St.born, AV.cells, AV.one, fillP, setAt, eqV, eqL, eqF, isNil, beq_dec, bne_dec, Dot.valid]
            · simp [h1, h2, h3, h4, tb, acallFn, a51, aexec, aops, aop, aalloc, apure, aread, aeff, wanted, putE, aev, acall, binOp, intOp, aresults, aresult, AV.ground, AV.plains, AV.plain, St.empty, St.push, St.put, St.get, St.reserve, St.born, AV.cells, AV.one, fillP, setAt, eqV, eqL, eqF, isNil, beq_dec, bne_dec, Dot.valid]
          · simp [h1, h2, h3, tb, acallFn, a51, aexec, aops, aop, aalloc, apure, aread, aeff, wanted, putE, aev, acall, binOp, intOp, aresults, aresult, AV.ground, AV.plains, AV.plain, St.empty, St.push, St.put, St.get, St.reserve, St.born, AV.cells, AV.one, fillP, setAt, eqV, eqL, eqF, isNil, beq_dec, bne_dec, Dot.valid]
        · simp [h1, h2, tb, acallFn, a51, aexec, aops, aop, aalloc, apure, aread, aeff, wanted, putE, aev, acall, binOp, intOp, aresults, aresult, AV.ground, AV.plains, AV.plain, St.empty, St.push, St.put, St.get, St.reserve, St.born, AV.cells, AV.one, fillP, setAt, eqV, eqL, eqF, isNil, beq_dec, bne_dec, Dot.valid]
      · simp [h1, tb, acallFn, a51, aexec, aops, aop, aalloc, apure, aread, aeff, wanted, putE, aev, acall, binOp, intOp, aresults, aresult, AV.ground, AV.plains, AV.plain, St.empty, St.push, St.put, St.get, St.reserve, St.born, AV.cells, AV.one, fillP, setAt, eqV, eqL, eqF, isNil, beq_dec, bne_dec, Dot.valid]
    · cases h
set_option maxHeartbeats 4000000 in
theorem s_dotRoot : SoundAt Try.prog 52 cDotRoot :=
  pure_of (fn_sound (tb_sound (l := []) (by simp)) mixed Try.func52 k52 c52 40) fun xs s r s' h => by
    unfold cDotRoot at h
    split at h
    · rename_i a b
      injection h with h
      obtain ⟨rfl, rfl⟩ := Prod.mk.inj h
      refine ⟨rfl, rfl, rfl, ?_⟩
      simp [tb, acallFn, a52, aexec, aops, aop, aalloc, apure, aread, aeff, wanted, putE, aev, acall, binOp, intOp, aresults, aresult, AV.ground, AV.plains, AV.plain, St.empty, St.push, St.put, St.get, St.reserve, St.born, AV.cells, AV.one, fillP, setAt, eqV, eqL, eqF, isNil, beq_dec, bne_dec, Dot.root]
    · cases h
set_option maxHeartbeats 4000000 in
theorem s_nodeDead : SoundAt Try.prog 43 cNodeDead :=
  pure_of (fn_sound (tb_sound (l := []) (by simp)) mixed Try.func43 k43 c43 40) fun xs s r s' h => by
    unfold cNodeDead at h
    split at h
    · rename_i a b c d e x
      injection h with h
      obtain ⟨rfl, rfl⟩ := Prod.mk.inj h
      refine ⟨rfl, rfl, rfl, ?_⟩
      simp [tb, acallFn, a43, aexec, aops, aop, aalloc, apure, aread, aeff, wanted, putE, aev, acall, binOp, intOp, aresults, aresult, AV.ground, AV.plains, AV.plain, St.empty, St.push, St.put, St.get, St.reserve, St.born, AV.cells, AV.one, fillP, setAt, eqV, eqL, eqF, isNil, beq_dec, bne_dec]
    · cases h
set_option maxHeartbeats 4000000 in
theorem s_nodeKill : SoundAt Try.prog 42 cNodeKill :=
  pure_of (fn_sound (tb_sound (l := []) (by simp)) mixed Try.func42 k42 c42 40) fun xs s r s' h => by
    unfold cNodeKill at h
    split at h
    · rename_i a b c d e x
      injection h with h
      obtain ⟨rfl, rfl⟩ := Prod.mk.inj h
      refine ⟨rfl, rfl, rfl, ?_⟩
      simp [tb, acallFn, a42, aexec, aops, aop, aalloc, apure, aread, aeff, wanted, putE, aev, acall, binOp, intOp, aresults, aresult, AV.ground, AV.plains, AV.plain, St.empty, St.push, St.put, St.get, St.reserve, St.born, AV.cells, AV.one, fillP, setAt, eqV, eqL, eqF, isNil, beq_dec, bne_dec]
    · cases h

end Go.AM
