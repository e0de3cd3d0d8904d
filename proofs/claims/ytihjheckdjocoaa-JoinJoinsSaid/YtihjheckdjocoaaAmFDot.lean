/-
  dot.Compare and what it calls. Own work of this project.
-/
import Derived.Test.YtihjheckdjocoaaAmTb
import Derived.Test.YtihjheckdjocoaaAmC0
import Derived.Test.YtihjheckdjocoaaAmC1
set_option linter.unusedVariables false
set_option linter.unusedSimpArgs false
namespace Go.AM
open Go Go.Proofs

theorem mixed : Try.prog.follows .mixedOrders = true := by kernel_rfl

set_option maxHeartbeats 2000000 in
theorem s_isNaN : SoundAt Try.prog 50 cIsNaNInt :=
  pure_of (fn_sound (tb_sound (l := []) (by simp)) mixed Try.func50 k50 c50 20) fun xs s r s' h => by
    unfold cIsNaNInt at h
    split at h
    · injection h with h
      obtain ⟨rfl, rfl⟩ := Prod.mk.inj h
      refine ⟨rfl, rfl, rfl, ?_⟩
      simp [acallFn, a50, aexec, aops, aop, aalloc, apure, aread, aeff, wanted, putE, aev, acall, binOp, intOp, aresults, aresult]
    · cases h
set_option maxHeartbeats 2000000 in
theorem s_cmpInt : SoundAt Try.prog 40 cCmpInt :=
  pure_of (fn_sound (tb_sound (l := [(50, cIsNaNInt)]) (by simpa using s_isNaN)) mixed Try.func40 k40 c40 30) fun xs s r s' h => by
    unfold cCmpInt at h
    split at h
    · rename_i a b
      injection h with h
      obtain ⟨rfl, rfl⟩ := Prod.mk.inj h
      refine ⟨rfl, rfl, rfl, ?_⟩
      by_cases h1 : a < b
      · simp [tb, cIsNaNInt, acallFn, a40, aexec, aops, aop, aalloc, apure, aread, aeff, wanted, putE, aev, acall, binOp, intOp, aresults, aresult, AV.ground, AV.plains, AV.plain, cmpI, h1]
      · by_cases h2 : b < a <;> simp [tb, cIsNaNInt, acallFn, a40, aexec, aops, aop, aalloc, apure, aread, aeff, wanted, putE, aev, acall, binOp, intOp, aresults, aresult, AV.ground, AV.plains, AV.plain, cmpI, h1, h2]
    · cases h

set_option maxHeartbeats 4000000 in
theorem s_or2 : SoundAt Try.prog 39 cOr2 :=
  (fn_sound (tb_sound (l := []) (by simp)) mixed Try.func39 k39 c39 16).weaken fun xs s r s' h => by
    unfold cOr2 at h
    split at h
    · rename_i id off cap
      split at h
      · rename_i cs own hg
        split at h
        · rename_i a b ha hb
          injection h with h
          obtain ⟨rfl, rfl⟩ := Prod.mk.inj h
          by_cases h0 : a = 0
          · subst h0
            by_cases h1 : b = 0
            · subst h1
              simp [tb, acallFn, a39, aexec, aops, aop, aalloc, apure, aread, aeff, wanted, putE, aev, acall, binOp, intOp, aresults, aresult, hg, ha, hb, IntKind.wrap, IntKind.bits, IntKind.signed]
            · have e1 : (b != 0) = true := by simpa using h1
              simp [e1, tb, acallFn, a39, aexec, aops, aop, aalloc, apure, aread, aeff, wanted, putE, aev, acall, binOp, intOp, aresults, aresult, hg, ha, hb, IntKind.wrap, IntKind.bits, IntKind.signed]
          · have e0 : (a != 0) = true := by simpa using h0
            simp [e0, h0, tb, acallFn, a39, aexec, aops, aop, aalloc, apure, aread, aeff, wanted, putE, aev, acall, binOp, intOp, aresults, aresult, hg, ha, hb, IntKind.wrap, IntKind.bits, IntKind.signed]
        · cases h
      · cases h
    · cases h
set_option maxHeartbeats 4000000 in
theorem s_dotCmp : SoundAt Try.prog 30 cDotCmp :=
  pure_of (fn_sound (tb_sound (l := [(40, cCmpInt), (39, cOr2)]) (by simpa using ⟨s_cmpInt, s_or2⟩)) mixed Try.func30 k30 c30 60) fun xs s r s' h => by
    unfold cDotCmp at h
    split at h
    · rename_i a b c d
      injection h with h
      obtain ⟨rfl, rfl⟩ := Prod.mk.inj h
      refine ⟨rfl, rfl, rfl, ?_⟩
      simp [dcmp, tb, cCmpInt, cOr2, acallFn, a30, aexec, aops, aop, aalloc, apure, aread, aeff, wanted, putE, aev, acall, binOp, intOp, aresults, aresult, AV.ground, AV.plains, AV.plain, St.empty, St.push, St.get, St.reserve, St.born, AV.cells, AV.one, fillP, setAt]
    · cases h
set_option maxHeartbeats 4000000 in
theorem s_nodeCmp : SoundAt Try.prog 55 cNodeCmp :=
  pure_of (fn_sound (tb_sound (l := [(30, cDotCmp)]) (by simpa using s_dotCmp)) mixed Try.func55 k55 c55 60) fun xs s r s' h => by
    unfold cNodeCmp at h
    split at h
    · injection h with h
      obtain ⟨rfl, rfl⟩ := Prod.mk.inj h
      refine ⟨rfl, rfl, rfl, ?_⟩
      simp [dcmp, tb, cDotCmp, acallFn, a55, aexec, aops, aop, aalloc, apure, aread, aeff, wanted, putE, aev, acall, binOp, intOp, aresults, aresult, AV.ground, AV.plains, AV.plain, St.empty, St.push, St.get, St.reserve, St.born, AV.cells, AV.one, fillP, setAt]
    · cases h

end Go.AM
