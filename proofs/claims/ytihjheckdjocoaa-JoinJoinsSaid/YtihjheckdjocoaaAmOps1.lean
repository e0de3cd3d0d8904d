/-
  Operations that look at no memory: the model yields what the abstract machine yields. Own work of this project.
-/
import Derived.Test.YtihjheckdjocoaaAmRel
import Derived.Laws.Cover3
import Derived.WalkSpells
set_option linter.unusedVariables false
set_option linter.unusedSimpArgs false
namespace Go.AM
open Go

variable {P : Program} {ρ : Ren}

structure EnvR (ρ : Ren) (env : Env) (tmps : Array Value) : Prop where
  len : env.length = tmps.size
  at_ : ∀ t, VR ρ (env.getD t .und) (tmps.getD t undef)
theorem EnvR.mono {ρ ρ' : Ren} {env : Env} {tmps : Array Value} (h : ρ.le ρ') (k : EnvR ρ env tmps) : EnvR ρ' env tmps := ⟨k.len, fun t => VR.mono h _ _ (k.at_ t)⟩
theorem EnvR.put {env : Env} {a : Act} {v : AV} {c : Value} (k : EnvR ρ env a.tmps) (h : VR ρ v c) (dst : Option Nat) : EnvR ρ (putE env dst v) (a.put dst c).tmps := by
  cases dst with
  | none => exact k
  | some d =>
    refine ⟨by simp [putE, Act.put, k.len], fun t => ?_⟩
    simp only [putE, Act.put]
    by_cases ht : t = d
    · subst ht
      by_cases hlt : t < a.tmps.size
      · have hl : t < env.length := by rw [k.len]; exact hlt
        simp [List.getD_eq_getElem?_getD, List.getElem?_set_self hl, Array.getD_eq_getD_getElem?, hlt, h]
      · have hl : ¬ t < env.length := by rw [k.len]; exact hlt
        have := k.at_ t
        simp [List.getD_eq_getElem?_getD, Array.getD_eq_getD_getElem?, hlt, hl, VR]
    · have := k.at_ t
      simpa [List.getD_eq_getElem?_getD, List.getElem?_set_ne (Ne.symm ht), Array.getD_eq_getD_getElem?, Array.getElem?_setIfInBounds_ne (Ne.symm ht)] using this

theorem cval1_rel {v : Value} {x : AV} (h : cval1 v = some x) : VR ρ x v := by
  unfold cval1 at h
  split at h <;> first | (injection h with h; subst h; simp [VR]) | cases h
theorem cvals_rel : ∀ {vs : List Value} {xs : List AV}, cvals vs = some xs → VRs ρ xs vs
  | [], xs, h => by simp only [cvals] at h; injection h with h; subst h; exact VRs_nil
  | v :: r, xs, h => by
    simp only [cvals] at h
    split at h
    · rename_i x ys h1 h2
      injection h with h; subst h
      exact VRs_cons.2 ⟨cval1_rel h1, cvals_rel h2⟩
    · cases h
theorem cval_rel {v : Value} {x : AV} (h : cval v = some x) : VR ρ x v := by
  unfold cval at h
  split at h
  · rename_i cs
    obtain ⟨ys, h1, rfl⟩ := Option.map_eq_some_iff.1 h
    simp only [VR]
    exact ⟨cs.toList, by simp, cvals_rel h1⟩
  · exact cval1_rel h
theorem cvals_one : ∀ {vs : List Value} {xs : List AV}, cvals vs = some xs → xs.all AV.one = true
  | [], xs, h => by simp only [cvals] at h; injection h with h; subst h; rfl
  | v :: r, xs, h => by
    simp only [cvals] at h
    split at h
    · rename_i x ys h1 h2
      injection h with h; subst h
      simp only [List.all_cons, cvals_one h2, Bool.and_true]
      unfold cval1 at h1
      split at h1 <;> first | (injection h1 with h1; subst h1; rfl) | cases h1
    · cases h
theorem czero_spec {t : TypeId} {z : List AV} (h : czero P t = some z) : ∃ i zv, P.info? t = some i ∧ i.zero = some zv ∧ VRs ρ z zv.cells.toList ∧ z.length = i.size ∧ z.all AV.one = true := by
  unfold czero at h
  split at h
  · rename_i i hi
    split at h
    · rename_i zv hz
      split at h
      · rename_i cs hcs
        split at h
        · rename_i hl
          injection h with h; subst h
          exact ⟨i, zv, hi, hz, cvals_rel hcs, hl, cvals_one hcs⟩
        · cases h
      · cases h
    · cases h
  · cases h

theorem aev_rel {env : Env} {a : Act} {x : Operand} (k : EnvR ρ env a.tmps) (h : (copd x).ok = true) : VR ρ (aev env (copd x)) (a.eval x) := by
  cases x with
  | tmp t => exact k.at_ t
  | const v =>
    simp only [copd] at h ⊢
    split at h
    · rename_i x hx
      exact cval_rel hx
    · cases h
  | global g => cases h
  | func f => simp only [copd, aev, Act.eval, VR]; exact ⟨[], rfl, VRs_nil⟩

/-! ### Types -/
theorem run_info {t : TypeId} {i : TypeInfo} (h : P.info? t = some i) (w : World) : (typeInfo t).run P w = .ok i w := by simp [typeInfo, h]
theorem csize_spec {t : TypeId} {n : Nat} (h : csize P t = some n) : ∃ i, P.info? t = some i ∧ i.size = n := by
  unfold csize at h
  obtain ⟨i, h1, h2⟩ := Option.map_eq_some_iff.1 h
  exact ⟨i, h1, h2⟩
theorem cbytes_spec {t : TypeId} {n : Nat} (h : cbytes P t = some n) : ∃ i, P.info? t = some i ∧ i.bytes = n := by
  unfold cbytes at h
  obtain ⟨i, h1, h2⟩ := Option.map_eq_some_iff.1 h
  exact ⟨i, h1, h2⟩
theorem run_size {t : TypeId} {n : Nat} (h : csize P t = some n) (w : World) : (sizeOf t).run P w = .ok n w := by
  obtain ⟨i, hi, rfl⟩ := csize_spec h
  simp [sizeOf, run_info hi]
theorem slelem_spec {t e : TypeId} (h : slelem P t = some e) : P.underlying t = some (.slice e) := by
  unfold slelem at h
  split at h
  · rename_i hu; injection h with h; subst h; exact hu
  · cases h
theorem addr_add (b o n : Nat) : (⟨b, o, none⟩ : Addr).add n = ⟨b, o + n, none⟩ := by unfold Addr.add; split <;> simp_all
theorem run_isAgg_struct {t : TypeId} {fs : Array Field} (h : P.underlying t = some (.struct fs)) (w : World) : (isAgg t).run P w = .ok true w := by simp [isAgg, run_underlying h]
theorem run_isAgg_array {t e : TypeId} {n : Nat} (h : P.underlying t = some (.array n e)) (w : World) : (isAgg t).run P w = .ok true w := by simp [isAgg, run_underlying h]
theorem run_isAgg_one {t : TypeId} (h : cone P t = true) (w : World) : (isAgg t).run P w = .ok false w := by
  unfold cone at h
  cases hu : P.underlying t with
  | none => simp [hu] at h
  | some d => simp only [isAgg, Sem.run_bind, run_underlying hu, Result.andThen_ok]; cases d <;> simp_all

/-! ### Operations -/
def Yield (P : Program) (ρ : Ren) (m : Sem Value) (v : AV) : Prop := ∃ c, VR ρ v c ∧ ∀ w, m.run P w = .ok c w

theorem y_fad {x : AV} {c : Value} {t : TypeId} {i n : Nat} {fs : Array Field} {f : Field} {v : AV} (hu : P.underlying t = some (.struct fs)) (hf : fs[i]? = some f) (hn : csize P f.type = some n) (h0 : n ≠ 0)
    (hx : VR ρ x c) (h : (match (generalizing := false) x with | .ptr id o => some (AV.ptr id (o + f.offset)) | _ => none) = some v) : Yield P ρ (Instr.fieldAt t c i) v := by
  cases x <;> simp at h
  subst h
  simp only [VR] at hx
  obtain ⟨L, hL, rfl⟩ := hx
  refine ⟨_, ⟨L, hL, rfl⟩, fun w => ?_⟩
  simp [Instr.fieldAt, run_underlying hu, hf, Instr.sureAddr, fieldPlace, run_size hn, h0, addr_add, Nat.add_assoc]

theorem y_iad {x i : AV} {cx ci : Value} {t e : TypeId} {n : Nat} {v : AV} (hu : P.underlying t = some (.slice e)) (hn : csize P e = some n) (hx : VR ρ x cx) (hi : VR ρ i ci)
    (h : (match (generalizing := false) x, i with | .sl id off len _ z, .int _ k => if z = n ∧ 0 ≤ k ∧ k < len then some (AV.ptr id (off + k.toNat * n)) else none | _, _ => none) = some v) : Yield P ρ (Instr.indexAt t cx ci) v := by
  cases x <;> cases i <;> simp at h
  rename_i id off len cap z k m
  obtain ⟨⟨rfl, h0, h1⟩, rfl⟩ := h
  simp only [VR] at hx hi
  obtain ⟨L, a, c, hL, rfl, hlc, _, hc⟩ := hx
  subst hi
  rcases hc with hc | ⟨rfl, hc⟩
  · omega
  refine ⟨.pointer (some ⟨L.b, L.o + (off + m.toNat * z), none⟩), by simp only [VR]; exact ⟨L, hL, rfl⟩, fun w => ?_⟩
  simp [Instr.indexAt, asIntOf, run_underlying hu, h0, h1, run_size hn, addr_add, Nat.add_assoc]

theorem y_idxs {x i : AV} {cx ci : Value} {t : TypeId} {v : AV} (hu : P.underlying t = some .string) (hx : VR ρ x cx) (hi : VR ρ i ci)
    (h : (match (generalizing := false) x, i with | .str b, .int _ n => if 0 ≤ n then (b[n.toNat]?).map fun u => AV.int .u8 (u.toNat : Int) else none | _, _ => none) = some v) : Yield P ρ (Instr.index t cx ci) v := by
  cases x <;> cases i <;> simp at h
  rename_i b k n
  obtain ⟨h0, u, hu1, rfl⟩ := h
  simp only [VR] at hx hi
  subst hx; subst hi
  refine ⟨.int .u8 (u.toNat : Int), by simp [VR], fun w => ?_⟩
  simp [Instr.index, asIntOf, run_underlying hu, h0, hu1]

theorem y_ext {x : AV} {c : Value} {i : Nat} {v : AV} (hx : VR ρ x c) (h : (match (generalizing := false) x with | .tup vs => vs[i]? | _ => none) = some v) : Yield P ρ (Instr.extract c i) v := by
  cases x <;> simp at h
  rename_i vs
  simp only [VR] at hx
  obtain ⟨cs, rfl, hr⟩ := hx
  obtain ⟨d, hd, hv⟩ := VRs.at_ i hr h
  exact ⟨d, hv, fun w => by simp [Instr.extract, hd]⟩

theorem VRs.part {xs : List AV} {cs : List Value} (h : VRs ρ xs cs) (off n : Nat) : VRs ρ ((xs.drop off).take n) (cs.toArray.extract off (off + n)).toList := by
  have := (h.drop off).take n
  simpa [List.take_drop, Array.toList_extract, List.extract_eq_take_drop, Nat.add_comm] using this

theorem y_fld {x : AV} {c : Value} {t : TypeId} {i n : Nat} {fs : Array Field} {f : Field} {v : AV} {one : Bool} (hu : P.underlying t = some (.struct fs)) (hf : fs[i]? = some f) (hn : csize P f.type = some n)
    (ho : if one then cone P f.type = true else ∃ gs, P.underlying f.type = some (.struct gs))
    (hx : VR ρ x c) (h : (match (generalizing := false) x with | .agg cs => if one then cs[f.offset]? else if f.offset + n ≤ cs.length then some (AV.agg ((cs.drop f.offset).take n)) else none | _ => none) = some v) : Yield P ρ (Instr.field t c i) v := by
  cases x <;> simp at h
  rename_i cs
  simp only [VR] at hx
  obtain ⟨ds, rfl, hr⟩ := hx
  cases one
  · simp at h ho
    obtain ⟨h1, rfl⟩ := h
    obtain ⟨gs, hg⟩ := ho
    refine ⟨.agg (ds.toArray.extract f.offset (f.offset + n)), ?_, fun w => ?_⟩
    · simp only [VR]
      exact ⟨_, by simp, hr.part f.offset n⟩
    · simp [Instr.field, run_underlying hu, hf, asAgg, part, run_isAgg_struct hg, run_size hn]
  · simp at h ho
    obtain ⟨d, hd, hv⟩ := VRs.at_ _ hr h
    refine ⟨d, hv, fun w => ?_⟩
    simp [Instr.field, run_underlying hu, hf, asAgg, part, run_isAgg_one ho, hd]

theorem y_un {op : UnOp} {x : AV} {c : Value} {v : AV} (hx : VR ρ x c)
    (h : (match (generalizing := false) op, x with | .not, .bool b => some (AV.bool !b) | .neg, .int k n => some (AV.int k (k.wrap (0 - n))) | _, _ => none) = some v) : Yield P ρ (Op.unary op c) v := by
  cases op <;> cases x <;> simp at h
  · subst h
    simp only [VR] at hx; subst hx
    exact ⟨_, rfl, fun w => by simp [Op.unary, Op.intArith]⟩
  · subst h
    simp only [VR] at hx; subst hx
    exact ⟨_, rfl, fun w => by simp [Op.unary, Op.intArith]⟩

theorem y_conv {x : AV} {c : Value} {src dst : TypeId} {k k0 : IntKind} {v : AV} (hs : P.underlying src = some (.int k0)) (hd : P.underlying dst = some (.int k)) (hx : VR ρ x c)
    (h : (match (generalizing := false) x with | .int _ n => some (AV.int k (k.wrap n)) | _ => none) = some v) : Yield P ρ (convert src dst c) v := by
  cases x <;> simp at h
  subst h
  simp only [VR] at hx; subst hx
  exact ⟨_, rfl, fun w => by simp [convert, run_underlying hs, run_underlying hd, Conv.intToInt]⟩

theorem y_nchk {o : Oper} {a : Act} {x : AV} {y : Operand} {v : AV} (ho : o.op = .nilCheck y) (hx : VR ρ x (a.eval y))
    (h : (match (generalizing := false) x with | .ptr id o => some (AV.ptr id o) | _ => none) = some v) : ∃ c, VR ρ v c ∧ ∀ w, (execOp a.eval o).run P w = .ok (.value c) w := by
  cases x <;> simp at h
  subst h
  simp only [VR] at hx
  obtain ⟨L, hL, hv⟩ := hx
  refine ⟨.pointer (some ⟨L.b, L.o + _, none⟩), by simp only [VR]; exact ⟨L, hL, rfl⟩, fun w => ?_⟩
  simp [execOp, ho, hv]

theorem y_len_st {x : AV} {c : Value} {t ty : TypeId} {v : AV} (hu : P.underlying t = some .string) (hx : VR ρ x c)
    (h : (match (generalizing := false) x with | .str b => some (AV.int .i64 (b.size : Int)) | _ => none) = some v) : Yield P ρ (Builtin.len_ #[t] ty #[c]) v := by
  cases x <;> simp at h
  subst h
  simp only [VR] at hx; subst hx
  exact ⟨_, rfl, fun w => by simp [Builtin.len_, run_underlying hu, goInt]⟩
theorem y_len_sl {x : AV} {c : Value} {t e ty : TypeId} {v : AV} (hu : P.underlying t = some (.slice e)) (hx : VR ρ x c)
    (h : (match (generalizing := false) x with | .sl _ _ n _ _ => some (AV.int .i64 (n : Int)) | .nils => some (AV.int .i64 0) | _ => none) = some v) : Yield P ρ (Builtin.len_ #[t] ty #[c]) v := by
  cases x <;> simp at h
  · subst h
    simp only [VR] at hx
    obtain ⟨L, a, k, hL, rfl, _⟩ := hx
    exact ⟨_, rfl, fun w => by simp [Builtin.len_, run_underlying hu, goInt]⟩
  · subst h
    simp only [VR] at hx; subst hx
    exact ⟨_, rfl, fun w => by simp [Builtin.len_, run_underlying hu, goInt]⟩
theorem y_cap {x : AV} {c : Value} {t e ty : TypeId} {v : AV} (hu : P.underlying t = some (.slice e)) (hx : VR ρ x c)
    (h : (match (generalizing := false) x with | .sl _ _ _ (some c) _ => some (AV.int .i64 (c : Int)) | .nils => some (AV.int .i64 0) | _ => none) = some v) : Yield P ρ (Builtin.cap_ #[t] ty #[c]) v := by
  cases x <;> (try simp at h)
  · rename_i id off len cap sz
    cases cap <;> simp at h
    subst h
    simp only [VR] at hx
    obtain ⟨L, a, k, hL, rfl, _, hk, _⟩ := hx
    obtain rfl := hk _ rfl
    exact ⟨_, rfl, fun w => by simp [Builtin.cap_, run_underlying hu, goInt]⟩
  · subst h
    simp only [VR] at hx; subst hx
    exact ⟨_, rfl, fun w => by simp [Builtin.cap_, run_underlying hu, goInt]⟩

theorem y_mmL {big : Bool} : ∀ {r : List AV} {rc : List Value} {x : AV} {cx : Value} {v : AV}, VR ρ x cx → VRs ρ r rc → mmL big x r = some v →
    Yield P ρ (if big then rc.foldlM Builtin.max2 cx else rc.foldlM Builtin.min2 cx) v
  | [], rc, x, cx, v, hx, hr, h => by
    simp only [VRs] at hr; subst hr
    simp only [mmL] at h; injection h with h; subst h
    exact ⟨cx, hx, fun w => by cases big <;> simp⟩
  | y :: r, rc, x, cx, v, hx, hr, h => by
    simp only [VRs] at hr
    obtain ⟨cy, rc', rfl, hy, hr'⟩ := hr
    cases x <;> cases y <;> simp [mmL] at h
    rename_i k a k' b
    · obtain ⟨hk, h⟩ := h
      subst hk
      simp only [VR] at hx hy
      subst hx; subst hy
      obtain ⟨c, hc, hrun⟩ := y_mmL (big := big) (cx := .int k (if big then (if b > a then b else a) else (if b < a then b else a))) (by simp [VR]) hr' h
      refine ⟨c, hc, fun w => ?_⟩
      have := hrun w
      cases big <;> simp [Builtin.max2, Builtin.min2] at this ⊢ <;> exact this

end Go.AM
