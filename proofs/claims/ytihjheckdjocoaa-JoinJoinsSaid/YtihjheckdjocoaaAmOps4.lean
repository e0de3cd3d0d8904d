/-
  Every operation that looks at no memory, and every one that makes one block. Own work of this project.
-/
import Derived.Test.YtihjheckdjocoaaAmOps3
set_option linter.unusedVariables false
set_option linter.unusedSimpArgs false
namespace Go.AM
open Go

variable {P : Program} {ρ : Ren}

theorem cop_ok {cl : Bool} {op : Op} (h : cop P cl op ≠ .bad) : (∀ x ∈ op.operands, (copd x).ok = true) ∧ cop P cl op = cop0 P cl op := by
  unfold cop at h ⊢
  split at h
  · rename_i hall
    refine ⟨fun x hx => ?_, by rw [if_pos hall]⟩
    have := List.all_eq_true.1 hall x (by simpa using hx)
    exact this
  · exact absurd rfl h

theorem yield_exec {o : Oper} {a : Act} {m : Sem Value} {v : AV} (hy : Yield P ρ m v) (he : execOp a.eval o = do pure (.value (← m))) : ∃ c, VR ρ v c ∧ ∀ w, (execOp a.eval o).run P w = .ok (.value c) w := by
  obtain ⟨c, hc, hrun⟩ := hy
  exact ⟨c, hc, fun w => by rw [he]; simp [hrun w]⟩

/-- A call of a builtin of one, two or more arguments. -/
theorem exec_builtin {o : Oper} {a : Act} {c : Call} {b : Builtin} (hop : o.op = .call c) (hb : c.callee = .builtin b) :
    execOp a.eval o = builtin b c.argTypes o.type (c.args.map fun | .const _ => true | _ => false) (c.args.map a.eval) := by
  obtain ⟨callee, args, argTypes⟩ := c
  simp only at hb
  subst hb
  simp only [execOp, hop, resolve, invoke]
  rfl

theorem VRs_map {env : Env} {a : Act} (hE : EnvR ρ env a.tmps) : ∀ (l : List Operand), (∀ x ∈ l, (copd x).ok = true) → VRs ρ ((l.map copd).map (aev env)) (l.map a.eval)
  | [], _ => VRs_nil
  | x :: l, h => by
    simp only [List.map_cons]
    exact VRs_cons.2 ⟨aev_rel hE (h x (by simp)), VRs_map hE l fun y hy => h y (by simp [hy])⟩

theorem pure_builtin {o : Oper} {a : Act} {env : Env} {cl : Bool} {c : Call} {b : Builtin} {v : AV} (hE : EnvR ρ env a.tmps) (hop : o.op = .call c) (hb : c.callee = .builtin b) (hok : ∀ x ∈ c.operands, (copd x).ok = true)
    (h : apure env (ccall P c cl) = some v) : ∃ r, VR ρ v r ∧ ∀ w, (execOp a.eval o).run P w = .ok (.value r) w := by
  have hex := exec_builtin (a := a) hop hb
  have hargs : ∀ x ∈ c.args.toList, (copd x).ok = true := fun x hx => hok x (by simp [Call.operands]; exact .inr (by simpa using hx))
  unfold ccall at h
  rw [hb] at h
  simp only at h
  split at h
  · rename_i x t hA hT
    have hA' : c.args = #[x] := by apply Array.ext'; simpa using hA
    have hT' : c.argTypes = #[t] := by apply Array.ext'; simpa using hT
    have hx := aev_rel hE (hargs x (by rw [hA]; simp))
    split at h
    · rename_i hu
      exact yield_exec (m := Builtin.len_ #[t] o.type #[a.eval x]) (y_len_st hu hx (by simp only [apure] at h; exact h)) (by rw [hex, hA', hT']; simp [builtin])
    · rename_i e hu
      exact yield_exec (m := Builtin.len_ #[t] o.type #[a.eval x]) (y_len_sl hu hx (by simp only [apure] at h; exact h)) (by rw [hex, hA', hT']; simp [builtin])
    · simp [apure] at h
    · simp [apure] at h
  · rename_i x t hA hT
    have hA' : c.args = #[x] := by apply Array.ext'; simpa using hA
    have hT' : c.argTypes = #[t] := by apply Array.ext'; simpa using hT
    have hx := aev_rel hE (hargs x (by rw [hA]; simp))
    split at h
    · rename_i e hu
      exact yield_exec (m := Builtin.cap_ #[t] o.type #[a.eval x]) (y_cap hu hx (by simp only [apure] at h; exact h)) (by rw [hex, hA', hT']; simp [builtin])
    · simp [apure] at h
  · split at h
    · split at h
      · split at h <;> simp [apure] at h
      · split at h <;> simp [apure] at h
      · simp [apure] at h
    · simp [apure] at h
  · split at h
    · split at h
      · split at h <;> simp [apure] at h
      · simp [apure] at h
    · simp [apure] at h
  · simp only [apure] at h
    have hl := VRs_map hE c.args.toList hargs
    cases hcl : c.args.toList with
    | nil => rw [hcl] at h; simp at h
    | cons x r =>
      rw [hcl] at h hl
      simp only [List.map_cons] at h hl
      obtain ⟨h1, h2⟩ := VRs_cons.1 hl
      have hA' : c.args = (x :: r).toArray := by apply Array.ext'; simpa using hcl
      refine yield_exec (m := Builtin.max_ c.argTypes o.type (c.args.map a.eval)) ?_ (by rw [hex]; simp [builtin])
      have := y_mmL (P := P) (big := true) h1 h2 h
      simpa [Builtin.max_, hA'] using this
  · simp only [apure] at h
    have hl := VRs_map hE c.args.toList hargs
    cases hcl : c.args.toList with
    | nil => rw [hcl] at h; simp at h
    | cons x r =>
      rw [hcl] at h hl
      simp only [List.map_cons] at h hl
      obtain ⟨h1, h2⟩ := VRs_cons.1 hl
      have hA' : c.args = (x :: r).toArray := by apply Array.ext'; simpa using hcl
      refine yield_exec (m := Builtin.min_ c.argTypes o.type (c.args.map a.eval)) ?_ (by rw [hex]; simp [builtin])
      have := y_mmL (P := P) (big := false) h1 h2 h
      simpa [Builtin.min_, hA'] using this
  · split at h
    · split at h <;> simp [apure] at h
    · simp [apure] at h
  · simp [apure] at h

theorem pure_run {o : Oper} {a : Act} {env : Env} {cl : Bool} {v : AV} (hE : EnvR ρ env a.tmps) (h : apure env (cop P cl o.op) = some v) : ∃ c, VR ρ v c ∧ ∀ w, (execOp a.eval o).run P w = .ok (.value c) w := by
  obtain ⟨hok, hc⟩ := cop_ok (P := P) (cl := cl) (op := o.op) (by intro e; rw [e] at h; simp [apure] at h)
  rw [hc] at h
  clear hc
  cases hop : o.op with
  | move x =>
    rw [hop] at h hok
    simp only [cop0, apure] at h
    injection h with h; subst h
    exact ⟨a.eval x, aev_rel hE (hok x (by simp [Op.operands])), fun w => by simp [execOp, hop]⟩
  | assign x =>
    rw [hop] at h hok
    simp only [cop0, apure] at h
    injection h with h; subst h
    exact ⟨a.eval x, aev_rel hE (hok x (by simp [Op.operands])), fun w => by simp [execOp, hop]⟩
  | pick c x y =>
    rw [hop] at h hok
    simp only [cop0, apure] at h
    have hcv := aev_rel hE (hok c (by simp [Op.operands]))
    have hx := aev_rel hE (hok x (by simp [Op.operands]))
    have hy := aev_rel hE (hok y (by simp [Op.operands]))
    split at h
    · rename_i t ht
      rw [ht] at hcv
      simp only [VR] at hcv
      injection h with h; subst h
      cases t
      · exact ⟨a.eval y, hy, fun w => by simp [execOp, hop, hcv, asBool]⟩
      · exact ⟨a.eval x, hx, fun w => by simp [execOp, hop, hcv, asBool]⟩
    · cases h
  | build t ps =>
    rw [hop] at h hok
    simp only [cop0] at h
    split at h
    · rename_i fs z hu hz
      split at h
      · rename_i hall
        split at h
        · rename_i l hl
          refine yield_exec (y_build hE hu hz hall hl (fun x hx => hok x.2 ?_) (by simp only [apure] at h; exact h)) (by simp only [execOp, hop])
          simp only [Op.operands, List.mem_toArray, List.mem_map]
          exact ⟨x, hx, rfl⟩
        · simp [apure] at h
      · simp [apure] at h
    · simp [apure] at h
  | nilCheck x =>
    rw [hop] at h hok
    exact y_nchk hop (aev_rel hE (hok x (by simp [Op.operands]))) (by simp only [cop0, apure] at h; exact h)
  | binOp op t x y ty =>
    rw [hop] at h hok
    exact yield_exec (y_bin (x := x) (y := y) (aev_rel hE (hok x (by simp [Op.operands]))) (aev_rel hE (hok y (by simp [Op.operands]))) (by simp only [cop0, apure] at h; exact h)) (by simp only [execOp, hop])
  | unOp op t x =>
    rw [hop] at h hok
    exact yield_exec (y_un (aev_rel hE (hok x (by simp [Op.operands]))) (by simp only [cop0, apure] at h; exact h)) (by simp only [execOp, hop])
  | convert src dst x =>
    rw [hop] at h hok
    simp only [cop0] at h
    split at h
    · rename_i k0 k h1 h2
      exact yield_exec (y_conv h1 h2 (aev_rel hE (hok x (by simp [Op.operands]))) (by simp only [cop0, apure] at h; exact h)) (by simp only [execOp, hop])
    · split at h <;> simp [apure] at h
    · split at h <;> simp [apure] at h
    · simp [apure] at h
  | makeFunc fn first caps =>
    rw [hop] at h hok
    cases fn <;> simp only [cop0] at h <;> (try (simp [apure] at h; done))
    rename_i f
    split at h
    · rename_i hf
      simp only [apure] at h
      injection h with h; subst h
      have hf' : first = #[] := by simpa using hf
      refine ⟨.func (.func f) #[] (caps.map a.eval), ?_, fun w => by simp [execOp, hop, Instr.makeFunc, hf']⟩
      simp only [VR]
      refine ⟨caps.toList.map a.eval, by congr 1; apply Array.ext'; simp, ?_⟩
      exact VRs_map hE caps.toList fun x hx => hok x (by simp [Op.operands]; exact .inr (by simpa using hx))
    · simp [apure] at h
  | slice t x lo hi mx =>
    rw [hop] at h hok
    simp only [cop0] at h
    split at h
    · rename_i e hu
      split at h
      · rename_i n hn
        split at h
        · exact yield_exec (y_slc hE hu hn (fun y hy => hok y (by simp [Op.operands] at hy ⊢; rcases hy with hy | hy | hy <;> simp [hy])) (hok x (by simp [Op.operands])) h) (by simp only [execOp, hop])
        · simp [apure] at h
      · simp [apure] at h
    · rename_i hu
      split at h
      · rename_i hmx
        have hmx' : mx = none := by simpa using hmx
        subst hmx'
        exact yield_exec (y_slcs hE hu (fun y hy => hok y (by simp [Op.operands] at hy ⊢; rcases hy with hy | hy <;> simp [hy])) (hok x (by simp [Op.operands])) h) (by simp only [execOp, hop]; rfl)
      · simp [apure] at h
    · simp [apure] at h
  | fieldAddr t x i =>
    rw [hop] at h hok
    simp only [cop0] at h
    split at h
    · rename_i fs hu
      split at h
      · rename_i f hf
        split at h
        · rename_i n hn
          split at h
          · rename_i h0
            exact yield_exec (y_fad hu hf hn (by simpa using h0) (aev_rel hE (hok x (by simp [Op.operands]))) (by simp only [apure] at h; exact h)) (by simp only [execOp, hop])
          · simp [apure] at h
        · simp [apure] at h
      · simp [apure] at h
    · simp [apure] at h
  | field t x i =>
    rw [hop] at h hok
    simp only [cop0] at h
    split at h
    · rename_i fs hu
      split at h
      · rename_i f hf
        split at h
        · rename_i n gs hn hg
          exact yield_exec (y_fld (one := false) hu hf hn (by simpa using ⟨gs, hg⟩) (aev_rel hE (hok x (by simp [Op.operands]))) (by simp only [apure] at h; exact h)) (by simp only [execOp, hop])
        · rename_i n d hn hg
          split at h
          · rename_i h1
            exact yield_exec (y_fld (one := true) hu hf hn (by simpa using h1) (aev_rel hE (hok x (by simp [Op.operands]))) (by simp only [apure] at h; exact h)) (by simp only [execOp, hop])
          · simp [apure] at h
        · simp [apure] at h
      · simp [apure] at h
    · simp [apure] at h
  | indexAddr t x i =>
    rw [hop] at h hok
    simp only [cop0] at h
    split at h
    · rename_i e he
      split at h
      · rename_i n hn
        split at h
        · exact yield_exec (y_iad (slelem_spec he) hn (aev_rel hE (hok x (by simp [Op.operands]))) (aev_rel hE (hok i (by simp [Op.operands]))) (by simp only [apure] at h; exact h)) (by simp only [execOp, hop])
        · simp [apure] at h
      · simp [apure] at h
    · simp [apure] at h
  | index t x i =>
    rw [hop] at h hok
    simp only [cop0] at h
    split at h
    · rename_i hu
      exact yield_exec (y_idxs hu (aev_rel hE (hok x (by simp [Op.operands]))) (aev_rel hE (hok i (by simp [Op.operands]))) (by simp only [apure] at h; exact h)) (by simp only [execOp, hop])
    · simp [apure] at h
  | extract x i =>
    rw [hop] at h hok
    exact yield_exec (y_ext (aev_rel hE (hok x (by simp [Op.operands]))) (by simp only [cop0, apure] at h; exact h)) (by simp only [execOp, hop])
  | call c =>
    rw [hop] at h hok
    simp only [cop0] at h
    cases hcal : c.callee with
    | value f =>
      unfold ccall at h
      rw [hcal] at h
      cases f <;> simp only at h
      · simp [apure] at h
      · simp [apure] at h
      · simp [apure] at h
      · split at h <;> simp [apure] at h
    | invoke r m => unfold ccall at h; rw [hcal] at h; simp [apure] at h
    | builtin b => exact pure_builtin hE hop hcal hok h
  | _ =>
    rw [hop] at h
    simp only [cop0] at h
    repeat' split at h
    all_goals simp [apure] at h

/-! ### Operations that make one block -/
theorem zeros_one {z : List AV} (h : z.all AV.one = true) (n : Nat) : (zeros z n).all AV.one = true := by
  induction n with
  | zero => rfl
  | succ n ih =>
    simp only [zeros] at ih ⊢
    rw [List.replicate_succ, List.flatten_cons, List.all_append, h, ih]
    rfl
theorem setAt_one {cs vs : List AV} (h : cs.all AV.one = true) (k : vs.all AV.one = true) (off : Nat) : (setAt cs off vs).all AV.one = true := by
  rw [List.all_eq_true] at h k ⊢
  intro x hx
  simp only [setAt, List.mem_append] at hx
  rcases hx with (hx | hx) | hx
  · exact h x (List.mem_of_mem_take hx)
  · exact k x hx
  · exact h x (List.mem_of_mem_drop hx)
theorem fillP_one {env : Env} : ∀ (ps : List (Nat × Nat × AO)) (cs r : List AV), cs.all AV.one = true → fillP env cs ps = some r → r.all AV.one = true
  | [], cs, r, h, hf => by simp only [fillP] at hf; injection hf with hf; subst hf; exact h
  | (off, n, x) :: ps, cs, r, h, hf => by
    simp only [fillP] at hf
    split at hf
    · rename_i hh
      exact fillP_one ps _ r (setAt_one h hh.2.1 off) hf
    · cases hf
theorem alloc_run {o : Oper} {a : Act} {env : Env} {cl : Bool} {mk : Nat → AV} {b : AB} (hE : EnvR ρ env a.tmps) (h : aalloc env (cop P cl o.op) = some (mk, b)) :
    ∃ (cs : Array Value) (e : TypeId) (c : Nat → Value), (∀ w, (execOp a.eval o).run P w = .ok (.value (c w.heap.size)) (pushW w (.cells cs e))) ∧
      (∀ (id : Nat) (ρ' : Ren) (B : Nat), ρ.le ρ' → ρ' id = some ⟨B, 0, cs.size⟩ → VR ρ' (mk id) (c B)) ∧
      (∃ cells, b = .row cells true ∧ cells.length ≤ cs.size ∧ VRs ρ cells cs.toList ∧ cells.all AV.one = true) := by
  obtain ⟨hok, hc⟩ := cop_ok (P := P) (cl := cl) (op := o.op) (by intro e; rw [e] at h; simp [aalloc] at h)
  rw [hc] at h
  clear hc
  cases hop : o.op with
  | alloc t =>
    rw [hop] at h hok
    simp only [cop0] at h
    split at h
    · rename_i z hz
      simp only [aalloc] at h
      injection h with h
      obtain ⟨rfl, rfl⟩ := Prod.mk.inj h
      obtain ⟨i, zv, hi, hzv, hzr, hzl, hzo⟩ := czero_spec (ρ := ρ) hz
      refine ⟨zv.cells, t, fun B => .pointer (some ⟨B, 0, none⟩), fun w => ?_, fun id ρ' B _ hid => ?_, z, rfl, ?_, hzr, hzo⟩
      · simp [execOp, hop, Instr.alloc, run_zero hi hzv, newVar, newRow, pushW]
      · simp only [VR]; exact ⟨_, hid, by simp⟩
      · have := hzr.len; simp at this; omega
    · simp [aalloc] at h
  | box t x =>
    rw [hop] at h hok
    simp only [cop0] at h
    split at h
    · rename_i n hn
      simp only [aalloc] at h
      split at h
      · rename_i hcs
        injection h with h
        obtain ⟨rfl, rfl⟩ := Prod.mk.inj h
        obtain ⟨cs, he, hv⟩ := VR.cells hcs.2 (aev_rel hE (hok x (by simp [Op.operands])))
        refine ⟨(a.eval x).cells, t, fun B => .pointer (some ⟨B, 0, none⟩), fun w => ?_, fun id ρ' B _ hid => ?_, _, rfl, ?_, (by rw [he]; exact hv), hcs.2⟩
        · simp [execOp, hop, Instr.box, newVar, newRow, pushW]
        · simp only [VR]; exact ⟨_, hid, by simp⟩
        · rw [he]; have := hv.len; simp; omega
      · cases h
    · simp [aalloc] at h
  | buildSlice t len ps =>
    rw [hop] at h hok
    simp only [cop0] at h
    split at h
    · rename_i e he
      split at h
      · rename_i n z hn hz
        split at h
        · rename_i hlim
          simp only [Bool.and_eq_true, bne_iff_ne, ne_eq, decide_eq_true_eq] at hlim
          simp only [aalloc] at h
          obtain ⟨r, hr, h⟩ := Option.map_eq_some_iff.1 h
          obtain ⟨rfl, rfl⟩ := Prod.mk.inj h
          obtain ⟨i, zv, hi, hzv, hzr, hzl, hzo⟩ := czero_spec (ρ := ρ) hz
          obtain ⟨i', hi', hin⟩ := csize_spec hn
          rw [hi] at hi'; injection hi' with hi'; subst hi'
          have hz0 := VRs_zeros hzr len (len * n) (by rw [hzl, hin])
          obtain ⟨es, hfill, hes⟩ := fill_rel (ρ := ρ) hE (fun i => some (i * n, n)) ps.toList ((ps.toList.map fun (i, x) => (i, copd x)).map fun (i, x) => (i * n, n, x)) (zeros z len) ((Array.range (len * n)).map (fun i => zv.cells[i % zv.cells.size]!)) r
            (fun x hx => hok x.2 (by simp only [Op.operands, List.mem_toArray, List.mem_map]; exact ⟨x, hx, rfl⟩)) (by simp)
            (fun j i x off m y e1 e2 => by
              simp only [List.map_map] at e2
              rw [List.getElem?_map, e1] at e2
              simp at e2
              obtain ⟨rfl, rfl, rfl⟩ := e2
              exact ⟨rfl, rfl⟩) hz0 (by simpa [List.map_map, Function.comp_def] using hr)
          have hsz : es.size = len * n := by
            have h1 := hes.len
            have h2 : r.length = len * n := by
              have : ∀ (ps : List (Nat × Nat × AO)) (cs r : List AV), fillP env cs ps = some r → r.length = cs.length := by
                intro ps
                induction ps with
                | nil => intro cs r h; simp only [fillP] at h; injection h with h; subst h; rfl
                | cons p ps ih =>
                  obtain ⟨off, m, x⟩ := p
                  intro cs r h
                  simp only [fillP] at h
                  split at h
                  · rename_i hh
                    rw [ih _ _ h, length_setAt _ _ _ (by omega)]
                  · cases h
              rw [this _ _ _ hr, zeros_length, hzl, hin]
            simp at h1; omega
          have hu := slelem_spec he
          refine ⟨es, e, fun B => .slice (some ⟨B, 0, none⟩) len len, fun w => ?_, fun id ρ' B _ hid => ?_, r, rfl, ?_, hes, fillP_one _ _ _ (zeros_one hzo _) hr⟩
          · simp only [execOp, hop, Instr.buildSlice, Sem.run_bind, run_underlying hu, Result.andThen_ok, run_size hn]
            rw [if_neg (by omega)]
            simp only [Array.toList_map] at hfill
            by_cases h0 : len * n = 0
            · have hr0 : Array.range 0 = #[] := rfl
              rw [h0, hr0] at hfill
              simp only [Array.map_empty] at hfill
              simp [h0, hr0, hfill, newRow, pushW]
            · simp [h0, run_zero hi hzv, hfill, newRow, pushW]
          · simp only [VR]
            exact ⟨_, _, _, hid, rfl, Nat.le_refl _, fun k hk => by injection hk, .inr ⟨by simp, by simp [hsz]⟩⟩
          · have := hes.len; simp at this; omega
        · simp [aalloc] at h
      · simp [aalloc] at h
    · simp [aalloc] at h
  | makeSlice t l c =>
    rw [hop] at h hok
    simp only [cop0] at h
    split at h
    · rename_i e he
      split at h
      · rename_i n b' z hn hb hz
        split at h
        · rename_i hlim
          simp only [Bool.and_eq_true, bne_iff_ne, ne_eq, decide_eq_true_eq] at hlim
          simp only [aalloc] at h
          have hl := aev_rel hE (hok l (by simp [Op.operands]))
          have hcv := aev_rel hE (hok c (by simp [Op.operands]))
          split at h
          · rename_i li ci hl' hc'
            rw [hl'] at hl
            rw [hc'] at hcv
            simp only [VR] at hl hcv
            split at h
            · rename_i hb'
              obtain ⟨h0, h1, h2, h3⟩ := hb'
              injection h with h
              obtain ⟨rfl, rfl⟩ := Prod.mk.inj h
              obtain ⟨i, zv, hi, hzv, hzr, hzl, hzo⟩ := czero_spec (ρ := ρ) hz
              obtain ⟨i', hi', hin⟩ := csize_spec hn
              rw [hi] at hi'; injection hi' with hi'; subst hi'
              obtain ⟨i', hi', hbi⟩ := cbytes_spec hb
              rw [hi] at hi'; injection hi' with hi'; subst hi'
              have hz0 := VRs_zeros hzr ci.toNat (ci.toNat * n) (by rw [hzl, hin])
              have hu := slelem_spec he
              have wl : IntKind.i64.wrap li = li := by simp [IntKind.wrap, IntKind.bits, IntKind.signed]; omega
              have wc : IntKind.i64.wrap ci = ci := by simp [IntKind.wrap, IntKind.bits, IntKind.signed]; omega
              refine ⟨(Array.range (ci.toNat * n)).map (fun i => zv.cells[i % zv.cells.size]!), e, fun B => .slice (some ⟨B, 0, none⟩) li.toNat ci.toNat, fun w => ?_, fun id ρ' B _ hid => ?_, _, rfl, ?_, hz0, zeros_one hzo _⟩
              · simp only [execOp, hop, Instr.makeSlice, Sem.run_bind, run_underlying hu, Result.andThen_ok, hl, hcv, asInt, asIntOf, Sem.run_pure, run_info hi, wl, wc, hbi]
                rw [if_neg (by
                  unfold roomBytes at h2
                  simp only [Bool.or_eq_true, decide_eq_true_eq, not_or]
                  refine ⟨⟨⟨by omega, by omega⟩, by omega⟩, by omega⟩)]
                simp only [Sem.run_bind, run_askRoom, Result.andThen_ok, run_size hn]
                by_cases h0 : ci.toNat * n = 0
                · have hr0 : Array.range 0 = #[] := rfl
                  simp [h0, hr0, newRow, pushW]
                · simp only [h0, if_false]
                  simp [run_zero hi hzv, newRow, pushW]
              · simp only [VR]
                refine ⟨_, _, _, hid, rfl, by omega, fun k hk => by injection hk, .inr ⟨by simp, ?_⟩⟩
                simp [hzl, hin]
              · simp [zeros_length, hzl, hin]
            · cases h
          · cases h
        · simp [aalloc] at h
      · simp [aalloc] at h
    · simp [aalloc] at h
  | makeFunc fn first caps =>
    rw [hop] at h
    cases fn <;> simp only [cop0] at h <;> (try split at h) <;> simp [aalloc] at h
  | _ =>
    rw [hop] at h
    simp only [cop0, ccall] at h
    repeat' split at h
    all_goals simp [aalloc] at h

end Go.AM
