/-
  Functions, and tables of functions. Own work of this project.
-/
import Derived.Test.YtihjheckdjocoaaAmSnd7
set_option linter.unusedVariables false
set_option linter.unusedSimpArgs false
namespace Go.AM
open Go

variable {P : Program} {ρ : Ren}

def resRead (tmps : Array Value) : ResultVar → Sem Value
  | .tmp t => pure (tmps.getD t undef)
  | .cell a t => do loadVar t (← asAddr (tmps.getD a undef))
theorem results_list {env : Env} {s : St} {w : World} {tmps : Array Value} (hE : EnvR ρ env tmps) (hR : R s ρ w) : ∀ (rvs : List ResultVar) (rs : List AR) (vs : List AV), cres P rvs = some rs → rs.mapM (aresult env s) = some vs →
    ∃ cs, VRs ρ vs cs ∧ (rvs.mapM (resRead tmps)).run P w = .ok cs w
  | [], rs, vs, h, h' => by
    simp only [cres] at h
    injection h with h; subst h
    simp at h'
    subst h'
    exact ⟨[], VRs_nil, by simp⟩
  | .tmp t :: r, rs, vs, h, h' => by
    simp only [cres] at h
    obtain ⟨rs', hr, rfl⟩ := Option.map_eq_some_iff.1 h
    simp only [List.mapM_cons, aresult] at h'
    cases hq : r with
    | _ =>
      rw [← hq]
      cases hm : rs'.mapM (aresult env s) with
      | none => rw [hm] at h'; cases h'
      | some vs' =>
        rw [hm] at h'
        injection h' with h'; subst h'
        obtain ⟨cs, h1, h2⟩ := results_list hE hR r rs' vs' hr hm
        refine ⟨tmps.getD t undef :: cs, VRs_cons.2 ⟨hE.at_ t, h1⟩, ?_⟩
        simp [List.mapM_cons, resRead, h2]
  | .cell a t :: r, rs, vs, h, h' => by
    simp only [cres] at h
    split at h
    · rename_i n rs' hn hr
      have hva := hE.at_ a
      split at h
      · rename_i h1
        split at h
        · rename_i hn1
          injection h with h; subst h
          simp only [List.mapM_cons, aresult] at h'
          cases hev : env.getD a .und <;> rw [hev] at h' hva <;> try (cases h'; done)
          rename_i id o
          simp only [VR] at hva
          obtain ⟨L, hL, hval⟩ := hva
          simp only at h'
          cases hg : s.get id with
          | none => rw [hg] at h'; cases h'
          | some b =>
            rw [hg] at h'
            cases b <;> try (cases h'; done)
            rename_i cells own
            simp only at h'
            cases hco : cells[o]? with
            | none => rw [hco] at h'; cases h'
            | some v =>
              rw [hco] at h'
              cases hm : rs'.mapM (aresult env s) with
              | none => rw [hm] at h'; cases h'
              | some vs' =>
                rw [hm] at h'
                injection h' with h'; subst h'
                obtain ⟨cs, e1, e2⟩ := results_list hE hR r rs' vs' hr hm
                obtain ⟨cc, e, fr, g1, g2, g3, g4, _⟩ := row_cells hR hg hL
                obtain ⟨c, hc, hvc⟩ := g4.at_ _ hco
                have hlt := (List.getElem?_eq_some_iff.1 hco).1
                rw [List.getElem?_take_of_lt hlt, List.getElem?_drop] at hc
                have hcell := cell_at g1 (L.o + o)
                simp at hc
                refine ⟨c :: cs, VRs_cons.2 ⟨hvc, e1⟩, ?_⟩
                simp [List.mapM_cons, resRead, hval, asAddr, loadVar, run_isAgg_one h1, run_load, hcell, hc, e2]
        · cases h
      · split at h
        · rename_i fs hu
          injection h with h; subst h
          simp only [List.mapM_cons, aresult] at h'
          cases hev : env.getD a .und <;> rw [hev] at h' hva <;> try (cases h'; done)
          rename_i id o
          simp only [VR] at hva
          obtain ⟨L, hL, hval⟩ := hva
          simp only at h'
          cases hg : s.get id with
          | none => rw [hg] at h'; cases h'
          | some b =>
            rw [hg] at h'
            cases b <;> try (cases h'; done)
            rename_i cells own
            simp only at h'
            by_cases hlen : o + n ≤ cells.length
            · rw [if_pos hlen] at h'
              cases hm : rs'.mapM (aresult env s) with
              | none => rw [hm] at h'; cases h'
              | some vs' =>
                rw [hm] at h'
                injection h' with h'; subst h'
                obtain ⟨cs, e1, e2⟩ := results_list hE hR r rs' vs' hr hm
                obtain ⟨cc, e, fr, g1, g2, g3, g4, _⟩ := row_cells hR hg hL
                have hv := (g4.drop o).take n
                rw [List.drop_take, List.drop_drop, List.take_take] at hv
                rw [show min n (cells.length - o) = n by omega] at hv
                have hld := run_loadCells_at (P := P) g1 (o := L.o + o) n (by omega)
                refine ⟨.agg ((cc.toList.drop (L.o + o)).take n).toArray :: cs, VRs_cons.2 ⟨by simp only [VR]; exact ⟨_, rfl, hv⟩, e1⟩, ?_⟩
                simp [List.mapM_cons, resRead, hval, asAddr, loadVar, run_isAgg_struct hu, run_size hn, hld, e2]
            · rw [if_neg hlen] at h'; cases h'
        · rename_i e m hu
          injection h with h; subst h
          simp only [List.mapM_cons, aresult] at h'
          cases hev : env.getD a .und <;> rw [hev] at h' hva <;> try (cases h'; done)
          rename_i id o
          simp only [VR] at hva
          obtain ⟨L, hL, hval⟩ := hva
          simp only at h'
          cases hg : s.get id with
          | none => rw [hg] at h'; cases h'
          | some b =>
            rw [hg] at h'
            cases b <;> try (cases h'; done)
            rename_i cells own
            simp only at h'
            by_cases hlen : o + n ≤ cells.length
            · rw [if_pos hlen] at h'
              cases hm : rs'.mapM (aresult env s) with
              | none => rw [hm] at h'; cases h'
              | some vs' =>
                rw [hm] at h'
                injection h' with h'; subst h'
                obtain ⟨cs, e1, e2⟩ := results_list hE hR r rs' vs' hr hm
                obtain ⟨cc, e, fr, g1, g2, g3, g4, _⟩ := row_cells hR hg hL
                have hv := (g4.drop o).take n
                rw [List.drop_take, List.drop_drop, List.take_take] at hv
                rw [show min n (cells.length - o) = n by omega] at hv
                have hld := run_loadCells_at (P := P) g1 (o := L.o + o) n (by omega)
                refine ⟨.agg ((cc.toList.drop (L.o + o)).take n).toArray :: cs, VRs_cons.2 ⟨by simp only [VR]; exact ⟨_, rfl, hv⟩, e1⟩, ?_⟩
                simp [List.mapM_cons, resRead, hval, asAddr, loadVar, run_isAgg_array hu, run_size hn, hld, e2]
            · rw [if_neg hlen] at h'; cases h'
        · cases h
    · cases h
theorem results_run {fn : Func} {rs : List AR} {env : Env} {s : St} {w : World} {tmps : Array Value} {v : AV} (hE : EnvR ρ env tmps) (hR : R s ρ w) (hc : cres P fn.results.toList = some rs) (h : aresults env s rs = some v) :
    ∃ c, VR ρ v c ∧ (results fn tmps).run P w = .ok c w := by
  unfold aresults at h
  have key : ∀ vs, rs.mapM (aresult env s) = some vs → ∃ cs, VRs ρ vs cs ∧ (results fn tmps).run P w = .ok (if h : cs.toArray.size = 1 then cs.toArray[0] else .tuple cs.toArray) w := by
    intro vs hvs
    obtain ⟨cs, h1, h2⟩ := results_list hE hR _ _ _ hc hvs
    refine ⟨cs, h1, ?_⟩
    have hres : results fn tmps = (fn.results.mapM (resRead tmps) >>= fun vs => pure (if h : vs.size = 1 then vs[0] else .tuple vs)) := by
      unfold results
      congr 1
    rw [hres, Array.mapM_eq_mapM_toList]
    simp [h2]
  cases hm : rs.mapM (aresult env s) with
  | none => rw [hm] at h; cases h
  | some vs =>
    obtain ⟨cs, h1, h2⟩ := key vs hm
    rw [hm] at h
    rw [h2]
    have hl := h1.len
    match vs, h with
    | [], h =>
      simp only at h
      injection h with h; subst h
      refine ⟨_, ?_, rfl⟩
      rw [dif_neg (by simp [← hl])]
      simp only [VR]
      exact ⟨cs, rfl, h1⟩
    | [x], h =>
      simp only at h
      injection h with h; subst h
      refine ⟨_, ?_, rfl⟩
      match cs, h1, hl with
      | [c], h1, _ =>
        rw [VRs_cons] at h1
        simpa using h1.1
    | x :: y :: r, h =>
      simp only at h
      injection h with h; subst h
      refine ⟨_, ?_, rfl⟩
      rw [dif_neg (by simp [← hl])]
      simp only [VR]
      exact ⟨cs, rfl, h1⟩

theorem env_start {args : List AV} {cargs : List Value} (h : VRs ρ args cargs) (n : Nat) : EnvR ρ (args ++ List.replicate (n - args.length) .und) (cargs.toArray ++ Array.replicate (n - cargs.toArray.size) undef) := by
  have hl := h.len
  refine ⟨by simp [hl], fun t => ?_⟩
  by_cases ht : t < args.length
  · have ht' : t < cargs.length := by omega
    obtain ⟨c, hc, hv⟩ := h.at_ t (v := args[t]) (by simp [ht])
    simp [List.getD_eq_getElem?_getD, List.getElem?_append_left ht, Array.getD_eq_getD_getElem?, Array.getElem?_append, ht', ht] at hc ⊢
    rw [hc]
    exact hv
  · have ht' : ¬ t < cargs.length := by omega
    simp only [List.getD_eq_getElem?_getD, List.getElem?_append_right (show args.length ≤ t by omega), Array.getD_eq_getD_getElem?, Array.getElem?_append, List.size_toArray, ht', if_false, dif_neg, not_false_eq_true, List.getElem?_replicate, Array.getElem?_replicate, hl]
    split <;> simp [VR, undef]

/-- A function's code, run by the abstract machine over sound calls. -/
theorem fn_sound {call : Nat → List AV → St → Option (AV × St)} (hS : Sound P call) (hm : P.follows .mixedOrders = true) {f : Nat} {fn : Func} {afn : AFn} (hf : P.funcs[f]? = some fn) (hcal : callable P f = true) (hc : cfn P fn = some afn) (fuel : Nat) :
    SoundAt P f (acallFn call fuel afn) := by
  intro args s r s' h
  unfold cfn at hc
  split at hc
  · rename_i c rs hb hr
    injection hc with hc; subst hc
    unfold acallFn at h
    simp only at h
    split at h
    · cases h
    · rename_i x env s1 hno he
      obtain ⟨v, hv, hvs⟩ := Option.map_eq_some_iff.1 h
      obtain ⟨rfl, rfl⟩ := Prod.mk.inj hvs
      refine ⟨hcal, grow_exec hS he, fun ρ w cargs hfree hR hargs => ?_⟩
      refine calls_of_wp hf hb ?_
      refine (exec_all hS hm fuel).1 c x _ env s s1 ρ _ w _ he (env_start hargs fn.ntmps) hR hfree rfl fun ρ' a' w' g1 g2 g3 g4 g5 => ?_
      obtain ⟨cv, h1, h2⟩ := results_run g4 g2 hr hv
      cases x with
      | nor => exact ⟨g5, cv, h2, ρ', cv, rfl, h1, g1, g2⟩
      | ret => exact ⟨g5, cv, h2, ρ', cv, rfl, h1, g1, g2⟩
      | exit i => exact absurd rfl (hno i)
    · cases h
  · cases hc

/-! ### Tables -/
inductive AFun where
  | code (fn : AFn)
  | con (c : List AV → St → Option (AV × St))
  | no
/-- Calls by a table, 'F': the fuel of each body, the last number: how deep. -/
def acalls (tab : Nat → AFun) (F : Nat) : Nat → Nat → List AV → St → Option (AV × St)
  | 0, _, _, _ => none
  | d + 1, f, args, s => match tab f with
    | .code fn => acallFn (acalls tab F d) F fn args s
    | .con c => c args s
    | .no => none
def FunOk (P : Program) (f : Nat) : AFun → Prop
  | .code afn => callable P f = true ∧ ∃ fn, P.funcs[f]? = some fn ∧ cfn P fn = some afn
  | .con c => SoundAt P f c
  | .no => True
theorem acalls_sound {tab : Nat → AFun} {F : Nat} (hm : P.follows .mixedOrders = true) (h : ∀ f, FunOk P f (tab f)) : ∀ d, Sound P (acalls tab F d)
  | 0 => fun f args s r s' h => by simp [acalls] at h
  | d + 1 => fun f args s r s' hh => by
    have := h f
    simp only [acalls] at hh
    cases ht : tab f with
    | code afn =>
      rw [ht] at this hh
      obtain ⟨h1, fn, h2, h3⟩ := this
      exact fn_sound (acalls_sound hm h d) hm h2 h1 h3 F args s r s' hh
    | con c =>
      rw [ht] at this hh
      exact this args s r s' hh
    | no => rw [ht] at hh; cases hh

end Go.AM
