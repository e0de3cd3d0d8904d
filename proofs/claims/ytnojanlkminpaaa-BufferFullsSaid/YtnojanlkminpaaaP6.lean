/-
  Plain laws: the joins of a list of stores, one after the other. Own work of this project.
-/
import Derived.Test.YtnojanlkminpaaaP5
section
set_option linter.unusedVariables false
set_option linter.unusedSimpArgs false
namespace Go.AM
open Go Go.Proofs

/-- Any two of them agree. -/
def PW (ls : List (List Nd)) : Prop := ∀ x ∈ ls, ∀ y ∈ ls, agreeL x y = true
def Stores (ls : List (List Nd)) : Prop := ∀ x ∈ ls, storeL x = true
def InF (ls : List (List Nd)) (n : Nd) : Prop := n ∈ ls.flatten
theorem nc_of_pw {ls : List (List Nd)} (hs : Stores ls) (h : PW ls) : NC (InF ls) := by
  intro x y hx hy e
  obtain ⟨l, hl, hxl⟩ := List.mem_flatten.1 hx
  obtain ⟨m, hm, hym⟩ := List.mem_flatten.1 hy
  exact (nc_agree (store_sorted (hs l hl)) (store_sorted (hs m hm))).1 (h l hl m hm) x y (.inl hxl) (.inr hym) e
theorem pw_of_nc {ls : List (List Nd)} (hs : Stores ls) (h : NC (InF ls)) : PW ls := fun l hl m hm =>
  (nc_agree (store_sorted (hs l hl)) (store_sorted (hs m hm))).2 (h.sub fun x hx => by
    rcases hx with hx | hx
    · exact List.mem_flatten.2 ⟨l, hl, hx⟩
    · exact List.mem_flatten.2 ⟨m, hm, hx⟩)
theorem fold_res_aux : ∀ (ls : List (List Nd)) (S : Nd → Prop) (j : List Nd), Stores ls → Res S j → NC (fun x => S x ∨ InF ls x) → Res (fun x => S x ∨ InF ls x) (ls.foldl refJ j)
  | [], S, j, _, h, _ => h.congr fun x => by simp [InF]
  | l :: ls, S, j, hs, h, hn => by
    have hl := store_sorted (hs l (by simp))
    have ha : agreeL j l = true := (nc_agree h.sorted hl).2 (hn.sub fun x hx => by
      rcases hx with hx | hx
      · exact .inl (h.sub x hx)
      · exact .inr (by simp [InF, hx]))
    have h1 := Res.step (T := (· ∈ l)) h (res_join h.sorted hl ha)
    have h2 := fold_res_aux ls (fun x => S x ∨ x ∈ l) (refJ j l) (fun x hx => hs x (by simp [hx])) h1 (hn.sub fun x hx => by
      unfold InF at *
      simp only [List.flatten_cons, List.mem_append]
      grind)
    exact h2.congr fun x => by
      unfold InF
      simp only [List.flatten_cons, List.mem_append]
      grind
theorem res_nil : Res (fun _ => False) [] := ⟨List.Pairwise.nil, fun _ h => by simp at h, fun _ h => by simp at h, fun _ h => h.elim⟩
theorem fold_res {ls : List (List Nd)} (hs : Stores ls) (hn : NC (InF ls)) : Res (InF ls) (ls.foldl refJ []) :=
  (fold_res_aux ls (fun _ => False) [] hs res_nil (hn.sub fun x hx => hx.resolve_left id)).congr fun x => by simp
theorem stores_all {ls : List (List Nd)} (hs : Stores ls) : ls.all storeL = true := List.all_eq_true.2 hs
theorem allP_fold {ls : List (List Nd)} (hs : Stores ls) (h : PW ls) : allP ls = (ls.foldl refJ [], 0) :=
  allP_res (stores_all hs) (fun x => Iff.rfl) (nc_of_pw hs h) (fold_res hs (nc_of_pw hs h))
theorem allP_not {ls : List (List Nd)} (hs : Stores ls) (h : ¬ PW ls) : allP ls = ([], 15) :=
  allP_clash (S := InF ls) (stores_all hs) (fun x => Iff.rfl) fun hn => h (pw_of_nc hs hn)
theorem fold_store {ls : List (List Nd)} (hs : Stores ls) (h : PW ls) : storeL (ls.foldl refJ []) = true :=
  store_of_res (fold_res hs (nc_of_pw hs h)) fun x hx => by
    obtain ⟨l, hl, hxl⟩ := List.mem_flatten.1 hx
    exact store_mem (hs l hl) hxl
/-- Each of them is within their join. -/
theorem fold_within {ls : List (List Nd)} (hs : Stores ls) (h : PW ls) {l : List Nd} (hl : l ∈ ls) : withinP l (ls.foldl refJ []) = (true, 0) := by
  obtain ⟨p1, p2, _, _⟩ := refJ_in (nc_of_pw hs h) (store_sorted (hs l hl)) (fold_res hs (nc_of_pw hs h)) fun x hx => List.mem_flatten.2 ⟨l, hl, hx⟩
  rw [withinP_ok (hs l hl) (fold_store hs h) p1, p2]
  simp
theorem PW.sub {ls ms : List (List Nd)} (h : PW ls) (k : ∀ x ∈ ms, x ∈ ls) : PW ms := fun x hx y hy => h x (k x hx) y (k y hy)
theorem Stores.sub {ls ms : List (List Nd)} (h : Stores ls) (k : ∀ x ∈ ms, x ∈ ls) : Stores ms := fun x hx => h x (k x hx)
theorem PW.app {ls : List (List Nd)} (h : PW ls) (hs : Stores ls) {d : List Nd} (hd : storeL d = true) (k : ∀ x ∈ ls, agreeL x d = true) : PW (ls ++ [d]) := by
  intro x hx y hy
  have key : ∀ z ∈ ls ++ [d], z ∈ ls ∨ z = d := fun z hz => by simpa using hz
  rcases key x hx with q | rfl <;> rcases key y hy with r | rfl
  · exact h x q y r
  · exact k x q
  · rw [← agree_symm (store_sorted (hs y r)) (store_sorted hd)]
    exact k y r
  · exact agree_self (store_sorted hd)
theorem Stores.app {ls : List (List Nd)} (hs : Stores ls) {d : List Nd} (hd : storeL d = true) : Stores (ls ++ [d]) := by
  intro x hx
  rcases List.mem_append.1 hx with hx | hx
  · exact hs x hx
  · simp at hx; subst hx; exact hd
/-! ### As a loop finds it out -/
def agB (ls : List (List Nd)) : Nat → Bool
  | 0 => true
  | i + 1 => agB ls i && (match ls[i]? with
    | some x => (ls.take i).all (agreeL x)
    | none => true)
theorem agB_step {ls : List (List Nd)} {i : Nat} {x : List Nd} (h : ls[i]? = some x) : agB ls (i + 1) = (agB ls i && (ls.take i).all (agreeL x)) := by
  rw [agB, h]
theorem agB_at {ls : List (List Nd)} : ∀ {n : Nat}, agB ls n = true → ∀ {i k : Nat} {x y : List Nd}, i < n → k < i → ls[i]? = some x → ls[k]? = some y → agreeL x y = true
  | 0, _, i, k, x, y, h, _, _, _ => by omega
  | n + 1, h, i, k, x, y, hi, hk, hx, hy => by
    rw [agB, Bool.and_eq_true] at h
    by_cases e : i = n
    · subst e
      have h2 := h.2
      rw [hx] at h2
      have h2 : (ls.take i).all (agreeL x) = true := h2
      refine List.all_eq_true.1 h2 y ?_
      have : (ls.take i)[k]? = some y := by rw [List.getElem?_take_of_lt hk]; exact hy
      exact List.mem_of_getElem? this
    · exact agB_at h.1 (by omega) hk hx hy
theorem agB_pw {ls : List (List Nd)} (hs : Stores ls) : agB ls ls.length = true ↔ PW ls := by
  constructor
  · intro h x hx y hy
    obtain ⟨i, hi⟩ := List.getElem?_of_mem hx
    obtain ⟨k, hk⟩ := List.getElem?_of_mem hy
    have li := (List.getElem?_eq_some_iff.1 hi).1
    have lk := (List.getElem?_eq_some_iff.1 hk).1
    rcases Nat.lt_trichotomy i k with q | q | q
    · rw [agree_symm (store_sorted (hs x hx)) (store_sorted (hs y hy))]
      exact agB_at h lk q hk hi
    · subst q
      rw [hi] at hk
      injection hk with hk
      subst hk
      exact agree_self (store_sorted (hs x hx))
    · exact agB_at h li q hi hk
  · intro h
    have key : ∀ n, n ≤ ls.length → agB ls n = true := by
      intro n
      induction n with
      | zero => exact fun _ => rfl
      | succ n ih =>
        intro hn
        have hx : ls[n]? = some ls[n] := by simp
        rw [agB_step hx, ih (by omega), Bool.true_and, List.all_eq_true]
        exact fun y hy => h _ (List.mem_of_getElem? hx) y (List.mem_of_mem_take hy)
    exact key _ (Nat.le_refl _)
theorem all_take {ls : List (List Nd)} {p : List Nd → Bool} {i : Nat} {x : List Nd} (h : ls[i]? = some x) : (ls.take (i + 1)).all p = ((ls.take i).all p && p x) := by
  rw [List.take_add_one, h]
  simp [List.all_append]
end Go.AM
end
/-
  BufferFulls in the abstract machine. Own work of this project; in part printed by a program of it.
-/
section
set_option linter.unusedVariables false
set_option linter.unusedSimpArgs false
set_option maxRecDepth 100000
set_option maxHeartbeats 16000000
namespace Go.AM
open Go Go.Proofs

variable {s t u : St}
def nd1 (r x : Int) : Nd := ⟨⟨r, 1⟩, ⟨0, 0⟩, 1, x⟩
theorem bsl_nd {x : Nd} : bslV [.int .i64 0, .int .i64 0, .int .i64 0, .int .i64 0, .int .i64 0, .int .i32 0] 1 6 [(0, .agg (Nd.av x))] = some (fun id => .sl id 0 1 (some 1) 6, .row (Nd.av x) true) := nrfl rfl
theorem fstep_d0 (a : Int) (K : List AV → Option (List AV)) : fstep [.int .i64 0, .int .i64 0] 0 1 (.int .i64 a) K = K [.int .i64 a, .int .i64 0] := nrfl rfl
theorem fstep_d1 (a b : Int) (K : List AV → Option (List AV)) : fstep [.int .i64 a, .int .i64 0] 1 1 (.int .i64 b) K = K (Dot.av ⟨a, b⟩) := nrfl rfl
theorem fstep_nd2 (d : Dot) (K : List AV → Option (List AV)) : fstep [.int .i64 0, .int .i64 0, .int .i64 0, .int .i64 0, .int .i64 0, .int .i32 0] 0 2 (.agg (Dot.av d)) K = K (Nd.av ⟨d, ⟨0, 0⟩, 0, 0⟩) := nrfl rfl
theorem fstep_ndt (d : Dot) (k : Int) (K : List AV → Option (List AV)) : fstep (Nd.av ⟨d, ⟨0, 0⟩, 0, 0⟩) 4 1 (.int .i64 k) K = K (Nd.av ⟨d, ⟨0, 0⟩, k, 0⟩) := nrfl rfl
theorem fstep_ndx (d : Dot) (k x : Int) (K : List AV → Option (List AV)) : fstep (Nd.av ⟨d, ⟨0, 0⟩, k, 0⟩) 5 1 (.int .i32 x) K = K (Nd.av ⟨d, ⟨0, 0⟩, k, x⟩) := nrfl rfl
noncomputable def R_one : Con := runFn (tb []) a17
theorem s_one : SoundAt Try.prog 17 R_one := run_sound (tb_sound (l := []) (by simp)) mixed Try.func17 k17 c17
theorem n_one : noNxtC a17.body = true := by kernel_rfl
theorem w_one {s : St} (rr ch : Int) : ∀ env : Env, elen env = a17.ntmps → (∀ i x_, [.int .i64 rr, .int .i32 ch][i]? = some x_ → E env i = x_) → awp (tb []) a17.body (fun x e t => (∀ i, x ≠ .exit i) ∧ ∃ r, aresults e t a17.results = some r ∧ r = .sl s.next 0 1 (some 1) 6 ∧ t = s.push (.row (Nd.av (nd1 rr ch)) true)) env s := by
  intro env hlen ha
  have h0 : E env 0 = _ := ha 0 _ rfl
  have h1 : E env 1 = _ := ha 1 _ rfl
  have hlen : elen env = _ := hlen
  simp only [a17] at hlen
  unfold a17
  simp (config := {contextual := true, maxDischargeDepth := 12}) only [tb_at, h0, h1, hlen, ↓bD0, ↓bD1, ↓bD2, ↓bD3, ↓bD4, ↓bD5, ↓bD6, bU0, bU1, bU2, bU3, bU4, bU5, bU6, bU7, bU8, bU9, bU10, bU11, bU12, bU13, forall_const, List.all_cons, List.all_nil, Option.map_some, List.map_cons, List.map_nil, ne_eq, implies_true, isNx, cs_dec, cs_not, cs_and, cs_or, cs_valid, eq_self, ↓wp_cond, ↓wp_loop, ↓reduceIte, reduceCtorEq, Nat.reduceEqDiff, Nat.reduceLT, Nat.reduceAdd, Nat.reduceMul, Int.ofNat_lt, Int.ofNat_le, exists_const, ae_app, ap_slc, Option.map_none, mkR_none, mkR_some, ar_look, ae_mset, ae_rng, ae_mkmap0, ar_ent, lookV_push, lookV_lowed, msetV_push, msetV_lowed, lt_put, same_put, sto_over, sto_lowed, cs_dead, Option.map_some, beq_self_eq_true, decide_true, cs_true, cs_false, aa_bsl, ↓sg_bsl, ap_nchk, nchkV_ptr, bin_np, bin_npn, bin_npx, bin_npnx, ap_mm, mmV_max, mmV_min, res3, ↓st_callf, aa_mksl, ae_copy, ap_slc3, slc3V_all, bin_nss, bin_nsn, aa_bsl, extV_2, q_known, beq_self_eq_true, fstep_d0, fstep_d1, fstep_nd2, fstep_ndt, fstep_ndx, bsl_nd]
  exact ⟨_, rfl, rfl, rfl⟩
theorem q_one {s : St} (rr x : Int) : ∃ v t, acall R_one false [.int .i64 rr, .int .i32 x] s = some (v, t) ∧ NdR t v [nd1 rr x] ∧ Keep s t := by
  obtain ⟨r, t, h1, rfl, rfl⟩ := run_awp n_one (args := [.int .i64 rr, .int .i32 x]) (by simp [a17]) (Q := fun r t => r = .sl (lowd s).next 0 1 (some 1) 6 ∧ t = (lowd s).push (.row (Nd.av (nd1 rr x)) true)) (w_one (s := lowd s) rr x)
  obtain ⟨t', g1, g2, g3, g4⟩ := acall_new (M := []) h1 (((Keep.refl _).push _).chg []) (.inl rfl)
  have hg : t'.get s.next = some (.row (ndC.cells [nd1 rr x]) true) := by rw [g2]; exact St.get_push_new (lowd s) _
  exact ⟨_, t', g1, .inr ⟨s.next, 0, 1, some 1, [nd1 rr x], true, rfl, hg, read_of rfl hg (by rw [cells_len]; simp) rfl⟩, g4.keep⟩
/-! ### The same node again and again -/
def xA : Nd := nd1 1 120
def rep (n : Nat) : List (List Nd) := List.replicate n [xA]
theorem xA_store : storeL [xA] = true := by decide
theorem xA_sorted : [xA].Pairwise ltP := List.pairwise_singleton _ _
theorem xA_agree : agreeL [xA] [xA] = true := agree_self xA_sorted
theorem rep_stores (n : Nat) : Stores (rep n) := fun x hx => by rw [List.eq_of_mem_replicate hx]; exact xA_store
theorem rep_pw (n : Nat) : PW (rep n) := fun x hx y hy => by rw [List.eq_of_mem_replicate hx, List.eq_of_mem_replicate hy]; exact xA_agree
theorem rep_fold (n : Nat) : (rep (n + 1)).foldl refJ [] = [xA] := by
  refine Res.uniq (nc_of_pw (rep_stores _) (rep_pw _)) (fold_res (rep_stores _) (nc_of_pw (rep_stores _) (rep_pw _))) ?_
  have hm : ∀ z, InF (rep (n + 1)) z → z = xA := fun z hz => by
    obtain ⟨l, hl, hzl⟩ := List.mem_flatten.1 hz
    rw [List.eq_of_mem_replicate hl] at hzl
    simpa using hzl
  have hx : InF (rep (n + 1)) xA := List.mem_flatten.2 ⟨[xA], by simp [rep, List.mem_replicate], by simp⟩
  refine ⟨xA_sorted, fun y hy => ?_, fun y hy z hz e z0 => ?_, fun z hz => ⟨xA, by simp, by rw [hm z hz]⟩⟩
  · have : y = xA := by simpa using hy
    rw [this]; exact hx
  · have : y = xA := by simpa using hy
    rw [this, ← hm z hz]; exact z0
theorem rep_all (n : Nat) : allP (rep (n + 1)) = ([xA], 0) := by
  rw [allP_fold (rep_stores _) (rep_pw _), rep_fold]
theorem rep_put (n : Nat) (hn : n ≤ 1000) : putP (rep n) [xA] = if n = 1000 then some 7 else none := by
  have hl : (rep n).length = n := by simp [rep]
  unfold putP
  rw [if_neg (by simp [xA_store]), if_neg, hl]
  rintro ⟨x, hx, h⟩
  rw [List.eq_of_mem_replicate hx, agreeP_ok xA_store xA_store, xA_agree] at h
  cases h
theorem rep_bet (g n : Nat) : betP g (rep (n + 1)) ((g + 1 : Nat) : Int) ((g + (n + 1) : Nat) : Int) = ([xA], 0) := by
  have hl : (rep (n + 1)).length = n + 1 := by simp [rep]
  unfold betP
  rw [if_neg (by omega), if_neg (by rw [hl]; omega)]
  have e1 : (((g + 1 : Nat) : Int) - (g + 1 : Nat)).toNat = 0 := by simp
  have e2 : (((g + (n + 1) : Nat) : Int) - (g : Nat)).toNat = n + 1 := by omega
  rw [e1, e2, List.drop_zero, Nat.sub_zero, List.take_of_length_le (by omega)]
  exact rep_all n
theorem rep_fr (g n : Nat) : frP g (rep (n + 1)) ((g + 1 : Nat) : Int) = ([xA], ((g + (n + 1) : Nat) : Int), 0) := by
  have hl : (rep (n + 1)).length = n + 1 := by simp [rep]
  unfold frP
  rw [if_neg (by omega), hl, if_neg (by omega), rep_bet]
  rfl
theorem rep_flat (n : Nat) : (rep n).flatten.length = n := by
  unfold rep
  induction n with
  | zero => rfl
  | succ n ih => rw [List.replicate_succ, List.flatten_cons, List.length_append, ih]; simp; omega
theorem rep_app (n : Nat) : rep n ++ [[xA]] = rep (n + 1) := by
  unfold rep
  rw [List.replicate_succ']
theorem rep_drop (n k : Nat) : (rep n).drop k = rep (n - k) := by
  unfold rep
  rw [List.drop_replicate]
theorem rep_inner (n : Nat) : InnerOk (rep n) := fun x hx => by rw [List.eq_of_mem_replicate hx]; simp
theorem rep_len (n : Nat) : (rep n).length = n := by simp [rep]
theorem bufR_len {id g : Nat} {dv : AV} {vs : List AV} {ls : List (List Nd)} (h : BufR t id g dv vs ls) : vs.length = ls.length := h.2.2.len
theorem buf_apart {id g : Nat} {dv : AV} {vs : List AV} {ls : List (List Nd)} (h : BufR t id g dv vs ls) : Apart t (id :: outM dv vs) := Apart.app (M := [id]) (apart_two h.1) (apart_out h.2.1 h.2.2)
theorem s_BufferFulls : SoundAt Try.prog 4 (lawC Try.prog 8 [3, 3]) :=
  con_keep (tb_sound (l := [(8, closed [] (.bool true)), (17, R_one), (18, R_BPut), (10, R_puts), (14, R_froms), (16, R_forgets), (20, R_BFirst), (19, R_BLen)]) (by simpa using ⟨s_known, s_one, s_BPut, s_puts, s_froms, s_forgets, s_BFirst, s_BLen⟩)) mixed Try.func4 k4 c4 fun args s r s' h => by
    obtain ⟨hh, rfl, rfl⟩ := lawC_some h
    obtain ⟨v, w, rfl, hv, hw⟩ := rdas_2 hh
    obtain ⟨m, rfl, _⟩ := rda_int int_under hv
    obtain ⟨gn, rfl, _⟩ := rda_int int_under hw
    refine ⟨rfl, rfl, by simp [a4], fun env hlen ha => ?_⟩
    have h0 : E env 0 = _ := ha 0 _ rfl
    have h1 : E env 1 = _ := ha 1 _ rfl
    have hlen : elen env = _ := hlen
    simp only [a4] at hlen
    unfold a4
    by_cases hz : ((m < 998 ∨ 1002 < m) ∨ gn < 1) ∨ 998 < gn
    · have hz1 : (((decide (m < 998) || decide (1002 < m)) || decide (gn < 1)) || decide (998 < gn)) = true := by simpa using hz
      simp (config := {contextual := true, maxDischargeDepth := 12}) only [tb_at, h0, h1, hlen, hz1, ↓bD0, ↓bD1, ↓bD2, ↓bD3, ↓bD4, ↓bD5, ↓bD6, bU0, bU1, bU2, bU3, bU4, bU5, bU6, bU7, bU8, bU9, bU10, bU11, bU12, bU13, forall_const, List.all_cons, List.all_nil, Option.map_some, List.map_cons, List.map_nil, ne_eq, implies_true, isNx, cs_dec, cs_not, cs_and, cs_or, cs_valid, eq_self, ↓wp_cond, ↓wp_loop, ↓reduceIte, reduceCtorEq, Nat.reduceEqDiff, Nat.reduceLT, Nat.reduceAdd, Nat.reduceMul, Int.ofNat_lt, Int.ofNat_le, exists_const, ae_app, ap_slc, Option.map_none, mkR_none, mkR_some, ar_look, ae_mset, ae_rng, ae_mkmap0, ar_ent, lookV_push, lookV_lowed, msetV_push, msetV_lowed, lt_put, same_put, sto_over, sto_lowed, cs_dead, Option.map_some, beq_self_eq_true, decide_true, cs_true, cs_false, aa_bsl, ↓sg_bsl, ap_nchk, nchkV_ptr, bin_np, bin_npn, bin_npx, bin_npnx, ap_mm, mmV_max, mmV_min, res3, ↓st_callf, aa_mksl, ae_copy, ap_slc3, slc3V_all, bin_nss, bin_nsn, aa_bsl, extV_2, q_known, beq_self_eq_true, fstep_d0, fstep_d1, fstep_nd2, fstep_ndt, fstep_ndx, bsl_nd]
    have hz1 : (((decide (m < 998) || decide (1002 < m)) || decide (gn < 1)) || decide (998 < gn)) = false := by simpa using hz
    obtain ⟨mm, rfl⟩ : ∃ mm : Nat, m = (mm : Int) := ⟨m.toNat, by omega⟩
    obtain ⟨k, rfl⟩ : ∃ k : Nat, gn = (k : Int) := ⟨gn.toNat, by omega⟩
    obtain ⟨t1, ht1⟩ : ∃ t1, t1 = s.push (.row [.int .i64 0, .nils] true) := ⟨_, rfl⟩
    have hbx := boxV_2 (a := .int .i64 0) (b := .nils) rfl rfl
    obtain ⟨vx, t2, hone, hndx, hK12⟩ := q_one (s := s.push (.row [.int .i64 0, .nils] true)) 1 120
    simp (config := {contextual := true, maxDischargeDepth := 12}) only [tb_at, h0, h1, hlen, hz1, hbx, hone, ↓bD0, ↓bD1, ↓bD2, ↓bD3, ↓bD4, ↓bD5, ↓bD6, bU0, bU1, bU2, bU3, bU4, bU5, bU6, bU7, bU8, bU9, bU10, bU11, bU12, bU13, forall_const, List.all_cons, List.all_nil, Option.map_some, List.map_cons, List.map_nil, ne_eq, implies_true, isNx, cs_dec, cs_not, cs_and, cs_or, cs_valid, eq_self, ↓wp_cond, ↓wp_loop, ↓reduceIte, reduceCtorEq, Nat.reduceEqDiff, Nat.reduceLT, Nat.reduceAdd, Nat.reduceMul, Int.ofNat_lt, Int.ofNat_le, exists_const, ae_app, ap_slc, Option.map_none, mkR_none, mkR_some, ar_look, ae_mset, ae_rng, ae_mkmap0, ar_ent, lookV_push, lookV_lowed, msetV_push, msetV_lowed, lt_put, same_put, sto_over, sto_lowed, cs_dead, Option.map_some, beq_self_eq_true, decide_true, cs_true, cs_false, aa_bsl, ↓sg_bsl, ap_nchk, nchkV_ptr, bin_np, bin_npn, bin_npx, bin_npnx, ap_mm, mmV_max, mmV_min, res3, ↓st_callf, aa_mksl, ae_copy, ap_slc3, slc3V_all, bin_nss, bin_nsn, aa_bsl, extV_2, q_known, beq_self_eq_true, fstep_d0, fstep_d1, fstep_nd2, fstep_ndt, fstep_ndx, bsl_nd]
    have hKs2 : Keep s t2 := ((Keep.refl s).push _).trans hK12
    have hB2 : BufR t2 s.next 0 .nils [] (rep (min 0 1000)) := ⟨hK12.blk (St.get_push_new _ _), .inl ⟨rfl, rfl⟩, trivial⟩
    obtain ⟨I, hI⟩ : ∃ I : Nat → Env → St → Prop, ∀ n e t, I n e t = (Keep s t ∧ ∃ i dv vs, i + n = mm ∧ elen e = 116 ∧ E e 0 = .int .i64 (mm : Int) ∧ E e 1 = .int .i64 (k : Int) ∧ E e 5 = .ptr s.next 0 ∧ E e 6 = vx ∧ E e 7 = .int .i64 (i : Int) ∧ BufR t s.next 0 dv vs (rep (min i 1000)) ∧ NdR t vx [xA] ∧ ∀ j off n cap z, dv = .sl j off n cap z → s.next ≤ j) := ⟨fun n e t => (Keep s t ∧ ∃ i dv vs, i + n = mm ∧ elen e = 116 ∧ E e 0 = .int .i64 (mm : Int) ∧ E e 1 = .int .i64 (k : Int) ∧ E e 5 = .ptr s.next 0 ∧ E e 6 = vx ∧ E e 7 = .int .i64 (i : Int) ∧ BufR t s.next 0 dv vs (rep (min i 1000)) ∧ NdR t vx [xA] ∧ ∀ j off n cap z, dv = .sl j off n cap z → s.next ≤ j), fun _ _ _ => rfl⟩
    refine lwp_inv I (n := mm) ?_ ?_
    · rw [hI]
      exact ⟨hKs2, 0, .nils, [], by omega, by simp only [E_pne, E_psame, elen_put, Nat.reduceEqDiff, ne_eq, not_false_eq_true, Nat.reduceLT, hlen], by simp only [E_pne, E_psame, elen_put, Nat.reduceEqDiff, ne_eq, not_false_eq_true, Nat.reduceLT, h0], by simp only [E_pne, E_psame, elen_put, Nat.reduceEqDiff, ne_eq, not_false_eq_true, Nat.reduceLT, h1], by simp only [E_pne, E_psame, elen_put, Nat.reduceEqDiff, ne_eq, not_false_eq_true, Nat.reduceLT, hlen], by simp only [E_pne, E_psame, elen_put, Nat.reduceEqDiff, ne_eq, not_false_eq_true, Nat.reduceLT, hlen], by simp only [E_pne, E_psame, elen_put, Nat.reduceEqDiff, ne_eq, not_false_eq_true, Nat.reduceLT, hlen]; rfl, hB2, hndx, fun _ _ _ _ _ e => by (cases e)⟩
    clear h0 h1 hlen ha hone hbx hK12 hB2 hndx hKs2
    intro n e t hi
    rw [hI] at hi
    obtain ⟨hK, i, dv, vs, hni, he, e0, e1, e5, e6, e7, hb, hnd, hfr⟩ := hi
    have hvl := bufR_len hb
    rw [rep_len] at hvl
    by_cases hlt : i < mm
    · have hz2 : ((i : Int) < (mm : Int)) = True := eq_true (by omega)
      have hw := wrap_add1 (n := i) (by omega)
      by_cases h1000 : i < 1000
      · have hz3 : ((i : Int) < 1000) = True := eq_true (by omega)
        have hz4 : ((1000 : Int) ≤ (i : Int)) = False := eq_false (by omega)
        have hmi : min i 1000 = i := by omega
        have hmi1 : min (i + 1) 1000 = i + 1 := by omega
        rw [hmi] at hb hvl
        obtain ⟨t', hq, ⟨dv', vs', hb', hfr'⟩, hC, _⟩ := q_BPut_ok hb (by omega) hnd.read (by simp) (rep_inner i) (by rw [rep_put i (by omega), if_neg (by omega)])
        have hv : 0 + vs.length + 1 = i + 1 := by omega
        rw [hv] at hq
        rw [rep_app] at hb'
        simp (config := {contextual := true, maxDischargeDepth := 12}) only [tb_at, he, e0, e1, e5, e6, e7, hz2, hz3, hz4, hw, hq, ↓bD0, ↓bD1, ↓bD2, ↓bD3, ↓bD4, ↓bD5, ↓bD6, bU0, bU1, bU2, bU3, bU4, bU5, bU6, bU7, bU8, bU9, bU10, bU11, bU12, bU13, forall_const, List.all_cons, List.all_nil, Option.map_some, List.map_cons, List.map_nil, ne_eq, implies_true, isNx, cs_dec, cs_not, cs_and, cs_or, cs_valid, eq_self, ↓wp_cond, ↓wp_loop, ↓reduceIte, reduceCtorEq, Nat.reduceEqDiff, Nat.reduceLT, Nat.reduceAdd, Nat.reduceMul, Int.ofNat_lt, Int.ofNat_le, exists_const, ae_app, ap_slc, Option.map_none, mkR_none, mkR_some, ar_look, ae_mset, ae_rng, ae_mkmap0, ar_ent, lookV_push, lookV_lowed, msetV_push, msetV_lowed, lt_put, same_put, sto_over, sto_lowed, cs_dead, Option.map_some, beq_self_eq_true, decide_true, cs_true, cs_false, aa_bsl, ↓sg_bsl, ap_nchk, nchkV_ptr, bin_np, bin_npn, bin_npx, bin_npnx, ap_mm, mmV_max, mmV_min, res3, ↓st_callf, aa_mksl, ae_copy, ap_slc3, slc3V_all, bin_nss, bin_nsn, aa_bsl, extV_2, q_known, beq_self_eq_true, fstep_d0, fstep_d1, fstep_nd2, fstep_ndt, fstep_ndx, bsl_nd]
        refine ⟨n - 1, by omega, ?_⟩
        rw [hI]
        refine ⟨hK.chgn hC fun id hid => ?_, i + 1, dv', vs', by omega, by simp only [E_pne, E_psame, elen_put, Nat.reduceEqDiff, ne_eq, not_false_eq_true, Nat.reduceLT, he], by simp only [E_pne, E_psame, elen_put, Nat.reduceEqDiff, ne_eq, not_false_eq_true, Nat.reduceLT, e0], by simp only [E_pne, E_psame, elen_put, Nat.reduceEqDiff, ne_eq, not_false_eq_true, Nat.reduceLT, e1], by simp only [E_pne, E_psame, elen_put, Nat.reduceEqDiff, ne_eq, not_false_eq_true, Nat.reduceLT, e5], by simp only [E_pne, E_psame, elen_put, Nat.reduceEqDiff, ne_eq, not_false_eq_true, Nat.reduceLT, e6], by simp only [E_pne, E_psame, elen_put, Nat.reduceEqDiff, ne_eq, not_false_eq_true, Nat.reduceLT, he], by rw [hmi1]; exact hb', hnd.keep hC (buf_apart hb), fun j off n cap z e => Nat.le_trans hK.next (hfr' j off n cap z e)⟩
        rcases List.mem_cons.1 hid with rfl | hid
        · exact Nat.le_refl _
        · obtain ⟨off, n', cap, z, e⟩ := outM_in hid
          exact hfr _ _ _ _ _ e
      · have hz3 : ((i : Int) < 1000) = False := eq_false (by omega)
        have hz4 : ((1000 : Int) ≤ (i : Int)) = True := eq_true (by omega)
        have hmi : min i 1000 = 1000 := by omega
        have hmi1 : min (i + 1) 1000 = 1000 := by omega
        rw [hmi] at hb hvl
        have hq := q_BPut_err false hb (by omega) hnd.read (by simp) (rep_inner 1000) (er := 7) (by rw [rep_put 1000 (by omega), if_pos rfl])
        simp (config := {contextual := true, maxDischargeDepth := 12}) only [tb_at, he, e0, e1, e5, e6, e7, hz2, hz3, hz4, hw, hq, ↓bD0, ↓bD1, ↓bD2, ↓bD3, ↓bD4, ↓bD5, ↓bD6, bU0, bU1, bU2, bU3, bU4, bU5, bU6, bU7, bU8, bU9, bU10, bU11, bU12, bU13, forall_const, List.all_cons, List.all_nil, Option.map_some, List.map_cons, List.map_nil, ne_eq, implies_true, isNx, cs_dec, cs_not, cs_and, cs_or, cs_valid, eq_self, ↓wp_cond, ↓wp_loop, ↓reduceIte, reduceCtorEq, Nat.reduceEqDiff, Nat.reduceLT, Nat.reduceAdd, Nat.reduceMul, Int.ofNat_lt, Int.ofNat_le, exists_const, ae_app, ap_slc, Option.map_none, mkR_none, mkR_some, ar_look, ae_mset, ae_rng, ae_mkmap0, ar_ent, lookV_push, lookV_lowed, msetV_push, msetV_lowed, lt_put, same_put, sto_over, sto_lowed, cs_dead, Option.map_some, beq_self_eq_true, decide_true, cs_true, cs_false, aa_bsl, ↓sg_bsl, ap_nchk, nchkV_ptr, bin_np, bin_npn, bin_npx, bin_npnx, ap_mm, mmV_max, mmV_min, res3, ↓st_callf, aa_mksl, ae_copy, ap_slc3, slc3V_all, bin_nss, bin_nsn, aa_bsl, extV_2, q_known, beq_self_eq_true, fstep_d0, fstep_d1, fstep_nd2, fstep_ndt, fstep_ndx, bsl_nd]
        refine ⟨n - 1, by omega, ?_⟩
        rw [hI]
        exact ⟨hK, i + 1, dv, vs, by omega, by simp only [E_pne, E_psame, elen_put, Nat.reduceEqDiff, ne_eq, not_false_eq_true, Nat.reduceLT, he], by simp only [E_pne, E_psame, elen_put, Nat.reduceEqDiff, ne_eq, not_false_eq_true, Nat.reduceLT, e0], by simp only [E_pne, E_psame, elen_put, Nat.reduceEqDiff, ne_eq, not_false_eq_true, Nat.reduceLT, e1], by simp only [E_pne, E_psame, elen_put, Nat.reduceEqDiff, ne_eq, not_false_eq_true, Nat.reduceLT, e5], by simp only [E_pne, E_psame, elen_put, Nat.reduceEqDiff, ne_eq, not_false_eq_true, Nat.reduceLT, e6], by simp only [E_pne, E_psame, elen_put, Nat.reduceEqDiff, ne_eq, not_false_eq_true, Nat.reduceLT, he], by rw [hmi1]; exact hb, hnd, hfr⟩
    · have hin : i = mm := by omega
      subst hin
      have hz2 : ((i : Int) < (i : Int)) = False := eq_false (by omega)
      obtain ⟨q, hq⟩ : ∃ q, q + 1 = min i 1000 := ⟨min i 1000 - 1, by omega⟩
      rw [← hq] at hb hvl
      have hq1 : q + 1 ≤ 1000 := by omega
      have hmin : min (i : Int) 1000 = ((q + 1 : Nat) : Int) := by omega
      have p1 := q_BLen false hb (by omega)
      rw [hvl] at p1
      have hf1 := rep_fr 0 q
      have hone : ((0 + 1 : Nat) : Int) = 1 := rfl
      rw [hone] at hf1
      rw [Nat.zero_add] at hf1
      have p2 := q_froms false hb (by omega) 1 (by rw [rep_flat]; omega) (by rw [rep_len]; omega) hnd.read (by simp [lim]) ((q + 1 : Nat) : Int) 0
      rw [hf1] at p2
      simp only [decide_true, Bool.and_self] at p2
      obtain ⟨t3, p3, ⟨dv3, vs3, hb3, hfr3⟩, hC3, _⟩ := q_forgets_ok hb (by omega) (k : Int) 0 (by omega) (by omega : (k : Int) ≤ _)
      have hk0 : ((k : Int) - ((0 : Nat) : Int)).toNat = k := by omega
      rw [hk0] at p3 hb3
      rw [rep_drop, Nat.zero_add] at hb3
      simp only [decide_true, Bool.and_self] at p3
      have hv3 := bufR_len hb3
      rw [rep_len] at hv3
      have hnd3 := hnd.keep hC3 (fun id hid => buf_apart hb id (by simp at hid; simp [hid]))
      have hK3 := hK.chgn hC3 fun id hid => by simp at hid; omega
      have p4 := q_BLen false hb3 (by omega)
      rw [hv3] at p4
      have w4 : IntKind.i64.wrap (((q + 1 : Nat) : Int) - (k : Int)) = ((q + 1 - k : Nat) : Int) := by
        have e : ((q + 1 : Nat) : Int) - (k : Int) = ((q + 1 - k : Nat) : Int) := by omega
        rw [e]
        exact wrap_nat (by omega)
      have p5 := q_BFirst false hb3 (by omega)
      have w5 := wrap_add1 (n := k) (by omega)
      have w6 := wrap_add1 (n := q + 1) (by omega)
      obtain ⟨t4, p6, ⟨dv4, vs4, hb4, hfr4⟩, hC4, _⟩ := q_puts_ok hb3 (by omega) hnd3.read (by simp) (rep_inner _) ((q + 1 + 1 : Nat) : Int) 0 (by rw [rep_put _ (by omega), if_neg (by omega)])
      have hk6 : k + vs3.length + 1 = q + 1 + 1 := by omega
      rw [hk6] at p6
      simp only [decide_true, Bool.and_self] at p6
      rw [rep_app] at hb4
      have hv4 := bufR_len hb4
      rw [rep_len] at hv4
      have hnd4 := hnd3.keep hC4 (buf_apart hb3)
      have hK4 := hK3.chgn hC4 fun id hid => by
        rcases List.mem_cons.1 hid with rfl | hid
        · exact Nat.le_refl _
        · obtain ⟨off, n', cap, z, e⟩ := outM_in hid
          exact Nat.le_trans hK.next (hfr3 _ _ _ _ _ e)
      have hf7 := rep_fr k (q + 1 - k)
      have hk7 : k + (q + 1 - k + 1) = q + 1 + 1 := by omega
      rw [hk7] at hf7
      have p7 := q_froms false hb4 (by omega) ((k + 1 : Nat) : Int) (by rw [rep_flat]; omega) (by rw [rep_len]; omega) hnd4.read (by simp [lim]) ((q + 1 + 1 : Nat) : Int) 0
      rw [hf7] at p7
      simp only [decide_true, Bool.and_self] at p7
      simp (config := {contextual := true, maxDischargeDepth := 12}) only [tb_at, he, e0, e1, e5, e6, e7, hz2, hmin, p1, p2, p3, p4, w4, p5, w5, w6, p6, p7, ↓bD0, ↓bD1, ↓bD2, ↓bD3, ↓bD4, ↓bD5, ↓bD6, bU0, bU1, bU2, bU3, bU4, bU5, bU6, bU7, bU8, bU9, bU10, bU11, bU12, bU13, forall_const, List.all_cons, List.all_nil, Option.map_some, List.map_cons, List.map_nil, ne_eq, implies_true, isNx, cs_dec, cs_not, cs_and, cs_or, cs_valid, eq_self, ↓wp_cond, ↓wp_loop, ↓reduceIte, reduceCtorEq, Nat.reduceEqDiff, Nat.reduceLT, Nat.reduceAdd, Nat.reduceMul, Int.ofNat_lt, Int.ofNat_le, exists_const, ae_app, ap_slc, Option.map_none, mkR_none, mkR_some, ar_look, ae_mset, ae_rng, ae_mkmap0, ar_ent, lookV_push, lookV_lowed, msetV_push, msetV_lowed, lt_put, same_put, sto_over, sto_lowed, cs_dead, Option.map_some, beq_self_eq_true, decide_true, cs_true, cs_false, aa_bsl, ↓sg_bsl, ap_nchk, nchkV_ptr, bin_np, bin_npn, bin_npx, bin_npnx, ap_mm, mmV_max, mmV_min, res3, ↓st_callf, aa_mksl, ae_copy, ap_slc3, slc3V_all, bin_nss, bin_nsn, aa_bsl, extV_2, q_known, beq_self_eq_true, fstep_d0, fstep_d1, fstep_nd2, fstep_ndt, fstep_ndx, bsl_nd]
      exact hK4

end Go.AM
end
