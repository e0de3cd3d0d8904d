/-
  Plain laws: the joins of a list of stores, one after the other. Own work of this project.
-/
import Derived.Test.YtnojanlkminpaaaP5
section
set_option linter.unusedVariables false
set_option linter.unusedSimpArgs false
namespace Go.AM
open Go Go.Proofs

/-- Any two of them agree. -/
def PW (ls : List (List Nd)) : Prop := ∀ x ∈ ls, ∀ y ∈ ls, agreeL x y = true
def Stores (ls : List (List Nd)) : Prop := ∀ x ∈ ls, storeL x = true
def InF (ls : List (List Nd)) (n : Nd) : Prop := n ∈ ls.flatten
theorem nc_of_pw {ls : List (List Nd)} (hs : Stores ls) (h : PW ls) : NC (InF ls) := by
  intro x y hx hy e
  obtain ⟨l, hl, hxl⟩ := List.mem_flatten.1 hx
  obtain ⟨m, hm, hym⟩ := List.mem_flatten.1 hy
  exact (nc_agree (store_sorted (hs l hl)) (store_sorted (hs m hm))).1 (h l hl m hm) x y (.inl hxl) (.inr hym) e
theorem pw_of_nc {ls : List (List Nd)} (hs : Stores ls) (h : NC (InF ls)) : PW ls := fun l hl m hm =>
  (nc_agree (store_sorted (hs l hl)) (store_sorted (hs m hm))).2 (h.sub fun x hx => by
    rcases hx with hx | hx
    · exact List.mem_flatten.2 ⟨l, hl, hx⟩
    · exact List.mem_flatten.2 ⟨m, hm, hx⟩)
theorem fold_res_aux : ∀ (ls : List (List Nd)) (S : Nd → Prop) (j : List Nd), Stores ls → Res S j → NC (fun x => S x ∨ InF ls x) → Res (fun x => S x ∨ InF ls x) (ls.foldl refJ j)
  | [], S, j, _, h, _ => h.congr fun x => by simp [InF]
  | l :: ls, S, j, hs, h, hn => by
    have hl := store_sorted (hs l (by simp))
    have ha : agreeL j l = true := (nc_agree h.sorted hl).2 (hn.sub fun x hx => by
      rcases hx with hx | hx
      · exact .inl (h.sub x hx)
      · exact .inr (by simp [InF, hx]))
    have h1 := Res.step (T := (· ∈ l)) h (res_join h.sorted hl ha)
    have h2 := fold_res_aux ls (fun x => S x ∨ x ∈ l) (refJ j l) (fun x hx => hs x (by simp [hx])) h1 (hn.sub fun x hx => by
      unfold InF at *
      simp only [List.flatten_cons, List.mem_append]
      grind)
    exact h2.congr fun x => by
      unfold InF
      simp only [List.flatten_cons, List.mem_append]
      grind
theorem res_nil : Res (fun _ => False) [] := ⟨List.Pairwise.nil, fun _ h => by simp at h, fun _ h => by simp at h, fun _ h => h.elim⟩
theorem fold_res {ls : List (List Nd)} (hs : Stores ls) (hn : NC (InF ls)) : Res (InF ls) (ls.foldl refJ []) :=
  (fold_res_aux ls (fun _ => False) [] hs res_nil (hn.sub fun x hx => hx.resolve_left id)).congr fun x => by simp
theorem stores_all {ls : List (List Nd)} (hs : Stores ls) : ls.all storeL = true := List.all_eq_true.2 hs
theorem allP_fold {ls : List (List Nd)} (hs : Stores ls) (h : PW ls) : allP ls = (ls.foldl refJ [], 0) :=
  allP_res (stores_all hs) (fun x => Iff.rfl) (nc_of_pw hs h) (fold_res hs (nc_of_pw hs h))
theorem allP_not {ls : List (List Nd)} (hs : Stores ls) (h : ¬ PW ls) : allP ls = ([], 15) :=
  allP_clash (S := InF ls) (stores_all hs) (fun x => Iff.rfl) fun hn => h (pw_of_nc hs hn)
theorem fold_store {ls : List (List Nd)} (hs : Stores ls) (h : PW ls) : storeL (ls.foldl refJ []) = true :=
  store_of_res (fold_res hs (nc_of_pw hs h)) fun x hx => by
    obtain ⟨l, hl, hxl⟩ := List.mem_flatten.1 hx
    exact store_mem (hs l hl) hxl
/-- Each of them is within their join. -/
theorem fold_within {ls : List (List Nd)} (hs : Stores ls) (h : PW ls) {l : List Nd} (hl : l ∈ ls) : withinP l (ls.foldl refJ []) = (true, 0) := by
  obtain ⟨p1, p2, _, _⟩ := refJ_in (nc_of_pw hs h) (store_sorted (hs l hl)) (fold_res hs (nc_of_pw hs h)) fun x hx => List.mem_flatten.2 ⟨l, hl, hx⟩
  rw [withinP_ok (hs l hl) (fold_store hs h) p1, p2]
  simp
theorem PW.sub {ls ms : List (List Nd)} (h : PW ls) (k : ∀ x ∈ ms, x ∈ ls) : PW ms := fun x hx y hy => h x (k x hx) y (k y hy)
theorem Stores.sub {ls ms : List (List Nd)} (h : Stores ls) (k : ∀ x ∈ ms, x ∈ ls) : Stores ms := fun x hx => h x (k x hx)
theorem PW.app {ls : List (List Nd)} (h : PW ls) (hs : Stores ls) {d : List Nd} (hd : storeL d = true) (k : ∀ x ∈ ls, agreeL x d = true) : PW (ls ++ [d]) := by
  intro x hx y hy
  have key : ∀ z ∈ ls ++ [d], z ∈ ls ∨ z = d := fun z hz => by simpa using hz
  rcases key x hx with q | rfl <;> rcases key y hy with r | rfl
  · exact h x q y r
  · exact k x q
  · rw [← agree_symm (store_sorted (hs y r)) (store_sorted hd)]
    exact k y r
  · exact agree_self (store_sorted hd)
theorem Stores.app {ls : List (List Nd)} (hs : Stores ls) {d : List Nd} (hd : storeL d = true) : Stores (ls ++ [d]) := by
  intro x hx
  rcases List.mem_append.1 hx with hx | hx
  · exact hs x hx
  · simp at hx; subst hx; exact hd
/-! ### As a loop finds it out -/
def agB (ls : List (List Nd)) : Nat → Bool
  | 0 => true
  | i + 1 => agB ls i && (match ls[i]? with
    | some x => (ls.take i).all (agreeL x)
    | none => true)
theorem agB_step {ls : List (List Nd)} {i : Nat} {x : List Nd} (h : ls[i]? = some x) : agB ls (i + 1) = (agB ls i && (ls.take i).all (agreeL x)) := by
  rw [agB, h]
theorem agB_at {ls : List (List Nd)} : ∀ {n : Nat}, agB ls n = true → ∀ {i k : Nat} {x y : List Nd}, i < n → k < i → ls[i]? = some x → ls[k]? = some y → agreeL x y = true
  | 0, _, i, k, x, y, h, _, _, _ => by omega
  | n + 1, h, i, k, x, y, hi, hk, hx, hy => by
    rw [agB, Bool.and_eq_true] at h
    by_cases e : i = n
    · subst e
      have h2 := h.2
      rw [hx] at h2
      have h2 : (ls.take i).all (agreeL x) = true := h2
      refine List.all_eq_true.1 h2 y ?_
      have : (ls.take i)[k]? = some y := by rw [List.getElem?_take_of_lt hk]; exact hy
      exact List.mem_of_getElem? this
    · exact agB_at h.1 (by omega) hk hx hy
theorem agB_pw {ls : List (List Nd)} (hs : Stores ls) : agB ls ls.length = true ↔ PW ls := by
  constructor
  · intro h x hx y hy
    obtain ⟨i, hi⟩ := List.getElem?_of_mem hx
    obtain ⟨k, hk⟩ := List.getElem?_of_mem hy
    have li := (List.getElem?_eq_some_iff.1 hi).1
    have lk := (List.getElem?_eq_some_iff.1 hk).1
    rcases Nat.lt_trichotomy i k with q | q | q
    · rw [agree_symm (store_sorted (hs x hx)) (store_sorted (hs y hy))]
      exact agB_at h lk q hk hi
    · subst q
      rw [hi] at hk
      injection hk with hk
      subst hk
      exact agree_self (store_sorted (hs x hx))
    · exact agB_at h li q hi hk
  · intro h
    have key : ∀ n, n ≤ ls.length → agB ls n = true := by
      intro n
      induction n with
      | zero => exact fun _ => rfl
      | succ n ih =>
        intro hn
        have hx : ls[n]? = some ls[n] := by simp
        rw [agB_step hx, ih (by omega), Bool.true_and, List.all_eq_true]
        exact fun y hy => h _ (List.mem_of_getElem? hx) y (List.mem_of_mem_take hy)
    exact key _ (Nat.le_refl _)
theorem all_take {ls : List (List Nd)} {p : List Nd → Bool} {i : Nat} {x : List Nd} (h : ls[i]? = some x) : (ls.take (i + 1)).all p = ((ls.take i).all p && p x) := by
  rw [List.take_add_one, h]
  simp [List.all_append]
end Go.AM
end
/-
  BufferFulls in the abstract machine. Own work of this project; in part printed by a program of it.
-/
section
set_option linter.unusedVariables false
set_option linter.unusedSimpArgs false
set_option maxRecDepth 100000
set_option maxHeartbeats 16000000
namespace Go.AM
open Go Go.Proofs

variable {s t u : St}
def nd1 (r x : Int) : Nd := ⟨⟨r, 1⟩, ⟨0, 0⟩, 1, x⟩
theorem bsl_nd {x : Nd} : bslV [.int .i64 0, .int .i64 0, .int .i64 0, .int .i64 0, .int .i64 0, .int .i32 0] 1 6 [(0, .agg (Nd.av x))] = some (fun id => .sl id 0 1 (some 1) 6, .row (Nd.av x) true) := nrfl rfl
theorem fstep_d0 (a : Int) (K : List AV → Option (List AV)) : fstep [.int .i64 0, .int .i64 0] 0 1 (.int .i64 a) K = K [.int .i64 a, .int .i64 0] := nrfl rfl
theorem fstep_d1 (a b : Int) (K : List AV → Option (List AV)) : fstep [.int .i64 a, .int .i64 0] 1 1 (.int .i64 b) K = K (Dot.av ⟨a, b⟩) := nrfl rfl
theorem fstep_nd2 (d : Dot) (K : List AV → Option (List AV)) : fstep [.int .i64 0, .int .i64 0, .int .i64 0, .int .i64 0, .int .i64 0, .int .i32 0] 0 2 (.agg (Dot.av d)) K = K (Nd.av ⟨d, ⟨0, 0⟩, 0, 0⟩) := nrfl rfl
theorem fstep_ndt (d : Dot) (k : Int) (K : List AV → Option (List AV)) : fstep (Nd.av ⟨d, ⟨0, 0⟩, 0, 0⟩) 4 1 (.int .i64 k) K = K (Nd.av ⟨d, ⟨0, 0⟩, k, 0⟩) := nrfl rfl
theorem fstep_ndx (d : Dot) (k x : Int) (K : List AV → Option (List AV)) : fstep (Nd.av ⟨d, ⟨0, 0⟩, k, 0⟩) 5 1 (.int .i32 x) K = K (Nd.av ⟨d, ⟨0, 0⟩, k, x⟩) := nrfl rfl
noncomputable def R_one : Con := runFn (tb []) a17
theorem s_one : SoundAt Try.prog 17 R_one := run_sound (tb_sound (l := []) (by simp)) mixed Try.func17 k17 c17
theorem n_one : noNxtC a17.body = true := by kernel_rfl
theorem w_one {s : St} (rr ch : Int) : ∀ env : Env, elen env = a17.ntmps → (∀ i x_, [.int .i64 rr, .int .i32 ch][i]? = some x_ → E env i = x_) → awp (tb []) a17.body (fun x e t => (∀ i, x ≠ .exit i) ∧ ∃ r, aresults e t a17.results = some r ∧ r = .sl s.next 0 1 (some 1) 6 ∧ t = s.push (.row (Nd.av (nd1 rr ch)) true)) env s := by
  intro env hlen ha
  have h0 : E env 0 = _ := ha 0 _ rfl
  have h1 : E env 1 = _ := ha 1 _ rfl
  have hlen : elen env = _ := hlen
  simp only [a17] at hlen
  unfold a17
  simp (config := {contextual := true, maxDischargeDepth := 12}) only [tb_at, h0, h1, hlen, ↓bD0, ↓bD1, ↓bD2, ↓bD3, ↓bD4, ↓bD5, ↓bD6, bU0, bU1, bU2, bU3, bU4, bU5, bU6, bU7, bU8, bU9, bU10, bU11, bU12, bU13, forall_const, List.all_cons, List.all_nil, Option.map_some, List.map_cons, List.map_nil, ne_eq, implies_true, isNx, cs_dec, cs_not, cs_and, cs_or, cs_valid, eq_self, ↓wp_cond, ↓wp_loop, ↓reduceIte, reduceCtorEq, Nat.reduceEqDiff, Nat.reduceLT, Nat.reduceAdd, Nat.reduceMul, Int.ofNat_lt, Int.ofNat_le, exists_const, ae_app, ap_slc, Option.map_none, mkR_none, mkR_some, ar_look, ae_mset, ae_rng, ae_mkmap0, ar_ent, lookV_push, lookV_lowed, msetV_push, msetV_lowed, lt_put, same_put, sto_over, sto_lowed, cs_dead, Option.map_some, beq_self_eq_true, decide_true, cs_true, cs_false, aa_bsl, ↓sg_bsl, ap_nchk, nchkV_ptr, bin_np, bin_npn, bin_npx, bin_npnx, ap_mm, mmV_max, mmV_min, res3, ↓st_callf, aa_mksl, ae_copy, ap_slc3, slc3V_all, bin_nss, bin_nsn, aa_bsl, extV_2, q_known, beq_self_eq_true, fstep_d0, fstep_d1, fstep_nd2, fstep_ndt, fstep_ndx, bsl_nd]
  exact ⟨_, rfl, rfl, rfl⟩
theorem q_one {s : St} (rr x : Int) : ∃ v t, acall R_one false [.int .i64 rr, .int .i32 x] s = some (v, t) ∧ NdR t v [nd1 rr x] ∧ Keep s t := by
  obtain ⟨r, t, h1, rfl, rfl⟩ := run_awp n_one (args := [.int .i64 rr, .int .i32 x]) (by simp [a17]) (Q := fun r t => r = .sl (lowd s).next 0 1 (some 1) 6 ∧ t = (lowd s).push (.row (Nd.av (nd1 rr x)) true)) (w_one (s := lowd s) rr x)
  obtain ⟨t', g1, g2, g3, g4⟩ := acall_new (M := []) h1 (((Keep.refl _).push _).chg []) (.inl rfl)
  have hg : t'.get s.next = some (.row (ndC.cells [nd1 rr x]) true) := by rw [g2]; exact St.get_push_new (lowd s) _
  exact ⟨_, t', g1, .inr ⟨s.next, 0, 1, some 1, [nd1 rr x], true, rfl, hg, read_of rfl hg (by rw [cells_len]; simp) rfl⟩, g4.keep⟩
/-! ### The same node again and again -/
def xA : Nd := nd1 1 120
def rep (n : Nat) : List (List Nd) := List.replicate n [xA]
theorem xA_store : storeL [xA] = true := by decide
theorem xA_sorted : [xA].Pairwise ltP := List.pairwise_singleton _ _
theorem xA_agree : agreeL [xA] [xA] = true := agree_self xA_sorted
theorem rep_stores (n : Nat) : Stores (rep n) := fun x hx => by rw [List.eq_of_mem_replicate hx]; exact xA_store
theorem rep_pw (n : Nat) : PW (rep n) := fun x hx y hy => by rw [List.eq_of_mem_replicate hx, List.eq_of_mem_replicate hy]; exact xA_agree
theorem rep_fold (n : Nat) : (rep (n + 1)).foldl refJ [] = [xA] := by
  refine Res.uniq (nc_of_pw (rep_stores _) (rep_pw _)) (fold_res (rep_stores _) (nc_of_pw (rep_stores _) (rep_pw _))) ?_
  have hm : ∀ z, InF (rep (n + 1)) z → z = xA := fun z hz => by
    obtain ⟨l, hl, hzl⟩ := List.mem_flatten.1 hz
    rw [List.eq_of_mem_replicate hl] at hzl
    simpa using hzl
  have hx : InF (rep (n + 1)) xA := List.mem_flatten.2 ⟨[xA], by simp [rep, List.mem_replicate], by simp⟩
  refine ⟨xA_sorted, fun y hy => ?_, fun y hy z hz e z0 => ?_, fun z hz => ⟨xA, by simp, by rw [hm z hz]⟩⟩
  · have : y = xA := by simpa using hy
    rw [this]; exact hx
  · have : y = xA := by simpa using hy
    rw [this, ← hm z hz]; exact z0
theorem rep_all (n : Nat) : allP (rep (n + 1)) = ([xA], 0) := by
  rw [allP_fold (rep_stores _) (rep_pw _), rep_fold]
theorem rep_put (n : Nat) (hn : n ≤ 1000) : putP (rep n) [xA] = if n = 1000 then some 7 else none := by
  have hl : (rep n).length = n := by simp [rep]
  unfold putP
  rw [if_neg (by simp [xA_store]), if_neg, hl]
  rintro ⟨x, hx, h⟩
  rw [List.eq_of_mem_replicate hx, agreeP_ok xA_store xA_store, xA_agree] at h
  cases h
theorem rep_bet (g n : Nat) : betP g (rep (n + 1)) ((g + 1 : Nat) : Int) ((g + (n + 1) : Nat) : Int) = ([xA], 0) := by
  have hl : (rep (n + 1)).length = n + 1 := by simp [rep]
  unfold betP
  rw [if_neg (by omega), if_neg (by rw [hl]; omega)]
  have e1 : (((g + 1 : Nat) : Int) - (g + 1 : Nat)).toNat = 0 := by simp
  have e2 : (((g + (n + 1) : Nat) : Int) - (g : Nat)).toNat = n + 1 := by omega
  rw [e1, e2, List.drop_zero, Nat.sub_zero, List.take_of_length_le (by omega)]
  exact rep_all n
theorem rep_fr (g n : Nat) : frP g (rep (n + 1)) ((g + 1 : Nat) : Int) = ([xA], ((g + (n + 1) : Nat) : Int), 0) := by
  have hl : (rep (n + 1)).length = n + 1 := by simp [rep]
  unfold frP
  rw [if_neg (by omega), hl, if_neg (by omega), rep_bet]
  rfl
theorem rep_flat (n : Nat) : (rep n).flatten.length = n := by
  unfold rep
  induction n with
  | zero => rfl
  | succ n ih => rw [List.replicate_succ, List.flatten_cons, List.length_append, ih]; simp; omega
theorem rep_app (n : Nat) : rep n ++ [[xA]] = rep (n + 1) := by
  unfold rep
  rw [List.replicate_succ']
theorem rep_drop (n k : Nat) : (rep n).drop k = rep (n - k) := by
  unfold rep
  rw [List.drop_replicate]
theorem rep_inner (n : Nat) : InnerOk (rep n) := fun x hx => by rw [List.eq_of_mem_replicate hx]; simp
theorem rep_len (n : Nat) : (rep n).length = n := by simp [rep]
theorem bufR_len {id g : Nat} {dv : AV} {vs : List AV} {ls : List (List Nd)} (h : BufR t id g dv vs ls) : vs.length = ls.length := h.2.2.len
theorem buf_apart {id g : Nat} {dv : AV} {vs : List AV} {ls : List (List Nd)} (h : BufR t id g dv vs ls) : Apart t (id :: outM dv vs) := Apart.app (M := [id]) (apart_two h.1) (apart_out h.2.1 h.2.2)
theorem s_BufferFulls : SoundAt Try.prog 4 (lawC Try.prog 8 [3, 3]) :=
  con_keep (tb_sound (l := [(8, closed [] (.bool true)), (17, R_one), (18, R_BPut), (10, R_puts), (14, R_froms), (16, R_forgets), (20, R_BFirst), (19, R_BLen)]) (by simpa using ⟨s_known, s_one, s_BPut, s_puts, s_froms, s_forgets, s_BFirst, s_BLen⟩)) mixed Try.func4 k4 c4 fun args s r s' h => by
    obtain ⟨hh, rfl, rfl⟩ := lawC_some h
    obtain ⟨v, w, rfl, hv, hw⟩ := rdas_2 hh
    obtain ⟨m, rfl, _⟩ := rda_int int_under hv
    obtain ⟨gn, rfl, _⟩ := rda_int int_under hw
    refine ⟨rfl, rfl, by simp [a4], fun env hlen ha => ?_⟩
    have h0 : E env 0 = _ := ha 0 _ rfl
    have h1 : E env 1 = _ := ha 1 _ rfl
    have hlen : elen env = _ := hlen
    simp only [a4] at hlen
    unfold a4
    by_cases hz : ((m < 998 ∨ 1002 < m) ∨ gn < 1) ∨ 998 < gn
    · have hz1 : (((decide (m < 998) || decide (1002 < m)) || decide (gn < 1)) || decide (998 < gn)) = true := by simpa using hz
      simp (config := {contextual := true, maxDischargeDepth := 12}) only [tb_at, h0, h1, hlen, hz1, ↓bD0, ↓bD1, ↓bD2, ↓bD3, ↓bD4, ↓bD5, ↓bD6, bU0, bU1, bU2, bU3, bU4, bU5, bU6, bU7, bU8, bU9, bU10, bU11, bU12, bU13, forall_const, List.all_cons, List.all_nil, Option.map_some, List.map_cons, List.map_nil, ne_eq, implies_true, isNx, cs_dec, cs_not, cs_and, cs_or, cs_valid, eq_self, ↓wp_cond, ↓wp_loop, ↓reduceIte, reduceCtorEq, Nat.reduceEqDiff, Nat.reduceLT, Nat.reduceAdd, Nat.reduceMul, Int.ofNat_lt, Int.ofNat_le, exists_const, ae_app, ap_slc, Option.map_none, mkR_none, mkR_some, ar_look, ae_mset, ae_rng, ae_mkmap0, ar_ent, lookV_push, lookV_lowed, msetV_push, msetV_lowed, lt_put, same_put, sto_over, sto_lowed, cs_dead, Option.map_some, beq_self_eq_true, decide_true, cs_true, cs_false, aa_bsl, ↓sg_bsl, ap_nchk, nchkV_ptr, bin_np, bin_npn, bin_npx, bin_npnx, ap_mm, mmV_max, mmV_min, res3, ↓st_callf, aa_mksl, ae_copy, ap_slc3, slc3V_all, bin_nss, bin_nsn, aa_bsl, extV_2, q_known, beq_self_eq_true, fstep_d0, fstep_d1, fstep_nd2, fstep_ndt, fstep_ndx, bsl_nd]
    have hz1 : (((decide (m < 998) || decide (1002 < m)) || decide (gn < 1)) || decide (998 < gn)) = false := by simpa using hz
    obtain ⟨mm, rfl⟩ : ∃ mm : Nat, m = (mm : Int) := ⟨m.toNat, by omega⟩
    obtain ⟨k, rfl⟩ : ∃ k : Nat, gn = (k : Int) := ⟨gn.toNat, by omega⟩
    obtain ⟨t1, ht1⟩ : ∃ t1, t1 = s.push (.row [.int .i64 0, .nils] true) := ⟨_, rfl⟩
    have hbx := boxV_2 (a := .int .i64 0) (b := .nils) rfl rfl
    obtain ⟨vx, t2, hone, hndx, hK12⟩ := q_one (s := s.push (.row [.int .i64 0, .nils] true)) 1 120
    simp (config := {contextual := true, maxDischargeDepth := 12}) only [tb_at, h0, h1, hlen, hz1, hbx, hone, ↓bD0, ↓bD1, ↓bD2, ↓bD3, ↓bD4, ↓bD5, ↓bD6, bU0, bU1, bU2, bU3, bU4, bU5, bU6, bU7, bU8, bU9, bU10, bU11, bU12, bU13, forall_const, List.all_cons, List.all_nil, Option.map_some, List.map_cons, List.map_nil, ne_eq, implies_true, isNx, cs_dec, cs_not, cs_and, cs_or, cs_valid, eq_self, ↓wp_cond, ↓wp_loop, ↓reduceIte, reduceCtorEq, Nat.reduceEqDiff, Nat.reduceLT, Nat.reduceAdd, Nat.reduceMul, Int.ofNat_lt, Int.ofNat_le, exists_const, ae_app, ap_slc, Option.map_none, mkR_none, mkR_some, ar_look, ae_mset, ae_rng, ae_mkmap0, ar_ent, lookV_push, lookV_lowed, msetV_push, msetV_lowed, lt_put, same_put, sto_over, sto_lowed, cs_dead, Option.map_some, beq_self_eq_true, decide_true, cs_true, cs_false, aa_bsl, ↓sg_bsl, ap_nchk, nchkV_ptr, bin_np, bin_npn, bin_npx, bin_npnx, ap_mm, mmV_max, mmV_min, res3, ↓st_callf, aa_mksl, ae_copy, ap_slc3, slc3V_all, bin_nss, bin_nsn, aa_bsl, extV_2, q_known, beq_self_eq_true, fstep_d0, fstep_d1, fstep_nd2, fstep_ndt, fstep_ndx, bsl_nd]
    have hKs2 : Keep s t2 := ((Keep.refl s).push _).trans hK12
    have hB2 : BufR t2 s.next 0 .nils [] (rep (min 0 1000)) := ⟨hK12.blk (St.get_push_new _ _), .inl ⟨rfl, rfl⟩, trivial⟩
    obtain ⟨I, hI⟩ : ∃ I : Nat → Env → St → Prop, ∀ n e t, I n e t = (Keep s t ∧ ∃ i dv vs, i + n = mm ∧ elen e = 116 ∧ E e 0 = .int .i64 (mm : Int) ∧ E e 1 = .int .i64 (k : Int) ∧ E e 5 = .ptr s.next 0 ∧ E e 6 = vx ∧ E e 7 = .int .i64 (i : Int) ∧ BufR t s.next 0 dv vs (rep (min i 1000)) ∧ NdR t vx [xA] ∧ ∀ j off n cap z, dv = .sl j off n cap z → s.next ≤ j) := ⟨fun n e t => (Keep s t ∧ ∃ i dv vs, i + n = mm ∧ elen e = 116 ∧ E e 0 = .int .i64 (mm : Int) ∧ E e 1 = .int .i64 (k : Int) ∧ E e 5 = .ptr s.next 0 ∧ E e 6 = vx ∧ E e 7 = .int .i64 (i : Int) ∧ BufR t s.next 0 dv vs (rep (min i 1000)) ∧ NdR t vx [xA] ∧ ∀ j off n cap z, dv = .sl j off n cap z → s.next ≤ j), fun _ _ _ => rfl⟩
    refine lwp_inv I (n := mm) ?_ ?_
    · rw [hI]
      exact ⟨hKs2, 0, .nils, [], by omega, by simp only [E_pne, E_psame, elen_put, Nat.reduceEqDiff, ne_eq, not_false_eq_true, Nat.reduceLT, hlen], by simp only [E_pne, E_psame, elen_put, Nat.reduceEqDiff, ne_eq, not_false_eq_true, Nat.reduceLT, h0], by simp only [E_pne, E_psame, elen_put, Nat.reduceEqDiff, ne_eq, not_false_eq_true, Nat.reduceLT, h1], by simp only [E_pne, E_psame, elen_put, Nat.reduceEqDiff, ne_eq, not_false_eq_true, Nat.reduceLT, hlen], by simp only [E_pne, E_psame, elen_put, Nat.reduceEqDiff, ne_eq, not_false_eq_true, Nat.reduceLT, hlen], by simp only [E_pne, E_psame, elen_put, Nat.reduceEqDiff, ne_eq, not_false_eq_true, Nat.reduceLT, hlen]; rfl, hB2, hndx, fun _ _ _ _ _ e => by (cases e)⟩
    clear h0 h1 hlen ha hone hbx hK12 hB2 hndx hKs2
    intro n e t hi
    rw [hI] at hi
    obtain ⟨hK, i, dv, vs, hni, he, e0, e1, e5, e6, e7, hb, hnd, hfr⟩ := hi
    have hvl := bufR_len hb
    rw [rep_len] at hvl
    by_cases hlt : i < mm
    · have hz2 : ((i : Int) < (mm : Int)) = True := eq_true (by omega)
      have hw := wrap_add1 (n := i) (by omega)
      by_cases h1000 : i < 1000
      · have hz3 : ((i : Int) < 1000) = True := eq_true (by omega)
        have hz4 : ((1000 : Int) ≤ (i : Int)) = False := eq_false (by omega)
        have hmi : min i 1000 = i := by omega
        have hmi1 : min (i + 1) 1000 = i + 1 := by omega
        rw [hmi] at hb hvl
        obtain ⟨t', hq, ⟨dv', vs', hb', hfr'⟩, hC, _⟩ := q_BPut_ok hb (by omega) hnd.read (by simp) (rep_inner i) (by rw [rep_put i (by omega), if_neg (by omega)])
        have hv : 0 + vs.length + 1 = i + 1 := by omega
        rw [hv] at hq
        rw [rep_app] at hb'
        simp (config := {contextual := true, maxDischargeDepth := 12}) only [tb_at, he, e0, e1, e5, e6, e7, hz2, hz3, hz4, hw, hq, ↓bD0, ↓bD1, ↓bD2, ↓bD3, ↓bD4, ↓bD5, ↓bD6, bU0, bU1, bU2, bU3, bU4, bU5, bU6, bU7, bU8, bU9, bU10, bU11, bU12, bU13, forall_const, List.all_cons, List.all_nil, Option.map_some, List.map_cons, List.map_nil, ne_eq, implies_true, isNx, cs_dec, cs_not, cs_and, cs_or, cs_valid, eq_self, ↓wp_cond, ↓wp_loop, ↓reduceIte, reduceCtorEq, Nat.reduceEqDiff, Nat.reduceLT, Nat.reduceAdd, Nat.reduceMul, Int.ofNat_lt, Int.ofNat_le, exists_const, ae_app, ap_slc, Option.map_none, mkR_none, mkR_some, ar_look, ae_mset, ae_rng, ae_mkmap0, ar_ent, lookV_push, lookV_lowed, msetV_push, msetV_lowed, lt_put, same_put, sto_over, sto_lowed, cs_dead, Option.map_some, beq_self_eq_true, decide_true, cs_true, cs_false, aa_bsl, ↓sg_bsl, ap_nchk, nchkV_ptr, bin_np, bin_npn, bin_npx, bin_npnx, ap_mm, mmV_max, mmV_min, res3, ↓st_callf, aa_mksl, ae_copy, ap_slc3, slc3V_all, bin_nss, bin_nsn, aa_bsl, extV_2, q_known, beq_self_eq_true, fstep_d0, fstep_d1, fstep_nd2, fstep_ndt, fstep_ndx, bsl_nd]
        refine ⟨n - 1, by omega, ?_⟩
        rw [hI]
        refine ⟨hK.chgn hC fun id hid => ?_, i + 1, dv', vs', by omega, by simp only [E_pne, E_psame, elen_put, Nat.reduceEqDiff, ne_eq, not_false_eq_true, Nat.reduceLT, he], by simp only [E_pne, E_psame, elen_put, Nat.reduceEqDiff, ne_eq, not_false_eq_true, Nat.reduceLT, e0], by simp only [E_pne, E_psame, elen_put, Nat.reduceEqDiff, ne_eq, not_false_eq_true, Nat.reduceLT, e1], by simp only [E_pne, E_psame, elen_put, Nat.reduceEqDiff, ne_eq, not_false_eq_true, Nat.reduceLT, e5], by simp only [E_pne, E_psame, elen_put, Nat.reduceEqDiff, ne_eq, not_false_eq_true, Nat.reduceLT, e6], by simp only [E_pne, E_psame, elen_put, Nat.reduceEqDiff, ne_eq, not_false_eq_true, Nat.reduceLT, he], by rw [hmi1]; exact hb', hnd.keep hC (buf_apart hb), fun j off n cap z e => Nat.le_trans hK.next (hfr' j off n cap z e)⟩
        rcases List.mem_cons.1 hid with rfl | hid
        · exact Nat.le_refl _
        · obtain ⟨off, n', cap, z, e⟩ := outM_in hid
          exact hfr _ _ _ _ _ e
      · have hz3 : ((i : Int) < 1000) = False := eq_false (by omega)
        have hz4 : ((1000 : Int) ≤ (i : Int)) = True := eq_true (by omega)
        have hmi : min i 1000 = 1000 := by omega
        have hmi1 : min (i + 1) 1000 = 1000 := by omega
        rw [hmi] at hb hvl
        have hq := q_BPut_err false hb (by omega) hnd.read (by simp) (rep_inner 1000) (er := 7) (by rw [rep_put 1000 (by omega), if_pos rfl])
        simp (config := {contextual := true, maxDischargeDepth := 12}) only [tb_at, he, e0, e1, e5, e6, e7, hz2, hz3, hz4, hw, hq, ↓bD0, ↓bD1, ↓bD2, ↓bD3, ↓bD4, ↓bD5, ↓bD6, bU0, bU1, bU2, bU3, bU4, bU5, bU6, bU7, bU8, bU9, bU10, bU11, bU12, bU13, forall_const, List.all_cons, List.all_nil, Option.map_some, List.map_cons, List.map_nil, ne_eq, implies_true, isNx, cs_dec, cs_not, cs_and, cs_or, cs_valid, eq_self, ↓wp_cond, ↓wp_loop, ↓reduceIte, reduceCtorEq, Nat.reduceEqDiff, Nat.reduceLT, Nat.reduceAdd, Nat.reduceMul, Int.ofNat_lt, Int.ofNat_le, exists_const, ae_app, ap_slc, Option.map_none, mkR_none, mkR_some, ar_look, ae_mset, ae_rng, ae_mkmap0, ar_ent, lookV_push, lookV_lowed, msetV_push, msetV_lowed, lt_put, same_put, sto_over, sto_lowed, cs_dead, Option.map_some, beq_self_eq_true, decide_true, cs_true, cs_false, aa_bsl, ↓sg_bsl, ap_nchk, nchkV_ptr, bin_np, bin_npn, bin_npx, bin_npnx, ap_mm, mmV_max, mmV_min, res3, ↓st_callf, aa_mksl, ae_copy, ap_slc3, slc3V_all, bin_nss, bin_nsn, aa_bsl, extV_2, q_known, beq_self_eq_true, fstep_d0, fstep_d1, fstep_nd2, fstep_ndt, fstep_ndx, bsl_nd]
        refine ⟨n - 1, by omega, ?_⟩
        rw [hI]
        exact ⟨hK, i + 1, dv, vs, by omega, by simp only [E_pne, E_psame, elen_put, Nat.reduceEqDiff, ne_eq, not_false_eq_true, Nat.reduceLT, he], by simp only [E_pne, E_psame, elen_put, Nat.reduceEqDiff, ne_eq, not_false_eq_true, Nat.reduceLT, e0], by simp only [E_pne, E_psame, elen_put, Nat.reduceEqDiff, ne_eq, not_false_eq_true, Nat.reduceLT, e1], by simp only [E_pne, E_psame, elen_put, Nat.reduceEqDiff, ne_eq, not_false_eq_true, Nat.reduceLT, e5], by simp only [E_pne, E_psame, elen_put, Nat.reduceEqDiff, ne_eq, not_false_eq_true, Nat.reduceLT, e6], by simp only [E_pne, E_psame, elen_put, Nat.reduceEqDiff, ne_eq, not_false_eq_true, Nat.reduceLT, he], by rw [hmi1]; exact hb, hnd, hfr⟩
    · have hin : i = mm := by omega
      subst hin
      have hz2 : ((i : Int) < (i : Int)) = False := eq_false (by omega)
      obtain ⟨q, hq⟩ : ∃ q, q + 1 = min i 1000 := ⟨min i 1000 - 1, by omega⟩
      rw [← hq] at hb hvl
      have hq1 : q + 1 ≤ 1000 := by omega
      have hmin : min (i : Int) 1000 = ((q + 1 : Nat) : Int) := by omega
      have p1 := q_BLen false hb (by omega)
      rw [hvl] at p1
      have hf1 := rep_fr 0 q
      have hone : ((0 + 1 : Nat) : Int) = 1 := rfl
      rw [hone] at hf1
      rw [Nat.zero_add] at hf1
      have p2 := q_froms false hb (by omega) 1 (by rw [rep_flat]; omega) (by rw [rep_len]; omega) hnd.read (by simp [lim]) ((q + 1 : Nat) : Int) 0
      rw [hf1] at p2
      simp only [decide_true, Bool.and_self] at p2
      obtain ⟨t3, p3, ⟨dv3, vs3, hb3, hfr3⟩, hC3, _⟩ := q_forgets_ok hb (by omega) (k : Int) 0 (by omega) (by omega : (k : Int) ≤ _)
      have hk0 : ((k : Int) - ((0 : Nat) : Int)).toNat = k := by omega
      rw [hk0] at p3 hb3
      rw [rep_drop, Nat.zero_add] at hb3
      simp only [decide_true, Bool.and_self] at p3
      have hv3 := bufR_len hb3
      rw [rep_len] at hv3
      have hnd3 := hnd.keep hC3 (fun id hid => buf_apart hb id (by simp at hid; simp [hid]))
      have hK3 := hK.chgn hC3 fun id hid => by simp at hid; omega
      have p4 := q_BLen false hb3 (by omega)
      rw [hv3] at p4
      have w4 : IntKind.i64.wrap (((q + 1 : Nat) : Int) - (k : Int)) = ((q + 1 - k : Nat) : Int) := by
        have e : ((q + 1 : Nat) : Int) - (k : Int) = ((q + 1 - k : Nat) : Int) := by omega
        rw [e]
        exact wrap_nat (by omega)
      have p5 := q_BFirst false hb3 (by omega)
      have w5 := wrap_add1 (n := k) (by omega)
      have w6 := wrap_add1 (n := q + 1) (by omega)
      obtain ⟨t4, p6, ⟨dv4, vs4, hb4, hfr4⟩, hC4, _⟩ := q_puts_ok hb3 (by omega) hnd3.read (by simp) (rep_inner _) ((q + 1 + 1 : Nat) : Int) 0 (by rw [rep_put _ (by omega), if_neg (by omega)])
      have hk6 : k + vs3.length + 1 = q + 1 + 1 := by omega
      rw [hk6] at p6
      simp only [decide_true, Bool.and_self] at p6
      rw [rep_app] at hb4
      have hv4 := bufR_len hb4
      rw [rep_len] at hv4
      have hnd4 := hnd3.keep hC4 (buf_apart hb3)
      have hK4 := hK3.chgn hC4 fun id hid => by
        rcases List.mem_cons.1 hid with rfl | hid
        · exact Nat.le_refl _
        · obtain ⟨off, n', cap, z, e⟩ := outM_in hid
          exact Nat.le_trans hK.next (hfr3 _ _ _ _ _ e)
      have hf7 := rep_fr k (q + 1 - k)
      have hk7 : k + (q + 1 - k + 1) = q + 1 + 1 := by omega
      rw [hk7] at hf7
      have p7 := q_froms false hb4 (by omega) ((k + 1 : Nat) : Int) (by rw [rep_flat]; omega) (by rw [rep_len]; omega) hnd4.read (by simp [lim]) ((q + 1 + 1 : Nat) : Int) 0
      rw [hf7] at p7
      simp only [decide_true, Bool.and_self] at p7
      simp (config := {contextual := true, maxDischargeDepth := 12}) only [tb_at, he, e0, e1, e5, e6, e7, hz2, hmin, p1, p2, p3, p4, w4, p5, w5, w6, p6, p7, ↓bD0, ↓bD1, ↓bD2, ↓bD3, ↓bD4, ↓bD5, ↓bD6, bU0, bU1, bU2, bU3, bU4, bU5, bU6, bU7, bU8, bU9, bU10, bU11, bU12, bU13, forall_const, List.all_cons, List.all_nil, Option.map_some, List.map_cons, List.map_nil, ne_eq, implies_true, isNx, cs_dec, cs_not, cs_and, cs_or, cs_valid, eq_self, ↓wp_cond, ↓wp_loop, ↓reduceIte, reduceCtorEq, Nat.reduceEqDiff, Nat.reduceLT, Nat.reduceAdd, Nat.reduceMul, Int.ofNat_lt, Int.ofNat_le, exists_const, ae_app, ap_slc, Option.map_none, mkR_none, mkR_some, ar_look, ae_mset, ae_rng, ae_mkmap0, ar_ent, lookV_push, lookV_lowed, msetV_push, msetV_lowed, lt_put, same_put, sto_over, sto_lowed, cs_dead, Option.map_some, beq_self_eq_true, decide_true, cs_true, cs_false, aa_bsl, ↓sg_bsl, ap_nchk, nchkV_ptr, bin_np, bin_npn, bin_npx, bin_npnx, ap_mm, mmV_max, mmV_min, res3, ↓st_callf, aa_mksl, ae_copy, ap_slc3, slc3V_all, bin_nss, bin_nsn, aa_bsl, extV_2, q_known, beq_self_eq_true, fstep_d0, fstep_d1, fstep_nd2, fstep_ndt, fstep_ndx, bsl_nd]
      exact hK4

end Go.AM
end
/-
  The program's buffer and the reference's, side by side. Own work of this project.
-/
section
set_option linter.unusedVariables false
set_option linter.unusedSimpArgs false
set_option maxRecDepth 100000
set_option maxHeartbeats 4000000
namespace Go.AM
open Go Go.Proofs

variable {s t u : St}
/-! ### Plain -/
theorem put_same {ls : List (List Nd)} {d : List Nd} (hs : Stores ls) (hl : ls.length < 1000) : putP ls d = rputP ls d := by
  unfold putP rputP
  by_cases hd : storeL d = false
  · rw [if_pos hd, if_pos hd]
  · rw [if_neg hd, if_neg hd]
    have hd : storeL d = true := by simpa using hd
    have e : (∃ x ∈ ls, (agreeP x d).1 = false) ↔ ∃ x ∈ ls, agreeL x d = false := by
      constructor
      · rintro ⟨x, hx, h⟩
        rw [agreeP_ok (hs x hx) hd] at h
        exact ⟨x, hx, h⟩
      · rintro ⟨x, hx, h⟩
        refine ⟨x, hx, ?_⟩
        rw [agreeP_ok (hs x hx) hd]
        exact h
    by_cases h : ∃ x ∈ ls, agreeL x d = false
    · rw [if_pos h, if_pos (e.2 h)]
    · rw [if_neg h, if_neg fun q => h (e.1 q), if_neg (by omega), if_neg (by omega)]
theorem put_none {ls : List (List Nd)} {d : List Nd} (h : rputP ls d = none) : storeL d = true ∧ ∀ x ∈ ls, agreeL x d = true := by
  unfold rputP at h
  split at h
  · cases h
  · rename_i h1
    split at h
    · cases h
    · rename_i h2
      exact ⟨by simpa using h1, fun x hx => by
        cases e : agreeL x d
        · exact absurd ⟨x, hx, e⟩ h2
        · rfl⟩
theorem bet_same {g : Nat} {all : List (List Nd)} (hs : Stores all) (hp : PW (all.drop g)) (hg : g ≤ all.length) (f l : Int) : betP g (all.drop g) f l = rbetP g all f l := by
  unfold betP rbetP
  by_cases h1 : f < 1 ∨ l < f
  · rw [if_pos h1, if_pos h1]
  · rw [if_neg h1, if_neg h1]
    have hl : (all.drop g).length = all.length - g := List.length_drop
    by_cases h2 : f ≤ (g : Int) ∨ (all.length : Int) < l
    · rw [if_pos h2, if_pos (by rw [hl]; omega)]
    · rw [if_neg h2, if_neg (by rw [hl]; omega)]
      have e1 : (all.drop g).drop (f - ((g + 1 : Nat) : Int)).toNat = all.drop (f - 1).toNat := by
        rw [List.drop_drop]
        congr 1
        omega
      have e2 : (l - (g : Int)).toNat - (f - ((g + 1 : Nat) : Int)).toNat = l.toNat - (f - 1).toNat := by omega
      rw [e1, e2]
      refine allP_fold (hs.sub fun x hx => List.mem_of_mem_drop (List.mem_of_mem_take hx)) (hp.sub fun x hx => ?_)
      rw [← e1] at hx
      exact List.mem_of_mem_drop (List.mem_of_mem_take hx)
theorem rbet_zero {g : Nat} {all : List (List Nd)} {f l : Int} (h : (rbetP g all f l).2 ≠ 0) : (rbetP g all f l).1 = [] := by
  unfold rbetP at *
  repeat' split
  all_goals simp_all
theorem fr_same {g : Nat} {all : List (List Nd)} (hs : Stores all) (hp : PW (all.drop g)) (hg : g ≤ all.length) (n : Int) : frP g (all.drop g) n = rfrP g all n := by
  have hl : (all.drop g).length = all.length - g := List.length_drop
  have e : ((g + (all.length - g) : Nat) : Int) = (all.length : Int) := by omega
  unfold frP rfrP
  rw [hl, e, bet_same hs hp hg]
  by_cases h1 : n < 1
  · rw [if_pos h1, if_pos h1]
  · rw [if_neg h1, if_neg h1]
    by_cases h2 : (all.length : Int) < n
    · rw [if_pos h2, if_pos (.inr h2)]
    · rw [if_neg h2]
      by_cases h3 : n ≤ (g : Int)
      · have hb : rbetP g all n (all.length : Int) = ([], 9) := by
          unfold rbetP
          rw [if_neg (by omega), if_pos (.inl h3)]
        rw [hb]
        simp [h3]
      · have hb : (rbetP g all n (all.length : Int)).2 = 0 := by
          unfold rbetP
          rw [if_neg (by omega), if_neg (by omega)]
        rw [if_pos hb, if_neg (by omega), hb]

/-! ### Both in memory -/
structure Both (s t : St) (ib ix : Nat) (all : List (List Nd)) (g : Nat) : Prop where
  keep : Keep s t
  ib0 : s.next ≤ ib
  ix0 : s.next ≤ ix
  ne : ib ≠ ix
  stores : Stores all
  pw : PW (all.drop g)
  hg : g ≤ all.length
  small : ∀ l ∈ all, l.length ≤ 15
  len : all.length ≤ 100
  mem : ∃ dv vs dw ws, BufR t ib g dv vs (all.drop g) ∧ RefR t ix dw ws all g ∧ (∀ j off n cap z, dv = .sl j off n cap z → s.next ≤ j) ∧ (∀ j off n cap z, dw = .sl j off n cap z → s.next ≤ j) ∧
    ∀ j off n cap z j' off' n' cap' z', dv = .sl j off n cap z → dw = .sl j' off' n' cap' z' → j ≠ j'
theorem Both.flat {s t : St} {ib ix g : Nat} {all : List (List Nd)} (h : Both s t ib ix all g) : all.flatten.length ≤ 1500 ∧ (all.drop g).flatten.length ≤ 1500 := by
  have key : ∀ (ls : List (List Nd)), (∀ l ∈ ls, l.length ≤ 15) → ls.flatten.length ≤ ls.length * 15 := by
    intro ls
    induction ls with
    | nil => simp
    | cons l ls ih =>
      intro h
      have h1 := h l (by simp)
      have h2 := ih fun l hl => h l (by simp [hl])
      simp only [List.flatten_cons, List.length_append, List.length_cons, Nat.succ_mul]
      omega
  have h1 := key all h.small
  have h2 := key (all.drop g) fun l hl => h.small l (List.mem_of_mem_drop hl)
  have h3 := h.len
  rw [List.length_drop] at h2
  exact ⟨by omega, by omega⟩
theorem Both.on {s t u : St} {ib ix g : Nat} {all : List (List Nd)} (h : Both s t ib ix all g) (hK : Keep t u) : Both s u ib ix all g := by
  obtain ⟨dv, vs, dw, ws, h1, h2, h3⟩ := h.mem
  exact ⟨h.keep.trans hK, h.ib0, h.ix0, h.ne, h.stores, h.pw, h.hg, h.small, h.len, dv, vs, dw, ws, h1.keep0 hK, h2.keep0 hK, h3⟩
theorem ref_apart {id g : Nat} {dv : AV} {vs : List AV} {ls : List (List Nd)} (h : RefR t id dv vs ls g) : Apart t [id] := apart_two h.1
theorem both_between {s t : St} {ib ix g : Nat} {all : List (List Nd)} (h : Both s t ib ix all g) (f l : Int) : ∃ v t1, acall R_RBetween false [.ptr ix 0, .int .i64 f, .int .i64 l] t = some (.tup [v, .int .i64 (rbetP g all f l).2], t1) ∧
    acall R_betweens false [.ptr ib 0, .int .i64 f, .int .i64 l, v, .int .i64 (rbetP g all f l).2] t1 = some (.bool true, t1) ∧ Own ndC t t1 v (rbetP g all f l).1 ∧ Keep t t1 := by
  obtain ⟨hf1, hf2⟩ := h.flat
  have hlen := h.len
  have hg := h.hg
  have hsame := bet_same h.stores h.pw h.hg f l
  obtain ⟨dv, vs, dw, ws, hB, hX, _⟩ := h.mem
  have e1 := hB.2.2.len
  have e2 := hX.2.2.len
  rw [List.length_drop] at e1
  obtain ⟨v, t1, hc, hO, hK⟩ := q_RBetween hX (by omega) (by omega) f l (by omega)
  have hl : (rbetP g all f l).1.length ≤ lim := by
    rw [← hsame]
    have := betP_len g (all.drop g) f l
    unfold lim
    omega
  have q := q_betweens false (hB.keep0 hK) (by omega) f l (by omega) (by rw [List.length_drop]; omega) hO.read hl (rbetP g all f l).2
  rw [hsame] at q
  simp only [decide_true, Bool.and_self] at q
  exact ⟨v, t1, hc, q, hO, hK⟩
theorem both_from {s t : St} {ib ix g : Nat} {all : List (List Nd)} (h : Both s t ib ix all g) (n : Int) : ∃ v t1, acall R_RFrom false [.ptr ix 0, .int .i64 n] t = some (.tup [v, .int .i64 (rfrP g all n).2.1, .int .i64 (rfrP g all n).2.2], t1) ∧ Own ndC t t1 v (rfrP g all n).1 ∧ Keep t t1 ∧ (rfrP g all n).1.length ≤ lim ∧
    ∀ t2, Both s t2 ib ix all g → read ndC t2 v = some (rfrP g all n).1 → acall R_froms false [.ptr ib 0, .int .i64 n, v, .int .i64 (rfrP g all n).2.1, .int .i64 (rfrP g all n).2.2] t2 = some (.bool true, t2) := by
  obtain ⟨hf1, hf2⟩ := h.flat
  have hlen := h.len
  have hg := h.hg
  have hsame := fr_same h.stores h.pw h.hg n
  obtain ⟨dv, vs, dw, ws, hB, hX, _⟩ := h.mem
  have e1 := hB.2.2.len
  have e2 := hX.2.2.len
  rw [List.length_drop] at e1
  obtain ⟨v, t1, hc, hO, hK⟩ := q_RFrom hX (by omega) (by omega) n (by omega)
  have hl : (rfrP g all n).1.length ≤ lim := by
    rw [← hsame]
    have := frP_len g (all.drop g) n
    unfold lim
    omega
  refine ⟨v, t1, hc, hO, hK, hl, fun t2 h2 hr => ?_⟩
  obtain ⟨dv, vs, dw, ws, hB, hX, _⟩ := h2.mem
  have e1 := hB.2.2.len
  rw [List.length_drop] at e1
  have q := q_froms false hB (by omega) n (by omega) (by rw [List.length_drop]; omega) hr hl (rfrP g all n).2.1 (rfrP g all n).2.2
  rw [hsame] at q
  simp only [decide_true, Bool.and_self] at q
  exact q
theorem both_forget {s t : St} {ib ix g : Nat} {all : List (List Nd)} (h : Both s t ib ix all g) (w : Int) : ∃ n e t1 t2 g', acall R_RForget false [.ptr ix 0, .int .i64 w] t = some (.tup [.int .i64 n, .int .i64 e], t1) ∧ Both s t1 ib ix all g' = Both s t1 ib ix all g' ∧
    (∃ dw ws, RefR t1 ix dw ws all g') ∧
    acall R_forgets false [.ptr ib 0, .int .i64 w, .int .i64 n, .int .i64 e] t1 = some (.bool true, t2) ∧ Both s t2 ib ix all g' := by
  have hlen := h.len
  have hg := h.hg
  obtain ⟨dv, vs, dw, ws, hB, hX, f1, f2, f3⟩ := h.mem
  have e1 := hB.2.2.len
  have e2 := hX.2.2.len
  rw [List.length_drop] at e1
  cases hf : rfgP ws.length w with
  | some er =>
    have q1 := q_RForget_err false hX (by omega) (by omega) hf
    have hf2 : fgP g vs.length w = some er := by
      rw [← hf]
      unfold fgP rfgP
      have : ((g + vs.length : Nat) : Int) = (ws.length : Int) := by omega
      rw [this]
    have q2 := q_forgets_err false hB (by omega) 0 er hf2
    simp only [decide_true, Bool.and_self] at q2
    exact ⟨0, er, t, t, g, q1, rfl, ⟨dw, ws, hX⟩, q2, h⟩
  | none =>
    have hw : 0 ≤ w ∧ w ≤ (ws.length : Int) := by
      unfold rfgP at hf
      split at hf
      · cases hf
      · split at hf
        · cases hf
        · omega
    obtain ⟨t1, q1, hX1, hC1, _⟩ := q_RForget_ok hX (by omega) (by omega) hw.1 hw.2
    have hne := h.ne
    have hap := ref_apart hX
    have hB1 : BufR t1 ib g dv vs (all.drop g) := hB.keep hC1 hap (by simpa using hne) (fun j off n cap z e => by
      have := out_two hX.1 hB.2.1 hB.2.2 (.inr ⟨_, _, rfl⟩) j off n cap z e
      simpa using this)
    obtain ⟨t2, q2, ⟨dv', vs', hB2, hfr⟩, hC2, _⟩ := q_forgets_ok hB1 (by omega) (((w - (g : Int)).toNat : Nat) : Int) 0 hw.1 (by omega)
    simp only [decide_true, Bool.and_self] at q2
    have hX2 : RefR t2 ix dw ws all (g + (w - (g : Int)).toNat) := hX1.keep hC2 (apart_two hB1.1) (by simpa using fun e => hne e.symm) (fun j off n cap z e => by
      have := out_two hB1.1 hX1.2.1 hX1.2.2 (.inl ⟨_, _, rfl⟩) j off n cap z e
      simpa using this)
    have hk1 : Keep s t1 := h.keep.chgn hC1 fun id hid => by simp at hid; subst hid; exact h.ix0
    have hk2 : Keep s t2 := hk1.chgn hC2 fun id hid => by simp at hid; subst hid; exact h.ib0
    rw [List.drop_drop] at hB2
    refine ⟨_, 0, t1, t2, g + (w - (g : Int)).toNat, q1, rfl, ⟨dw, ws, hX1⟩, q2, hk2, h.ib0, h.ix0, hne, h.stores, h.pw.sub fun x hx => ?_, by omega, h.small, hlen, dv', vs', dw, ws, hB2, hX2, fun j off n cap z e => Nat.le_trans hk1.next (hfr j off n cap z e), f2, fun j off n cap z j' off' n' cap' z' a b => ?_⟩
    · rw [← List.drop_drop] at hx
      exact List.mem_of_mem_drop hx
    · have := hfr j off n cap z a
      have := hX1.2.1.lt j' off' n' cap' z' b
      omega
/-- A delta is put into both; 'v' and 'v1' show it. -/
theorem both_put {s t : St} {ib ix g : Nat} {all : List (List Nd)} (h : Both s t ib ix all g) (hl99 : all.length < 100) {v v1 : AV} {d : List Nd} (hr : read ndC t v = some d) (hr1 : ∀ u, Chg [ix] t u → read ndC u v1 = some d) (hd : d.length ≤ 15) :
    ∃ n e t1 t2 all', acall R_RPut false [.ptr ix 0, v] t = some (.tup [.int .i64 n, .int .i64 e], t1) ∧ acall R_puts false [.ptr ib 0, v1, .int .i64 n, .int .i64 e] t1 = some (.bool true, t2) ∧ Both s t2 ib ix all' g ∧ (all' = all ∨ all' = all ++ [d]) ∧
      Chg [ix] t t1 ∧ ∃ M, Chg M t1 t2 ∧ Apart t1 M ∧ (∀ id ∈ M, s.next ≤ id) ∧ ∀ id ∈ M, ∃ a r, t1.get id = some (.row (a :: r) true) ∧ (r = [] ∨ (∃ k n, a = .int k n) ∨ True) := by
  have hlen := h.len
  have hg := h.hg
  have hne := h.ne
  obtain ⟨dv, vs, dw, ws, hB, hX, f1, f2, f3⟩ := h.mem
  have e1 := hB.2.2.len
  have e2 := hX.2.2.len
  rw [List.length_drop] at e1
  have hinX : InnerOk all := fun x hx => by have := h.small x hx; omega
  have hinB : InnerOk (all.drop g) := fun x hx => by have := h.small x (List.mem_of_mem_drop hx); omega
  have hsame := put_same (d := d) (h.stores.sub fun x hx => List.mem_of_mem_drop hx : Stores (all.drop g)) (by rw [List.length_drop]; omega)
  cases hp : rputP (all.drop g) d with
  | some er =>
    have q1 := q_RPut_err false hX (by omega) (by omega) hr (by omega) hinX hp
    have q2 := q_puts_err false hB (by omega) (hr1 t (.refl _ _)) (by omega) hinB 0 er (by rw [hsame]; exact hp)
    simp only [decide_true, Bool.and_self] at q2
    exact ⟨0, er, t, t, all, q1, q2, h, .inl rfl, .refl _ _, [], .refl _ _, .nil _, by simp, by simp⟩
  | none =>
    obtain ⟨hst, hag⟩ := put_none hp
    obtain ⟨t1, q1, ⟨dw', ws', hX1, fr1⟩, hC1, _⟩ := q_RPut_ok hX (by omega) (by omega) hr (by omega) hinX hp (by omega)
    have hB1 : BufR t1 ib g dv vs (all.drop g) := hB.keep hC1 (ref_apart hX) (by simpa using hne) (fun j off n cap z e => by
      have := out_two hX.1 hB.2.1 hB.2.2 (.inr ⟨_, _, rfl⟩) j off n cap z e
      simpa using this)
    obtain ⟨t2, q2, ⟨dv', vs', hB2, fr2⟩, hC2, _⟩ := q_puts_ok hB1 (by omega) (hr1 t1 hC1) (by omega) hinB ((ws.length + 1 : Nat) : Int) 0 (by rw [hsame]; exact hp)
    have hret : g + vs.length + 1 = ws.length + 1 := by omega
    rw [hret] at q2
    simp only [decide_true, Bool.and_self] at q2
    have hap := buf_apart hB1
    have hlt1 : ∀ id ∈ outM dv vs, s.next ≤ id ∧ id < t.next := fun id hid => by
      obtain ⟨off, n', cap, z, e⟩ := outM_in hid
      exact ⟨f1 _ _ _ _ _ e, hB.2.1.lt _ _ _ _ _ e⟩
    have hX2 : RefR t2 ix dw' ws' (all ++ [d]) g := hX1.keep hC2 hap (fun hm => by
      rcases List.mem_cons.1 hm with q | q
      · exact hne q.symm
      · obtain ⟨off, n', cap, z, e⟩ := outM_in q
        exact out_two hX.1 hB.2.1 hB.2.2 (.inr ⟨_, _, rfl⟩) _ _ _ _ _ e rfl) (fun j off n cap z e hm => by
      have hj := fr1 j off n cap z e
      rcases List.mem_cons.1 hm with q | q
      · have := St.get_lt hB.1
        omega
      · have := (hlt1 j q).2
        omega)
    have hk1 : Keep s t1 := h.keep.chgn hC1 fun id hid => by simp at hid; subst hid; exact h.ix0
    have hk2 : Keep s t2 := hk1.chgn hC2 fun id hid => by
      rcases List.mem_cons.1 hid with rfl | q
      · exact h.ib0
      · exact (hlt1 id q).1
    have hdr : all.drop g ++ [d] = (all ++ [d]).drop g := by rw [List.drop_append_of_le_length hg]
    rw [hdr] at hB2
    refine ⟨_, 0, t1, t2, all ++ [d], q1, q2, ⟨hk2, h.ib0, h.ix0, hne, h.stores.app hst, ?_, by simp; omega, fun l hl => ?_, by simp; omega, dv', vs', dw', ws', hB2, hX2, fun j off n cap z e => Nat.le_trans hk1.next (fr2 j off n cap z e), fun j off n cap z e => Nat.le_trans h.keep.next (fr1 j off n cap z e), fun j off n cap z j' off' n' cap' z' a b => ?_⟩, .inr rfl, hC1, ib :: outM dv vs, hC2, hap, fun id hid => ?_, fun id hid => ?_⟩
    · rw [← hdr]
      exact h.pw.app (h.stores.sub fun x hx => List.mem_of_mem_drop hx) hst hag
    · have : l ∈ all ∨ l = d := by simpa using hl
      rcases this with q | rfl
      · exact h.small l q
      · exact hd
    · have h1 := fr2 j off n cap z a
      have h2 := hX1.2.1.lt j' off' n' cap' z' b
      omega
    · rcases List.mem_cons.1 hid with rfl | q
      · exact h.ib0
      · exact (hlt1 id q).1
    · rcases List.mem_cons.1 hid with rfl | q
      · exact ⟨_, _, hB1.1, .inr (.inr trivial)⟩
      · unfold outM at q
        split at q
        · rename_i j0 off n cap z a r
          simp at q
          subst q
          rcases hB1.2.1 with ⟨q, _⟩ | ⟨j', cap', e, hg', _⟩
          · cases q
          · injection e with e1
            subst e1
            exact ⟨a, r, hg', .inr (.inr trivial)⟩
        · simp at q
theorem both_new (s : St) : Both s ((s.push (.row [.int .i64 0, .nils] true)).push (.row [.nils, .int .i64 0] true)) s.next (s.next + 1) [] 0 := by
  refine ⟨((Keep.refl s).push _).push _, Nat.le_refl _, by omega, by omega, fun x hx => by simp at hx, fun x hx => by simp at hx, Nat.le_refl _, fun x hx => by simp at hx, by simp, .nils, [], .nils, [], ⟨?_, .inl ⟨rfl, rfl⟩, trivial⟩, ⟨?_, .inl ⟨rfl, rfl⟩, trivial⟩, fun _ _ _ _ _ e => by (cases e), fun _ _ _ _ _ e => by (cases e), fun _ _ _ _ _ _ _ _ _ _ e => by (cases e)⟩
  · exact get_push_some _ (St.get_push_new _ _)
  · exact St.get_push_new (s.push _) _
end Go.AM
end
/-
  A list of states among the arguments. Own work of this project.
-/
section
set_option linter.unusedVariables false
set_option linter.unusedSimpArgs false
set_option maxRecDepth 100000
namespace Go.AM
open Go Go.Proofs

variable {s : St}
theorem sts_of_rows {d : Nat} (hd : cks Try.prog d 64 = some ndKs) : ∀ {rows : List (List AV)}, (∀ r ∈ rows, RdT Try.prog s (d + 1) 31 r) → ∃ ls : List (List Nd), readA s rows.flatten = some ls ∧ ls.length = rows.length ∧ rows.flatten.length = rows.length
  | [], _ => ⟨[], rfl, rfl, rfl⟩
  | r :: rows, h => by
    obtain ⟨v, l, rfl, hr⟩ := rd_state hd (h r (by simp))
    obtain ⟨ls, h1, h2, h3⟩ := sts_of_rows hd (rows := rows) fun r' hr' => h r' (by simp [hr'])
    exact ⟨l :: ls, by simp only [List.flatten_cons, List.cons_append, List.nil_append, readA, hr, h1], by simp [h2], by simp [h3]⟩
theorem readA_take : ∀ (n : Nat) {vs : List AV} {ls : List (List Nd)}, readA s vs = some ls → readA s (vs.take n) = some (ls.take n)
  | 0, _, _, _ => rfl
  | n + 1, [], ls, h => by simp [readA] at h; subst h; rfl
  | n + 1, v :: vs, ls, h => by
    simp only [readA] at h
    split at h
    · rename_i l ls' h1 h2
      injection h with h
      subst h
      simp only [List.take_succ_cons, readA, h1, readA_take n h2]
    · cases h
theorem rd_states {d : Nat} (hd : cks Try.prog d 64 = some ndKs) {t : TypeId} (hu : Try.prog.underlying t = some (.slice 31)) (hc : Try.prog.cellsOf 31 = 1) {vs : List AV} (h : RdT Try.prog s (d + 2) t vs) : ∃ v ls, vs = [v] ∧ rdLL s v = some ls := by
  rcases rd_slice hu h with rfl | ⟨id, n, cap, rows, rfl, h1, _, h3, h4, h5⟩
  · exact ⟨.nils, [], rfl, rfl⟩
  · obtain ⟨ls, e1, e2, e3⟩ := sts_of_rows hd fun r hr => (h5 r hr).1
    refine ⟨_, ls.take n, rfl, ?_⟩
    rw [hc]
    unfold rdLL
    have : shownV s (.sl id 0 n (some cap) 1) = some (rows.flatten.take n) := by
      simp only [shownV, if_true, h4]
      rw [if_pos (by omega), List.drop_zero]
    rw [this]
    exact readA_take n e1
theorem rda_states {d : Nat} (hd : cks Try.prog d 64 = some ndKs) {t : TypeId} (hu : Try.prog.underlying t = some (.slice 31)) (hc : Try.prog.cellsOf 31 = 1) {v : AV} (h : RdA Try.prog s (d + 2) t v) : ∃ ls, rdLL s v = some ls := by
  obtain ⟨vs, h1, rfl⟩ := h
  obtain ⟨v, ls, rfl, hr⟩ := rd_states hd hu hc h1
  exact ⟨ls, by simp [argAV, hu, hr]⟩
end Go.AM
end
/-
  BufferIntervals in the abstract machine. Own work of this project; in part printed by a program of it.
-/
section
set_option linter.unusedVariables false
set_option linter.unusedSimpArgs false
set_option maxRecDepth 100000
set_option maxHeartbeats 16000000
namespace Go.AM
open Go Go.Proofs

variable {s t u : St}
section
variable {env : Env}
def convV (k : IntKind) : AV → Option AV
  | .int _ n => some (.int k (k.wrap n))
  | _ => none
theorem ap_conv (k : IntKind) (x : AO) : apure env (.conv k x) = convV k (aev env x) := by
  simp only [apure, convV]
  cases aev env x <;> rfl
theorem convV_int (k k' : IntKind) (n : Int) : convV k (.int k' n) = some (.int k (k.wrap n)) := nrfl rfl
end
theorem u8_under : Try.prog.underlying 5 = some (.int .u8) := by kernel_rfl
theorem sts_under : Try.prog.underlying 22 = some (.slice 31) := by kernel_rfl
theorem sts_cells : Try.prog.cellsOf 31 = 1 := by kernel_rfl
theorem u8_range {n : Int} (h : (Lit.int .u8 n).wf = true) : 0 ≤ n ∧ n ≤ 255 := by
  simp [Lit.wf, IntKind.min, IntKind.max, IntKind.signed, IntKind.bits] at h
  omega
theorem both_len {s t : St} {ib ix g : Nat} {all : List (List Nd)} (h : Both s t ib ix all g) : ∃ dw, lod1 t (.ptr ix 0) = some dw ∧ lenV dw = some (.int .i64 (all.length : Int)) := by
  obtain ⟨dv, vs, dw, ws, hB, hX, _⟩ := h.mem
  obtain ⟨l0, _, _⟩ := row2_lod hX.1
  refine ⟨dw, l0, ?_⟩
  rw [hX.2.1.lenV, hX.2.2.len]
theorem s_BufferIntervals : SoundAt Try.prog 3 (lawC Try.prog 8 [22, 5]) :=
  con_keep (tb_sound (l := [(8, closed [] (.bool true)), (9, R_RPut), (10, R_puts), (11, R_RBetween), (12, R_betweens), (13, R_RFrom), (14, R_froms), (15, R_RForget), (16, R_forgets)]) (by simpa using ⟨s_known, s_RPut, s_puts, s_RBetween, s_betweens, s_RFrom, s_froms, s_RForget, s_forgets⟩)) mixed Try.func3 k3 c3 fun args s r s' h => by
    obtain ⟨hh, rfl, rfl⟩ := lawC_some h
    obtain ⟨v, w, rfl, hv, hw⟩ := rdas_2 hh
    obtain ⟨ls, hrd⟩ := rda_states nd_cks6 sts_under sts_cells hv
    obtain ⟨up, rfl, hup⟩ := rda_int u8_under hw
    refine ⟨rfl, rfl, by simp [a3], fun env hlen ha => ?_⟩
    have h0 : E env 0 = _ := ha 0 _ rfl
    have h1 : E env 1 = _ := ha 1 _ rfl
    have hlen : elen env = _ := hlen
    simp only [a3] at hlen
    unfold a3
    have hL := rdLL_len hrd
    obtain ⟨hu0, hu1⟩ := u8_range hup
    by_cases hz : (10 : Int) < (ls.length : Int)
    · have hz1 := eq_true hz
      simp (config := {contextual := true, maxDischargeDepth := 12}) only [tb_at, h0, h1, hlen, hL, hz1, ↓bD0, ↓bD1, ↓bD2, ↓bD3, ↓bD4, ↓bD5, ↓bD6, bU0, bU1, bU2, bU3, bU4, bU5, bU6, bU7, bU8, bU9, bU10, bU11, bU12, bU13, forall_const, List.all_cons, List.all_nil, Option.map_some, List.map_cons, List.map_nil, ne_eq, implies_true, isNx, cs_dec, cs_not, cs_and, cs_or, cs_valid, eq_self, ↓wp_cond, ↓wp_loop, ↓reduceIte, reduceCtorEq, Nat.reduceEqDiff, Nat.reduceLT, Nat.reduceAdd, Nat.reduceMul, Int.ofNat_lt, Int.ofNat_le, exists_const, ae_app, ap_slc, Option.map_none, mkR_none, mkR_some, ar_look, ae_mset, ae_rng, ae_mkmap0, ar_ent, lookV_push, lookV_lowed, msetV_push, msetV_lowed, lt_put, same_put, sto_over, sto_lowed, cs_dead, Option.map_some, beq_self_eq_true, decide_true, cs_true, cs_false, aa_bsl, ↓sg_bsl, ap_nchk, nchkV_ptr, bin_np, bin_npn, bin_npx, bin_npnx, ap_mm, mmV_max, mmV_min, res3, ↓st_callf, aa_mksl, ae_copy, ap_slc3, slc3V_all, bin_nss, bin_nsn, aa_bsl, extV_2, q_known, beq_self_eq_true, fstep_d0, fstep_d1, fstep_nd2, fstep_ndt, fstep_ndx, bsl_nd, ap_conv, convV_int]
    have hz1 := eq_false hz
    have hn10 : ls.length ≤ 10 := by omega
    have hbx := boxV_2 (a := .int .i64 0) (b := .nils) rfl rfl
    have hbx2 := boxV_2 (a := .nils) (b := .int .i64 0) rfl rfl
    have hB0 := both_new s
    simp (config := {contextual := true, maxDischargeDepth := 12}) only [tb_at, h0, h1, hlen, hL, hz1, hbx, hbx2, ↓bD0, ↓bD1, ↓bD2, ↓bD3, ↓bD4, ↓bD5, ↓bD6, bU0, bU1, bU2, bU3, bU4, bU5, bU6, bU7, bU8, bU9, bU10, bU11, bU12, bU13, forall_const, List.all_cons, List.all_nil, Option.map_some, List.map_cons, List.map_nil, ne_eq, implies_true, isNx, cs_dec, cs_not, cs_and, cs_or, cs_valid, eq_self, ↓wp_cond, ↓wp_loop, ↓reduceIte, reduceCtorEq, Nat.reduceEqDiff, Nat.reduceLT, Nat.reduceAdd, Nat.reduceMul, Int.ofNat_lt, Int.ofNat_le, exists_const, ae_app, ap_slc, Option.map_none, mkR_none, mkR_some, ar_look, ae_mset, ae_rng, ae_mkmap0, ar_ent, lookV_push, lookV_lowed, msetV_push, msetV_lowed, lt_put, same_put, sto_over, sto_lowed, cs_dead, Option.map_some, beq_self_eq_true, decide_true, cs_true, cs_false, aa_bsl, ↓sg_bsl, ap_nchk, nchkV_ptr, bin_np, bin_npn, bin_npx, bin_npnx, ap_mm, mmV_max, mmV_min, res3, ↓st_callf, aa_mksl, ae_copy, ap_slc3, slc3V_all, bin_nss, bin_nsn, aa_bsl, extV_2, q_known, beq_self_eq_true, fstep_d0, fstep_d1, fstep_nd2, fstep_ndt, fstep_ndx, bsl_nd, ap_conv, convV_int]
    obtain ⟨I1, hI1⟩ : ∃ I1 : Nat → Env → St → Prop, ∀ n e t, I1 n e t = (∃ i all, i + n = ls.length ∧ elen e = 138 ∧ E e 0 = v ∧ E e 1 = .int .u8 up ∧ E e 5 = .ptr s.next 0 ∧ E e 6 = .ptr (s.next + 1) 0 ∧ E e 7 = .int .i64 (i : Int) ∧ Both s t s.next (s.next + 1) all 0 ∧ all.length ≤ i) := ⟨fun n e t => (∃ i all, i + n = ls.length ∧ elen e = 138 ∧ E e 0 = v ∧ E e 1 = .int .u8 up ∧ E e 5 = .ptr s.next 0 ∧ E e 6 = .ptr (s.next + 1) 0 ∧ E e 7 = .int .i64 (i : Int) ∧ Both s t s.next (s.next + 1) all 0 ∧ all.length ≤ i), fun _ _ _ => rfl⟩
    refine lwp_inv I1 (n := ls.length) ?_ ?_
    · rw [hI1]
      exact ⟨0, [], by omega, by simp only [E_pne, E_psame, elen_put, Nat.reduceEqDiff, ne_eq, not_false_eq_true, Nat.reduceLT, hlen], by simp only [E_pne, E_psame, elen_put, Nat.reduceEqDiff, ne_eq, not_false_eq_true, Nat.reduceLT, h0], by simp only [E_pne, E_psame, elen_put, Nat.reduceEqDiff, ne_eq, not_false_eq_true, Nat.reduceLT, h1], (by first | (simp only [E_pne, E_psame, elen_put, Nat.reduceEqDiff, ne_eq, not_false_eq_true, Nat.reduceLT, hlen]; done) | (simp only [E_pne, E_psame, elen_put, Nat.reduceEqDiff, ne_eq, not_false_eq_true, Nat.reduceLT, hlen]; rfl)), (by first | (simp only [E_pne, E_psame, elen_put, Nat.reduceEqDiff, ne_eq, not_false_eq_true, Nat.reduceLT, hlen]; done) | (simp only [E_pne, E_psame, elen_put, Nat.reduceEqDiff, ne_eq, not_false_eq_true, Nat.reduceLT, hlen]; rfl)), (by first | (simp only [E_pne, E_psame, elen_put, Nat.reduceEqDiff, ne_eq, not_false_eq_true, Nat.reduceLT, hlen]; done) | (simp only [E_pne, E_psame, elen_put, Nat.reduceEqDiff, ne_eq, not_false_eq_true, Nat.reduceLT, hlen]; rfl)), hB0, by simp⟩
    clear h0 h1 hlen ha hbx hbx2 hB0
    intro n e t hi
    rw [hI1] at hi
    obtain ⟨i, all, hni, he, e0, e1, e5, e6, e7, hB, hal⟩ := hi
    by_cases hlt : i < ls.length
    · have hz2 : ((i : Int) < (ls.length : Int)) = True := eq_true (by omega)
      have hw := wrap_add1 (n := i) (by omega)
      obtain ⟨x, hx⟩ := getsome hlt
      obtain ⟨w, i1, hxx, hrw⟩ := rdLL_at hrd hx
      obtain ⟨a1, al⟩ := hxx t hB.keep
      have hLx := lenV_read hrw
      by_cases h15 : (15 : Int) < (x.length : Int)
      · have hz3 := eq_true h15
        simp (config := {contextual := true, maxDischargeDepth := 12}) only [tb_at, he, e0, e1, e5, e6, e7, hL, hz2, i1, a1, al, hLx, hz3, ↓bD0, ↓bD1, ↓bD2, ↓bD3, ↓bD4, ↓bD5, ↓bD6, bU0, bU1, bU2, bU3, bU4, bU5, bU6, bU7, bU8, bU9, bU10, bU11, bU12, bU13, forall_const, List.all_cons, List.all_nil, Option.map_some, List.map_cons, List.map_nil, ne_eq, implies_true, isNx, cs_dec, cs_not, cs_and, cs_or, cs_valid, eq_self, ↓wp_cond, ↓wp_loop, ↓reduceIte, reduceCtorEq, Nat.reduceEqDiff, Nat.reduceLT, Nat.reduceAdd, Nat.reduceMul, Int.ofNat_lt, Int.ofNat_le, exists_const, ae_app, ap_slc, Option.map_none, mkR_none, mkR_some, ar_look, ae_mset, ae_rng, ae_mkmap0, ar_ent, lookV_push, lookV_lowed, msetV_push, msetV_lowed, lt_put, same_put, sto_over, sto_lowed, cs_dead, Option.map_some, beq_self_eq_true, decide_true, cs_true, cs_false, aa_bsl, ↓sg_bsl, ap_nchk, nchkV_ptr, bin_np, bin_npn, bin_npx, bin_npnx, ap_mm, mmV_max, mmV_min, res3, ↓st_callf, aa_mksl, ae_copy, ap_slc3, slc3V_all, bin_nss, bin_nsn, aa_bsl, extV_2, q_known, beq_self_eq_true, fstep_d0, fstep_d1, fstep_nd2, fstep_ndt, fstep_ndx, bsl_nd, ap_conv, convV_int]
        exact hB.keep
      · have hz3 := eq_false h15
        obtain ⟨nn, ee, t1, t2, all', q1, q2, hB2, hall, hC1, _⟩ := both_put hB (by omega) (hB.keep.read hrw) (fun u hu => (hB.keep.chgn hu fun id hid => by simp at hid; subst hid; exact hB.ix0).read hrw) (by omega : x.length ≤ 15)
        have hk1 : Keep s t1 := hB.keep.chgn hC1 fun id hid => by simp at hid; subst hid; exact hB.ix0
        obtain ⟨a2, al2⟩ := hxx t1 hk1
        simp (config := {contextual := true, maxDischargeDepth := 12}) only [tb_at, he, e0, e1, e5, e6, e7, hL, hz2, i1, a1, al, hLx, hz3, hw, q1, a2, al2, q2, ↓bD0, ↓bD1, ↓bD2, ↓bD3, ↓bD4, ↓bD5, ↓bD6, bU0, bU1, bU2, bU3, bU4, bU5, bU6, bU7, bU8, bU9, bU10, bU11, bU12, bU13, forall_const, List.all_cons, List.all_nil, Option.map_some, List.map_cons, List.map_nil, ne_eq, implies_true, isNx, cs_dec, cs_not, cs_and, cs_or, cs_valid, eq_self, ↓wp_cond, ↓wp_loop, ↓reduceIte, reduceCtorEq, Nat.reduceEqDiff, Nat.reduceLT, Nat.reduceAdd, Nat.reduceMul, Int.ofNat_lt, Int.ofNat_le, exists_const, ae_app, ap_slc, Option.map_none, mkR_none, mkR_some, ar_look, ae_mset, ae_rng, ae_mkmap0, ar_ent, lookV_push, lookV_lowed, msetV_push, msetV_lowed, lt_put, same_put, sto_over, sto_lowed, cs_dead, Option.map_some, beq_self_eq_true, decide_true, cs_true, cs_false, aa_bsl, ↓sg_bsl, ap_nchk, nchkV_ptr, bin_np, bin_npn, bin_npx, bin_npnx, ap_mm, mmV_max, mmV_min, res3, ↓st_callf, aa_mksl, ae_copy, ap_slc3, slc3V_all, bin_nss, bin_nsn, aa_bsl, extV_2, q_known, beq_self_eq_true, fstep_d0, fstep_d1, fstep_nd2, fstep_ndt, fstep_ndx, bsl_nd, ap_conv, convV_int]
        refine ⟨n - 1, by omega, ?_⟩
        rw [hI1]
        refine ⟨i + 1, all', by omega, by simp only [E_pne, E_psame, elen_put, Nat.reduceEqDiff, ne_eq, not_false_eq_true, Nat.reduceLT, he], by simp only [E_pne, E_psame, elen_put, Nat.reduceEqDiff, ne_eq, not_false_eq_true, Nat.reduceLT, e0], by simp only [E_pne, E_psame, elen_put, Nat.reduceEqDiff, ne_eq, not_false_eq_true, Nat.reduceLT, e1], by simp only [E_pne, E_psame, elen_put, Nat.reduceEqDiff, ne_eq, not_false_eq_true, Nat.reduceLT, e5], by simp only [E_pne, E_psame, elen_put, Nat.reduceEqDiff, ne_eq, not_false_eq_true, Nat.reduceLT, e6], by simp only [E_pne, E_psame, elen_put, Nat.reduceEqDiff, ne_eq, not_false_eq_true, Nat.reduceLT, he], hB2, ?_⟩
        rcases hall with rfl | rfl
        · omega
        · simp
          omega
    have hin : i = ls.length := by omega
    subst hin
    have hz2 : ((ls.length : Int) < (ls.length : Int)) = False := eq_false (by omega)
    simp (config := {contextual := true, maxDischargeDepth := 12}) only [tb_at, he, e0, e1, e5, e6, e7, hL, hz2, ↓bD0, ↓bD1, ↓bD2, ↓bD3, ↓bD4, ↓bD5, ↓bD6, bU0, bU1, bU2, bU3, bU4, bU5, bU6, bU7, bU8, bU9, bU10, bU11, bU12, bU13, forall_const, List.all_cons, List.all_nil, Option.map_some, List.map_cons, List.map_nil, ne_eq, implies_true, isNx, cs_dec, cs_not, cs_and, cs_or, cs_valid, eq_self, ↓wp_cond, ↓wp_loop, ↓reduceIte, reduceCtorEq, Nat.reduceEqDiff, Nat.reduceLT, Nat.reduceAdd, Nat.reduceMul, Int.ofNat_lt, Int.ofNat_le, exists_const, ae_app, ap_slc, Option.map_none, mkR_none, mkR_some, ar_look, ae_mset, ae_rng, ae_mkmap0, ar_ent, lookV_push, lookV_lowed, msetV_push, msetV_lowed, lt_put, same_put, sto_over, sto_lowed, cs_dead, Option.map_some, beq_self_eq_true, decide_true, cs_true, cs_false, aa_bsl, ↓sg_bsl, ap_nchk, nchkV_ptr, bin_np, bin_npn, bin_npx, bin_npnx, ap_mm, mmV_max, mmV_min, res3, ↓st_callf, aa_mksl, ae_copy, ap_slc3, slc3V_all, bin_nss, bin_nsn, aa_bsl, extV_2, q_known, beq_self_eq_true, fstep_d0, fstep_d1, fstep_nd2, fstep_ndt, fstep_ndx, bsl_nd, ap_conv, convV_int]
    obtain ⟨I2, hI2⟩ : ∃ I2 : Nat → Env → St → Prop, ∀ n e t, I2 n e t = (∃ i g, i + n = 2 ∧ elen e = 138 ∧ E e 0 = v ∧ E e 1 = .int .u8 up ∧ E e 5 = .ptr s.next 0 ∧ E e 6 = .ptr (s.next + 1) 0 ∧ E e 10 = .int .i64 (i : Int) ∧ Both s t s.next (s.next + 1) all g) := ⟨fun n e t => (∃ i g, i + n = 2 ∧ elen e = 138 ∧ E e 0 = v ∧ E e 1 = .int .u8 up ∧ E e 5 = .ptr s.next 0 ∧ E e 6 = .ptr (s.next + 1) 0 ∧ E e 10 = .int .i64 (i : Int) ∧ Both s t s.next (s.next + 1) all g), fun _ _ _ => rfl⟩
    refine lwp_inv I2 (n := 2) ?_ ?_
    · rw [hI2]
      exact ⟨0, 0, by omega, by simp only [E_pne, E_psame, elen_put, Nat.reduceEqDiff, ne_eq, not_false_eq_true, Nat.reduceLT, he], by simp only [E_pne, E_psame, elen_put, Nat.reduceEqDiff, ne_eq, not_false_eq_true, Nat.reduceLT, e0], by simp only [E_pne, E_psame, elen_put, Nat.reduceEqDiff, ne_eq, not_false_eq_true, Nat.reduceLT, e1], by simp only [E_pne, E_psame, elen_put, Nat.reduceEqDiff, ne_eq, not_false_eq_true, Nat.reduceLT, e5], by simp only [E_pne, E_psame, elen_put, Nat.reduceEqDiff, ne_eq, not_false_eq_true, Nat.reduceLT, e6], by simp only [E_pne, E_psame, elen_put, Nat.reduceEqDiff, ne_eq, not_false_eq_true, Nat.reduceLT, he]; rfl, hB⟩
    clear he e0 e1 e5 e6 e7 hB
    intro n e t hi
    rw [hI2] at hi
    obtain ⟨tn, g, hni, he, e0, e1, e5, e6, e10, hB⟩ := hi
    by_cases hlt : tn < 2
    rotate_left
    · have hz3 : ((tn : Int) < 2) = False := eq_false (by omega)
      simp (config := {contextual := true, maxDischargeDepth := 12}) only [tb_at, he, e0, e1, e5, e6, e10, hz3, ↓bD0, ↓bD1, ↓bD2, ↓bD3, ↓bD4, ↓bD5, ↓bD6, bU0, bU1, bU2, bU3, bU4, bU5, bU6, bU7, bU8, bU9, bU10, bU11, bU12, bU13, forall_const, List.all_cons, List.all_nil, Option.map_some, List.map_cons, List.map_nil, ne_eq, implies_true, isNx, cs_dec, cs_not, cs_and, cs_or, cs_valid, eq_self, ↓wp_cond, ↓wp_loop, ↓reduceIte, reduceCtorEq, Nat.reduceEqDiff, Nat.reduceLT, Nat.reduceAdd, Nat.reduceMul, Int.ofNat_lt, Int.ofNat_le, exists_const, ae_app, ap_slc, Option.map_none, mkR_none, mkR_some, ar_look, ae_mset, ae_rng, ae_mkmap0, ar_ent, lookV_push, lookV_lowed, msetV_push, msetV_lowed, lt_put, same_put, sto_over, sto_lowed, cs_dead, Option.map_some, beq_self_eq_true, decide_true, cs_true, cs_false, aa_bsl, ↓sg_bsl, ap_nchk, nchkV_ptr, bin_np, bin_npn, bin_npx, bin_npnx, ap_mm, mmV_max, mmV_min, res3, ↓st_callf, aa_mksl, ae_copy, ap_slc3, slc3V_all, bin_nss, bin_nsn, aa_bsl, extV_2, q_known, beq_self_eq_true, fstep_d0, fstep_d1, fstep_nd2, fstep_ndt, fstep_ndx, bsl_nd, ap_conv, convV_int]
      exact hB.keep
    have hz3 : ((tn : Int) < 2) = True := eq_true (by omega)
    have hwt := wrap_add1 (n := tn) (by omega)
    simp (config := {contextual := true, maxDischargeDepth := 12}) only [tb_at, he, e0, e1, e5, e6, e10, hz3, ↓bD0, ↓bD1, ↓bD2, ↓bD3, ↓bD4, ↓bD5, ↓bD6, bU0, bU1, bU2, bU3, bU4, bU5, bU6, bU7, bU8, bU9, bU10, bU11, bU12, bU13, forall_const, List.all_cons, List.all_nil, Option.map_some, List.map_cons, List.map_nil, ne_eq, implies_true, isNx, cs_dec, cs_not, cs_and, cs_or, cs_valid, eq_self, ↓wp_cond, ↓wp_loop, ↓reduceIte, reduceCtorEq, Nat.reduceEqDiff, Nat.reduceLT, Nat.reduceAdd, Nat.reduceMul, Int.ofNat_lt, Int.ofNat_le, exists_const, ae_app, ap_slc, Option.map_none, mkR_none, mkR_some, ar_look, ae_mset, ae_rng, ae_mkmap0, ar_ent, lookV_push, lookV_lowed, msetV_push, msetV_lowed, lt_put, same_put, sto_over, sto_lowed, cs_dead, Option.map_some, beq_self_eq_true, decide_true, cs_true, cs_false, aa_bsl, ↓sg_bsl, ap_nchk, nchkV_ptr, bin_np, bin_npn, bin_npx, bin_npnx, ap_mm, mmV_max, mmV_min, res3, ↓st_callf, aa_mksl, ae_copy, ap_slc3, slc3V_all, bin_nss, bin_nsn, aa_bsl, extV_2, q_known, beq_self_eq_true, fstep_d0, fstep_d1, fstep_nd2, fstep_ndt, fstep_ndx, bsl_nd, ap_conv, convV_int]
    obtain ⟨I3, hI3⟩ : ∃ I3 : Nat → Env → St → Prop, ∀ n e t, I3 n e t = (∃ i, i + n = all.length + 2 ∧ elen e = 138 ∧ E e 0 = v ∧ E e 1 = .int .u8 up ∧ E e 5 = .ptr s.next 0 ∧ E e 6 = .ptr (s.next + 1) 0 ∧ E e 10 = .int .i64 (tn : Int) ∧ E e 11 = .int .i64 (i : Int) ∧ Both s t s.next (s.next + 1) all g) := ⟨fun n e t => (∃ i, i + n = all.length + 2 ∧ elen e = 138 ∧ E e 0 = v ∧ E e 1 = .int .u8 up ∧ E e 5 = .ptr s.next 0 ∧ E e 6 = .ptr (s.next + 1) 0 ∧ E e 10 = .int .i64 (tn : Int) ∧ E e 11 = .int .i64 (i : Int) ∧ Both s t s.next (s.next + 1) all g), fun _ _ _ => rfl⟩
    refine lwp_inv I3 (n := all.length + 2) ?_ ?_
    · rw [hI3]
      exact ⟨0, by omega, by simp only [E_pne, E_psame, elen_put, Nat.reduceEqDiff, ne_eq, not_false_eq_true, Nat.reduceLT, he], by simp only [E_pne, E_psame, elen_put, Nat.reduceEqDiff, ne_eq, not_false_eq_true, Nat.reduceLT, e0], by simp only [E_pne, E_psame, elen_put, Nat.reduceEqDiff, ne_eq, not_false_eq_true, Nat.reduceLT, e1], by simp only [E_pne, E_psame, elen_put, Nat.reduceEqDiff, ne_eq, not_false_eq_true, Nat.reduceLT, e5], by simp only [E_pne, E_psame, elen_put, Nat.reduceEqDiff, ne_eq, not_false_eq_true, Nat.reduceLT, e6], by simp only [E_pne, E_psame, elen_put, Nat.reduceEqDiff, ne_eq, not_false_eq_true, Nat.reduceLT, e10], by simp only [E_pne, E_psame, elen_put, Nat.reduceEqDiff, ne_eq, not_false_eq_true, Nat.reduceLT, he]; rfl, hB⟩
    clear he e0 e1 e5 e6 e10 hB
    intro n3 e t hi
    rw [hI3] at hi
    obtain ⟨fi, hnf, he, e0, e1, e5, e6, e10, e11, hB⟩ := hi
    have hlen := hB.len
    obtain ⟨dw, b1, b2⟩ := both_len hB
    have hwl := wrap_add1 (n := all.length) (by omega)
    by_cases hlf : fi < all.length + 2
    · have hz4 : ((fi : Int) ≤ ((all.length + 1 : Nat) : Int)) = True := eq_true (by omega)
      have hwf := wrap_add1 (n := fi) (by omega)
      simp (config := {contextual := true, maxDischargeDepth := 12}) only [tb_at, he, e0, e1, e5, e6, e10, e11, b1, b2, hwl, hz4, ↓bD0, ↓bD1, ↓bD2, ↓bD3, ↓bD4, ↓bD5, ↓bD6, bU0, bU1, bU2, bU3, bU4, bU5, bU6, bU7, bU8, bU9, bU10, bU11, bU12, bU13, forall_const, List.all_cons, List.all_nil, Option.map_some, List.map_cons, List.map_nil, ne_eq, implies_true, isNx, cs_dec, cs_not, cs_and, cs_or, cs_valid, eq_self, ↓wp_cond, ↓wp_loop, ↓reduceIte, reduceCtorEq, Nat.reduceEqDiff, Nat.reduceLT, Nat.reduceAdd, Nat.reduceMul, Int.ofNat_lt, Int.ofNat_le, exists_const, ae_app, ap_slc, Option.map_none, mkR_none, mkR_some, ar_look, ae_mset, ae_rng, ae_mkmap0, ar_ent, lookV_push, lookV_lowed, msetV_push, msetV_lowed, lt_put, same_put, sto_over, sto_lowed, cs_dead, Option.map_some, beq_self_eq_true, decide_true, cs_true, cs_false, aa_bsl, ↓sg_bsl, ap_nchk, nchkV_ptr, bin_np, bin_npn, bin_npx, bin_npnx, ap_mm, mmV_max, mmV_min, res3, ↓st_callf, aa_mksl, ae_copy, ap_slc3, slc3V_all, bin_nss, bin_nsn, aa_bsl, extV_2, q_known, beq_self_eq_true, fstep_d0, fstep_d1, fstep_nd2, fstep_ndt, fstep_ndx, bsl_nd, ap_conv, convV_int]
      obtain ⟨I4, hI4⟩ : ∃ I4 : Nat → Env → St → Prop, ∀ n e t, I4 n e t = (∃ i, i + n = all.length + 2 ∧ elen e = 138 ∧ E e 0 = v ∧ E e 1 = .int .u8 up ∧ E e 5 = .ptr s.next 0 ∧ E e 6 = .ptr (s.next + 1) 0 ∧ E e 10 = .int .i64 (tn : Int) ∧ E e 11 = .int .i64 (fi : Int) ∧ E e 12 = .int .i64 (i : Int) ∧ Both s t s.next (s.next + 1) all g) := ⟨fun n e t => (∃ i, i + n = all.length + 2 ∧ elen e = 138 ∧ E e 0 = v ∧ E e 1 = .int .u8 up ∧ E e 5 = .ptr s.next 0 ∧ E e 6 = .ptr (s.next + 1) 0 ∧ E e 10 = .int .i64 (tn : Int) ∧ E e 11 = .int .i64 (fi : Int) ∧ E e 12 = .int .i64 (i : Int) ∧ Both s t s.next (s.next + 1) all g), fun _ _ _ => rfl⟩
      refine lwp_inv I4 (n := all.length + 2) ?_ ?_
      · rw [hI4]
        exact ⟨0, by omega, by simp only [E_pne, E_psame, elen_put, Nat.reduceEqDiff, ne_eq, not_false_eq_true, Nat.reduceLT, he], by simp only [E_pne, E_psame, elen_put, Nat.reduceEqDiff, ne_eq, not_false_eq_true, Nat.reduceLT, e0], by simp only [E_pne, E_psame, elen_put, Nat.reduceEqDiff, ne_eq, not_false_eq_true, Nat.reduceLT, e1], by simp only [E_pne, E_psame, elen_put, Nat.reduceEqDiff, ne_eq, not_false_eq_true, Nat.reduceLT, e5], by simp only [E_pne, E_psame, elen_put, Nat.reduceEqDiff, ne_eq, not_false_eq_true, Nat.reduceLT, e6], by simp only [E_pne, E_psame, elen_put, Nat.reduceEqDiff, ne_eq, not_false_eq_true, Nat.reduceLT, e10], by simp only [E_pne, E_psame, elen_put, Nat.reduceEqDiff, ne_eq, not_false_eq_true, Nat.reduceLT, e11], by simp only [E_pne, E_psame, elen_put, Nat.reduceEqDiff, ne_eq, not_false_eq_true, Nat.reduceLT, he]; rfl, hB⟩
      clear he e0 e1 e5 e6 e10 e11 hB b1 b2
      intro n4 e t hi
      rw [hI4] at hi
      obtain ⟨la, hnl, he, e0, e1, e5, e6, e10, e11, e12, hB⟩ := hi
      obtain ⟨dw, b1, b2⟩ := both_len hB
      by_cases hll : la < all.length + 2
      · have hz5 : ((la : Int) ≤ ((all.length + 1 : Nat) : Int)) = True := eq_true (by omega)
        have hwa := wrap_add1 (n := la) (by omega)
        obtain ⟨vv, t1, q1, q2, hO, hK⟩ := both_between hB (fi : Int) (la : Int)
        simp (config := {contextual := true, maxDischargeDepth := 12}) only [tb_at, he, e0, e1, e5, e6, e10, e11, e12, b1, b2, hwl, hz5, hwa, q1, q2, ↓bD0, ↓bD1, ↓bD2, ↓bD3, ↓bD4, ↓bD5, ↓bD6, bU0, bU1, bU2, bU3, bU4, bU5, bU6, bU7, bU8, bU9, bU10, bU11, bU12, bU13, forall_const, List.all_cons, List.all_nil, Option.map_some, List.map_cons, List.map_nil, ne_eq, implies_true, isNx, cs_dec, cs_not, cs_and, cs_or, cs_valid, eq_self, ↓wp_cond, ↓wp_loop, ↓reduceIte, reduceCtorEq, Nat.reduceEqDiff, Nat.reduceLT, Nat.reduceAdd, Nat.reduceMul, Int.ofNat_lt, Int.ofNat_le, exists_const, ae_app, ap_slc, Option.map_none, mkR_none, mkR_some, ar_look, ae_mset, ae_rng, ae_mkmap0, ar_ent, lookV_push, lookV_lowed, msetV_push, msetV_lowed, lt_put, same_put, sto_over, sto_lowed, cs_dead, Option.map_some, beq_self_eq_true, decide_true, cs_true, cs_false, aa_bsl, ↓sg_bsl, ap_nchk, nchkV_ptr, bin_np, bin_npn, bin_npx, bin_npnx, ap_mm, mmV_max, mmV_min, res3, ↓st_callf, aa_mksl, ae_copy, ap_slc3, slc3V_all, bin_nss, bin_nsn, aa_bsl, extV_2, q_known, beq_self_eq_true, fstep_d0, fstep_d1, fstep_nd2, fstep_ndt, fstep_ndx, bsl_nd, ap_conv, convV_int]
        refine ⟨n4 - 1, by omega, ?_⟩
        rw [hI4]
        exact ⟨la + 1, by omega, by simp only [E_pne, E_psame, elen_put, Nat.reduceEqDiff, ne_eq, not_false_eq_true, Nat.reduceLT, he], by simp only [E_pne, E_psame, elen_put, Nat.reduceEqDiff, ne_eq, not_false_eq_true, Nat.reduceLT, e0], by simp only [E_pne, E_psame, elen_put, Nat.reduceEqDiff, ne_eq, not_false_eq_true, Nat.reduceLT, e1], by simp only [E_pne, E_psame, elen_put, Nat.reduceEqDiff, ne_eq, not_false_eq_true, Nat.reduceLT, e5], by simp only [E_pne, E_psame, elen_put, Nat.reduceEqDiff, ne_eq, not_false_eq_true, Nat.reduceLT, e6], by simp only [E_pne, E_psame, elen_put, Nat.reduceEqDiff, ne_eq, not_false_eq_true, Nat.reduceLT, e10], by simp only [E_pne, E_psame, elen_put, Nat.reduceEqDiff, ne_eq, not_false_eq_true, Nat.reduceLT, e11], by simp only [E_pne, E_psame, elen_put, Nat.reduceEqDiff, ne_eq, not_false_eq_true, Nat.reduceLT, he], hB.on hK⟩
      · have hz5 : ((la : Int) ≤ ((all.length + 1 : Nat) : Int)) = False := eq_false (by omega)
        obtain ⟨vv, t1, q1, hO, hK, _, q2⟩ := both_from hB (fi : Int)
        have q2 := q2 t1 (hB.on hK) hO.read
        simp (config := {contextual := true, maxDischargeDepth := 12}) only [tb_at, he, e0, e1, e5, e6, e10, e11, e12, b1, b2, hwl, hz5, hwf, q1, q2, ↓bD0, ↓bD1, ↓bD2, ↓bD3, ↓bD4, ↓bD5, ↓bD6, bU0, bU1, bU2, bU3, bU4, bU5, bU6, bU7, bU8, bU9, bU10, bU11, bU12, bU13, forall_const, List.all_cons, List.all_nil, Option.map_some, List.map_cons, List.map_nil, ne_eq, implies_true, isNx, cs_dec, cs_not, cs_and, cs_or, cs_valid, eq_self, ↓wp_cond, ↓wp_loop, ↓reduceIte, reduceCtorEq, Nat.reduceEqDiff, Nat.reduceLT, Nat.reduceAdd, Nat.reduceMul, Int.ofNat_lt, Int.ofNat_le, exists_const, ae_app, ap_slc, Option.map_none, mkR_none, mkR_some, ar_look, ae_mset, ae_rng, ae_mkmap0, ar_ent, lookV_push, lookV_lowed, msetV_push, msetV_lowed, lt_put, same_put, sto_over, sto_lowed, cs_dead, Option.map_some, beq_self_eq_true, decide_true, cs_true, cs_false, aa_bsl, ↓sg_bsl, ap_nchk, nchkV_ptr, bin_np, bin_npn, bin_npx, bin_npnx, ap_mm, mmV_max, mmV_min, res3, ↓st_callf, aa_mksl, ae_copy, ap_slc3, slc3V_all, bin_nss, bin_nsn, aa_bsl, extV_2, q_known, beq_self_eq_true, fstep_d0, fstep_d1, fstep_nd2, fstep_ndt, fstep_ndx, bsl_nd, ap_conv, convV_int]
        refine ⟨n3 - 1, by omega, ?_⟩
        rw [hI3]
        exact ⟨fi + 1, by omega, by simp only [E_pne, E_psame, elen_put, Nat.reduceEqDiff, ne_eq, not_false_eq_true, Nat.reduceLT, he], by simp only [E_pne, E_psame, elen_put, Nat.reduceEqDiff, ne_eq, not_false_eq_true, Nat.reduceLT, e0], by simp only [E_pne, E_psame, elen_put, Nat.reduceEqDiff, ne_eq, not_false_eq_true, Nat.reduceLT, e1], by simp only [E_pne, E_psame, elen_put, Nat.reduceEqDiff, ne_eq, not_false_eq_true, Nat.reduceLT, e5], by simp only [E_pne, E_psame, elen_put, Nat.reduceEqDiff, ne_eq, not_false_eq_true, Nat.reduceLT, e6], by simp only [E_pne, E_psame, elen_put, Nat.reduceEqDiff, ne_eq, not_false_eq_true, Nat.reduceLT, e10], by simp only [E_pne, E_psame, elen_put, Nat.reduceEqDiff, ne_eq, not_false_eq_true, Nat.reduceLT, he], hB.on hK⟩
    · have hz4 : ((fi : Int) ≤ ((all.length + 1 : Nat) : Int)) = False := eq_false (by omega)
      have hcv : IntKind.i64.wrap up = up := wrap_in (by omega) (by omega)
      obtain ⟨nn, ee, t1, t2, g', q1, _, ⟨dw1, ws1, hX1⟩, q2, hB2⟩ := both_forget hB (min up (all.length : Int))
      obtain ⟨m1, _, _⟩ := row2_lod hX1.1
      have m2 := hX1.2.1.lenV
      rw [hX1.2.2.len] at m2
      simp (config := {contextual := true, maxDischargeDepth := 12}) only [tb_at, he, e0, e1, e5, e6, e10, e11, b1, b2, hwl, hz4, hcv, q1, m1, m2, q2, hwt, ↓bD0, ↓bD1, ↓bD2, ↓bD3, ↓bD4, ↓bD5, ↓bD6, bU0, bU1, bU2, bU3, bU4, bU5, bU6, bU7, bU8, bU9, bU10, bU11, bU12, bU13, forall_const, List.all_cons, List.all_nil, Option.map_some, List.map_cons, List.map_nil, ne_eq, implies_true, isNx, cs_dec, cs_not, cs_and, cs_or, cs_valid, eq_self, ↓wp_cond, ↓wp_loop, ↓reduceIte, reduceCtorEq, Nat.reduceEqDiff, Nat.reduceLT, Nat.reduceAdd, Nat.reduceMul, Int.ofNat_lt, Int.ofNat_le, exists_const, ae_app, ap_slc, Option.map_none, mkR_none, mkR_some, ar_look, ae_mset, ae_rng, ae_mkmap0, ar_ent, lookV_push, lookV_lowed, msetV_push, msetV_lowed, lt_put, same_put, sto_over, sto_lowed, cs_dead, Option.map_some, beq_self_eq_true, decide_true, cs_true, cs_false, aa_bsl, ↓sg_bsl, ap_nchk, nchkV_ptr, bin_np, bin_npn, bin_npx, bin_npnx, ap_mm, mmV_max, mmV_min, res3, ↓st_callf, aa_mksl, ae_copy, ap_slc3, slc3V_all, bin_nss, bin_nsn, aa_bsl, extV_2, q_known, beq_self_eq_true, fstep_d0, fstep_d1, fstep_nd2, fstep_ndt, fstep_ndx, bsl_nd, ap_conv, convV_int]
      refine ⟨n - 1, by omega, ?_⟩
      rw [hI2]
      exact ⟨tn + 1, g', by omega, by simp only [E_pne, E_psame, elen_put, Nat.reduceEqDiff, ne_eq, not_false_eq_true, Nat.reduceLT, he], by simp only [E_pne, E_psame, elen_put, Nat.reduceEqDiff, ne_eq, not_false_eq_true, Nat.reduceLT, e0], by simp only [E_pne, E_psame, elen_put, Nat.reduceEqDiff, ne_eq, not_false_eq_true, Nat.reduceLT, e1], by simp only [E_pne, E_psame, elen_put, Nat.reduceEqDiff, ne_eq, not_false_eq_true, Nat.reduceLT, e5], by simp only [E_pne, E_psame, elen_put, Nat.reduceEqDiff, ne_eq, not_false_eq_true, Nat.reduceLT, e6], by simp only [E_pne, E_psame, elen_put, Nat.reduceEqDiff, ne_eq, not_false_eq_true, Nat.reduceLT, he], hB2⟩

end Go.AM
end
