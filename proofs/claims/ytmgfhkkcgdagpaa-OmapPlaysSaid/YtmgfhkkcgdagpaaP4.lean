/-
  Ordered maps: All, From, ranges over pairs. Own work of this project; in part printed by a program of it.
-/
import Derived.Test.YtmgfhkkcgdagpaaP3
import Derived.ProofKit
import Derived.Carry
import Derived.Deep.Slices
import Derived.HandedShaped
import Derived.OpenShut
import Derived.KernelRfl
set_option linter.unusedVariables false
set_option linter.unusedSimpArgs false
section
set_option maxRecDepth 100000
set_option maxHeartbeats 8000000
namespace Go.AM
open Go Go.Proofs

variable {s t u : St}

/-- A list that was made since, or nil. -/
def NwP (s t : St) (w : AV) (l : List PrS) : Prop := (w = .nils ∧ l = []) ∨ ∃ j cap, w = .sl j 0 l.length cap 2 ∧ s.next ≤ j ∧ t.get j = some (.row (prC.cells l) true)
theorem NwP.mono {w : AV} {l : List PrS} (h : NwP s t w l) (k : ∀ id b, t.get id = some b → u.get id = some b) : NwP s u w l := h.imp (fun q => q) fun ⟨j, cap, e, h1, h2⟩ => ⟨j, cap, e, h1, k _ _ h2⟩
theorem NwP.chg {M : List Nat} {w : AV} {l : List PrS} (h : NwP s t w l) (hC : Chg M t u) (hM : ∀ i ∈ M, ¬ (s.next ≤ i ∧ ∃ n cap, w = .sl i 0 n cap 2)) : NwP s u w l := h.imp (fun q => q) fun ⟨j, cap, e, h1, h2⟩ => ⟨j, cap, e, h1, hC.blk h2 fun q => hM j q ⟨h1, _, _, e⟩⟩
theorem NwP.rd {w : AV} {l : List PrS} (h : NwP s t w l) : AM.read prC t w = some l := by
  rcases h with ⟨rfl, rfl⟩ | ⟨j, cap, rfl, h1, h2⟩
  · rfl
  · refine read_of rfl h2 (by simp [cells_len]) ?_
    rw [List.drop_zero, ← cells_len]
    simp
theorem NwP.from {s0 : St} {w : AV} {l : List PrS} (h : NwP s t w l) (hn : s0.next ≤ s.next) : NwP s0 t w l := h.imp (fun q => q) fun ⟨j, cap, e, h1, h2⟩ => ⟨j, cap, e, by omega, h2⟩
theorem NwP.one {w : AV} {l : List PrS} (h : NwP s t w l) : w.cells = [w] ∧ w.one = true := by rcases h with ⟨rfl, _⟩ | ⟨j, cap, rfl, _⟩ <;> exact ⟨rfl, rfl⟩
/-- An iterator over a list. -/
def ItR (s t : St) (f : AV) (l : List PrS) : Prop := ∃ b w, f = .fn 63 [.ptr b 0] ∧ s.next ≤ b ∧ t.get b = some (.row [w] true) ∧ NwP s t w l ∧ (∀ n cap, w ≠ .sl b 0 n cap 2)
theorem ItR.mono {f : AV} {l : List PrS} (h : ItR s t f l) (k : ∀ id b, t.get id = some b → u.get id = some b) : ItR s u f l := by
  obtain ⟨b, w, e, h1, h2, h3, h4⟩ := h
  exact ⟨b, w, e, h1, k _ _ h2, h3.mono k, h4⟩
theorem ItR.keep {f : AV} {l : List PrS} (h : ItR s t f l) (hK : Keep t u) : ItR s u f l := h.mono fun _ _ => hK.blk
theorem ItR.from {s0 : St} {f : AV} {l : List PrS} (h : ItR s t f l) (hn : s0.next ≤ s.next) : ItR s0 t f l := by
  obtain ⟨b, w, e, h1, h2, h3, h4⟩ := h
  exact ⟨b, w, e, by omega, h2, h3.from hn, h4⟩
theorem sto_z2 {m : Nat} {t : St} (h : sameN m t) {a b : AV} (ha : a.one = true) (hb : b.one = true) (cs : List AV) (hcs : cs.length = 2) : AM.sto (t.push (.row cs true)) 2 (.ptr m 0) (.agg [a, b]) = some (.und, t.lowed.push (.row [a, b] true)) := by
  unfold sameN at h
  subst h
  have hg : (t.push (.row cs true)).get t.next = some (.row cs true) := St.get_push_new t _
  simp only [AM.sto, hg]
  rw [if_pos ⟨rfl, by simp [AV.cells, ha, hb], by omega⟩]
  simp [setAt, AV.cells, hcs, St.push, St.put, St.lowed]
noncomputable def R_Clone : Con := runFn (tb []) a62
theorem s_Clone : SoundAt Try.prog 62 R_Clone := run_sound (tb_sound (l := []) (by simp)) mixed Try.func62 k62 c62
theorem n_Clone : noNxtC a62.body = true := by kernel_rfl
theorem w_Clone {s : St} {v : AV} {l : List PrS} (hr : AM.read prC s v = some l) (hl : l.length ≤ 100000) : ∀ env : Env, elen env = a62.ntmps → (∀ i x_, [v][i]? = some x_ → E env i = x_) → awp (tb []) a62.body (fun x e t => (∀ i, x ≠ .exit i) ∧ ∃ r, aresults e t a62.results = some r ∧ NwP s t r l ∧ Keep s t) env s := by
  intro env hlen ha
  have h0 : E env 0 = _ := ha 0 _ rfl
  have hlen : elen env = _ := hlen
  simp only [a62] at hlen
  unfold a62
  try dsimp only [oO, oG]
  cases v with
  | nils =>
    have hl0 : l = [] := by simpa [AM.read] using hr.symm
    subst hl0
    simp (config := {contextual := true, maxDischargeDepth := 12, maxSteps := 4000000}) only [tb_at, h0, hlen, bin_nsn, notV_bool, Bool.not_true, Bool.not_false, pickV_t, pickV_f, bin_eql, bin_neq, bin_neb, bin_npn, bin_np, bin_npnx, gcall_tt, gpure_tf, beq_self_eq_true, Bool.true_and, Bool.and_true, decide_true, decide_false, ↓bD, bU, forall_const, bS, implies_true, isNx, eq_self, ↓wp_cond, ↓wp_loop, ↓reduceIte, reduceCtorEq, Nat.reduceEqDiff, Nat.reduceLT, Nat.reduceAdd, Nat.reduceMul, bT, ↓sg_bsl, ↓st_callf, bX, ap_mkfn, ap_conv, ↓wi_seq, ↓wi_base, ↓wi_block, ↓wi_cond, ↓wi_loop, ↓wi_rf, ↓wy_seq, ↓wy_base, ↓wy_block, ↓wy_cond, ↓wy_loop, ↓wy_yld, ae_callvV, callvV_fn, List.append_nil, List.cons_append, List.nil_append, bin_nff, bin_nfn, bin_nffx, bin_nfnx]
    exact ⟨_, rfl, Or.inl ⟨rfl, rfl⟩⟩
  | sl id off n cap z =>
    have hbs : bslV [] 0 2 [] = some (fun id => .sl id 0 0 (some 0) 2, .row [] true) := rfl
    have hK1 : Keep s (s.push (.row [] true)) := (Keep.refl s).push _
    have hr1 := hK1.read hr
    have hg1 := St.get_push_new s (.row [] true)
    obtain ⟨w, t1, hap, hw, hK2⟩ : ∃ w t1, appV (s.push (.row [] true)) 2 24 (.sl s.next 0 0 (some 0) 2) (.sl id off n cap z) = some (w, t1) ∧ NwP s t1 w l ∧ Keep s t1 := by
      have e1 : shown (s.push (.row [] true)) 2 (.sl id off n cap z) = some (prC.cells l) := read_shown hr1
      have e2 := read_len hr1
      simp only [appV, e1, e2, aappend, hg1, if_true]
      by_cases h0 : l.length = 0
      · rw [if_pos h0]
        have : l = [] := by simpa using h0
        subst this
        exact ⟨_, _, rfl, .inr ⟨s.next, some 0, rfl, Nat.le_refl _, hg1⟩, hK1⟩
      · rw [if_neg h0, if_pos ⟨by simp, by unfold roomBytes; omega⟩, if_neg (by omega)]
        refine ⟨_, _, rfl, .inr ⟨s.next + 1, none, by simp, by omega, ?_⟩, hK1.push _⟩
        have := St.get_push_new (s.push (.row [] true)) (.row (prC.cells l) true)
        simpa using this
    simp (config := {contextual := true, maxDischargeDepth := 12, maxSteps := 4000000}) only [tb_at, h0, hlen, bin_nss, hbs, hap, notV_bool, Bool.not_true, Bool.not_false, pickV_t, pickV_f, bin_eql, bin_neq, bin_neb, bin_npn, bin_np, bin_npnx, gcall_tt, gpure_tf, beq_self_eq_true, Bool.true_and, Bool.and_true, decide_true, decide_false, ↓bD, bU, forall_const, bS, implies_true, isNx, eq_self, ↓wp_cond, ↓wp_loop, ↓reduceIte, reduceCtorEq, Nat.reduceEqDiff, Nat.reduceLT, Nat.reduceAdd, Nat.reduceMul, bT, ↓sg_bsl, ↓st_callf, bX, ap_mkfn, ap_conv, ↓wi_seq, ↓wi_base, ↓wi_block, ↓wi_cond, ↓wi_loop, ↓wi_rf, ↓wy_seq, ↓wy_base, ↓wy_block, ↓wy_cond, ↓wy_loop, ↓wy_yld, ae_callvV, callvV_fn, List.append_nil, List.cons_append, List.nil_append, bin_nff, bin_nfn, bin_nffx, bin_nfnx]
    exact ⟨_, rfl, hw, hK2⟩
  | _ => simp [AM.read] at hr
theorem q_Clone {s : St} {v : AV} {l : List PrS} (hr : AM.read prC s v = some l) (hl : l.length ≤ 100000) : ∃ w t, acall R_Clone false [v] s = some (w, t) ∧ NwP s t w l ∧ Keep s t :=
  run_any (s := s) n_Clone (args := [v]) (Q := fun r t => NwP s t r l) (by simp [a62]) (fun r t t' hg hn h => h.mono fun id b hb => by rw [hg]; exact hb) (fun r t hgr hk h => by
    rcases h with ⟨rfl, rfl⟩ | ⟨j, cap, rfl, _⟩
    · exact .inl ⟨rfl, rfl⟩
    · cases hgr) (w_Clone (s := lowd s) (read_low' hr) hl)
noncomputable def R_over : Con := runFn (tb [(62, R_Clone)]) a43
theorem s_over : SoundAt Try.prog 43 R_over := run_sound (tb_sound (l := [(62, R_Clone)]) (by simpa using s_Clone)) mixed Try.func43 k43 c43
theorem n_over : noNxtC a43.body = true := by kernel_rfl
theorem w_over {s : St} {v : AV} {l : List PrS} (hr : AM.read prC s v = some l) (hl : l.length ≤ 100000) : ∀ env : Env, elen env = a43.ntmps → (∀ i x_, [v][i]? = some x_ → E env i = x_) → awp (tb [(62, R_Clone)]) a43.body (fun x e t => (∀ i, x ≠ .exit i) ∧ ∃ r, aresults e t a43.results = some r ∧ ItR s t r l ∧ Keep s t) env s := by
  intro env hlen ha
  have h0 : E env 0 = _ := ha 0 _ rfl
  have hlen : elen env = _ := hlen
  simp only [a43] at hlen
  unfold a43
  try dsimp only [oO, oG]
  have hv : v.cells = [v] ∧ v.one = true := by
    cases v <;> first | exact ⟨rfl, rfl⟩ | simp [AM.read] at hr
  have hbx : boxV 1 v = some (fun id => .ptr id 0, .row [v] true) := by
    unfold boxV
    simp [hv.1, hv.2]
  have hK1 : Keep s (s.push (.row [v] true)) := (Keep.refl s).push _
  have hg1 := St.get_push_new s (.row [v] true)
  obtain ⟨a0, alt⟩ := row1_lod hg1
  obtain ⟨w, t1, q1, hw, hK2⟩ := q_Clone (hK1.read hr) hl
  have hg2 := hK2.blk hg1
  have st1 := row1_sto hg2 hw.one
  have ht1 := St.get_lt hg2
  simp (config := {contextual := true, maxDischargeDepth := 12, maxSteps := 4000000}) only [tb_at, h0, hlen, hbx, a0, alt, q1, st1, ht1, notV_bool, Bool.not_true, Bool.not_false, pickV_t, pickV_f, bin_eql, bin_neq, bin_neb, bin_npn, bin_np, bin_npnx, gcall_tt, gpure_tf, beq_self_eq_true, Bool.true_and, Bool.and_true, decide_true, decide_false, ↓bD, bU, forall_const, bS, implies_true, isNx, eq_self, ↓wp_cond, ↓wp_loop, ↓reduceIte, reduceCtorEq, Nat.reduceEqDiff, Nat.reduceLT, Nat.reduceAdd, Nat.reduceMul, bT, ↓sg_bsl, ↓st_callf, bX, ap_mkfn, ap_conv, ↓wi_seq, ↓wi_base, ↓wi_block, ↓wi_cond, ↓wi_loop, ↓wi_rf, ↓wy_seq, ↓wy_base, ↓wy_block, ↓wy_cond, ↓wy_loop, ↓wy_yld, ae_callvV, callvV_fn, List.append_nil, List.cons_append, List.nil_append, bin_nff, bin_nfn, bin_nffx, bin_nfnx]
  have hnn : (s.push (.row [v] true)).next = s.next + 1 := rfl
  refine ⟨_, rfl, ⟨s.next, w, rfl, Nat.le_refl _, St.get_put_same hg2, ?_, fun n cap e => ?_⟩, (hK1.trans hK2).put _ (Nat.le_refl _) ht1⟩
  · rcases hw with ⟨e1, e2⟩ | ⟨j, cap, e1, h1, h2⟩
    · exact .inl ⟨e1, e2⟩
    · exact .inr ⟨j, cap, e1, by omega, by rw [St.get_put_ne _ _ ht1 (by omega)]; exact h2⟩
  · rcases hw with ⟨e1, e2⟩ | ⟨j, cap', e1, h1, h2⟩
    · rw [e1] at e; cases e
    · rw [e1] at e
      injection e with e
      omega
theorem q_over {s : St} {v : AV} {l : List PrS} (hr : AM.read prC s v = some l) (hl : l.length ≤ 100000) : ∃ w t, acall R_over false [v] s = some (w, t) ∧ ItR s t w l ∧ Keep s t :=
  run_any (s := s) n_over (args := [v]) (Q := fun r t => ItR s t r l) (by simp [a43]) (fun r t t' hg hn h => h.mono fun id b hb => by rw [hg]; exact hb) (fun r t hgr hk h => by
    obtain ⟨b, w, rfl, _⟩ := h
    cases hgr) (w_over (s := lowd s) (read_low' hr) hl)
noncomputable def R_All : Con := runFn (tb [(39, R_zero), (43, R_over)]) a13
theorem s_All : SoundAt Try.prog 13 R_All := run_sound (tb_sound (l := [(39, R_zero), (43, R_over)]) (by simpa using ⟨s_zero, s_over⟩)) mixed Try.func13 k13 c13
theorem n_All : noNxtC a13.body = true := by kernel_rfl
theorem w_All {s : St} {id : Nat} {q : Option Nat} {d : Bool} {L : List PrS} (hk : MpR s id q d L) : ∀ env : Env, elen env = a13.ntmps → (∀ i x_, [.ptr id 0][i]? = some x_ → E env i = x_) → awp (tb [(39, R_zero), (43, R_over)]) a13.body (fun x e t => (∀ i, x ≠ .exit i) ∧ ∃ r, aresults e t a13.results = some r ∧ ItR s t r L ∧ Keep s t) env s := by
  intro env hlen ha
  have h0 : E env 0 = _ := ha 0 _ rfl
  have hlen : elen env = _ := hlen
  simp only [a13] at hlen
  unfold a13
  try dsimp only [oO, oG]
  have q1 := q_zero false hk.box
  obtain ⟨b0, b1, blt⟩ := row2_lod hk.box
  obtain ⟨w, t1, q2, h1, h2⟩ := q_over hk.rd (by have := hk.hn; omega)
  simp (config := {contextual := true, maxDischargeDepth := 12, maxSteps := 4000000}) only [tb_at, h0, hlen, q1, b1, blt, nchkV_ptr, q2, notV_bool, Bool.not_true, Bool.not_false, pickV_t, pickV_f, bin_eql, bin_neq, bin_neb, bin_npn, bin_np, bin_npnx, gcall_tt, gpure_tf, beq_self_eq_true, Bool.true_and, Bool.and_true, decide_true, decide_false, ↓bD, bU, forall_const, bS, implies_true, isNx, eq_self, ↓wp_cond, ↓wp_loop, ↓reduceIte, reduceCtorEq, Nat.reduceEqDiff, Nat.reduceLT, Nat.reduceAdd, Nat.reduceMul, bT, ↓sg_bsl, ↓st_callf, bX, ap_mkfn, ap_conv, ↓wi_seq, ↓wi_base, ↓wi_block, ↓wi_cond, ↓wi_loop, ↓wi_rf, ↓wy_seq, ↓wy_base, ↓wy_block, ↓wy_cond, ↓wy_loop, ↓wy_yld, ae_callvV, callvV_fn, List.append_nil, List.cons_append, List.nil_append, bin_nff, bin_nfn, bin_nffx, bin_nfnx]
  exact ⟨_, rfl, h1, h2⟩
theorem q_All {s : St} {id : Nat} {q : Option Nat} {d : Bool} {L : List PrS} (hk : MpR s id q d L) : ∃ w t, acall R_All false [.ptr id 0] s = some (w, t) ∧ ItR s t w L ∧ Keep s t :=
  run_any (s := s) n_All (args := [.ptr id 0]) (Q := fun r t => ItR s t r L) (by simp [a13]) (fun r t t' hg hn h => h.mono fun id b hb => by rw [hg]; exact hb) (fun r t hgr hk h => by
    obtain ⟨b, w, rfl, _⟩ := h
    cases hgr) (w_All (s := lowd s) hk.low)
noncomputable def R_From : Con := runFn (tb [(39, R_zero), (43, R_over), (26, R_Rank)]) a14
theorem s_From : SoundAt Try.prog 14 R_From := run_sound (tb_sound (l := [(39, R_zero), (43, R_over), (26, R_Rank)]) (by simpa using ⟨s_zero, s_over, s_Rank⟩)) mixed Try.func14 k14 c14
theorem n_From : noNxtC a14.body = true := by kernel_rfl
theorem w_From {s : St} {id : Nat} {q : Option Nat} {d : Bool} {L : List PrS} (hk : MpR s id q d L) (hs : SrtD d L) (k : Int) : ∀ env : Env, elen env = a14.ntmps → (∀ i x_, [.ptr id 0, .int .i64 k][i]? = some x_ → E env i = x_) → awp (tb [(39, R_zero), (43, R_over), (26, R_Rank)]) a14.body (fun x e t => (∀ i, x ≠ .exit i) ∧ ∃ r, aresults e t a14.results = some r ∧ ItR s t r (L.drop (rkD d L k)) ∧ Keep s t) env s := by
  intro env hlen ha
  have h0 : E env 0 = _ := ha 0 _ rfl
  have h1 : E env 1 = _ := ha 1 _ rfl
  have hlen : elen env = _ := hlen
  simp only [a14] at hlen
  unfold a14
  try dsimp only [oO, oG]
  have q1 := q_zero false hk.box
  obtain ⟨b0, b1, blt⟩ := row2_lod hk.box
  have q3 := q_Rank true hk hs k
  obtain ⟨v', hsl, hrd⟩ := slc_lo (C := prC) hk.rd (k := .i64) (i := ((rkD d L k : Nat) : Int)) rfl (rk_le d k L)
  obtain ⟨w, t1, q2, m1, m2⟩ := q_over (hrd s (.refl s)) (by rw [List.length_drop]; have := hk.hn; omega)
  rw [prC_sz] at hsl
  simp (config := {contextual := true, maxDischargeDepth := 12, maxSteps := 4000000}) only [tb_at, h0, h1, hlen, q1, b1, blt, nchkV_ptr, q2, q3, hsl, reserve0, notV_bool, Bool.not_true, Bool.not_false, pickV_t, pickV_f, bin_eql, bin_neq, bin_neb, bin_npn, bin_np, bin_npnx, gcall_tt, gpure_tf, beq_self_eq_true, Bool.true_and, Bool.and_true, decide_true, decide_false, ↓bD, bU, forall_const, bS, implies_true, isNx, eq_self, ↓wp_cond, ↓wp_loop, ↓reduceIte, reduceCtorEq, Nat.reduceEqDiff, Nat.reduceLT, Nat.reduceAdd, Nat.reduceMul, bT, ↓sg_bsl, ↓st_callf, bX, ap_mkfn, ap_conv, ↓wi_seq, ↓wi_base, ↓wi_block, ↓wi_cond, ↓wi_loop, ↓wi_rf, ↓wy_seq, ↓wy_base, ↓wy_block, ↓wy_cond, ↓wy_loop, ↓wy_yld, ae_callvV, callvV_fn, List.append_nil, List.cons_append, List.nil_append, bin_nff, bin_nfn, bin_nffx, bin_nfnx]
  exact ⟨_, rfl, m1, m2⟩
theorem q_From {s : St} {id : Nat} {q : Option Nat} {d : Bool} {L : List PrS} (hk : MpR s id q d L) (hs : SrtD d L) (k : Int) : ∃ w t, acall R_From false [.ptr id 0, .int .i64 k] s = some (w, t) ∧ ItR s t w (L.drop (rkD d L k)) ∧ Keep s t :=
  run_any (s := s) n_From (args := [.ptr id 0, .int .i64 k]) (Q := fun r t => ItR s t r (L.drop (rkD d L k))) (by simp [a14]) (fun r t t' hg hn h => h.mono fun id b hb => by rw [hg]; exact hb) (fun r t hgr hk h => by
    obtain ⟨b, w, rfl, _⟩ := h
    cases hgr) (w_From (s := lowd s) hk.low hs k)
/-! ### A range over such an iterator -/
theorem rf_over {call : Nat → List AV → St → Option (AV × St)} {env : Env} {g : AO} {p1 p2 : Nat} {asg body : AC} {Q : AEx → Env → St → Prop} {b : Nat} {w : AV} {l : List PrS} {own : Bool} (hg : aev env g = .fn 63 [.ptr b 0]) (hl : l.length ≤ 100000) (hb : s.get b = some (.row [w] own)) (J : Nat → St → Prop)
    (h0 : J 0 s) (hrd : ∀ i t, J i t → AM.read prC t w = some l)
    (hstep : ∀ i y t t', J i t → l[i]? = some y → Keep t t' → awp call asg (fun x e t1 => x = .nor ∧ awp call body (fun x _ t2 => match x with
      | .nor => J (i + 1) t2
      | .exit k => Q (.exit k) env t2
      | .ret => Q .ret env t2) e t1) (setPs env [p1, p2] [.int .i64 y.1, .str y.2]) t')
    (hend : ∀ t, J l.length t → Q .nor env t) : @rfwp call g [p1, p2] asg body [(63, 19, y63), (69, 19, y69)] env s ⟨Q⟩ := by
  refine rf_start (f := 63) (n := 19) (caps := [.ptr b 0]) (y := y63) hg rfl fun yl => ?_
  refine start_env (args := [.yd yl, .ptr b 0]) (n := 19) (p := fun env1 => awpY _ _ _ y63 none _ env1 s) (by simp) fun env1 hl1 ha1 => ?_
  have a0 : E env1 0 = _ := ha1 0 _ rfl
  have a1 : E env1 1 = _ := ha1 1 _ rfl
  unfold y63
  try dsimp only [oO, oG]
  obtain ⟨b0, blt⟩ := row1_lod hb
  have hL := lenV_read (hrd 0 s h0)
  simp (config := {contextual := true, maxDischargeDepth := 12, maxSteps := 4000000}) only [tb_at, a0, a1, hl1, b0, blt, hL, notV_bool, Bool.not_true, Bool.not_false, pickV_t, pickV_f, bin_eql, bin_neq, bin_neb, bin_npn, bin_np, bin_npnx, gcall_tt, gpure_tf, beq_self_eq_true, Bool.true_and, Bool.and_true, decide_true, decide_false, ↓bD, bU, forall_const, bS, implies_true, isNx, eq_self, ↓wp_cond, ↓wp_loop, ↓reduceIte, reduceCtorEq, Nat.reduceEqDiff, Nat.reduceLT, Nat.reduceAdd, Nat.reduceMul, bT, ↓sg_bsl, ↓st_callf, bX, ap_mkfn, ap_conv, ↓wi_seq, ↓wi_base, ↓wi_block, ↓wi_cond, ↓wi_loop, ↓wi_rf, ↓wy_seq, ↓wy_base, ↓wy_block, ↓wy_cond, ↓wy_loop, ↓wy_yld, ae_callvV, callvV_fn, List.append_nil, List.cons_append, List.nil_append, bin_nff, bin_nfn, bin_nffx, bin_nfnx]
  obtain ⟨I, hI⟩ : ∃ I : Nat → Env → St → Prop, ∀ n e t, I n e t = (∃ i, n + i = l.length ∧ elen e = 19 ∧ E e 0 = .yd yl ∧ E e 5 = w ∧ E e 6 = .int .i64 (l.length : Int) ∧ E e 7 = .int .i64 (i : Int) ∧ J i t) := ⟨fun n e t => (∃ i, n + i = l.length ∧ elen e = 19 ∧ E e 0 = .yd yl ∧ E e 5 = w ∧ E e 6 = .int .i64 (l.length : Int) ∧ E e 7 = .int .i64 (i : Int) ∧ J i t), fun _ _ _ => rfl⟩
  refine lwpY_inv roundY_mono I (n := l.length) ?_ ?_
  · rw [hI]
    exact ⟨0, by omega, (by simp only [bE, Nat.reduceEqDiff, bN, Nat.reduceLT, hl1, a0, a1]; try rfl), (by simp only [bE, Nat.reduceEqDiff, bN, Nat.reduceLT, hl1, a0, a1]; try rfl), (by simp only [bE, Nat.reduceEqDiff, bN, Nat.reduceLT, hl1, a0, a1]; try rfl), (by simp only [bE, Nat.reduceEqDiff, bN, Nat.reduceLT, hl1, a0, a1]; try rfl), (by simp only [bE, Nat.reduceEqDiff, bN, Nat.reduceLT, hl1, a0, a1]; try rfl), h0⟩
  clear a0 a1 hl1 ha1
  intro n e t hi
  rw [hI] at hi
  obtain ⟨i, hni, he, e0, e5, e6, e7, hJ⟩ := hi
  by_cases hlt : i < l.length
  rotate_left
  · have hz := eq_false (show ¬ (i : Int) < (l.length : Int) by omega)
    obtain rfl : i = l.length := by omega
    simp (config := {contextual := true, maxDischargeDepth := 12, maxSteps := 4000000}) only [tb_at, he, e0, e5, e6, e7, hz, notV_bool, Bool.not_true, Bool.not_false, pickV_t, pickV_f, bin_eql, bin_neq, bin_neb, bin_npn, bin_np, bin_npnx, gcall_tt, gpure_tf, beq_self_eq_true, Bool.true_and, Bool.and_true, decide_true, decide_false, ↓bD, bU, forall_const, bS, implies_true, isNx, eq_self, ↓wp_cond, ↓wp_loop, ↓reduceIte, reduceCtorEq, Nat.reduceEqDiff, Nat.reduceLT, Nat.reduceAdd, Nat.reduceMul, bT, ↓sg_bsl, ↓st_callf, bX, ap_mkfn, ap_conv, ↓wi_seq, ↓wi_base, ↓wi_block, ↓wi_cond, ↓wi_loop, ↓wi_rf, ↓wy_seq, ↓wy_base, ↓wy_block, ↓wy_cond, ↓wy_loop, ↓wy_yld, ae_callvV, callvV_fn, List.append_nil, List.cons_append, List.nil_append, bin_nff, bin_nfn, bin_nffx, bin_nfnx]
    exact hend t hJ
  have hz := eq_true (show (i : Int) < (l.length : Int) by omega)
  have hw := wrap_add1 (n := i) (by omega)
  obtain ⟨y, hy⟩ := getsome hlt
  obtain ⟨i1, a1, _, _, a4⟩ := pr_lods (hrd i t hJ) hy
  have st1 := sto_z2 (m := t.next) (t := t) rfl (a := .int .i64 y.1) (b := .str y.2) rfl rfl [.int .i64 0, .str ⟨#[]⟩] rfl
  have hK1 : Keep t (t.lowed.push (.row [.int .i64 y.1, .str y.2] true)) := (keep_lowed t).push _
  obtain ⟨t1, ht1⟩ : ∃ t1, t1 = t.lowed.push (.row [.int .i64 y.1, .str y.2] true) := ⟨_, rfl⟩
  have hg1 : t1.get t.next = some (.row [.int .i64 y.1, .str y.2] true) := by rw [ht1]; exact St.get_push_new t.lowed _
  rw [← ht1] at st1 hK1
  obtain ⟨c0, c1, clt⟩ := row2_lod hg1
  simp (config := {contextual := true, maxDischargeDepth := 12, maxSteps := 4000000}) only [tb_at, he, e0, e5, e6, e7, hz, i1, a1, a4, st1, c0, c1, clt, notV_bool, Bool.not_true, Bool.not_false, pickV_t, pickV_f, bin_eql, bin_neq, bin_neb, bin_npn, bin_np, bin_npnx, gcall_tt, gpure_tf, beq_self_eq_true, Bool.true_and, Bool.and_true, decide_true, decide_false, ↓bD, bU, forall_const, bS, implies_true, isNx, eq_self, ↓wp_cond, ↓wp_loop, ↓reduceIte, reduceCtorEq, Nat.reduceEqDiff, Nat.reduceLT, Nat.reduceAdd, Nat.reduceMul, bT, ↓sg_bsl, ↓st_callf, bX, ap_mkfn, ap_conv, ↓wi_seq, ↓wi_base, ↓wi_block, ↓wi_cond, ↓wi_loop, ↓wi_rf, ↓wy_seq, ↓wy_base, ↓wy_block, ↓wy_cond, ↓wy_loop, ↓wy_yld, ae_callvV, callvV_fn, List.append_nil, List.cons_append, List.nil_append, bin_nff, bin_nfn, bin_nffx, bin_nfnx]
  refine ystep_round rfl ?_
  refine awp_mono asg (fun x e2 t2 k => ⟨k.1, awp_mono body (fun x _ t3 k => ?_) k.2⟩) (hstep i y t t1 hJ hy hK1)
  cases x with
  | nor =>
    simp (config := {contextual := true, maxDischargeDepth := 12, maxSteps := 4000000}) only [tb_at, he, e0, e5, e6, e7, hw, putE_pE, notV_bool, Bool.not_true, Bool.not_false, pickV_t, pickV_f, bin_eql, bin_neq, bin_neb, bin_npn, bin_np, bin_npnx, gcall_tt, gpure_tf, beq_self_eq_true, Bool.true_and, Bool.and_true, decide_true, decide_false, ↓bD, bU, forall_const, bS, implies_true, isNx, eq_self, ↓wp_cond, ↓wp_loop, ↓reduceIte, reduceCtorEq, Nat.reduceEqDiff, Nat.reduceLT, Nat.reduceAdd, Nat.reduceMul, bT, ↓sg_bsl, ↓st_callf, bX, ap_mkfn, ap_conv, ↓wi_seq, ↓wi_base, ↓wi_block, ↓wi_cond, ↓wi_loop, ↓wi_rf, ↓wy_seq, ↓wy_base, ↓wy_block, ↓wy_cond, ↓wy_loop, ↓wy_yld, ae_callvV, callvV_fn, List.append_nil, List.cons_append, List.nil_append, bin_nff, bin_nfn, bin_nffx, bin_nfnx]
    refine ⟨n - 1, by omega, ?_⟩
    rw [hI]
    exact ⟨i + 1, by omega, (by simp only [bE, Nat.reduceEqDiff, bN, Nat.reduceLT, he, e0, e5, e6, e7]; try rfl), (by simp only [bE, Nat.reduceEqDiff, bN, Nat.reduceLT, he, e0, e5, e6, e7]; try rfl), (by simp only [bE, Nat.reduceEqDiff, bN, Nat.reduceLT, he, e0, e5, e6, e7]; try rfl), (by simp only [bE, Nat.reduceEqDiff, bN, Nat.reduceLT, he, e0, e5, e6, e7]; try rfl), (by simp only [bE, Nat.reduceEqDiff, bN, Nat.reduceLT, he, e0, e5, e6, e7]; try rfl), k⟩
  | exit j =>
    simp (config := {contextual := true, maxDischargeDepth := 12, maxSteps := 4000000}) only [tb_at, he, e0, e5, e6, e7, hw, putE_pE, notV_bool, Bool.not_true, Bool.not_false, pickV_t, pickV_f, bin_eql, bin_neq, bin_neb, bin_npn, bin_np, bin_npnx, gcall_tt, gpure_tf, beq_self_eq_true, Bool.true_and, Bool.and_true, decide_true, decide_false, ↓bD, bU, forall_const, bS, implies_true, isNx, eq_self, ↓wp_cond, ↓wp_loop, ↓reduceIte, reduceCtorEq, Nat.reduceEqDiff, Nat.reduceLT, Nat.reduceAdd, Nat.reduceMul, bT, ↓sg_bsl, ↓st_callf, bX, ap_mkfn, ap_conv, ↓wi_seq, ↓wi_base, ↓wi_block, ↓wi_cond, ↓wi_loop, ↓wi_rf, ↓wy_seq, ↓wy_base, ↓wy_block, ↓wy_cond, ↓wy_loop, ↓wy_yld, ae_callvV, callvV_fn, List.append_nil, List.cons_append, List.nil_append, bin_nff, bin_nfn, bin_nffx, bin_nfnx]
    exact k
  | ret =>
    simp (config := {contextual := true, maxDischargeDepth := 12, maxSteps := 4000000}) only [tb_at, he, e0, e5, e6, e7, hw, putE_pE, notV_bool, Bool.not_true, Bool.not_false, pickV_t, pickV_f, bin_eql, bin_neq, bin_neb, bin_npn, bin_np, bin_npnx, gcall_tt, gpure_tf, beq_self_eq_true, Bool.true_and, Bool.and_true, decide_true, decide_false, ↓bD, bU, forall_const, bS, implies_true, isNx, eq_self, ↓wp_cond, ↓wp_loop, ↓reduceIte, reduceCtorEq, Nat.reduceEqDiff, Nat.reduceLT, Nat.reduceAdd, Nat.reduceMul, bT, ↓sg_bsl, ↓st_callf, bX, ap_mkfn, ap_conv, ↓wi_seq, ↓wi_base, ↓wi_block, ↓wi_cond, ↓wi_loop, ↓wi_rf, ↓wy_seq, ↓wy_base, ↓wy_block, ↓wy_cond, ↓wy_loop, ↓wy_yld, ae_callvV, callvV_fn, List.append_nil, List.cons_append, List.nil_append, bin_nff, bin_nfn, bin_nffx, bin_nfnx]
    exact k

end Go.AM
end
/-
  Ordered maps: what iterators yield; the helpers of the statements. Own work of this project; in part printed by a program of it.
-/
section
set_option maxRecDepth 100000
set_option maxHeartbeats 8000000
namespace Go.AM
open Go Go.Proofs

variable {s t u : St}

theorem own_ne {β : Type} {C : Cod β} {lv : AV} {l : List β} (h : Own C s t lv l) {id : Nat} {cs : List AV} {own : Bool} (hg : t.get id = some (.row cs own)) (hc : cs.length < C.sz) : ∀ o n c z, lv ≠ .sl id o n c z := by
  rintro o n c z rfl
  rcases h with ⟨h, _⟩ | ⟨j, h, h0, h1, h2⟩
  · cases h
  · injection h with h
    subst h
    rw [hg] at h2
    injection h2 with h2
    injection h2 with h2 _
    have := congrArg List.length h2
    rw [cells_len] at this
    cases l with
    | nil => exact h0 rfl
    | cons y r =>
      rw [List.length_cons, Nat.succ_mul] at this
      omega
theorem own_one1 {β : Type} {C : Cod β} {lv : AV} {l : List β} (h : Own C s t lv l) : lv.cells = [lv] ∧ lv.one = true := by rcases h with ⟨rfl, _⟩ | ⟨j, rfl, _⟩ <;> exact ⟨rfl, rfl⟩
/-- A list in a box, one element more. -/
theorem box1_app {β : Type} {C : Cod β} {lv : AV} {l : List β} {ib : Nat} (hK : Keep s t) (hb : t.get ib = some (.row [lv] true)) (hib : s.next ≤ ib) (hO : Own C s t lv l) (hsz : 1 < C.sz) (y : β) (bytes : Nat) (hr : (l.length + 1) * bytes ≤ roomBytes) :
    ∃ lv' t', appV (t.push (.row (C.enc y) true)) C.sz bytes lv (.sl t.next 0 1 (some 1) C.sz) = some (lv', t') ∧ AM.sto t' 1 (.ptr ib 0) lv' = some (.und, t'.put ib (.row [lv'] true)) ∧ ltN ib t' ∧ Keep s (t'.put ib (.row [lv'] true)) ∧ (t'.put ib (.row [lv'] true)).get ib = some (.row [lv'] true) ∧ Own C s (t'.put ib (.row [lv'] true)) lv' (l ++ [y]) ∧
      ∀ id b, t.get id = some b → id ≠ ib → (∀ o n c z, lv ≠ .sl id o n c z) → (t'.put ib (.row [lv'] true)).get id = some b := by
  obtain ⟨lv', t', hap, hK', hO'⟩ := appV_one (C := C) hK hO y bytes hr
  have fr : ∀ id b, t.get id = some b → (∀ o n c z, lv ≠ .sl id o n c z) → t'.get id = some b := fun id b hg hn => appV_frame hap hn (get_push_some _ hg)
  have hb' := fr ib _ hb (own_ne hO hb hsz)
  have hlt := St.get_lt hb'
  have hO2 : Own C s (t'.put ib (.row [lv'] true)) lv' (l ++ [y]) := by
    have hne := own_ne hO' hb' hsz
    rcases hO' with q | ⟨j, q, h0, h1, h2⟩
    · exact .inl q
    · refine .inr ⟨j, q, h0, h1, ?_⟩
      rw [St.get_put_ne _ _ hlt fun e => hne 0 _ none _ (by rw [q, e])]
      exact h2
  exact ⟨lv', t', hap, row1_sto hb' (own_one1 hO'), hlt, hK'.put _ hib hlt, St.get_put_same hb', hO2, fun id b hg hi hn => by rw [St.get_put_ne _ _ hlt hi]; exact fr id b hg hn⟩
theorem bin_streq (k : EK) (a b : ByteArray) : binOp .eql k (.str a) (.str b) = some (.bool (decide (a = b))) := by
  have : (a.toList == b.toList) = decide (a = b) := by
    by_cases h : a = b
    · subst h; simp
    · rw [decide_eq_false h]
      have : a.toList ≠ b.toList := fun e => h (by
        rw [ByteArray.toList_eq, ByteArray.toList_eq] at e
        cases a; cases b
        simp only at e
        congr 1
        exact Array.toList_inj.1 e)
      simpa using this
  show strOp .eql a b = _
  simp only [strOp, this]
def pPairs : List AV → St → Option (List PrS × Option AV) := fun xs s => match xs with
  | [.fn 63 [.ptr b 0], .int .i64 m] => match s.get b with
    | some (.row [w] true) => match AM.read prC s w with
      | some l => if l.length ≤ 10000 then some (if m < 1 then [] else l.take m.toNat, none) else none
      | none => none
    | _ => none
  | _ => none
theorem a_pairs {s : St} {b : Nat} {w : AV} {l : List PrS} {m : Int} (hb : s.get b = some (.row [w] true)) (hr : AM.read prC s w = some l) (hl : l.length ≤ 10000) : ∀ env : Env, elen env = ai16.ntmps → (∀ i x_, [.fn 63 [.ptr b 0], .int .i64 m][i]? = some x_ → E env i = x_) → awpI (tb []) ai16.body (fun x e t => (∀ i, x ≠ .exit i) ∧ Keep s t ∧ ∃ v, aresults e t ai16.results = some (mkR none v) ∧ Own prC s t v (if m < 1 then [] else l.take m.toNat)) env s := by
  intro env hlen ha
  have h0 : E env 0 = _ := ha 0 _ rfl
  have h1 : E env 1 = _ := ha 1 _ rfl
  have hlen : elen env = _ := hlen
  simp only [ai16] at hlen
  unfold ai16
  try dsimp only [oO, oG]
  have hbx : boxV 1 (.int .i64 m) = some (fun id => .ptr id 0, .row [.int .i64 m] true) := rfl
  have hK1 : Keep s (s.push (.row [.int .i64 m] true)) := (Keep.refl s).push _
  have hK2 : Keep s ((s.push (.row [.int .i64 m] true)).push (.row [.nils] true)) := hK1.push _
  have g3 : ((s.push (.row [.int .i64 m] true)).push (.row [.nils] true)).get s.next = some (.row [.int .i64 m] true) := get_push_some _ (St.get_push_new s _)
  have g5 : ((s.push (.row [.int .i64 m] true)).push (.row [.nils] true)).get (s.next + 1) = some (.row [.nils] true) := St.get_push_new (s.push (.row [.int .i64 m] true)) _
  have hnn : (s.push (.row [.int .i64 m] true)).next = s.next + 1 := rfl
  obtain ⟨u, hu⟩ : ∃ u, u = (s.push (.row [.int .i64 m] true)).push (.row [.nils] true) := ⟨_, rfl⟩
  rw [← hu] at hK2 g3 g5
  obtain ⟨a3, a3l⟩ := row1_lod g3
  obtain ⟨a5, a5l⟩ := row1_lod g5
  by_cases hm : m < 1
  · have z1 := eq_true hm
    rw [if_pos hm]
    simp (config := {contextual := true, maxDischargeDepth := 12, maxSteps := 4000000}) only [tb_at, h0, h1, hlen, hbx, hnn, ← hu, a3, a3l, z1, notV_bool, Bool.not_true, Bool.not_false, pickV_t, pickV_f, bin_eql, bin_neq, bin_neb, bin_npn, bin_np, bin_npnx, gcall_tt, gpure_tf, beq_self_eq_true, Bool.true_and, Bool.and_true, decide_true, decide_false, ↓bD, bU, forall_const, bS, implies_true, isNx, eq_self, ↓wp_cond, ↓wp_loop, ↓reduceIte, reduceCtorEq, Nat.reduceEqDiff, Nat.reduceLT, Nat.reduceAdd, Nat.reduceMul, bT, ↓sg_bsl, ↓st_callf, bX, ap_mkfn, ap_conv, ↓wi_seq, ↓wi_base, ↓wi_block, ↓wi_cond, ↓wi_loop, ↓wi_rf, ↓wy_seq, ↓wy_base, ↓wy_block, ↓wy_cond, ↓wy_loop, ↓wy_yld, ae_callvV, callvV_fn, List.append_nil, List.cons_append, List.nil_append, bin_nff, bin_nfn, bin_nffx, bin_nfnx, bin_streq]
    first | exact ⟨hK2, _, rfl, .nil _ _ _⟩ | exact ⟨_, rfl, .nil _ _ _⟩ | exact ⟨hK2, .nil _ _ _⟩
  have z1 := eq_false hm
  rw [if_neg hm]
  simp (config := {contextual := true, maxDischargeDepth := 12, maxSteps := 4000000}) only [tb_at, h0, h1, hlen, hbx, hnn, ← hu, a3, a3l, z1, notV_bool, Bool.not_true, Bool.not_false, pickV_t, pickV_f, bin_eql, bin_neq, bin_neb, bin_npn, bin_np, bin_npnx, gcall_tt, gpure_tf, beq_self_eq_true, Bool.true_and, Bool.and_true, decide_true, decide_false, ↓bD, bU, forall_const, bS, implies_true, isNx, eq_self, ↓wp_cond, ↓wp_loop, ↓reduceIte, reduceCtorEq, Nat.reduceEqDiff, Nat.reduceLT, Nat.reduceAdd, Nat.reduceMul, bT, ↓sg_bsl, ↓st_callf, bX, ap_mkfn, ap_conv, ↓wi_seq, ↓wi_base, ↓wi_block, ↓wi_cond, ↓wi_loop, ↓wi_rf, ↓wy_seq, ↓wy_base, ↓wy_block, ↓wy_cond, ↓wy_loop, ↓wy_yld, ae_callvV, callvV_fn, List.append_nil, List.cons_append, List.nil_append, bin_nff, bin_nfn, bin_nffx, bin_nfnx, bin_streq]
  refine rf_gen (fun e => elen e = 28 ∧ E e 3 = .ptr s.next 0 ∧ E e 5 = .ptr (s.next + 1) 0 ∧ E e 14 = .fn 63 [.ptr b 0]) ⟨(by simp only [bE, Nat.reduceEqDiff, bN, Nat.reduceLT, hlen, h0]; try rfl), (by simp only [bE, Nat.reduceEqDiff, bN, Nat.reduceLT, hlen, h0]; try rfl), (by simp only [bE, Nat.reduceEqDiff, bN, Nat.reduceLT, hlen, h0]; try rfl), (by simp only [bE, Nat.reduceEqDiff, bN, Nat.reduceLT, hlen, h0]; try rfl)⟩ ?_
  clear h0 h1 ha hlen
  rintro e0 ⟨he0, x3, x5, x14⟩
  refine rf_over (by rw [aev_t]; exact x14) (by omega) (hK2.blk hb) (fun i t => Keep s t ∧ (i : Int) < m ∧ t.get s.next = some (.row [.int .i64 m] true) ∧ ∃ lv, t.get (s.next + 1) = some (.row [lv] true) ∧ Own prC s t lv (l.take i)) ⟨hK2, by omega, g3, .nils, g5, .nil _ _ _⟩ (fun i t h => h.1.read hr) (fun i y t t' hJ hy hKt => ?_) (fun t hJ => ?_)
  · obtain ⟨hK, hi, q3, lv, q5, hO⟩ := hJ
    have hil := getlt hy
    have hset : ∀ a c, setPs e0 [15, 16] [a, c] = pE (pE e0 (some 15) a) (some 16) c := fun a c => by unfold pE; rfl
    rw [hset]
    have hK' := hK.trans hKt
    have q3' := hKt.blk q3
    have q5' := hKt.blk q5
    have hO' := hO.mono fun _ _ => hKt.blk
    obtain ⟨b5, b5l⟩ := row1_lod q5'
    have fs0 := fstep_bw0' (x := .int .i64 y.1) ⟨rfl, rfl⟩ (.int .i64 0) (.str ⟨#[]⟩)
    have fs1 := fstep_bw1' (x := .str y.2) ⟨rfl, rfl⟩ (.int .i64 y.1) (.str ⟨#[]⟩)
    have hbs : bslV [.int .i64 0, .str ⟨#[]⟩] 1 2 [(0, .agg [.int .i64 y.1, .str y.2])] = some (fun id => .sl id 0 1 (some 1) 2, .row [.int .i64 y.1, .str y.2] true) := by
      simp [bslV, fillP, aev, AV.cells, AV.one, setAt]
    obtain ⟨lv', t2, hap, hst, hlt, hK2', g5', hO2, hfr⟩ := box1_app hK' q5' (by omega) hO' (by decide) y 24 (by rw [List.length_take]; unfold roomBytes; omega)
    rw [← take_snoc hy] at hO2
    have g3' := hfr _ _ q3' (by omega) (own_ne hO' q3' (by rw [prC_sz]; simp))
    have hap : appV (t'.push (.row [.int .i64 y.1, .str y.2] true)) 2 24 lv (.sl t'.next 0 1 (some 1) 2) = some (lv', t2) := hap
    obtain ⟨c3, c3l⟩ := row1_lod g3'
    obtain ⟨c5, c5l⟩ := row1_lod g5'
    have hLv := lenV_read hO2.read
    rw [List.length_take, Nat.min_eq_left (by omega)] at hLv
    by_cases hlast : m ≤ ((i + 1 : Nat) : Int)
    · have z2 := eq_true hlast
      have hm1 : m.toNat = i + 1 := by omega
      simp (config := {contextual := true, maxDischargeDepth := 12, maxSteps := 4000000}) only [tb_at, he0, x3, x5, x14, b5, b5l, ap_build, fillP_nil, fillP_cons, fs0, fs1, hbs, hap, hst, hlt, c3, c3l, c5, c5l, hLv, z2, notV_bool, Bool.not_true, Bool.not_false, pickV_t, pickV_f, bin_eql, bin_neq, bin_neb, bin_npn, bin_np, bin_npnx, gcall_tt, gpure_tf, beq_self_eq_true, Bool.true_and, Bool.and_true, decide_true, decide_false, ↓bD, bU, forall_const, bS, implies_true, isNx, eq_self, ↓wp_cond, ↓wp_loop, ↓reduceIte, reduceCtorEq, Nat.reduceEqDiff, Nat.reduceLT, Nat.reduceAdd, Nat.reduceMul, bT, ↓sg_bsl, ↓st_callf, bX, ap_mkfn, ap_conv, ↓wi_seq, ↓wi_base, ↓wi_block, ↓wi_cond, ↓wi_loop, ↓wi_rf, ↓wy_seq, ↓wy_base, ↓wy_block, ↓wy_cond, ↓wy_loop, ↓wy_yld, ae_callvV, callvV_fn, List.append_nil, List.cons_append, List.nil_append, bin_nff, bin_nfn, bin_nffx, bin_nfnx, bin_streq]
      rw [hm1]
      first | exact ⟨hK2', _, rfl, hO2⟩ | exact ⟨hK2', hO2⟩ | exact ⟨_, rfl, hO2⟩
    · have z2 := eq_false hlast
      simp (config := {contextual := true, maxDischargeDepth := 12, maxSteps := 4000000}) only [tb_at, he0, x3, x5, x14, b5, b5l, ap_build, fillP_nil, fillP_cons, fs0, fs1, hbs, hap, hst, hlt, c3, c3l, c5, c5l, hLv, z2, notV_bool, Bool.not_true, Bool.not_false, pickV_t, pickV_f, bin_eql, bin_neq, bin_neb, bin_npn, bin_np, bin_npnx, gcall_tt, gpure_tf, beq_self_eq_true, Bool.true_and, Bool.and_true, decide_true, decide_false, ↓bD, bU, forall_const, bS, implies_true, isNx, eq_self, ↓wp_cond, ↓wp_loop, ↓reduceIte, reduceCtorEq, Nat.reduceEqDiff, Nat.reduceLT, Nat.reduceAdd, Nat.reduceMul, bT, ↓sg_bsl, ↓st_callf, bX, ap_mkfn, ap_conv, ↓wi_seq, ↓wi_base, ↓wi_block, ↓wi_cond, ↓wi_loop, ↓wi_rf, ↓wy_seq, ↓wy_base, ↓wy_block, ↓wy_cond, ↓wy_loop, ↓wy_yld, ae_callvV, callvV_fn, List.append_nil, List.cons_append, List.nil_append, bin_nff, bin_nfn, bin_nffx, bin_nfnx, bin_streq]
      exact ⟨hK2', by omega, g3', lv', g5', hO2⟩
  · obtain ⟨hK, hi, q3, lv, q5, hO⟩ := hJ
    obtain ⟨b5, b5l⟩ := row1_lod q5
    rw [List.take_length] at hO
    have : l.take m.toNat = l := List.take_of_length_le (by omega)
    simp (config := {contextual := true, maxDischargeDepth := 12, maxSteps := 4000000}) only [tb_at, he0, x3, x5, x14, b5, b5l, notV_bool, Bool.not_true, Bool.not_false, pickV_t, pickV_f, bin_eql, bin_neq, bin_neb, bin_npn, bin_np, bin_npnx, gcall_tt, gpure_tf, beq_self_eq_true, Bool.true_and, Bool.and_true, decide_true, decide_false, ↓bD, bU, forall_const, bS, implies_true, isNx, eq_self, ↓wp_cond, ↓wp_loop, ↓reduceIte, reduceCtorEq, Nat.reduceEqDiff, Nat.reduceLT, Nat.reduceAdd, Nat.reduceMul, bT, ↓sg_bsl, ↓st_callf, bX, ap_mkfn, ap_conv, ↓wi_seq, ↓wi_base, ↓wi_block, ↓wi_cond, ↓wi_loop, ↓wi_rf, ↓wy_seq, ↓wy_base, ↓wy_block, ↓wy_cond, ↓wy_loop, ↓wy_yld, ae_callvV, callvV_fn, List.append_nil, List.cons_append, List.nil_append, bin_nff, bin_nfn, bin_nffx, bin_nfnx, bin_streq]
    rw [this]
    first | exact ⟨hK, _, rfl, hO⟩ | exact ⟨hK, hO⟩ | exact ⟨_, rfl, hO⟩
theorem s_pairs : SoundAt Try.prog 16 (conF prC pPairs) :=
  con_freshI (tb_sound (l := []) (by simp)) mixed Try.func16 ki16 ci16 fun args s l e h => by
    unfold pPairs at h
    split at h
    · split at h
      · rename_i hb
        split at h
        · rename_i hr
          split at h
          · rename_i hl
            injection h with h
            obtain ⟨rfl, rfl⟩ := Prod.mk.inj h
            exact ⟨(fun x hx => by cases hx), by simp [ai16], a_pairs hb hr hl⟩
          · cases h
        · cases h
      · cases h
    · cases h
theorem q_pairs {s s0 : St} {f : AV} {l : List PrS} (h : ItR s0 s f l) (hl : l.length ≤ 10000) {m : Int} : ∃ v t, acall (conF prC pPairs) false [f, .int .i64 m] s = some (v, t) ∧ Own prC s t v (if m < 1 then [] else l.take m.toNat) ∧ Keep s t := by
  obtain ⟨b, w, rfl, h1, h2, h3, _⟩ := h
  have hp : pPairs [.fn 63 [.ptr b 0], .int .i64 m] { heap := s.heap, next := s.next, low := s.next } = some (if m < 1 then [] else l.take m.toNat, none) := by
    show (match s.get b with
      | some (.row [w] true) => match AM.read prC (lowd s) w with
        | some l => if l.length ≤ 10000 then some (if m < 1 then [] else l.take m.toNat, (none : Option AV)) else none
        | none => none
      | _ => none) = _
    rw [h2]
    simp only
    rw [read_low' h3.rd]
    simp only
    rw [if_pos hl]
  obtain ⟨v, t, q1, q2, q3⟩ := acall_fresh (D := prC) hp (fun x hx => by cases hx)
  exact ⟨v, t, q1, q3, q2⟩

end Go.AM
end
/-
  Ordered maps: New, the helpers of the statements, Copy. Own work of this project; in part printed by a program of it.
-/
section
set_option maxRecDepth 100000
set_option maxHeartbeats 8000000
namespace Go.AM
open Go Go.Proofs

variable {s t u : St}

theorem bin_bo_same (a : Bool) : binOp .eql .bo (.bool a) (.bool a) = some (.bool true) := by cases a <;> rfl
def pd (P : Option PrS) : PrS := P.getD (0, ⟨#[]⟩)
theorem atV_eq (P : Option PrS) : atV P = .tup [.int .i64 (pd P).1, .str (pd P).2, .bool P.isSome] := by cases P <;> rfl
theorem getV_eq (W : Option ByteArray) : getV W = .tup [.str (W.getD ⟨#[]⟩), .bool W.isSome] := by cases W <;> rfl
theorem emb_one {s t : St} (h : Keep s t) {cs : List AV} {j : Nat} (g1 : s.next ≤ j) (h1 : t.get j = some (.row cs true)) (hr : ∀ f : Nat → Nat, AV.rens f cs = cs) :
    ∃ f : Nat → Nat, f s.next = j ∧ Emb f s (s.lowed.push (.row cs true)) t := by
  have hn := h.next
  have hlow := h.low
  have hl1 := St.get_lt h1
  have e1 : (s.lowed.push (.row cs true)).next = s.next + 1 := rfl
  have e2 : ∀ id, (s.lowed.push (.row cs true)).get id = if id = s.next then some (.row cs true) else s.get id := fun id => by
    rw [St.get_push]
    rfl
  obtain ⟨f, hf⟩ : ∃ f : Nat → Nat, ∀ id, f id = if id < s.next then id else if id = s.next then j else t.next + id := ⟨_, fun _ => rfl⟩
  have fo : ∀ id, id < s.next → f id = id := fun id h => by rw [hf, if_pos h]
  have f0 : f s.next = j := by rw [hf, if_neg (by omega), if_pos rfl]
  have fb : ∀ id, s.next + 1 ≤ id → f id = t.next + id := fun id h => by rw [hf, if_neg (by omega), if_neg (by omega)]
  refine ⟨f, f0, ⟨by omega, hlow, fo, fun id hid => ?_, fun i k a b e => ?_, fun id b hb => ?_, fun id a b => ?_⟩⟩
  · rw [e1] at hid
    rw [fb id hid]
    omega
  · rw [e1] at a b
    rcases (by omega : i < s.next ∨ i = s.next) with q | q <;> rcases (by omega : k < s.next ∨ k = s.next) with r | r
    · rw [fo i q, fo k r] at e; exact e
    · rw [fo i q, r, f0] at e; omega
    · rw [fo k r, q, f0] at e; omega
    · omega
  · rw [e2] at hb
    split at hb
    · rename_i hid
      subst hid
      injection hb with hb
      subst hb
      refine .inr (.inl ?_)
      rw [f0, h1, AB.ren, hr f]
    · have hid := St.get_lt hb
      exact .inr (.inr ⟨hid, hb, h.blk hb⟩)
  · rw [e2, if_neg (by omega)]
noncomputable def R_New : Con := runFn (tb []) a36
theorem s_New : SoundAt Try.prog 36 R_New := run_sound (tb_sound (l := []) (by simp)) mixed Try.func36 k36 c36
theorem n_New : noNxtC a36.body = true := by kernel_rfl
theorem w_New {s : St} (d : Bool) : ∀ env : Env, elen env = a36.ntmps → (∀ i x_, [ordV d][i]? = some x_ → E env i = x_) → awp (tb []) a36.body (fun x e t => (∀ i, x ≠ .exit i) ∧ ∃ r, aresults e t a36.results = some r ∧ (∃ i, r = .ptr i 0 ∧ s.next ≤ i ∧ MpR t i none d []) ∧ Keep s t) env s := by
  intro env hlen ha
  have h0 : E env 0 = _ := ha 0 _ rfl
  have hlen : elen env = _ := hlen
  simp only [a36] at hlen
  unfold a36
  try dsimp only [oO, oG]
  have ho := ordV_one d
  have fs0 := fstep_bw0' (x := ordV d) ho .nilf .nils
  have hbx : boxV 2 (.agg [ordV d, .nils]) = some (fun id => .ptr id 0, .row [ordV d, .nils] true) := by cases d <;> rfl
  simp (config := {contextual := true, maxDischargeDepth := 12, maxSteps := 4000000}) only [tb_at, h0, hlen, bin_ord, ap_build, fillP_nil, fillP_cons, fs0, hbx, notV_bool, Bool.not_true, Bool.not_false, pickV_t, pickV_f, bin_eql, bin_neq, bin_neb, bin_npn, bin_np, bin_npnx, gcall_tt, gpure_tf, beq_self_eq_true, Bool.true_and, Bool.and_true, decide_true, decide_false, ↓bD, bU, forall_const, bS, implies_true, isNx, eq_self, ↓wp_cond, ↓wp_loop, ↓reduceIte, reduceCtorEq, Nat.reduceEqDiff, Nat.reduceLT, Nat.reduceAdd, Nat.reduceMul, bT, ↓sg_bsl, ↓st_callf, bX, ap_mkfn, ap_conv, ↓wi_seq, ↓wi_base, ↓wi_block, ↓wi_cond, ↓wi_loop, ↓wi_rf, ↓wy_seq, ↓wy_base, ↓wy_block, ↓wy_cond, ↓wy_loop, ↓wy_yld, ae_callvV, callvV_fn, List.append_nil, List.cons_append, List.nil_append, bin_nff, bin_nfn, bin_nffx, bin_nfnx, bin_streq, bin_bo_same]
  have hK1 : Keep s (s.push (.row [ordV d, .nils] true)) := (Keep.refl s).push _
  first | exact ⟨_, rfl, ⟨s.next, rfl, Nat.le_refl _, St.get_push_new s _, fun _ => rfl, (fun j e => by cases e), by simp⟩, hK1⟩ | exact ⟨_, rfl, s.next, rfl, Nat.le_refl _, St.get_push_new s _, fun _ => rfl, (fun j e => by cases e), by simp⟩
theorem q_New {s : St} (d : Bool) : ∃ i t, acall R_New false [ordV d] s = some (.ptr i 0, t) ∧ s.next ≤ i ∧ MpR t i none d [] ∧ Keep s t := by
  obtain ⟨r, t, h1, ⟨i, rfl, h2, h3⟩, h4⟩ := run_any (s := s) n_New (args := [ordV d]) (Q := fun r t => ∃ i, r = .ptr i 0 ∧ s.next ≤ i ∧ MpR t i none d []) (by simp [a36]) (fun r t t' hg hn ⟨i, e, h, h3⟩ => ⟨i, e, h, h3.mono fun id b hb => by rw [hg]; exact hb⟩) (fun r t hgr hk h => by
    obtain ⟨b, rfl, _⟩ := h
    cases hgr) (w_New (s := lowd s) d)
  exact ⟨i, t, h1, h2, h3, h4⟩
noncomputable def R_made : Con := runFn (tb [(36, R_New)]) a10
theorem s_made : SoundAt Try.prog 10 R_made := run_sound (tb_sound (l := [(36, R_New)]) (by simpa using s_New)) mixed Try.func10 k10 c10
theorem n_made : noNxtC a10.body = true := by kernel_rfl
theorem w_made {s : St} (d : Bool) : ∀ env : Env, elen env = a10.ntmps → (∀ i x_, [.bool d][i]? = some x_ → E env i = x_) → awp (tb [(36, R_New)]) a10.body (fun x e t => (∀ i, x ≠ .exit i) ∧ ∃ r, aresults e t a10.results = some r ∧ (∃ i, r = .ptr i 0 ∧ s.next ≤ i ∧ MpR t i none d []) ∧ Keep s t) env s := by
  intro env hlen ha
  have h0 : E env 0 = _ := ha 0 _ rfl
  have hlen : elen env = _ := hlen
  simp only [a10] at hlen
  unfold a10
  try dsimp only [oO, oG]
  obtain ⟨i, t1, q1, m1, m2, m3⟩ := q_New (s := s) d
  cases d
  · rw [ordV_f] at q1
    simp (config := {contextual := true, maxDischargeDepth := 12, maxSteps := 4000000}) only [tb_at, h0, hlen, q1, notV_bool, Bool.not_true, Bool.not_false, pickV_t, pickV_f, bin_eql, bin_neq, bin_neb, bin_npn, bin_np, bin_npnx, gcall_tt, gpure_tf, beq_self_eq_true, Bool.true_and, Bool.and_true, decide_true, decide_false, ↓bD, bU, forall_const, bS, implies_true, isNx, eq_self, ↓wp_cond, ↓wp_loop, ↓reduceIte, reduceCtorEq, Nat.reduceEqDiff, Nat.reduceLT, Nat.reduceAdd, Nat.reduceMul, bT, ↓sg_bsl, ↓st_callf, bX, ap_mkfn, ap_conv, ↓wi_seq, ↓wi_base, ↓wi_block, ↓wi_cond, ↓wi_loop, ↓wi_rf, ↓wy_seq, ↓wy_base, ↓wy_block, ↓wy_cond, ↓wy_loop, ↓wy_yld, ae_callvV, callvV_fn, List.append_nil, List.cons_append, List.nil_append, bin_nff, bin_nfn, bin_nffx, bin_nfnx, bin_streq, bin_bo_same]
    exact ⟨_, rfl, ⟨i, rfl, m1, m2⟩, m3⟩
  · rw [ordV_t] at q1
    simp (config := {contextual := true, maxDischargeDepth := 12, maxSteps := 4000000}) only [tb_at, h0, hlen, q1, notV_bool, Bool.not_true, Bool.not_false, pickV_t, pickV_f, bin_eql, bin_neq, bin_neb, bin_npn, bin_np, bin_npnx, gcall_tt, gpure_tf, beq_self_eq_true, Bool.true_and, Bool.and_true, decide_true, decide_false, ↓bD, bU, forall_const, bS, implies_true, isNx, eq_self, ↓wp_cond, ↓wp_loop, ↓reduceIte, reduceCtorEq, Nat.reduceEqDiff, Nat.reduceLT, Nat.reduceAdd, Nat.reduceMul, bT, ↓sg_bsl, ↓st_callf, bX, ap_mkfn, ap_conv, ↓wi_seq, ↓wi_base, ↓wi_block, ↓wi_cond, ↓wi_loop, ↓wi_rf, ↓wy_seq, ↓wy_base, ↓wy_block, ↓wy_cond, ↓wy_loop, ↓wy_yld, ae_callvV, callvV_fn, List.append_nil, List.cons_append, List.nil_append, bin_nff, bin_nfn, bin_nffx, bin_nfnx, bin_streq, bin_bo_same]
    exact ⟨_, rfl, ⟨i, rfl, m1, m2⟩, m3⟩
theorem q_made {s : St} (d : Bool) : ∃ i t, acall R_made false [.bool d] s = some (.ptr i 0, t) ∧ s.next ≤ i ∧ MpR t i none d [] ∧ Keep s t := by
  obtain ⟨r, t, h1, ⟨i, rfl, h2, h3⟩, h4⟩ := run_any (s := s) n_made (args := [.bool d]) (Q := fun r t => ∃ i, r = .ptr i 0 ∧ s.next ≤ i ∧ MpR t i none d []) (by simp [a10]) (fun r t t' hg hn ⟨i, e, h, h3⟩ => ⟨i, e, h, h3.mono fun id b hb => by rw [hg]; exact hb⟩) (fun r t hgr hk h => by
    obtain ⟨b, rfl, _⟩ := h
    cases hgr) (w_made (s := lowd s) d)
  exact ⟨i, t, h1, h2, h3, h4⟩
noncomputable def R_is : Con := runFn (tb []) a50
theorem s_is : SoundAt Try.prog 50 R_is := run_sound (tb_sound (l := []) (by simp)) mixed Try.func50 k50 c50
theorem n_is : noNxtC a50.body = true := by kernel_rfl
theorem w_is {s : St} (a : Int) (v : ByteArray) (b : Bool) : ∀ env : Env, elen env = a50.ntmps → (∀ i x_, [.int .i64 a, .str v, .bool b, .agg [.int .i64 a, .str v], .bool b][i]? = some x_ → E env i = x_) → awp (tb []) a50.body (fun x e t => (∀ i, x ≠ .exit i) ∧ aresults e t a50.results = some (.bool true) ∧ Keep s t) env s := by
  intro env hlen ha
  have h0 : E env 0 = _ := ha 0 _ rfl
  have h1 : E env 1 = _ := ha 1 _ rfl
  have h2 : E env 2 = _ := ha 2 _ rfl
  have h3 : E env 3 = _ := ha 3 _ rfl
  have h4 : E env 4 = _ := ha 4 _ rfl
  have hlen : elen env = _ := hlen
  simp only [a50] at hlen
  unfold a50
  try dsimp only [oO, oG]
  have hbx : boxV 2 (.agg [.int .i64 a, .str v]) = some (fun id => .ptr id 0, .row [.int .i64 a, .str v] true) := rfl
  have hK1 : Keep s (s.push (.row [.int .i64 a, .str v] true)) := (Keep.refl s).push _
  obtain ⟨b0, b1, blt⟩ := row2_lod (St.get_push_new s (.row [.int .i64 a, .str v] true))
  simp (config := {contextual := true, maxDischargeDepth := 12, maxSteps := 4000000}) only [tb_at, h0, h1, h2, h3, h4, hlen, hbx, b0, b1, blt, notV_bool, Bool.not_true, Bool.not_false, pickV_t, pickV_f, bin_eql, bin_neq, bin_neb, bin_npn, bin_np, bin_npnx, gcall_tt, gpure_tf, beq_self_eq_true, Bool.true_and, Bool.and_true, decide_true, decide_false, ↓bD, bU, forall_const, bS, implies_true, isNx, eq_self, ↓wp_cond, ↓wp_loop, ↓reduceIte, reduceCtorEq, Nat.reduceEqDiff, Nat.reduceLT, Nat.reduceAdd, Nat.reduceMul, bT, ↓sg_bsl, ↓st_callf, bX, ap_mkfn, ap_conv, ↓wi_seq, ↓wi_base, ↓wi_block, ↓wi_cond, ↓wi_loop, ↓wi_rf, ↓wy_seq, ↓wy_base, ↓wy_block, ↓wy_cond, ↓wy_loop, ↓wy_yld, ae_callvV, callvV_fn, List.append_nil, List.cons_append, List.nil_append, bin_nff, bin_nfn, bin_nffx, bin_nfnx, bin_streq, bin_bo_same]
  all_goals first | exact hK1 | skip
theorem q_is (cl : Bool) {s : St} (a : Int) (v : ByteArray) (b : Bool) : acall R_is cl [.int .i64 a, .str v, .bool b, .agg [.int .i64 a, .str v], .bool b] s = some (.bool true, s) := run_same n_is (by simp [a50]) rfl (w_is (s := lowd s) a v b)
noncomputable def R_gets : Con := runFn (tb [(51, R_Get)]) a28
theorem s_gets : SoundAt Try.prog 28 R_gets := run_sound (tb_sound (l := [(51, R_Get)]) (by simpa using s_Get)) mixed Try.func28 k28 c28
theorem n_gets : noNxtC a28.body = true := by kernel_rfl
theorem w_gets {s : St} {id : Nat} {q : Option Nat} {d : Bool} {L : List PrS} (hk : MpR s id q d L) (hs : SrtD d L) (k : Int) : ∀ env : Env, elen env = a28.ntmps → (∀ i x_, [.ptr id 0, .int .i64 k, .str ((gtD d L k).getD ⟨#[]⟩), .bool (gtD d L k).isSome][i]? = some x_ → E env i = x_) → awp (tb [(51, R_Get)]) a28.body (fun x e t => (∀ i, x ≠ .exit i) ∧ aresults e t a28.results = some (.bool true) ∧ Keep s t) env s := by
  intro env hlen ha
  have h0 : E env 0 = _ := ha 0 _ rfl
  have h1 : E env 1 = _ := ha 1 _ rfl
  have h2 : E env 2 = _ := ha 2 _ rfl
  have h3 : E env 3 = _ := ha 3 _ rfl
  have hlen : elen env = _ := hlen
  simp only [a28] at hlen
  unfold a28
  try dsimp only [oO, oG]
  have q1 := q_Get false hk hs k
  rw [getV_eq] at q1
  simp (config := {contextual := true, maxDischargeDepth := 12, maxSteps := 4000000}) only [tb_at, h0, h1, h2, h3, hlen, q1, notV_bool, Bool.not_true, Bool.not_false, pickV_t, pickV_f, bin_eql, bin_neq, bin_neb, bin_npn, bin_np, bin_npnx, gcall_tt, gpure_tf, beq_self_eq_true, Bool.true_and, Bool.and_true, decide_true, decide_false, ↓bD, bU, forall_const, bS, implies_true, isNx, eq_self, ↓wp_cond, ↓wp_loop, ↓reduceIte, reduceCtorEq, Nat.reduceEqDiff, Nat.reduceLT, Nat.reduceAdd, Nat.reduceMul, bT, ↓sg_bsl, ↓st_callf, bX, ap_mkfn, ap_conv, ↓wi_seq, ↓wi_base, ↓wi_block, ↓wi_cond, ↓wi_loop, ↓wi_rf, ↓wy_seq, ↓wy_base, ↓wy_block, ↓wy_cond, ↓wy_loop, ↓wy_yld, ae_callvV, callvV_fn, List.append_nil, List.cons_append, List.nil_append, bin_nff, bin_nfn, bin_nffx, bin_nfnx, bin_streq, bin_bo_same]
  all_goals first | exact .refl s | exact .refl _ | skip
theorem q_gets (cl : Bool) {s : St} {id : Nat} {q : Option Nat} {d : Bool} {L : List PrS} (hk : MpR s id q d L) (hs : SrtD d L) (k : Int) : acall R_gets cl [.ptr id 0, .int .i64 k, .str ((gtD d L k).getD ⟨#[]⟩), .bool (gtD d L k).isSome] s = some (.bool true, s) := run_same n_gets (by simp [a28]) rfl (w_gets (s := lowd s) hk.low hs k)
noncomputable def R_lat : Con := runFn (tb [(49, R_At), (50, R_is)]) a27
theorem s_lat : SoundAt Try.prog 27 R_lat := run_sound (tb_sound (l := [(49, R_At), (50, R_is)]) (by simpa using ⟨s_At, s_is⟩)) mixed Try.func27 k27 c27
theorem n_lat : noNxtC a27.body = true := by kernel_rfl
theorem w_lat {s : St} {id : Nat} {q : Option Nat} {d : Bool} {L : List PrS} (hk : MpR s id q d L) (n : Int) : ∀ env : Env, elen env = a27.ntmps → (∀ i x_, [.ptr id 0, .int .i64 n, .agg [.int .i64 (pd (atD L n)).1, .str (pd (atD L n)).2], .bool (atD L n).isSome][i]? = some x_ → E env i = x_) → awp (tb [(49, R_At), (50, R_is)]) a27.body (fun x e t => (∀ i, x ≠ .exit i) ∧ aresults e t a27.results = some (.bool true) ∧ Keep s t) env s := by
  intro env hlen ha
  have h0 : E env 0 = _ := ha 0 _ rfl
  have h1 : E env 1 = _ := ha 1 _ rfl
  have h2 : E env 2 = _ := ha 2 _ rfl
  have h3 : E env 3 = _ := ha 3 _ rfl
  have hlen : elen env = _ := hlen
  simp only [a27] at hlen
  unfold a27
  try dsimp only [oO, oG]
  have hbx : boxV 2 (.agg [.int .i64 (pd (atD L n)).1, .str (pd (atD L n)).2]) = some (fun id => .ptr id 0, .row [.int .i64 (pd (atD L n)).1, .str (pd (atD L n)).2] true) := rfl
  have hK1 : Keep s (s.push (.row [.int .i64 (pd (atD L n)).1, .str (pd (atD L n)).2] true)) := (Keep.refl s).push _
  have hg1 := St.get_push_new s (.row [.int .i64 (pd (atD L n)).1, .str (pd (atD L n)).2] true)
  have hk1 := hk.keep hK1
  have q1 := q_At false hk1 n
  rw [atV_eq] at q1
  have l2 : lod (s.push (.row [.int .i64 (pd (atD L n)).1, .str (pd (atD L n)).2] true)) 2 (.ptr s.next 0) = some (.agg [.int .i64 (pd (atD L n)).1, .str (pd (atD L n)).2]) := by simp [lod, hg1]
  have lt2 := St.get_lt hg1
  have q2 := q_is false (s := s.push (.row [.int .i64 (pd (atD L n)).1, .str (pd (atD L n)).2] true)) (pd (atD L n)).1 (pd (atD L n)).2 (atD L n).isSome
  simp (config := {contextual := true, maxDischargeDepth := 12, maxSteps := 4000000}) only [tb_at, h0, h1, h2, h3, hlen, hbx, q1, q2, l2, lt2, notV_bool, Bool.not_true, Bool.not_false, pickV_t, pickV_f, bin_eql, bin_neq, bin_neb, bin_npn, bin_np, bin_npnx, gcall_tt, gpure_tf, beq_self_eq_true, Bool.true_and, Bool.and_true, decide_true, decide_false, ↓bD, bU, forall_const, bS, implies_true, isNx, eq_self, ↓wp_cond, ↓wp_loop, ↓reduceIte, reduceCtorEq, Nat.reduceEqDiff, Nat.reduceLT, Nat.reduceAdd, Nat.reduceMul, bT, ↓sg_bsl, ↓st_callf, bX, ap_mkfn, ap_conv, ↓wi_seq, ↓wi_base, ↓wi_block, ↓wi_cond, ↓wi_loop, ↓wi_rf, ↓wy_seq, ↓wy_base, ↓wy_block, ↓wy_cond, ↓wy_loop, ↓wy_yld, ae_callvV, callvV_fn, List.append_nil, List.cons_append, List.nil_append, bin_nff, bin_nfn, bin_nffx, bin_nfnx, bin_streq, bin_bo_same]
  all_goals first | exact hK1 | skip
theorem q_lat (cl : Bool) {s : St} {id : Nat} {q : Option Nat} {d : Bool} {L : List PrS} (hk : MpR s id q d L) (n : Int) : acall R_lat cl [.ptr id 0, .int .i64 n, .agg [.int .i64 (pd (atD L n)).1, .str (pd (atD L n)).2], .bool (atD L n).isSome] s = some (.bool true, s) := run_same n_lat (by simp [a27]) rfl (w_lat (s := lowd s) hk.low n)
noncomputable def R_lfloor : Con := runFn (tb [(55, R_Floor), (50, R_is)]) a34
theorem s_lfloor : SoundAt Try.prog 34 R_lfloor := run_sound (tb_sound (l := [(55, R_Floor), (50, R_is)]) (by simpa using ⟨s_Floor, s_is⟩)) mixed Try.func34 k34 c34
theorem n_lfloor : noNxtC a34.body = true := by kernel_rfl
theorem w_lfloor {s : St} {id : Nat} {q : Option Nat} {d : Bool} {L : List PrS} (hk : MpR s id q d L) (hs : SrtD d L) (k : Int) : ∀ env : Env, elen env = a34.ntmps → (∀ i x_, [.ptr id 0, .int .i64 k, .agg [.int .i64 (pd (flD d L k)).1, .str (pd (flD d L k)).2], .bool (flD d L k).isSome][i]? = some x_ → E env i = x_) → awp (tb [(55, R_Floor), (50, R_is)]) a34.body (fun x e t => (∀ i, x ≠ .exit i) ∧ aresults e t a34.results = some (.bool true) ∧ Keep s t) env s := by
  intro env hlen ha
  have h0 : E env 0 = _ := ha 0 _ rfl
  have h1 : E env 1 = _ := ha 1 _ rfl
  have h2 : E env 2 = _ := ha 2 _ rfl
  have h3 : E env 3 = _ := ha 3 _ rfl
  have hlen : elen env = _ := hlen
  simp only [a34] at hlen
  unfold a34
  try dsimp only [oO, oG]
  have hbx : boxV 2 (.agg [.int .i64 (pd (flD d L k)).1, .str (pd (flD d L k)).2]) = some (fun id => .ptr id 0, .row [.int .i64 (pd (flD d L k)).1, .str (pd (flD d L k)).2] true) := rfl
  have hK1 : Keep s (s.push (.row [.int .i64 (pd (flD d L k)).1, .str (pd (flD d L k)).2] true)) := (Keep.refl s).push _
  have hg1 := St.get_push_new s (.row [.int .i64 (pd (flD d L k)).1, .str (pd (flD d L k)).2] true)
  have hk1 := hk.keep hK1
  have q1 := q_Floor false hk1 hs k
  rw [atV_eq] at q1
  have l2 : lod (s.push (.row [.int .i64 (pd (flD d L k)).1, .str (pd (flD d L k)).2] true)) 2 (.ptr s.next 0) = some (.agg [.int .i64 (pd (flD d L k)).1, .str (pd (flD d L k)).2]) := by simp [lod, hg1]
  have lt2 := St.get_lt hg1
  have q2 := q_is false (s := s.push (.row [.int .i64 (pd (flD d L k)).1, .str (pd (flD d L k)).2] true)) (pd (flD d L k)).1 (pd (flD d L k)).2 (flD d L k).isSome
  simp (config := {contextual := true, maxDischargeDepth := 12, maxSteps := 4000000}) only [tb_at, h0, h1, h2, h3, hlen, hbx, q1, q2, l2, lt2, notV_bool, Bool.not_true, Bool.not_false, pickV_t, pickV_f, bin_eql, bin_neq, bin_neb, bin_npn, bin_np, bin_npnx, gcall_tt, gpure_tf, beq_self_eq_true, Bool.true_and, Bool.and_true, decide_true, decide_false, ↓bD, bU, forall_const, bS, implies_true, isNx, eq_self, ↓wp_cond, ↓wp_loop, ↓reduceIte, reduceCtorEq, Nat.reduceEqDiff, Nat.reduceLT, Nat.reduceAdd, Nat.reduceMul, bT, ↓sg_bsl, ↓st_callf, bX, ap_mkfn, ap_conv, ↓wi_seq, ↓wi_base, ↓wi_block, ↓wi_cond, ↓wi_loop, ↓wi_rf, ↓wy_seq, ↓wy_base, ↓wy_block, ↓wy_cond, ↓wy_loop, ↓wy_yld, ae_callvV, callvV_fn, List.append_nil, List.cons_append, List.nil_append, bin_nff, bin_nfn, bin_nffx, bin_nfnx, bin_streq, bin_bo_same]
  all_goals first | exact hK1 | skip
theorem q_lfloor (cl : Bool) {s : St} {id : Nat} {q : Option Nat} {d : Bool} {L : List PrS} (hk : MpR s id q d L) (hs : SrtD d L) (k : Int) : acall R_lfloor cl [.ptr id 0, .int .i64 k, .agg [.int .i64 (pd (flD d L k)).1, .str (pd (flD d L k)).2], .bool (flD d L k).isSome] s = some (.bool true, s) := run_same n_lfloor (by simp [a34]) rfl (w_lfloor (s := lowd s) hk.low hs k)
noncomputable def R_lceil : Con := runFn (tb [(56, R_Ceil), (50, R_is)]) a35
theorem s_lceil : SoundAt Try.prog 35 R_lceil := run_sound (tb_sound (l := [(56, R_Ceil), (50, R_is)]) (by simpa using ⟨s_Ceil, s_is⟩)) mixed Try.func35 k35 c35
theorem n_lceil : noNxtC a35.body = true := by kernel_rfl
theorem w_lceil {s : St} {id : Nat} {q : Option Nat} {d : Bool} {L : List PrS} (hk : MpR s id q d L) (hs : SrtD d L) (k : Int) : ∀ env : Env, elen env = a35.ntmps → (∀ i x_, [.ptr id 0, .int .i64 k, .agg [.int .i64 (pd (ceD d L k)).1, .str (pd (ceD d L k)).2], .bool (ceD d L k).isSome][i]? = some x_ → E env i = x_) → awp (tb [(56, R_Ceil), (50, R_is)]) a35.body (fun x e t => (∀ i, x ≠ .exit i) ∧ aresults e t a35.results = some (.bool true) ∧ Keep s t) env s := by
  intro env hlen ha
  have h0 : E env 0 = _ := ha 0 _ rfl
  have h1 : E env 1 = _ := ha 1 _ rfl
  have h2 : E env 2 = _ := ha 2 _ rfl
  have h3 : E env 3 = _ := ha 3 _ rfl
  have hlen : elen env = _ := hlen
  simp only [a35] at hlen
  unfold a35
  try dsimp only [oO, oG]
  have hbx : boxV 2 (.agg [.int .i64 (pd (ceD d L k)).1, .str (pd (ceD d L k)).2]) = some (fun id => .ptr id 0, .row [.int .i64 (pd (ceD d L k)).1, .str (pd (ceD d L k)).2] true) := rfl
  have hK1 : Keep s (s.push (.row [.int .i64 (pd (ceD d L k)).1, .str (pd (ceD d L k)).2] true)) := (Keep.refl s).push _
  have hg1 := St.get_push_new s (.row [.int .i64 (pd (ceD d L k)).1, .str (pd (ceD d L k)).2] true)
  have hk1 := hk.keep hK1
  have q1 := q_Ceil false hk1 hs k
  rw [atV_eq] at q1
  have l2 : lod (s.push (.row [.int .i64 (pd (ceD d L k)).1, .str (pd (ceD d L k)).2] true)) 2 (.ptr s.next 0) = some (.agg [.int .i64 (pd (ceD d L k)).1, .str (pd (ceD d L k)).2]) := by simp [lod, hg1]
  have lt2 := St.get_lt hg1
  have q2 := q_is false (s := s.push (.row [.int .i64 (pd (ceD d L k)).1, .str (pd (ceD d L k)).2] true)) (pd (ceD d L k)).1 (pd (ceD d L k)).2 (ceD d L k).isSome
  simp (config := {contextual := true, maxDischargeDepth := 12, maxSteps := 4000000}) only [tb_at, h0, h1, h2, h3, hlen, hbx, q1, q2, l2, lt2, notV_bool, Bool.not_true, Bool.not_false, pickV_t, pickV_f, bin_eql, bin_neq, bin_neb, bin_npn, bin_np, bin_npnx, gcall_tt, gpure_tf, beq_self_eq_true, Bool.true_and, Bool.and_true, decide_true, decide_false, ↓bD, bU, forall_const, bS, implies_true, isNx, eq_self, ↓wp_cond, ↓wp_loop, ↓reduceIte, reduceCtorEq, Nat.reduceEqDiff, Nat.reduceLT, Nat.reduceAdd, Nat.reduceMul, bT, ↓sg_bsl, ↓st_callf, bX, ap_mkfn, ap_conv, ↓wi_seq, ↓wi_base, ↓wi_block, ↓wi_cond, ↓wi_loop, ↓wi_rf, ↓wy_seq, ↓wy_base, ↓wy_block, ↓wy_cond, ↓wy_loop, ↓wy_yld, ae_callvV, callvV_fn, List.append_nil, List.cons_append, List.nil_append, bin_nff, bin_nfn, bin_nffx, bin_nfnx, bin_streq, bin_bo_same]
  all_goals first | exact hK1 | skip
theorem q_lceil (cl : Bool) {s : St} {id : Nat} {q : Option Nat} {d : Bool} {L : List PrS} (hk : MpR s id q d L) (hs : SrtD d L) (k : Int) : acall R_lceil cl [.ptr id 0, .int .i64 k, .agg [.int .i64 (pd (ceD d L k)).1, .str (pd (ceD d L k)).2], .bool (ceD d L k).isSome] s = some (.bool true, s) := run_same n_lceil (by simp [a35]) rfl (w_lceil (s := lowd s) hk.low hs k)
noncomputable def R_sets : Con := runFn (tb [(11, R_Set)]) a30
theorem s_sets : SoundAt Try.prog 30 R_sets := run_sound (tb_sound (l := [(11, R_Set)]) (by simpa using s_Set)) mixed Try.func30 k30 c30
theorem n_sets : noNxtC a30.body = true := by kernel_rfl
theorem w_sets {s : St} {id : Nat} {q : Option Nat} {d : Bool} {L : List PrS} (hk : MpR s id q d L) (hs : SrtD d L) (k : Int) (v : ByteArray) (hn : L.length < 1000) : ∀ env : Env, elen env = a30.ntmps → (∀ i x_, [.ptr id 0, .int .i64 k, .str v, .str ((gtD d L k).getD ⟨#[]⟩), .bool (gtD d L k).isSome][i]? = some x_ → E env i = x_) → awp (tb [(11, R_Set)]) a30.body (fun x e t => (∀ i, x ≠ .exit i) ∧ ∃ r, aresults e t a30.results = some r ∧ (r = .bool true ∧ ∃ q', MpR t id q' d (putD d L k v) ∧ ∀ j, q' = some j → q = some j ∨ s.next ≤ j) ∧ Chg (id :: q.toList) s t ∧ (r.ground = false ∨ t.low < s.next)) env s := by
  intro env hlen ha
  have h0 : E env 0 = _ := ha 0 _ rfl
  have h1 : E env 1 = _ := ha 1 _ rfl
  have h2 : E env 2 = _ := ha 2 _ rfl
  have h3 : E env 3 = _ := ha 3 _ rfl
  have h4 : E env 4 = _ := ha 4 _ rfl
  have hlen : elen env = _ := hlen
  simp only [a30] at hlen
  unfold a30
  try dsimp only [oO, oG]
  obtain ⟨t1, q1, m1, m2, m3⟩ := q_Set hk hs k v hn
  rw [getV_eq] at q1
  simp (config := {contextual := true, maxDischargeDepth := 12, maxSteps := 4000000}) only [tb_at, h0, h1, h2, h3, h4, hlen, q1, notV_bool, Bool.not_true, Bool.not_false, pickV_t, pickV_f, bin_eql, bin_neq, bin_neb, bin_npn, bin_np, bin_npnx, gcall_tt, gpure_tf, beq_self_eq_true, Bool.true_and, Bool.and_true, decide_true, decide_false, ↓bD, bU, forall_const, bS, implies_true, isNx, eq_self, ↓wp_cond, ↓wp_loop, ↓reduceIte, reduceCtorEq, Nat.reduceEqDiff, Nat.reduceLT, Nat.reduceAdd, Nat.reduceMul, bT, ↓sg_bsl, ↓st_callf, bX, ap_mkfn, ap_conv, ↓wi_seq, ↓wi_base, ↓wi_block, ↓wi_cond, ↓wi_loop, ↓wi_rf, ↓wy_seq, ↓wy_base, ↓wy_block, ↓wy_cond, ↓wy_loop, ↓wy_yld, ae_callvV, callvV_fn, List.append_nil, List.cons_append, List.nil_append, bin_nff, bin_nfn, bin_nffx, bin_nfnx, bin_streq, bin_bo_same]
  first | exact ⟨_, rfl, ⟨rfl, m1⟩, m2, .inr m3⟩ | exact ⟨m1, m2, .inr m3⟩ | exact ⟨⟨rfl, m1⟩, m2, .inr m3⟩
theorem q_sets {s : St} {id : Nat} {q : Option Nat} {d : Bool} {L : List PrS} (hk : MpR s id q d L) (hs : SrtD d L) (k : Int) (v : ByteArray) (hn : L.length < 1000) : ∃ t, acall R_sets false [.ptr id 0, .int .i64 k, .str v, .str ((gtD d L k).getD ⟨#[]⟩), .bool (gtD d L k).isSome] s = some (.bool true, t) ∧ (∃ q', MpR t id q' d (putD d L k v) ∧ ∀ j, q' = some j → q = some j ∨ s.next ≤ j) ∧ Chg (id :: q.toList) s t ∧ t.low < s.next := by
  obtain ⟨r, t, h1, ⟨rfl, h2⟩, h3, h4⟩ := run_newl n_sets (by simp [a30]) (Q := fun r t => r = .bool true ∧ ∃ q', MpR t id q' d (putD d L k v) ∧ ∀ j, q' = some j → q = some j ∨ s.next ≤ j) (fun r t t' hg hn hq => by
    have hmono : ∀ id b, t.get id = some b → t'.get id = some b := fun id b hb => by rw [hg]; exact hb
    obtain ⟨q1, q', q2, q3⟩ := hq
    exact ⟨q1, q', q2.mono hmono, q3⟩) (w_sets (s := lowd s) hk.low hs k v hn)
  exact ⟨t, h1, h2, h3, h4.resolve_left (by first | (intro h; cases h; done) | (cases gtD d L k <;> (intro h; cases h)))⟩
end Go.AM
end
/-
  Ordered maps: Copy. Own work of this project; in part printed by a program of it.
-/
section
set_option maxRecDepth 100000
set_option maxHeartbeats 8000000
namespace Go.AM
open Go Go.Proofs

variable {s t u : St}

variable {id : Nat} {q : Option Nat} {d : Bool} {L : List PrS}
theorem SrtD.take (h : SrtD d L) (i : Nat) : SrtD d (L.take i) := List.Pairwise.sublist (List.take_sublist i L) h
theorem put_end (h : SrtD d L) {i : Nat} {y : PrS} (hy : L[i]? = some y) : putD d (L.take i) y.1 y.2 = L.take (i + 1) := by
  have hi := getlt hy
  have hlen : (L.take i).length = i := by rw [List.length_take]; omega
  have hrk : rkD d (L.take i) y.1 = i := rk_eq (by omega) (fun j z hj hz => by
    rw [List.getElem?_take_of_lt hj] at hz
    exact h.lt hz hy hj) (fun z hz => by
    have := getlt hz
    omega)
  have hg : gtD d (L.take i) y.1 = none := by
    unfold gtD
    rw [hrk, List.getElem?_eq_none (by omega)]
  unfold putD
  rw [hg, hrk, List.take_of_length_le (by omega), take_snoc hy]
  simp only [Option.isSome_none, Bool.false_eq_true, if_false]
  rw [List.drop_eq_nil_of_le (by omega)]
theorem ord_inj {a b : Bool} (h : ordV a = ordV b) : a = b := by
  cases a <;> cases b <;> first | rfl | (simp [ordV] at h)
theorem mp_uniq {q' : Option Nat} {d' : Bool} {L' : List PrS} (h : MpR t id q d L) (k : MpR t id q' d' L') : d = d' ∧ L = L' := by
  have h1 := h.box
  rw [k.box] at h1
  injection h1 with h1
  injection h1 with h1 _
  injection h1 with h1 h2
  injection h2 with h2 _
  refine ⟨(ord_inj h1).symm, ?_⟩
  have h3 := h.rd
  rw [← h2, k.rd] at h3
  injection h3 with h3
  exact h3.symm
theorem emb_two' {s t : St} (h : Keep s t) {cs1 : List AV} {cs2 : Nat → List AV} {j1 j2 : Nat} (hne : j1 ≠ j2) (g1 : s.next ≤ j1) (g2 : s.next ≤ j2) (h1 : t.get j1 = some (.row cs1 true)) (hp : cs1.all AV.plain = true) (h2 : t.get j2 = some (.row (cs2 j1) true)) (hr : ∀ f : Nat → Nat, f s.next = j1 → AV.rens f (cs2 s.next) = cs2 j1) :
    ∃ f : Nat → Nat, f s.next = j1 ∧ f (s.next + 1) = j2 ∧ Emb f s ((s.lowed.push (.row cs1 true)).push (.row (cs2 s.next) true)) t := by
  have hn := h.next
  have hlow := h.low
  have hl1 := St.get_lt h1
  have hl2 := St.get_lt h2
  have e1 : ((s.lowed.push (.row cs1 true)).push (.row (cs2 s.next) true)).next = s.next + 2 := rfl
  have e2 : ∀ id, ((s.lowed.push (.row cs1 true)).push (.row (cs2 s.next) true)).get id = if id = s.next + 1 then some (.row (cs2 s.next) true) else if id = s.next then some (.row cs1 true) else s.get id := fun id => by
    rw [St.get_push, St.get_push]
    rfl
  obtain ⟨f, hf⟩ : ∃ f : Nat → Nat, ∀ id, f id = if id < s.next then id else if id = s.next then j1 else if id = s.next + 1 then j2 else t.next + id := ⟨_, fun _ => rfl⟩
  have fo : ∀ id, id < s.next → f id = id := fun id h => by rw [hf, if_pos h]
  have f0 : f s.next = j1 := by rw [hf, if_neg (by omega), if_pos rfl]
  have f1 : f (s.next + 1) = j2 := by rw [hf, if_neg (by omega), if_neg (by omega), if_pos rfl]
  have fb : ∀ id, s.next + 2 ≤ id → f id = t.next + id := fun id h => by rw [hf, if_neg (by omega), if_neg (by omega), if_neg (by omega)]
  refine ⟨f, f0, f1, ⟨by omega, hlow, fo, fun id hid => ?_, fun i k a b e => ?_, fun id b hb => ?_, fun id a b => ?_⟩⟩
  · rw [e1] at hid
    rw [fb id hid]
    omega
  · rw [e1] at a b
    have cases3 : ∀ x, x < s.next + 2 → x < s.next ∨ x = s.next ∨ x = s.next + 1 := fun x hx => by omega
    rcases cases3 i a with q | q | q <;> rcases cases3 k b with r | r | r
    · rw [fo i q, fo k r] at e; exact e
    · rw [fo i q, r, f0] at e; omega
    · rw [fo i q, r, f1] at e; omega
    · rw [fo k r, q, f0] at e; omega
    · omega
    · rw [q, r, f0, f1] at e; exact absurd e hne
    · rw [fo k r, q, f1] at e; omega
    · rw [q, r, f0, f1] at e; exact absurd e.symm hne
    · omega
  · rw [e2] at hb
    split at hb
    · rename_i hid
      subst hid
      injection hb with hb
      subst hb
      refine .inr (.inl ?_)
      rw [f1, h2, AB.ren, hr f f0]
    · split at hb
      · rename_i hid
        subst hid
        injection hb with hb
        subst hb
        refine .inr (.inl ?_)
        rw [f0, h1, AB.ren, plains_rens _ hp]
      · have hid := St.get_lt hb
        exact .inr (.inr ⟨hid, hb, h.blk hb⟩)
  · rw [e2, if_neg (by omega), if_neg (by omega)]
theorem atomsG (W : Option ByteArray) : ∃ a b, getV W = .tup [a, b] := by cases W <;> exact ⟨_, _, rfl⟩
open Classical in
noncomputable def mapOf (s : St) (p : AV) : Option (Bool × List PrS) := if h : ∃ D : Bool × List PrS, ∃ id q, p = .ptr id 0 ∧ MpR s id q D.1 D.2 ∧ SrtD D.1 D.2 ∧ D.2.length < 1000 then some (Classical.choose h) else none
theorem mapOf_some {p : AV} {D : Bool × List PrS} (h : mapOf s p = some D) : ∃ id q, p = .ptr id 0 ∧ MpR s id q D.1 D.2 ∧ SrtD D.1 D.2 ∧ D.2.length < 1000 := by
  unfold mapOf at h
  split at h
  · rename_i hx
    injection h with h
    subst h
    exact Classical.choose_spec hx
  · cases h
theorem mapOf_of (h : MpR s id q d L) (hs : SrtD d L) (hn : L.length < 1000) : mapOf s (.ptr id 0) = some (d, L) := by
  have hx : ∃ D : Bool × List PrS, ∃ i q, AV.ptr id 0 = .ptr i 0 ∧ MpR s i q D.1 D.2 ∧ SrtD D.1 D.2 ∧ D.2.length < 1000 := ⟨(d, L), id, q, rfl, h, hs, hn⟩
  unfold mapOf
  rw [dif_pos hx]
  obtain ⟨i, q', e, k, _⟩ := Classical.choose_spec hx
  injection e with e _
  subst e
  obtain ⟨e1, e2⟩ := mp_uniq h k
  rw [e1, e2]
open Classical in
noncomputable def cCopy : Con := fun xs s => match xs with
  | [p] => if ZkM s p then some (.nilp, s.lowed) else match mapOf s p with
    | some D => if D.2 = [] then some (.ptr s.next 0, s.lowed.push (.row [ordV D.1, .nils] true)) else some (.ptr (s.next + 1) 0, (s.lowed.push (.row (prC.cells D.2) true)).push (.row [ordV D.1, .sl s.next 0 D.2.length none 2] true))
    | none => none
  | _ => none
theorem a_Copy_z {s : St} {p : AV} (hz : ZkM s p) : ∀ env : Env, elen env = ai32.ntmps → (∀ i x_, [p][i]? = some x_ → E env i = x_) → awpI (tb [(39, R_zero), (36, R_New), (13, R_All), (11, R_Set)]) ai32.body (fun x e t => (∀ i, x ≠ .exit i) ∧ aresults e t ai32.results = some .nilp ∧ Keep s t) env s := by
  intro env hlen ha
  have h0 : E env 0 = _ := ha 0 _ rfl
  have hlen : elen env = _ := hlen
  simp only [ai32] at hlen
  unfold ai32
  try dsimp only [oO, oG]
  have q1 := q_zero_z false hz
  simp (config := {contextual := true, maxDischargeDepth := 12, maxSteps := 4000000}) only [tb_at, h0, hlen, q1, notV_bool, Bool.not_true, Bool.not_false, pickV_t, pickV_f, bin_eql, bin_neq, bin_neb, bin_npn, bin_np, bin_npnx, gcall_tt, gpure_tf, beq_self_eq_true, Bool.true_and, Bool.and_true, decide_true, decide_false, ↓bD, bU, forall_const, bS, implies_true, isNx, eq_self, ↓wp_cond, ↓wp_loop, ↓reduceIte, reduceCtorEq, Nat.reduceEqDiff, Nat.reduceLT, Nat.reduceAdd, Nat.reduceMul, bT, ↓sg_bsl, ↓st_callf, bX, ap_mkfn, ap_conv, ↓wi_seq, ↓wi_base, ↓wi_block, ↓wi_cond, ↓wi_loop, ↓wi_rf, ↓wy_seq, ↓wy_base, ↓wy_block, ↓wy_cond, ↓wy_loop, ↓wy_yld, ae_callvV, callvV_fn, List.append_nil, List.cons_append, List.nil_append, bin_nff, bin_nfn, bin_nffx, bin_nfnx, bin_streq, bin_bo_same]
  all_goals first | exact .refl s | exact .refl _ | skip
theorem a_Copy {s : St} {id : Nat} {q : Option Nat} {d : Bool} {L : List PrS} (hk : MpR s id q d L) (hs : SrtD d L) (hn : L.length < 1000) : ∀ env : Env, elen env = ai32.ntmps → (∀ i x_, [.ptr id 0][i]? = some x_ → E env i = x_) → awpI (tb [(39, R_zero), (36, R_New), (13, R_All), (11, R_Set)]) ai32.body (fun x e t => (∀ i, x ≠ .exit i) ∧ Keep s t ∧ ∃ i q', aresults e t ai32.results = some (.ptr i 0) ∧ s.next ≤ i ∧ (∀ j, q' = some j → s.next ≤ j) ∧ MpR t i q' d L ∧ (L = [] → q' = none)) env s := by
  intro env hlen ha
  have h0 : E env 0 = _ := ha 0 _ rfl
  have hlen : elen env = _ := hlen
  simp only [ai32] at hlen
  unfold ai32
  try dsimp only [oO, oG]
  have q1 := q_zero false hk.box
  obtain ⟨b0, b1, blt⟩ := row2_lod hk.box
  obtain ⟨i, t1, q2, m1, m2, m3⟩ := q_New (s := s) d
  have g3 := St.get_push_new t1 (.row [.nilp] true)
  have st1 := row1_sto g3 (x := .ptr i 0) ⟨rfl, rfl⟩
  have lt1 := St.get_lt g3
  have hK3 : Keep s ((t1.push (.row [.nilp] true)).put t1.next (.row [.ptr i 0] true)) := (m3.push _).put _ m3.next lt1
  have hil := St.get_lt m2.box
  have hM3 : MpR ((t1.push (.row [.nilp] true)).put t1.next (.row [.ptr i 0] true)) i none d [] := m2.mono fun j b hb => by
    rw [St.get_put_ne _ _ lt1 (by have := St.get_lt hb; omega)]
    exact get_push_some _ hb
  have g3' : ((t1.push (.row [.nilp] true)).put t1.next (.row [.ptr i 0] true)).get t1.next = some (.row [.ptr i 0] true) := St.get_put_same g3
  obtain ⟨nb, hnb⟩ : ∃ nb, nb = t1.next := ⟨_, rfl⟩
  obtain ⟨t2, ht2⟩ : ∃ t2, t2 = (t1.push (.row [.nilp] true)).put t1.next (.row [.ptr i 0] true) := ⟨_, rfl⟩
  rw [← ht2] at st1 hK3 hM3 g3'
  obtain ⟨w, t3, q4, hI, hK4⟩ := q_All (hk.keep hK3)
  simp (config := {contextual := true, maxDischargeDepth := 12, maxSteps := 4000000}) only [tb_at, h0, hlen, q1, b0, blt, nchkV_ptr, q2, st1, lt1, q4, notV_bool, Bool.not_true, Bool.not_false, pickV_t, pickV_f, bin_eql, bin_neq, bin_neb, bin_npn, bin_np, bin_npnx, gcall_tt, gpure_tf, beq_self_eq_true, Bool.true_and, Bool.and_true, decide_true, decide_false, ↓bD, bU, forall_const, bS, implies_true, isNx, eq_self, ↓wp_cond, ↓wp_loop, ↓reduceIte, reduceCtorEq, Nat.reduceEqDiff, Nat.reduceLT, Nat.reduceAdd, Nat.reduceMul, bT, ↓sg_bsl, ↓st_callf, bX, ap_mkfn, ap_conv, ↓wi_seq, ↓wi_base, ↓wi_block, ↓wi_cond, ↓wi_loop, ↓wi_rf, ↓wy_seq, ↓wy_base, ↓wy_block, ↓wy_cond, ↓wy_loop, ↓wy_yld, ae_callvV, callvV_fn, List.append_nil, List.cons_append, List.nil_append, bin_nff, bin_nfn, bin_nffx, bin_nfnx, bin_streq, bin_bo_same]
  obtain ⟨b, w0, rfl, hb0, hb1, hw, _⟩ := hI
  rw [← hnb] at g3' hil
  refine rf_gen (fun e => elen e = 22 ∧ E e 3 = .ptr nb 0 ∧ E e 14 = .fn 63 [.ptr b 0]) ⟨(by simp only [bE, Nat.reduceEqDiff, bN, Nat.reduceLT, hlen, h0, hnb]; try rfl), (by simp only [bE, Nat.reduceEqDiff, bN, Nat.reduceLT, hlen, h0, hnb]; try rfl), (by simp only [bE, Nat.reduceEqDiff, bN, Nat.reduceLT, hlen, h0, hnb]; try rfl)⟩ ?_
  clear h0 ha hlen
  rintro e0 ⟨he0, x3, x14⟩
  have hK5 := hK3.trans hK4
  have hb0' := hK3.next
  refine rf_over (by rw [aev_t]; exact x14) (by omega) hb1 (fun n t => Keep s t ∧ AM.read prC t w0 = some L ∧ t.get nb = some (.row [.ptr i 0] true) ∧ ∃ q', MpR t i q' d (L.take n) ∧ (∀ j, q' = some j → s.next ≤ j ∧ j ≠ nb ∧ (∀ c m, w0 ≠ .sl j 0 m c 2)) ∧ (n = 0 → q' = none)) ⟨hK5, hw.rd, hK4.blk g3', none, hM3.keep hK4, (fun j e => by cases e), fun _ => rfl⟩ (fun n t h => h.2.1) (fun n y t t' hJ hy hKt => ?_) (fun t hJ => ?_)
  · obtain ⟨hK, hrd, hg, q', hM, hq, _⟩ := hJ
    have hset : ∀ a c, setPs e0 [15, 16] [a, c] = pE (pE e0 (some 15) a) (some 16) c := fun a c => by unfold pE; rfl
    rw [hset]
    have hg' := hKt.blk hg
    obtain ⟨c3, c3l⟩ := row1_lod hg'
    obtain ⟨t5, q5, ⟨q'', hM5, hq5⟩, hC5, hl5⟩ := q_Set (hM.keep hKt) (hs.take n) y.1 y.2 (by rw [List.length_take]; omega)
    rw [put_end hs hy] at hM5
    obtain ⟨r1, r2, r3⟩ := atomsG (gtD d (L.take n) y.1)
    rw [r3] at q5
    simp (config := {contextual := true, maxDischargeDepth := 12, maxSteps := 4000000}) only [tb_at, he0, x3, x14, c3, c3l, q5, notV_bool, Bool.not_true, Bool.not_false, pickV_t, pickV_f, bin_eql, bin_neq, bin_neb, bin_npn, bin_np, bin_npnx, gcall_tt, gpure_tf, beq_self_eq_true, Bool.true_and, Bool.and_true, decide_true, decide_false, ↓bD, bU, forall_const, bS, implies_true, isNx, eq_self, ↓wp_cond, ↓wp_loop, ↓reduceIte, reduceCtorEq, Nat.reduceEqDiff, Nat.reduceLT, Nat.reduceAdd, Nat.reduceMul, bT, ↓sg_bsl, ↓st_callf, bX, ap_mkfn, ap_conv, ↓wi_seq, ↓wi_base, ↓wi_block, ↓wi_cond, ↓wi_loop, ↓wi_rf, ↓wy_seq, ↓wy_base, ↓wy_block, ↓wy_cond, ↓wy_loop, ↓wy_yld, ae_callvV, callvV_fn, List.append_nil, List.cons_append, List.nil_append, bin_nff, bin_nfn, bin_nffx, bin_nfnx, bin_streq, bin_bo_same]
    have hnbi : nb ≠ i := by omega
    have hnq : ∀ j, q' = some j → j ≠ nb := fun j e => (hq j e).2.1
    have hnM : nb ∉ i :: q'.toList := by
      cases q' with
      | none => simp [hnbi]
      | some j => simp [hnbi, Ne.symm (hnq j rfl)]
    have hw0 : ∀ k m c, w0 = .sl k 0 m c 2 → k ∉ i :: q'.toList := fun k m c e => by
      have hki : k ≠ i := by
        rintro rfl
        rcases hw with ⟨e', _⟩ | ⟨j, cap, e', h1, _⟩
        · rw [e'] at e; cases e
        · rw [e'] at e
          injection e with e
          have : nb < t2.next := by rw [ht2, hnb]; simp
          omega
      cases q' with
      | none => simp [hki]
      | some j =>
        have : k ≠ j := by
          rintro rfl
          exact (hq k rfl).2.2 c m e
        simp [hki, this]
    refine ⟨?_, ?_, hC5.blk hg' hnM, q'', hM5, fun j e => ?_, fun e => by first | omega | exact e.elim | cases e⟩
    · refine (hK.trans hKt).chgn hC5 fun k hk' => ?_
      rcases List.mem_cons.1 hk' with rfl | hk'
      · omega
      · cases q' with
        | none => simp at hk'
        | some j =>
          simp at hk'
          subst hk'
          exact (hq k rfl).1
    · have hrd' := hKt.read hrd
      rcases hw with ⟨e', e''⟩ | ⟨j, cap, e', h1, h2⟩
      · rw [e', e'']; rfl
      · rw [e'] at hrd' ⊢
        obtain ⟨_, _, cs, own, hgj, k1, k2, _⟩ := read_sl hrd'
        exact read_of rfl (hC5.blk hgj (hw0 j _ _ e')) k1 k2
    · rcases hq5 j e with e' | e'
      · exact hq j e'
      · have hKn := (hK.trans hKt).next
        have h7 := St.get_lt hg'
        refine ⟨by omega, by omega, fun c m e2 => ?_⟩
        rw [e2] at hrd
        obtain ⟨_, _, cs, own, hgj, _⟩ := read_sl hrd
        have := St.get_lt hgj
        have := hKt.next
        omega
  · obtain ⟨hK, hrd, hg, q', hM, hq, h0q⟩ := hJ
    rw [List.take_length] at hM
    obtain ⟨c3, c3l⟩ := row1_lod hg
    simp (config := {contextual := true, maxDischargeDepth := 12, maxSteps := 4000000}) only [tb_at, he0, x3, x14, c3, c3l, notV_bool, Bool.not_true, Bool.not_false, pickV_t, pickV_f, bin_eql, bin_neq, bin_neb, bin_npn, bin_np, bin_npnx, gcall_tt, gpure_tf, beq_self_eq_true, Bool.true_and, Bool.and_true, decide_true, decide_false, ↓bD, bU, forall_const, bS, implies_true, isNx, eq_self, ↓wp_cond, ↓wp_loop, ↓reduceIte, reduceCtorEq, Nat.reduceEqDiff, Nat.reduceLT, Nat.reduceAdd, Nat.reduceMul, bT, ↓sg_bsl, ↓st_callf, bX, ap_mkfn, ap_conv, ↓wi_seq, ↓wi_base, ↓wi_block, ↓wi_cond, ↓wi_loop, ↓wi_rf, ↓wy_seq, ↓wy_base, ↓wy_block, ↓wy_cond, ↓wy_loop, ↓wy_yld, ae_callvV, callvV_fn, List.append_nil, List.cons_append, List.nil_append, bin_nff, bin_nfn, bin_nffx, bin_nfnx, bin_streq, bin_bo_same]
    exact ⟨hK, i, q', rfl, m1, (fun j e => (hq j e).1), hM, fun e => h0q (by rw [e]; rfl)⟩
theorem s_Copy : SoundAt Try.prog 32 cCopy :=
  con_soundI (tb_sound (l := [(39, R_zero), (36, R_New), (13, R_All), (11, R_Set)]) (by simpa using ⟨s_zero, s_New, s_All, s_Set⟩)) mixed Try.func32 ki32 ci32 fun args s r s' h => by
    have hnl : ∀ x : AV, [x].length ≤ ai32.ntmps := fun _ => by simp [ai32]
    unfold cCopy at h
    split at h
    · rename_i p
      split at h
      · rename_i hz
        injection h with h
        obtain ⟨rfl, rfl⟩ := Prod.mk.inj h
        refine ⟨gk_lowed s, start_env (hnl _) fun env h1 h2 => awpI_mono _ (fun x e t k => ?_) (a_Copy_z hz env h1 h2)⟩
        obtain ⟨f, _, hf⟩ := emb_keep k.2.2
        exact ⟨k.1, f, k.2.1, hf⟩
      · split at h
        · rename_i D hD
          obtain ⟨d, L⟩ := D
          obtain ⟨id, q, rfl, hk, hs, hn⟩ := mapOf_some hD
          simp only at h hk hs hn
          split at h
          · rename_i hL
            subst hL
            injection h with h
            obtain ⟨rfl, rfl⟩ := Prod.mk.inj h
            refine ⟨gk_push (gk_lowed s) _, start_env (hnl _) fun env h1 h2 => awpI_mono _ (fun x e t k => ?_) (a_Copy hk hs hn env h1 h2)⟩
            obtain ⟨k1, hK, i, q', k2, k3, _, k4, k5⟩ := k
            obtain rfl := k5 rfl
            have hb := k4.box
            obtain ⟨f, f0, hf⟩ := emb_one hK k3 hb (fun f => by cases d <;> simp [ordV, mpV, AV.ren, AV.rens])
            exact ⟨k1, f, by rw [k2]; simp [AV.ren, f0], hf⟩
          · rename_i hL
            injection h with h
            obtain ⟨rfl, rfl⟩ := Prod.mk.inj h
            refine ⟨gk_push (gk_push (gk_lowed s) _) _, start_env (hnl _) fun env h1 h2 => awpI_mono _ (fun x e t k => ?_) (a_Copy hk hs hn env h1 h2)⟩
            obtain ⟨k1, hK, i, q', k2, k3, k3', k4, _⟩ := k
            cases q' with
            | none => exact absurd (k4.nol rfl) hL
            | some j =>
              obtain ⟨hne, hd⟩ := k4.dat j rfl
              obtain ⟨f, f0, f1, hE⟩ := emb_two' hK (cs2 := fun j => [ordV d, .sl j 0 L.length none 2]) hne (k3' j rfl) k3 hd (cells_plain prC L) k4.box (fun f hf => by cases d <;> simp [ordV, AV.ren, AV.rens, hf])
              exact ⟨k1, f, by rw [k2]; simp [AV.ren, f1], hE⟩
        · cases h
    · cases h
theorem q_Copy (hk : MpR s id q d L) (hs : SrtD d L) (hn : L.length < 1000) : ∃ i q' t, acall cCopy false [.ptr id 0] s = some (.ptr i 0, t) ∧ MpR t i q' d L ∧ s.next ≤ i ∧ (∀ j, q' = some j → s.next ≤ j) ∧ Keep s t := by
  have hz : ¬ ZkM (lowd s) (.ptr id 0) := by
    rintro (h | ⟨i, own, v, e, h⟩)
    · cases h
    · injection e with e _
      subst e
      have := hk.low.box
      rw [h] at this
      injection this with this
      injection this with this _
      injection this with this _
      cases d <;> cases this
  have hD := mapOf_of hk.low hs hn
  by_cases hL : L = []
  · subst hL
    have e : cCopy [.ptr id 0] (lowd s) = some (.ptr s.next 0, (lowd s).lowed.push (.row [ordV d, .nils] true)) := by
      simp only [cCopy, if_neg hz, hD, if_true]
    obtain ⟨t', g1, g2, g3, g4⟩ := acall_new e (((keep_lowed (lowd s)).push _).chg []) (.inl rfl)
    exact ⟨s.next, none, t', g1, ⟨by rw [g2]; exact St.get_push_new (lowd s).lowed _, fun _ => rfl, (fun j e => by cases e), by simp⟩, Nat.le_refl _, (fun j e => by cases e), g4.keep⟩
  · have e : cCopy [.ptr id 0] (lowd s) = some (.ptr (s.next + 1) 0, ((lowd s).lowed.push (.row (prC.cells L) true)).push (.row [ordV d, .sl s.next 0 L.length none 2] true)) := by
      simp only [cCopy, if_neg hz, hD, if_neg hL] <;> rfl
    obtain ⟨t', g1, g2, g3, g4⟩ := acall_new e ((((keep_lowed (lowd s)).push _).push _).chg []) (.inl rfl)
    refine ⟨s.next + 1, some s.next, t', g1, ⟨?_, (fun e => by cases e), fun j e => ?_, by omega⟩, by omega, fun j e => by injection e with e; omega, g4.keep⟩
    · rw [g2]
      exact St.get_push_new ((lowd s).lowed.push (.row (prC.cells L) true)) _
    · injection e with e
      subst e
      refine ⟨by omega, ?_⟩
      rw [g2]
      exact get_push_some _ (St.get_push_new (lowd s).lowed _)
end Go.AM
end
/-
  Ordered maps: the reference. Own work of this project; in part printed by a program of it.
-/
section
set_option maxRecDepth 100000
set_option maxHeartbeats 8000000
namespace Go.AM
open Go Go.Proofs

variable {s t u : St}

def oldA (base : Nat) : AV → Bool
  | .ptr id _ => decide (id < base)
  | _ => false
def lstep (base : Nat) (a : AV) (o : Option AV) (K : AV → Prop) : Prop := match o with
  | some v => oldA base a = true ∧ K v
  | none => False
@[congr] theorem lstep_congr {base : Nat} {a a' : AV} {o o' : Option AV} (ha : a = a') (h : o = o') (K : AV → Prop) : lstep base a o K = lstep base a' o' K := by rw [ha, h]
theorem lstep_some {base : Nat} {a : AV} (h : oldA base a = true) (v : AV) (K : AV → Prop) : lstep base a (some v) K = K v := by simp [lstep, h]
theorem oldA_lt {base id o : Nat} (h : id < base) : oldA base (.ptr id o) = true := by simp [oldA, h]
theorem st_loadnf {call : Nat → List AV → St → Option (AV × St)} {base : Nat} {d r : Option Nat} {rest : List AOper} {Q : Env → St → Prop} {env : Env} {s : St} (n : Nat) (x : AO) : awops call base (⟨d, .loadn n x, none, r, true⟩ :: rest) Q env s = lstep base (aev env x) (aread call env s (.loadn n x)) fun v => awops call base rest Q (pE env d v) s := by
  rw [awops_cons (by simp)]
  have h1 : aalloc env (.loadn n x) = none := rfl
  have h2 : apure env (.loadn n x) = none := rfl
  have h3 : ∀ s, aeff call env s (.loadn n x) = none := fun _ => rfl
  have h4 : oldLoad base env (.loadn n x) = oldA base (aev env x) := by
    show (match aev env x with | .ptr id _ => decide (id < base) | _ => false) = _
    unfold oldA
    cases aev env x <;> rfl
  simp only [aop, h1, h2, h3, Bool.true_and]
  cases aread call env s (.loadn n x) with
  | none => simp [lstep, estep]
  | some v =>
    rw [show oldLoad base env (AOp.loadn n x) = oldA base (aev env x) from h4]
    by_cases hb : oldA base (aev env x) = true
    · simp [lstep, estep, hb]
    · simp [lstep, estep, hb]
theorem st_load1nf {call : Nat → List AV → St → Option (AV × St)} {base : Nat} {d r : Option Nat} {rest : List AOper} {Q : Env → St → Prop} {env : Env} {s : St} (x : AO) : awops call base (⟨d, .load1 x, none, r, true⟩ :: rest) Q env s = lstep base (aev env x) (aread call env s (.load1 x)) fun v => awops call base rest Q (pE env d v) s := by
  rw [awops_cons (by simp)]
  have h1 : aalloc env (.load1 x) = none := rfl
  have h2 : apure env (.load1 x) = none := rfl
  have h3 : ∀ s, aeff call env s (.load1 x) = none := fun _ => rfl
  have h4 : oldLoad base env (.load1 x) = oldA base (aev env x) := by
    show (match aev env x with | .ptr id _ => decide (id < base) | _ => false) = _
    unfold oldA
    cases aev env x <;> rfl
  simp only [aop, h1, h2, h3, Bool.true_and]
  cases aread call env s (.load1 x) with
  | none => simp [lstep, estep]
  | some v =>
    rw [show oldLoad base env (AOp.load1 x) = oldA base (aev env x) from h4]
    by_cases hb : oldA base (aev env x) = true
    · simp [lstep, estep, hb]
    · simp [lstep, estep, hb]
theorem pre_nxt {α : Type} {l : List α} {i : Nat} {x : α} {P : α → Prop} (hx : l[i]? = some x) (hpre : ∀ (j : Nat) (y : α), j < i → l[j]? = some y → P y) (h : P x) : ∀ (j : Nat) (y : α), j < i + 1 → l[j]? = some y → P y := fun j y hj hy => by
  by_cases e : j = i
  · subst e
    rw [hx] at hy
    injection hy with hy
    rw [← hy]
    exact h
  · exact hpre j y (by omega) hy
def appG (base : Nat) (s : St) (sz bytes : Nat) (a x : AV) : Option (AV × St) := match appV (lowd s) sz bytes a x with
  | some (v, t) => if base ≤ t.low then some (v, { heap := t.heap, next := t.next, low := min s.low t.low }) else none
  | none => none
theorem st_appr {call : Nat → List AV → St → Option (AV × St)} {base : Nat} {d : Option Nat} {rest : List AOper} {Q : Env → St → Prop} {env : Env} {s : St} (sz b : Nat) (z : List AV) (a x : AO) (k : Nat) : awops call base (⟨d, .app sz b z a x, none, some k, true⟩ :: rest) Q env s = estep (appG base s sz b (aev env a) (aev env x)) fun v t => awops call base rest Q (pE env d v) t := by
  rw [st_efff (op := .app sz b z a x) (by simp) rfl rfl rfl]
  simp only [ae_app, appG, AOper.floor, AOper.stores, AOp.isApp, AOp.isStore, Option.isSome_some, Bool.and_true, Bool.false_or, if_true]
  show estep (appV (lowd s) sz b (aev env a) (aev env x)) _ = _
  cases appV (lowd s) sz b (aev env a) (aev env x) with
  | none => rfl
  | some q =>
    obtain ⟨v, t⟩ := q
    simp only [estep]
    by_cases h : base ≤ t.low
    · rw [if_pos h, if_pos h]
    · rw [if_neg h, if_neg h]
theorem st_appf0 {call : Nat → List AV → St → Option (AV × St)} {base : Nat} {d : Option Nat} {rest : List AOper} {Q : Env → St → Prop} {env : Env} {s : St} (sz b : Nat) (z : List AV) (a x : AO) : awops call base (⟨d, .app sz b z a x, none, none, true⟩ :: rest) Q env s = estep (appG s.next s sz b (aev env a) (aev env x)) fun v t => awops call base rest Q (pE env d v) t := by
  rw [st_efff (op := .app sz b z a x) (by simp) rfl rfl rfl]
  simp only [ae_app, appG, AOper.floor, AOper.stores, AOp.isApp, AOp.isStore, Option.isSome_none, Bool.and_false, Bool.false_or, Bool.false_eq_true, if_false]
  show estep (appV (lowd s) sz b (aev env a) (aev env x)) _ = _
  cases appV (lowd s) sz b (aev env a) (aev env x) with
  | none => rfl
  | some q =>
    obtain ⟨v, t⟩ := q
    simp only [estep]
    by_cases h : s.next ≤ t.low
    · rw [if_pos h, if_pos h]
    · rw [if_neg h, if_neg h]
theorem appG_list {β : Type} {C : Cod β} {base : Nat} {s0 : St} {v x : AV} {l m : List β} (hb : base ≤ s0.next) (hK : Keep s0 t) (hO : Own C s0 t v l) (hr : AM.read C t x = some m) (bytes : Nat) (hbd : (l.length + m.length) * bytes ≤ roomBytes) :
    ∃ v' t', appG base t C.sz bytes v x = some (v', t') ∧ Keep s0 t' ∧ Own C s0 t' v' (l ++ m) := by
  have hn := hK.next
  have hK' : Keep (lowd s0) (lowd t) := ⟨hn, hK.get, by show min s0.next s0.next ≤ t.next; omega⟩
  have hO' : Own C (lowd s0) (lowd t) v l := hO
  obtain ⟨v', t1, h1, h2, h3⟩ := appV_list hK' hO' (read_low' hr) bytes hbd
  have hl : s0.next ≤ t1.low := by
    have := h2.low
    have : min s0.next s0.next ≤ t1.low := this
    omega
  refine ⟨v', { heap := t1.heap, next := t1.next, low := min t.low t1.low }, by simp only [appG, h1, if_pos (Nat.le_trans hb hl)], ⟨h2.next, h2.get, ?_⟩, h3⟩
  show min s0.low s0.next ≤ min t.low t1.low
  have := hK.low
  omega
theorem rd_one {β : Type} {C : Cod β} {v : AV} {l : List β} (h : AM.read C s v = some l) : v.cells = [v] ∧ v.one = true := by
  cases v <;> first | exact ⟨rfl, rfl⟩ | simp [AM.read] at h
theorem boxV_m {a b : AV} (ha : a.one = true) (hb : b.one = true) : boxV 2 (.agg [a, b]) = some (fun id => .ptr id 0, .row [a, b] true) := by
  unfold boxV
  simp [AV.cells, ha, hb]
theorem row2_sto2 {id : Nat} {a b x y : AV} (h : t.get id = some (.row [a, b] true)) (hx : x.one = true) (hy : y.one = true) : AM.sto t 2 (.ptr id 0) (.agg [x, y]) = some (.und, t.put id (.row [x, y] true)) := by
  simp [AM.sto, h, AV.cells, hx, hy, setAt]
theorem row2_lod2 {id : Nat} {a b : AV} {own : Bool} (h : t.get id = some (.row [a, b] own)) : lod t 2 (.ptr id 0) = some (.agg [a, b]) := by simp [lod, h]
theorem own_neb {C : Cod PrS} (hC : C = prC) {lv : AV} {l : List PrS} (h : Own C s t lv l) {id : Nat} {b : Bool} {w : AV} {own : Bool} (hg : t.get id = some (.row [.bool b, w] own)) : ∀ o n c z, lv ≠ .sl id o n c z := by
  subst hC
  rintro o n c z rfl
  rcases h with ⟨h, _⟩ | ⟨j, h, h0, h1, h2⟩
  · cases h
  · injection h with h
    subst h
    rw [hg] at h2
    injection h2 with h2
    injection h2 with h2 _
    cases l with
    | nil => exact h0 rfl
    | cons y r =>
      rw [pr_cells2] at h2
      injection h2 with h2 _
      cases h2
/-- A list behind a flag in a box, one element more. -/
theorem box2_app {lv : AV} {l : List PrS} {ib : Nat} {b : Bool} (hK : Keep s t) (hb : t.get ib = some (.row [.bool b, lv] true)) (hib : s.next ≤ ib) (hO : Own prC s t lv l) (y : PrS) (hr : l.length < 100000) :
    ∃ lv' t', appV (t.push (.row (prC.enc y) true)) 2 24 lv (.sl t.next 0 1 (some 1) 2) = some (lv', t') ∧ AM.sto t' 1 (.ptr ib 1) lv' = some (.und, t'.put ib (.row [.bool b, lv'] true)) ∧ ltN ib t' ∧ Keep s (t'.put ib (.row [.bool b, lv'] true)) ∧ (t'.put ib (.row [.bool b, lv'] true)).get ib = some (.row [.bool b, lv'] true) ∧ Own prC s (t'.put ib (.row [.bool b, lv'] true)) lv' (l ++ [y]) ∧
      ∀ id b', t.get id = some b' → id ≠ ib → (∀ o n c z, lv ≠ .sl id o n c z) → (t'.put ib (.row [.bool b, lv'] true)).get id = some b' := by
  obtain ⟨lv', t', hap, hK', hO'⟩ := appV_one (C := prC) hK hO y 24 (by unfold roomBytes; omega)
  have fr : ∀ id b, t.get id = some b → (∀ o n c z, lv ≠ .sl id o n c z) → t'.get id = some b := fun id b hg hn => appV_frame hap hn (get_push_some _ hg)
  have hb' := fr ib _ hb (own_neb rfl hO hb)
  have hlt := St.get_lt hb'
  have hO2 : Own prC s (t'.put ib (.row [.bool b, lv'] true)) lv' (l ++ [y]) := by
    have hne := own_neb rfl hO' hb'
    rcases hO' with q | ⟨j, q, h0, h1, h2⟩
    · exact .inl q
    · refine .inr ⟨j, q, h0, h1, ?_⟩
      rw [St.get_put_ne _ _ hlt fun e => hne 0 _ none _ (by rw [q, e])]
      exact h2
  exact ⟨lv', t', hap, (row2_sto hb' (own_one1 hO').1 (own_one1 hO').2).2, hlt, hK'.put _ hib hlt, St.get_put_same hb', hO2, fun id b hg hi hn => by rw [St.get_put_ne _ _ hlt hi]; exact fr id b hg hn⟩
noncomputable def R_Rbefore : Con := runFn (tb []) a61
theorem s_Rbefore : SoundAt Try.prog 61 R_Rbefore := run_sound (tb_sound (l := []) (by simp)) mixed Try.func61 k61 c61
theorem n_Rbefore : noNxtC a61.body = true := by kernel_rfl
theorem w_Rbefore {s : St} {rv : AV} {L : List PrS} (hr : AM.read prC s rv = some L) (d : Bool) (a b : Int) : ∀ env : Env, elen env = a61.ntmps → (∀ i x_, [.agg [.bool d, rv], .int .i64 a, .int .i64 b][i]? = some x_ → E env i = x_) → awp (tb []) a61.body (fun x e t => (∀ i, x ≠ .exit i) ∧ aresults e t a61.results = some (.bool (decide (sg d a < sg d b))) ∧ Keep s t) env s := by
  intro env hlen ha
  have h0 : E env 0 = _ := ha 0 _ rfl
  have h1 : E env 1 = _ := ha 1 _ rfl
  have h2 : E env 2 = _ := ha 2 _ rfl
  have hlen : elen env = _ := hlen
  simp only [a61] at hlen
  unfold a61
  try dsimp only [oO, oG]
  have ho := rd_one hr
  have hbx := boxV_m (a := .bool d) (b := rv) rfl ho.2
  have hK1 : Keep s (s.push (.row [.bool d, rv] true)) := (Keep.refl s).push _
  have hg1 := St.get_push_new s (.row [.bool d, rv] true)
  have hr1 := hK1.read hr
  obtain ⟨b0, b1, blt⟩ := row2_lod hg1
  have b2 := row2_lod2 hg1
  have hL := lenV_read hr
  cases d
  · simp only [sg, Bool.false_eq_true, if_false]
    simp (config := {contextual := true, maxDischargeDepth := 12, maxSteps := 4000000}) only [tb_at, h0, h1, h2, hlen, hbx, b0, blt, notV_bool, Bool.not_true, Bool.not_false, pickV_t, pickV_f, bin_eql, bin_neq, bin_neb, bin_npn, bin_np, bin_npnx, gcall_tt, gpure_tf, beq_self_eq_true, Bool.true_and, Bool.and_true, decide_true, decide_false, ↓bD, bU, forall_const, bS, implies_true, isNx, eq_self, ↓wp_cond, ↓wp_loop, ↓reduceIte, reduceCtorEq, Nat.reduceEqDiff, Nat.reduceLT, Nat.reduceAdd, Nat.reduceMul, bT, ↓sg_bsl, ↓st_callf, bX, ap_mkfn, ap_conv, ↓wi_seq, ↓wi_base, ↓wi_block, ↓wi_cond, ↓wi_loop, ↓wi_rf, ↓wy_seq, ↓wy_base, ↓wy_block, ↓wy_cond, ↓wy_loop, ↓wy_yld, ae_callvV, callvV_fn, List.append_nil, List.cons_append, List.nil_append, bin_nff, bin_nfn, bin_nffx, bin_nfnx, bin_streq, bin_bo_same, lstep_some, ↓st_load1nf, ↓st_loadnf, ↓st_appr, ↓st_appf0]
    all_goals first | exact hK1 | skip
  · have e : (sg true a < sg true b) = (b < a) := by
      simp only [sg, if_true]
      exact propext ⟨fun h => by omega, fun h => by omega⟩
    simp only [e]
    simp (config := {contextual := true, maxDischargeDepth := 12, maxSteps := 4000000}) only [tb_at, h0, h1, h2, hlen, hbx, b0, blt, notV_bool, Bool.not_true, Bool.not_false, pickV_t, pickV_f, bin_eql, bin_neq, bin_neb, bin_npn, bin_np, bin_npnx, gcall_tt, gpure_tf, beq_self_eq_true, Bool.true_and, Bool.and_true, decide_true, decide_false, ↓bD, bU, forall_const, bS, implies_true, isNx, eq_self, ↓wp_cond, ↓wp_loop, ↓reduceIte, reduceCtorEq, Nat.reduceEqDiff, Nat.reduceLT, Nat.reduceAdd, Nat.reduceMul, bT, ↓sg_bsl, ↓st_callf, bX, ap_mkfn, ap_conv, ↓wi_seq, ↓wi_base, ↓wi_block, ↓wi_cond, ↓wi_loop, ↓wi_rf, ↓wy_seq, ↓wy_base, ↓wy_block, ↓wy_cond, ↓wy_loop, ↓wy_yld, ae_callvV, callvV_fn, List.append_nil, List.cons_append, List.nil_append, bin_nff, bin_nfn, bin_nffx, bin_nfnx, bin_streq, bin_bo_same, lstep_some, ↓st_load1nf, ↓st_loadnf, ↓st_appr, ↓st_appf0]
    all_goals first | exact hK1 | skip
theorem q_Rbefore (cl : Bool) {s : St} {rv : AV} {L : List PrS} (hr : AM.read prC s rv = some L) (d : Bool) (a b : Int) : acall R_Rbefore cl [.agg [.bool d, rv], .int .i64 a, .int .i64 b] s = some (.bool (decide (sg d a < sg d b)), s) := run_same n_Rbefore (by simp [a61]) rfl (w_Rbefore (s := lowd s) (read_low' hr) d a b)
noncomputable def R_RRank : Con := runFn (tb [(61, R_Rbefore)]) a42
theorem s_RRank : SoundAt Try.prog 42 R_RRank := run_sound (tb_sound (l := [(61, R_Rbefore)]) (by simpa using s_Rbefore)) mixed Try.func42 k42 c42
theorem n_RRank : noNxtC a42.body = true := by kernel_rfl
theorem w_RRank {s : St} {rv : AV} {L : List PrS} (hr : AM.read prC s rv = some L) (hl : L.length ≤ 10000) (d : Bool) (k : Int) : ∀ env : Env, elen env = a42.ntmps → (∀ i x_, [.agg [.bool d, rv], .int .i64 k][i]? = some x_ → E env i = x_) → awp (tb [(61, R_Rbefore)]) a42.body (fun x e t => (∀ i, x ≠ .exit i) ∧ aresults e t a42.results = some (.int .i64 ((rkD d L k : Nat) : Int)) ∧ Keep s t) env s := by
  intro env hlen ha
  have h0 : E env 0 = _ := ha 0 _ rfl
  have h1 : E env 1 = _ := ha 1 _ rfl
  have hlen : elen env = _ := hlen
  simp only [a42] at hlen
  unfold a42
  try dsimp only [oO, oG]
  have ho := rd_one hr
  have hbx := boxV_m (a := .bool d) (b := rv) rfl ho.2
  have hK1 : Keep s (s.push (.row [.bool d, rv] true)) := (Keep.refl s).push _
  have hg1 := St.get_push_new s (.row [.bool d, rv] true)
  have hr1 := hK1.read hr
  obtain ⟨b0, b1, blt⟩ := row2_lod hg1
  have b2 := row2_lod2 hg1
  have hL := lenV_read hr
  simp (config := {contextual := true, maxDischargeDepth := 12, maxSteps := 4000000}) only [tb_at, h0, h1, hlen, hbx, notV_bool, Bool.not_true, Bool.not_false, pickV_t, pickV_f, bin_eql, bin_neq, bin_neb, bin_npn, bin_np, bin_npnx, gcall_tt, gpure_tf, beq_self_eq_true, Bool.true_and, Bool.and_true, decide_true, decide_false, ↓bD, bU, forall_const, bS, implies_true, isNx, eq_self, ↓wp_cond, ↓wp_loop, ↓reduceIte, reduceCtorEq, Nat.reduceEqDiff, Nat.reduceLT, Nat.reduceAdd, Nat.reduceMul, bT, ↓sg_bsl, ↓st_callf, bX, ap_mkfn, ap_conv, ↓wi_seq, ↓wi_base, ↓wi_block, ↓wi_cond, ↓wi_loop, ↓wi_rf, ↓wy_seq, ↓wy_base, ↓wy_block, ↓wy_cond, ↓wy_loop, ↓wy_yld, ae_callvV, callvV_fn, List.append_nil, List.cons_append, List.nil_append, bin_nff, bin_nfn, bin_nffx, bin_nfnx, bin_streq, bin_bo_same, lstep_some, ↓st_load1nf, ↓st_loadnf, ↓st_appr, ↓st_appf0]
  obtain ⟨I, hI⟩ : ∃ I : Nat → Env → St → Prop, ∀ n e t, I n e t = (t = s.push (.row [.bool d, rv] true) ∧ ∃ i : Nat, n + i = L.length ∧ elen e = 25 ∧ E e 1 = .int .i64 k ∧ E e 2 = .ptr s.next 0 ∧ E e 5 = .int .i64 (i : Int) ∧ i ≤ L.length ∧ ∀ (j : Nat) (y : PrS), j < i → L[j]? = some y → sg d y.1 < sg d k) := ⟨fun n e t => (t = s.push (.row [.bool d, rv] true) ∧ ∃ i : Nat, n + i = L.length ∧ elen e = 25 ∧ E e 1 = .int .i64 k ∧ E e 2 = .ptr s.next 0 ∧ E e 5 = .int .i64 (i : Int) ∧ i ≤ L.length ∧ ∀ (j : Nat) (y : PrS), j < i → L[j]? = some y → sg d y.1 < sg d k), fun _ _ _ => rfl⟩
  refine lwp_inv I (n := L.length) ?_ ?_
  · rw [hI]
    exact ⟨rfl, 0, by omega, (by simp only [bE, Nat.reduceEqDiff, bN, Nat.reduceLT, hlen]; try rfl), (by simp only [bE, Nat.reduceEqDiff, bN, Nat.reduceLT, hlen, h1]; try rfl), (by simp only [bE, Nat.reduceEqDiff, bN, Nat.reduceLT, hlen]; try rfl), (by simp only [bE, Nat.reduceEqDiff, bN, Nat.reduceLT, hlen]; try rfl), Nat.zero_le _, fun j y hj => by omega⟩
  clear h0 ha
  intro n e t hi
  rw [hI] at hi
  obtain ⟨hK, i, hni, he, e1, e2, e5, hil, hpre⟩ := hi
  subst hK
  by_cases hlt : i < L.length
  rotate_left
  · have y1 := eq_false (show ¬ (i : Int) < (L.length : Int) by omega)
    have hrk : rkD d L k = i := rk_eq hil hpre fun y hy => by have := getlt hy; omega
    rw [hrk]
    simp (config := {contextual := true, maxDischargeDepth := 12, maxSteps := 4000000}) only [tb_at, he, e1, e2, e5, b1, blt, hL, y1, reserve0, notV_bool, Bool.not_true, Bool.not_false, pickV_t, pickV_f, bin_eql, bin_neq, bin_neb, bin_npn, bin_np, bin_npnx, gcall_tt, gpure_tf, beq_self_eq_true, Bool.true_and, Bool.and_true, decide_true, decide_false, ↓bD, bU, forall_const, bS, implies_true, isNx, eq_self, ↓wp_cond, ↓wp_loop, ↓reduceIte, reduceCtorEq, Nat.reduceEqDiff, Nat.reduceLT, Nat.reduceAdd, Nat.reduceMul, bT, ↓sg_bsl, ↓st_callf, bX, ap_mkfn, ap_conv, ↓wi_seq, ↓wi_base, ↓wi_block, ↓wi_cond, ↓wi_loop, ↓wi_rf, ↓wy_seq, ↓wy_base, ↓wy_block, ↓wy_cond, ↓wy_loop, ↓wy_yld, ae_callvV, callvV_fn, List.append_nil, List.cons_append, List.nil_append, bin_nff, bin_nfn, bin_nffx, bin_nfnx, bin_streq, bin_bo_same, lstep_some, ↓st_load1nf, ↓st_loadnf, ↓st_appr, ↓st_appf0]
    all_goals first | exact hK1 | skip
  have y1 := eq_true (show (i : Int) < (L.length : Int) by omega)
  have hw2 := wrap_add1 (n := i) (by omega)
  obtain ⟨y, hy⟩ := getsome hlt
  obtain ⟨i1, _, a1, _, a3⟩ := pr_lods hr1 hy
  have q1 := q_Rbefore false hr1 d y.1 k
  by_cases hc : sg d y.1 < sg d k
  · rw [decide_eq_true hc] at q1
    simp (config := {contextual := true, maxDischargeDepth := 12, maxSteps := 4000000}) only [tb_at, he, e1, e2, e5, b1, b2, blt, hL, y1, hw2, i1, a1, a3, q1, reserve0, notV_bool, Bool.not_true, Bool.not_false, pickV_t, pickV_f, bin_eql, bin_neq, bin_neb, bin_npn, bin_np, bin_npnx, gcall_tt, gpure_tf, beq_self_eq_true, Bool.true_and, Bool.and_true, decide_true, decide_false, ↓bD, bU, forall_const, bS, implies_true, isNx, eq_self, ↓wp_cond, ↓wp_loop, ↓reduceIte, reduceCtorEq, Nat.reduceEqDiff, Nat.reduceLT, Nat.reduceAdd, Nat.reduceMul, bT, ↓sg_bsl, ↓st_callf, bX, ap_mkfn, ap_conv, ↓wi_seq, ↓wi_base, ↓wi_block, ↓wi_cond, ↓wi_loop, ↓wi_rf, ↓wy_seq, ↓wy_base, ↓wy_block, ↓wy_cond, ↓wy_loop, ↓wy_yld, ae_callvV, callvV_fn, List.append_nil, List.cons_append, List.nil_append, bin_nff, bin_nfn, bin_nffx, bin_nfnx, bin_streq, bin_bo_same, lstep_some, ↓st_load1nf, ↓st_loadnf, ↓st_appr, ↓st_appf0]
    refine ⟨n - 1, by omega, ?_⟩
    rw [hI]
    exact ⟨rfl, i + 1, by omega, (by simp only [bE, Nat.reduceEqDiff, bN, Nat.reduceLT, he, e1, e2, e5]; try rfl), (by simp only [bE, Nat.reduceEqDiff, bN, Nat.reduceLT, he, e1, e2, e5]; try rfl), (by simp only [bE, Nat.reduceEqDiff, bN, Nat.reduceLT, he, e1, e2, e5]; try rfl), (by simp only [bE, Nat.reduceEqDiff, bN, Nat.reduceLT, he, e1, e2, e5]; try rfl), by omega, pre_nxt (P := fun y => sg d y.1 < sg d k) hy hpre hc⟩
  · rw [decide_eq_false hc] at q1
    have hrk : rkD d L k = i := rk_eq hil hpre fun z hz => by
      rw [hy] at hz
      injection hz with hz
      rw [← hz]
      exact hc
    rw [hrk]
    simp (config := {contextual := true, maxDischargeDepth := 12, maxSteps := 4000000}) only [tb_at, he, e1, e2, e5, b1, b2, blt, hL, y1, i1, a1, a3, q1, reserve0, notV_bool, Bool.not_true, Bool.not_false, pickV_t, pickV_f, bin_eql, bin_neq, bin_neb, bin_npn, bin_np, bin_npnx, gcall_tt, gpure_tf, beq_self_eq_true, Bool.true_and, Bool.and_true, decide_true, decide_false, ↓bD, bU, forall_const, bS, implies_true, isNx, eq_self, ↓wp_cond, ↓wp_loop, ↓reduceIte, reduceCtorEq, Nat.reduceEqDiff, Nat.reduceLT, Nat.reduceAdd, Nat.reduceMul, bT, ↓sg_bsl, ↓st_callf, bX, ap_mkfn, ap_conv, ↓wi_seq, ↓wi_base, ↓wi_block, ↓wi_cond, ↓wi_loop, ↓wi_rf, ↓wy_seq, ↓wy_base, ↓wy_block, ↓wy_cond, ↓wy_loop, ↓wy_yld, ae_callvV, callvV_fn, List.append_nil, List.cons_append, List.nil_append, bin_nff, bin_nfn, bin_nffx, bin_nfnx, bin_streq, bin_bo_same, lstep_some, ↓st_load1nf, ↓st_loadnf, ↓st_appr, ↓st_appf0]
    all_goals first | exact hK1 | skip
theorem q_RRank (cl : Bool) {s : St} {rv : AV} {L : List PrS} (hr : AM.read prC s rv = some L) (hl : L.length ≤ 10000) (d : Bool) (k : Int) : acall R_RRank cl [.agg [.bool d, rv], .int .i64 k] s = some (.int .i64 ((rkD d L k : Nat) : Int), s) := run_same n_RRank (by simp [a42]) rfl (w_RRank (s := lowd s) (read_low' hr) hl d k)
noncomputable def R_RGet : Con := runFn (tb [(42, R_RRank)]) a29
theorem s_RGet : SoundAt Try.prog 29 R_RGet := run_sound (tb_sound (l := [(42, R_RRank)]) (by simpa using s_RRank)) mixed Try.func29 k29 c29
theorem n_RGet : noNxtC a29.body = true := by kernel_rfl
theorem w_RGet {s : St} {rv : AV} {L : List PrS} (hr : AM.read prC s rv = some L) (hl : L.length ≤ 10000) (d : Bool) (k : Int) : ∀ env : Env, elen env = a29.ntmps → (∀ i x_, [.agg [.bool d, rv], .int .i64 k][i]? = some x_ → E env i = x_) → awp (tb [(42, R_RRank)]) a29.body (fun x e t => (∀ i, x ≠ .exit i) ∧ aresults e t a29.results = some (getV (gtD d L k)) ∧ Keep s t) env s := by
  intro env hlen ha
  have h0 : E env 0 = _ := ha 0 _ rfl
  have h1 : E env 1 = _ := ha 1 _ rfl
  have hlen : elen env = _ := hlen
  simp only [a29] at hlen
  unfold a29
  try dsimp only [oO, oG]
  have ho := rd_one hr
  have hbx := boxV_m (a := .bool d) (b := rv) rfl ho.2
  have hK1 : Keep s (s.push (.row [.bool d, rv] true)) := (Keep.refl s).push _
  have hg1 := St.get_push_new s (.row [.bool d, rv] true)
  have hr1 := hK1.read hr
  obtain ⟨b0, b1, blt⟩ := row2_lod hg1
  have b2 := row2_lod2 hg1
  have hL := lenV_read hr
  have q1 := q_RRank false hr1 hl d k
  rcases gtD_split d L k with ⟨hg, hg1'⟩ | ⟨v0, hg, hg1'⟩
  · rw [hg]
    by_cases hlt : rkD d L k < L.length
    · have y1 := eq_true (show ((rkD d L k : Nat) : Int) < (L.length : Int) by omega)
      obtain ⟨y, hy⟩ := getsome hlt
      obtain ⟨i1, _, a1, _, a3⟩ := pr_lods hr1 hy
      have hne : (y.1 = k) = False := eq_false fun e => by
        unfold gtD at hg
        rw [hy] at hg
        simp [e] at hg
      unfold getV
      simp (config := {contextual := true, maxDischargeDepth := 12, maxSteps := 4000000}) only [tb_at, h0, h1, hlen, hbx, b0, b1, b2, blt, hL, q1, y1, i1, a1, a3, hne, notV_bool, Bool.not_true, Bool.not_false, pickV_t, pickV_f, bin_eql, bin_neq, bin_neb, bin_npn, bin_np, bin_npnx, gcall_tt, gpure_tf, beq_self_eq_true, Bool.true_and, Bool.and_true, decide_true, decide_false, ↓bD, bU, forall_const, bS, implies_true, isNx, eq_self, ↓wp_cond, ↓wp_loop, ↓reduceIte, reduceCtorEq, Nat.reduceEqDiff, Nat.reduceLT, Nat.reduceAdd, Nat.reduceMul, bT, ↓sg_bsl, ↓st_callf, bX, ap_mkfn, ap_conv, ↓wi_seq, ↓wi_base, ↓wi_block, ↓wi_cond, ↓wi_loop, ↓wi_rf, ↓wy_seq, ↓wy_base, ↓wy_block, ↓wy_cond, ↓wy_loop, ↓wy_yld, ae_callvV, callvV_fn, List.append_nil, List.cons_append, List.nil_append, bin_nff, bin_nfn, bin_nffx, bin_nfnx, bin_streq, bin_bo_same, lstep_some, ↓st_load1nf, ↓st_loadnf, ↓st_appr, ↓st_appf0]
      all_goals first | exact hK1 | skip
    · have y1 := eq_false (show ¬ ((rkD d L k : Nat) : Int) < (L.length : Int) by omega)
      unfold getV
      simp (config := {contextual := true, maxDischargeDepth := 12, maxSteps := 4000000}) only [tb_at, h0, h1, hlen, hbx, b0, b1, b2, blt, hL, q1, y1, notV_bool, Bool.not_true, Bool.not_false, pickV_t, pickV_f, bin_eql, bin_neq, bin_neb, bin_npn, bin_np, bin_npnx, gcall_tt, gpure_tf, beq_self_eq_true, Bool.true_and, Bool.and_true, decide_true, decide_false, ↓bD, bU, forall_const, bS, implies_true, isNx, eq_self, ↓wp_cond, ↓wp_loop, ↓reduceIte, reduceCtorEq, Nat.reduceEqDiff, Nat.reduceLT, Nat.reduceAdd, Nat.reduceMul, bT, ↓sg_bsl, ↓st_callf, bX, ap_mkfn, ap_conv, ↓wi_seq, ↓wi_base, ↓wi_block, ↓wi_cond, ↓wi_loop, ↓wi_rf, ↓wy_seq, ↓wy_base, ↓wy_block, ↓wy_cond, ↓wy_loop, ↓wy_yld, ae_callvV, callvV_fn, List.append_nil, List.cons_append, List.nil_append, bin_nff, bin_nfn, bin_nffx, bin_nfnx, bin_streq, bin_bo_same, lstep_some, ↓st_load1nf, ↓st_loadnf, ↓st_appr, ↓st_appf0]
      all_goals first | exact hK1 | skip
  · rw [hg]
    have hy := gt_some hg
    have hlt := getlt hy
    have y1 := eq_true (show ((rkD d L k : Nat) : Int) < (L.length : Int) by omega)
    obtain ⟨i1, _, a1, a2, a3⟩ := pr_lods hr1 hy
    have hne : (k = k) = True := eq_self k
    unfold getV
    simp (config := {contextual := true, maxDischargeDepth := 12, maxSteps := 4000000}) only [tb_at, h0, h1, hlen, hbx, b0, b1, b2, blt, hL, q1, y1, i1, a1, a2, a3, hne, notV_bool, Bool.not_true, Bool.not_false, pickV_t, pickV_f, bin_eql, bin_neq, bin_neb, bin_npn, bin_np, bin_npnx, gcall_tt, gpure_tf, beq_self_eq_true, Bool.true_and, Bool.and_true, decide_true, decide_false, ↓bD, bU, forall_const, bS, implies_true, isNx, eq_self, ↓wp_cond, ↓wp_loop, ↓reduceIte, reduceCtorEq, Nat.reduceEqDiff, Nat.reduceLT, Nat.reduceAdd, Nat.reduceMul, bT, ↓sg_bsl, ↓st_callf, bX, ap_mkfn, ap_conv, ↓wi_seq, ↓wi_base, ↓wi_block, ↓wi_cond, ↓wi_loop, ↓wi_rf, ↓wy_seq, ↓wy_base, ↓wy_block, ↓wy_cond, ↓wy_loop, ↓wy_yld, ae_callvV, callvV_fn, List.append_nil, List.cons_append, List.nil_append, bin_nff, bin_nfn, bin_nffx, bin_nfnx, bin_streq, bin_bo_same, lstep_some, ↓st_load1nf, ↓st_loadnf, ↓st_appr, ↓st_appf0]
    all_goals first | exact hK1 | skip
theorem q_RGet (cl : Bool) {s : St} {rv : AV} {L : List PrS} (hr : AM.read prC s rv = some L) (hl : L.length ≤ 10000) (d : Bool) (k : Int) : acall R_RGet cl [.agg [.bool d, rv], .int .i64 k] s = some (getV (gtD d L k), s) := run_same n_RGet (by simp [a29]) (by cases gtD d L k <;> rfl) (w_RGet (s := lowd s) (read_low' hr) hl d k)

def rAtV (P : Option PrS) : AV := .tup [.agg [.int .i64 (pd P).1, .str (pd P).2], .bool P.isSome]
theorem rAtV_none : rAtV none = .tup [.agg [.int .i64 0, .str ⟨#[]⟩], .bool false] := nrfl rfl
theorem rAtV_some (y : PrS) : rAtV (some y) = .tup [.agg [.int .i64 y.1, .str y.2], .bool true] := nrfl rfl
noncomputable def R_RAt : Con := runFn (tb []) a52
theorem s_RAt : SoundAt Try.prog 52 R_RAt := run_sound (tb_sound (l := []) (by simp)) mixed Try.func52 k52 c52
theorem n_RAt : noNxtC a52.body = true := by kernel_rfl
theorem w_RAt {s : St} {rv : AV} {L : List PrS} (hr : AM.read prC s rv = some L) (hl : L.length ≤ 10000) (d : Bool) (n : Int) : ∀ env : Env, elen env = a52.ntmps → (∀ i x_, [.agg [.bool d, rv], .int .i64 n][i]? = some x_ → E env i = x_) → awp (tb []) a52.body (fun x e t => (∀ i, x ≠ .exit i) ∧ aresults e t a52.results = some (rAtV (atD L n)) ∧ Keep s t) env s := by
  intro env hlen ha
  have h0 : E env 0 = _ := ha 0 _ rfl
  have h1 : E env 1 = _ := ha 1 _ rfl
  have hlen : elen env = _ := hlen
  simp only [a52] at hlen
  unfold a52
  try dsimp only [oO, oG]
  have ho := rd_one hr
  have hbx := boxV_m (a := .bool d) (b := rv) rfl ho.2
  have hK1 : Keep s (s.push (.row [.bool d, rv] true)) := (Keep.refl s).push _
  have hg1 := St.get_push_new s (.row [.bool d, rv] true)
  have hr1 := hK1.read hr
  obtain ⟨b0, b1, blt⟩ := row2_lod hg1
  have b2 := row2_lod2 hg1
  have hL := lenV_read hr
  have hr2 := (hK1.push (.row [.int .i64 0, .str ⟨#[]⟩] true)).read hr
  have hg2 := get_push_some (.row [.int .i64 0, .str ⟨#[]⟩] true) hg1
  have hg3 := St.get_push_new (s.push (.row [.bool d, rv] true)) (.row [.int .i64 0, .str ⟨#[]⟩] true)
  have hK2 := hK1.push (.row [.int .i64 0, .str ⟨#[]⟩] true)
  obtain ⟨u, hu⟩ : ∃ u, u = (s.push (.row [.bool d, rv] true)).push (.row [.int .i64 0, .str ⟨#[]⟩] true) := ⟨_, rfl⟩
  obtain ⟨nb, hnb⟩ : ∃ nb, nb = (s.push (.row [.bool d, rv] true)).next := ⟨_, rfl⟩
  rw [← hu] at hr2 hg2 hg3 hK2
  rw [← hnb] at hg3
  have hsnb : s.next ≤ nb := by rw [hnb]; simp
  have hne12 : s.next ≠ nb := by rw [hnb]; simp
  obtain ⟨c0, c1, clt⟩ := row2_lod hg2
  have c2 := row2_lod2 hg2
  have lt3 := St.get_lt hg3
  have st0 := row2_sto2 hg3 (x := .int .i64 0) (y := .str ⟨#[]⟩) rfl rfl
  have ld0 := row2_lod2 (St.get_put_same (b := .row [.int .i64 0, .str ⟨#[]⟩] true) hg3)
  by_cases c1' : n < 0
  · have z1 := eq_true c1'
    have e : atD L n = none := by unfold atD; rw [if_pos c1']
    rw [e]
    simp (config := {contextual := true, maxDischargeDepth := 12, maxSteps := 4000000}) only [tb_at, h0, h1, hlen, hbx, ← hu, ← hnb, z1, ap_build, fillP_nil, st0, ld0, lt3, rAtV_none, notV_bool, Bool.not_true, Bool.not_false, pickV_t, pickV_f, bin_eql, bin_neq, bin_neb, bin_npn, bin_np, bin_npnx, gcall_tt, gpure_tf, beq_self_eq_true, Bool.true_and, Bool.and_true, decide_true, decide_false, ↓bD, bU, forall_const, bS, implies_true, isNx, eq_self, ↓wp_cond, ↓wp_loop, ↓reduceIte, reduceCtorEq, Nat.reduceEqDiff, Nat.reduceLT, Nat.reduceAdd, Nat.reduceMul, bT, ↓sg_bsl, ↓st_callf, bX, ap_mkfn, ap_conv, ↓wi_seq, ↓wi_base, ↓wi_block, ↓wi_cond, ↓wi_loop, ↓wi_rf, ↓wy_seq, ↓wy_base, ↓wy_block, ↓wy_cond, ↓wy_loop, ↓wy_yld, ae_callvV, callvV_fn, List.append_nil, List.cons_append, List.nil_append, bin_nff, bin_nfn, bin_nffx, bin_nfnx, bin_streq, bin_bo_same, lstep_some, ↓st_load1nf, ↓st_loadnf, ↓st_appr, ↓st_appf0]
    all_goals first | exact hK2.put _ hsnb lt3 | skip
  have z1 := eq_false c1'
  obtain ⟨n, rfl⟩ : ∃ m : Nat, n = (m : Int) := ⟨n.toNat, by omega⟩
  rw [at_nat]
  by_cases c2' : L.length ≤ n
  · have z2 := eq_true (show (L.length : Int) ≤ (n : Int) by omega)
    rw [List.getElem?_eq_none c2']
    simp (config := {contextual := true, maxDischargeDepth := 12, maxSteps := 4000000}) only [tb_at, h0, h1, hlen, hbx, ← hu, ← hnb, z1, z2, c1, clt, hL, ap_build, fillP_nil, st0, ld0, lt3, rAtV_none, notV_bool, Bool.not_true, Bool.not_false, pickV_t, pickV_f, bin_eql, bin_neq, bin_neb, bin_npn, bin_np, bin_npnx, gcall_tt, gpure_tf, beq_self_eq_true, Bool.true_and, Bool.and_true, decide_true, decide_false, ↓bD, bU, forall_const, bS, implies_true, isNx, eq_self, ↓wp_cond, ↓wp_loop, ↓reduceIte, reduceCtorEq, Nat.reduceEqDiff, Nat.reduceLT, Nat.reduceAdd, Nat.reduceMul, bT, ↓sg_bsl, ↓st_callf, bX, ap_mkfn, ap_conv, ↓wi_seq, ↓wi_base, ↓wi_block, ↓wi_cond, ↓wi_loop, ↓wi_rf, ↓wy_seq, ↓wy_base, ↓wy_block, ↓wy_cond, ↓wy_loop, ↓wy_yld, ae_callvV, callvV_fn, List.append_nil, List.cons_append, List.nil_append, bin_nff, bin_nfn, bin_nffx, bin_nfnx, bin_streq, bin_bo_same, lstep_some, ↓st_load1nf, ↓st_loadnf, ↓st_appr, ↓st_appf0]
    all_goals first | exact hK2.put _ hsnb lt3 | skip
  have z2 := eq_false (show ¬ (L.length : Int) ≤ (n : Int) by omega)
  obtain ⟨y, hy⟩ := getsome (show n < L.length by omega)
  rw [hy]
  obtain ⟨i1, a0, _, _, a3⟩ := pr_lods hr2 hy
  have st1 := row2_sto2 hg3 (x := .int .i64 y.1) (y := .str y.2) rfl rfl
  have ld1 := row2_lod2 (St.get_put_same (b := .row [.int .i64 y.1, .str y.2] true) hg3)
  simp (config := {contextual := true, maxDischargeDepth := 12, maxSteps := 4000000}) only [tb_at, h0, h1, hlen, hbx, ← hu, ← hnb, z1, z2, c1, clt, hL, i1, a0, a3, st1, ld1, lt3, rAtV_some, notV_bool, Bool.not_true, Bool.not_false, pickV_t, pickV_f, bin_eql, bin_neq, bin_neb, bin_npn, bin_np, bin_npnx, gcall_tt, gpure_tf, beq_self_eq_true, Bool.true_and, Bool.and_true, decide_true, decide_false, ↓bD, bU, forall_const, bS, implies_true, isNx, eq_self, ↓wp_cond, ↓wp_loop, ↓reduceIte, reduceCtorEq, Nat.reduceEqDiff, Nat.reduceLT, Nat.reduceAdd, Nat.reduceMul, bT, ↓sg_bsl, ↓st_callf, bX, ap_mkfn, ap_conv, ↓wi_seq, ↓wi_base, ↓wi_block, ↓wi_cond, ↓wi_loop, ↓wi_rf, ↓wy_seq, ↓wy_base, ↓wy_block, ↓wy_cond, ↓wy_loop, ↓wy_yld, ae_callvV, callvV_fn, List.append_nil, List.cons_append, List.nil_append, bin_nff, bin_nfn, bin_nffx, bin_nfnx, bin_streq, bin_bo_same, lstep_some, ↓st_load1nf, ↓st_loadnf, ↓st_appr, ↓st_appf0]
  all_goals first | exact hK2.put _ hsnb lt3 | skip
theorem q_RAt (cl : Bool) {s : St} {rv : AV} {L : List PrS} (hr : AM.read prC s rv = some L) (hl : L.length ≤ 10000) (d : Bool) (n : Int) : acall R_RAt cl [.agg [.bool d, rv], .int .i64 n] s = some (rAtV (atD L n), s) := run_same n_RAt (by simp [a52]) rfl (w_RAt (s := lowd s) (read_low' hr) hl d n)

end Go.AM
end
/-
  Ordered maps: the reference, continued. Own work of this project; in part printed by a program of it.
-/
section
set_option maxRecDepth 100000
set_option maxHeartbeats 8000000
namespace Go.AM
open Go Go.Proofs

variable {s t u : St}

theorem bin_nfls (a : Int) (b : ByteArray) : binOp .neq (.fl [.i, .s]) (.agg [.int .i64 a, .str b]) (.agg [.int .i64 a, .str b]) = some (.bool false) := by
  have hb : (b == b) = true := by
    cases b
    simp [BEq.beq, ByteArray.beq]
    rw [Array.isEqv_eq_decide]
    simp
  simp [binOp, eqV, eqL, eqF, hb]
theorem own_bornP {v : AV} {l : List PrS} {id : Nat} {b0 b : AB} (h : Own prC s t v l) (hg : t.get id = some b0) (hid : id < s.next) : Own prC s (t.born id b) v l := by
  rcases h with h | ⟨j, rfl, h0, h1, h2⟩
  · exact .inl h
  · refine .inr ⟨j, rfl, h0, h1, ?_⟩
    rw [St.get_born_ne _ _ (St.get_lt hg) (by omega)]
    exact h2
def dropK (k : Int) (L : List PrS) : List PrS := L.filter fun y => decide (y.1 ≠ k)
theorem dropK_len (k : Int) (L : List PrS) : (dropK k L).length ≤ L.length := List.length_filter_le _ _
theorem dropK_snoc {k : Int} {L : List PrS} {i : Nat} {y : PrS} (hy : L[i]? = some y) : dropK k (L.take (i + 1)) = if y.1 = k then dropK k (L.take i) else dropK k (L.take i) ++ [y] := by
  unfold dropK
  rw [take_snoc hy, List.filter_append]
  by_cases e : y.1 = k
  · simp [e]
  · simp [e]
def putR (d : Bool) (L : List PrS) (k : Int) (v : ByteArray) : List PrS := (dropK k L).take (rkD d (dropK k L) k) ++ (k, v) :: (dropK k L).drop (rkD d (dropK k L) k)
theorem fl_some {d : Bool} {L : List PrS} {k : Int} (hs : SrtD d L) {i : Nat} {y : PrS} (hy : L[i]? = some y) (h1 : ¬ sg d k < sg d y.1) (h2 : ∀ (j : Nat) (z : PrS), i < j → L[j]? = some z → sg d k < sg d z.1) : flD d L k = some y := by
  have hi := getlt hy
  by_cases e : y.1 = k
  · have hrk : rkD d L k = i := rk_eq (by omega) (fun j z hj hz => by have := hs.lt hz hy hj; rw [e] at this; exact this) (fun z hz => by
      rw [hy] at hz; injection hz with hz; rw [← hz, e]; omega)
    have hg : gtD d L k = some y.2 := by unfold gtD; rw [hrk, hy]; simp [e]
    unfold flD
    rw [hg, hrk]
    simp only [Option.isSome_some, if_true]
    rw [at_nat, hy]
  · have hlt : sg d y.1 < sg d k := by
      have := mt (sg_inj d y.1 k).1 e
      omega
    have hrk : rkD d L k = i + 1 := rk_eq (by omega) (fun j z hj hz => by
      by_cases ej : j = i
      · subst ej
        rw [hy] at hz; injection hz with hz; rw [← hz]; exact hlt
      · have := hs.lt hz hy (by omega)
        omega) (fun z hz => by have := h2 (i + 1) z (by omega) hz; omega)
    have hg : gtD d L k = none := by
      unfold gtD
      rw [hrk]
      cases hz : L[i + 1]? with
      | none => rfl
      | some z =>
        have := h2 (i + 1) z (by omega) hz
        have hne : z.1 ≠ k := fun q => by rw [q] at this; omega
        simp [hne]
    unfold flD
    rw [hg, hrk]
    simp only [Option.isSome_none, Bool.false_eq_true, if_false]
    rw [show ((i + 1 : Nat) : Int) - 1 = (i : Int) by omega, at_nat, hy]
theorem fl_none {d : Bool} {L : List PrS} {k : Int} (h2 : ∀ (j : Nat) (z : PrS), L[j]? = some z → sg d k < sg d z.1) : flD d L k = none := by
  have hrk : rkD d L k = 0 := rk_eq (Nat.zero_le _) (fun j z hj => by omega) (fun z hz => by have := h2 0 z hz; omega)
  have hg : gtD d L k = none := by
    unfold gtD
    rw [hrk]
    cases hz : L[0]? with
    | none => rfl
    | some z =>
      have := h2 0 z hz
      have hne : z.1 ≠ k := fun q => by rw [q] at this; omega
      simp [hne]
  unfold flD
  rw [hg, hrk]
  rfl
noncomputable def R_RFloor : Con := runFn (tb [(61, R_Rbefore)]) a53
theorem s_RFloor : SoundAt Try.prog 53 R_RFloor := run_sound (tb_sound (l := [(61, R_Rbefore)]) (by simpa using s_Rbefore)) mixed Try.func53 k53 c53
theorem n_RFloor : noNxtC a53.body = true := by kernel_rfl
theorem w_RFloor {s : St} {rv : AV} {L : List PrS} (hr : AM.read prC s rv = some L) (hl : L.length ≤ 10000) (d : Bool) (hs : SrtD d L) (k : Int) : ∀ env : Env, elen env = a53.ntmps → (∀ i x_, [.agg [.bool d, rv], .int .i64 k][i]? = some x_ → E env i = x_) → awp (tb [(61, R_Rbefore)]) a53.body (fun x e t => (∀ i, x ≠ .exit i) ∧ aresults e t a53.results = some (rAtV (flD d L k)) ∧ Keep s t) env s := by
  intro env hlen ha
  have h0 : E env 0 = _ := ha 0 _ rfl
  have h1 : E env 1 = _ := ha 1 _ rfl
  have hlen : elen env = _ := hlen
  simp only [a53] at hlen
  unfold a53
  try dsimp only [oO, oG]
  have ho := rd_one hr
  have hbx := boxV_m (a := .bool d) (b := rv) rfl ho.2
  have hK1 : Keep s (s.push (.row [.bool d, rv] true)) := (Keep.refl s).push _
  have hg1 := St.get_push_new s (.row [.bool d, rv] true)
  have hr1 := hK1.read hr
  obtain ⟨b0, b1, blt⟩ := row2_lod hg1
  have b2 := row2_lod2 hg1
  have hL := lenV_read hr
  have hr2 := (hK1.push (.row [.int .i64 0, .str ⟨#[]⟩] true)).read hr
  have hg2 := get_push_some (.row [.int .i64 0, .str ⟨#[]⟩] true) hg1
  have hg3 := St.get_push_new (s.push (.row [.bool d, rv] true)) (.row [.int .i64 0, .str ⟨#[]⟩] true)
  have hK2 := hK1.push (.row [.int .i64 0, .str ⟨#[]⟩] true)
  obtain ⟨u, hu⟩ : ∃ u, u = (s.push (.row [.bool d, rv] true)).push (.row [.int .i64 0, .str ⟨#[]⟩] true) := ⟨_, rfl⟩
  obtain ⟨nb, hnb⟩ : ∃ nb, nb = (s.push (.row [.bool d, rv] true)).next := ⟨_, rfl⟩
  rw [← hu] at hr2 hg2 hg3 hK2
  rw [← hnb] at hg3
  have hsnb : s.next ≤ nb := by rw [hnb]; simp
  have hne12 : s.next ≠ nb := by rw [hnb]; simp
  obtain ⟨c0, c1, clt⟩ := row2_lod hg2
  have c2 := row2_lod2 hg2
  have lt3 := St.get_lt hg3
  have st0 := row2_sto2 hg3 (x := .int .i64 0) (y := .str ⟨#[]⟩) rfl rfl
  have ld0 := row2_lod2 (St.get_put_same (b := .row [.int .i64 0, .str ⟨#[]⟩] true) hg3)
  have hw0 : IntKind.i64.wrap ((L.length : Int) - 1) = (L.length : Int) - 1 := wrapI (by omega) (by omega)
  simp (config := {contextual := true, maxDischargeDepth := 12, maxSteps := 4000000}) only [tb_at, h0, h1, hlen, hbx, ← hu, ← hnb, c1, clt, hL, hw0, notV_bool, Bool.not_true, Bool.not_false, pickV_t, pickV_f, bin_eql, bin_neq, bin_neb, bin_npn, bin_np, bin_npnx, gcall_tt, gpure_tf, beq_self_eq_true, Bool.true_and, Bool.and_true, decide_true, decide_false, ↓bD, bU, forall_const, bS, implies_true, isNx, eq_self, ↓wp_cond, ↓wp_loop, ↓reduceIte, reduceCtorEq, Nat.reduceEqDiff, Nat.reduceLT, Nat.reduceAdd, Nat.reduceMul, bT, ↓sg_bsl, ↓st_callf, bX, ap_mkfn, ap_conv, ↓wi_seq, ↓wi_base, ↓wi_block, ↓wi_cond, ↓wi_loop, ↓wi_rf, ↓wy_seq, ↓wy_base, ↓wy_block, ↓wy_cond, ↓wy_loop, ↓wy_yld, ae_callvV, callvV_fn, List.append_nil, List.cons_append, List.nil_append, bin_nff, bin_nfn, bin_nffx, bin_nfnx, bin_streq, bin_bo_same, lstep_some, ↓st_load1nf, ↓st_loadnf, ↓st_appr, ↓st_appf0, bin_nfls]
  obtain ⟨I, hI⟩ : ∃ I : Nat → Env → St → Prop, ∀ n e t, I n e t = (t = u ∧ ∃ i : Nat, n + i = L.length ∧ elen e = 31 ∧ E e 1 = .int .i64 k ∧ E e 2 = .ptr s.next 0 ∧ E e 4 = .ptr nb 0 ∧ E e 6 = .int .i64 ((n : Int) - 1) ∧ i ≤ L.length ∧ ∀ (j : Nat) (z : PrS), n ≤ j → L[j]? = some z → sg d k < sg d z.1) := ⟨fun n e t => (t = u ∧ ∃ i : Nat, n + i = L.length ∧ elen e = 31 ∧ E e 1 = .int .i64 k ∧ E e 2 = .ptr s.next 0 ∧ E e 4 = .ptr nb 0 ∧ E e 6 = .int .i64 ((n : Int) - 1) ∧ i ≤ L.length ∧ ∀ (j : Nat) (z : PrS), n ≤ j → L[j]? = some z → sg d k < sg d z.1), fun _ _ _ => rfl⟩
  refine lwp_inv I (n := L.length) ?_ ?_
  · rw [hI]
    exact ⟨rfl, 0, by omega, (by simp only [bE, Nat.reduceEqDiff, bN, Nat.reduceLT, hlen]; try rfl), (by simp only [bE, Nat.reduceEqDiff, bN, Nat.reduceLT, hlen, h1]; try rfl), (by simp only [bE, Nat.reduceEqDiff, bN, Nat.reduceLT, hlen]; try rfl), (by simp only [bE, Nat.reduceEqDiff, bN, Nat.reduceLT, hlen, ← hnb]; try rfl), (by simp only [bE, Nat.reduceEqDiff, bN, Nat.reduceLT, hlen]; try rfl), Nat.zero_le _, fun j z hj hz => absurd (getlt hz) (by omega)⟩
  clear h0 ha
  intro n e t hi
  rw [hI] at hi
  obtain ⟨hK, i, hni, he, e1, e2, e4, e6, hil, hpost⟩ := hi
  subst hK
  by_cases hlt : 0 < n
  rotate_left
  · obtain rfl : n = 0 := by omega
    have y1 := eq_false (show ¬ (0 : Int) ≤ ((0 : Nat) : Int) - 1 by omega)
    have hfl : flD d L k = none := fl_none fun j z hz => hpost j z (Nat.zero_le _) hz
    rw [hfl]
    simp (config := {contextual := true, maxDischargeDepth := 12, maxSteps := 4000000}) only [tb_at, he, e1, e2, e4, e6, y1, ap_build, fillP_nil, st0, ld0, lt3, rAtV_none, notV_bool, Bool.not_true, Bool.not_false, pickV_t, pickV_f, bin_eql, bin_neq, bin_neb, bin_npn, bin_np, bin_npnx, gcall_tt, gpure_tf, beq_self_eq_true, Bool.true_and, Bool.and_true, decide_true, decide_false, ↓bD, bU, forall_const, bS, implies_true, isNx, eq_self, ↓wp_cond, ↓wp_loop, ↓reduceIte, reduceCtorEq, Nat.reduceEqDiff, Nat.reduceLT, Nat.reduceAdd, Nat.reduceMul, bT, ↓sg_bsl, ↓st_callf, bX, ap_mkfn, ap_conv, ↓wi_seq, ↓wi_base, ↓wi_block, ↓wi_cond, ↓wi_loop, ↓wi_rf, ↓wy_seq, ↓wy_base, ↓wy_block, ↓wy_cond, ↓wy_loop, ↓wy_yld, ae_callvV, callvV_fn, List.append_nil, List.cons_append, List.nil_append, bin_nff, bin_nfn, bin_nffx, bin_nfnx, bin_streq, bin_bo_same, lstep_some, ↓st_load1nf, ↓st_loadnf, ↓st_appr, ↓st_appf0, bin_nfls]
    all_goals first | exact hK2.put _ hsnb lt3 | skip
  obtain ⟨m, rfl⟩ : ∃ m, n = m + 1 := ⟨n - 1, by omega⟩
  have em : ((m + 1 : Nat) : Int) - 1 = (m : Int) := by omega
  have y1 := eq_true (show (0 : Int) ≤ (m : Int) by omega)
  have hw2 : IntKind.i64.wrap ((m : Int) - 1) = (m : Int) - 1 := wrapI (by omega) (by omega)
  obtain ⟨y, hy⟩ := getsome (show m < L.length by omega)
  obtain ⟨i1, a0, a1, _, a3⟩ := pr_lods hr2 hy
  have q1 := q_Rbefore false hr2 d k y.1
  rw [em] at e6
  by_cases hc : sg d k < sg d y.1
  · rw [decide_eq_true hc] at q1
    simp (config := {contextual := true, maxDischargeDepth := 12, maxSteps := 4000000}) only [tb_at, he, e1, e2, e4, e6, c1, c2, clt, y1, hw2, i1, a1, a3, q1, reserve0, notV_bool, Bool.not_true, Bool.not_false, pickV_t, pickV_f, bin_eql, bin_neq, bin_neb, bin_npn, bin_np, bin_npnx, gcall_tt, gpure_tf, beq_self_eq_true, Bool.true_and, Bool.and_true, decide_true, decide_false, ↓bD, bU, forall_const, bS, implies_true, isNx, eq_self, ↓wp_cond, ↓wp_loop, ↓reduceIte, reduceCtorEq, Nat.reduceEqDiff, Nat.reduceLT, Nat.reduceAdd, Nat.reduceMul, bT, ↓sg_bsl, ↓st_callf, bX, ap_mkfn, ap_conv, ↓wi_seq, ↓wi_base, ↓wi_block, ↓wi_cond, ↓wi_loop, ↓wi_rf, ↓wy_seq, ↓wy_base, ↓wy_block, ↓wy_cond, ↓wy_loop, ↓wy_yld, ae_callvV, callvV_fn, List.append_nil, List.cons_append, List.nil_append, bin_nff, bin_nfn, bin_nffx, bin_nfnx, bin_streq, bin_bo_same, lstep_some, ↓st_load1nf, ↓st_loadnf, ↓st_appr, ↓st_appf0, bin_nfls]
    refine ⟨m, by omega, ?_⟩
    rw [hI]
    exact ⟨rfl, i + 1, by omega, (by simp only [bE, Nat.reduceEqDiff, bN, Nat.reduceLT, he, e1, e2, e4, e6]; try rfl), (by simp only [bE, Nat.reduceEqDiff, bN, Nat.reduceLT, he, e1, e2, e4, e6]; try rfl), (by simp only [bE, Nat.reduceEqDiff, bN, Nat.reduceLT, he, e1, e2, e4, e6]; try rfl), (by simp only [bE, Nat.reduceEqDiff, bN, Nat.reduceLT, he, e1, e2, e4, e6]; try rfl), (by simp only [bE, Nat.reduceEqDiff, bN, Nat.reduceLT, he, e1, e2, e4, e6]; try rfl), by omega, fun j z hj hz => by
      by_cases e : j = m
      · subst e
        rw [hy] at hz; injection hz with hz; rw [← hz]; exact hc
      · exact hpost j z (by omega) hz⟩
  · rw [decide_eq_false hc] at q1
    have hfl : flD d L k = some y := fl_some hs hy hc fun j z hj hz => hpost j z (by omega) hz
    have st1 := row2_sto2 hg3 (x := .int .i64 y.1) (y := .str y.2) rfl rfl
    have ld1 := row2_lod2 (St.get_put_same (b := .row [.int .i64 y.1, .str y.2] true) hg3)
    rw [hfl]
    simp (config := {contextual := true, maxDischargeDepth := 12, maxSteps := 4000000}) only [tb_at, he, e1, e2, e4, e6, c1, c2, clt, y1, i1, a0, a1, a3, q1, reserve0, st1, ld1, lt3, rAtV_some, notV_bool, Bool.not_true, Bool.not_false, pickV_t, pickV_f, bin_eql, bin_neq, bin_neb, bin_npn, bin_np, bin_npnx, gcall_tt, gpure_tf, beq_self_eq_true, Bool.true_and, Bool.and_true, decide_true, decide_false, ↓bD, bU, forall_const, bS, implies_true, isNx, eq_self, ↓wp_cond, ↓wp_loop, ↓reduceIte, reduceCtorEq, Nat.reduceEqDiff, Nat.reduceLT, Nat.reduceAdd, Nat.reduceMul, bT, ↓sg_bsl, ↓st_callf, bX, ap_mkfn, ap_conv, ↓wi_seq, ↓wi_base, ↓wi_block, ↓wi_cond, ↓wi_loop, ↓wi_rf, ↓wy_seq, ↓wy_base, ↓wy_block, ↓wy_cond, ↓wy_loop, ↓wy_yld, ae_callvV, callvV_fn, List.append_nil, List.cons_append, List.nil_append, bin_nff, bin_nfn, bin_nffx, bin_nfnx, bin_streq, bin_bo_same, lstep_some, ↓st_load1nf, ↓st_loadnf, ↓st_appr, ↓st_appf0, bin_nfls]
    all_goals first | exact hK2.put _ hsnb lt3 | skip
theorem q_RFloor (cl : Bool) {s : St} {rv : AV} {L : List PrS} (hr : AM.read prC s rv = some L) (hl : L.length ≤ 10000) (d : Bool) (hs : SrtD d L) (k : Int) : acall R_RFloor cl [.agg [.bool d, rv], .int .i64 k] s = some (rAtV (flD d L k), s) := run_same n_RFloor (by simp [a53]) rfl (w_RFloor (s := lowd s) (read_low' hr) hl d hs k)
noncomputable def R_RCeil : Con := runFn (tb [(42, R_RRank), (52, R_RAt)]) a54
theorem s_RCeil : SoundAt Try.prog 54 R_RCeil := run_sound (tb_sound (l := [(42, R_RRank), (52, R_RAt)]) (by simpa using ⟨s_RRank, s_RAt⟩)) mixed Try.func54 k54 c54
theorem n_RCeil : noNxtC a54.body = true := by kernel_rfl
theorem w_RCeil {s : St} {rv : AV} {L : List PrS} (hr : AM.read prC s rv = some L) (hl : L.length ≤ 10000) (d : Bool) (k : Int) : ∀ env : Env, elen env = a54.ntmps → (∀ i x_, [.agg [.bool d, rv], .int .i64 k][i]? = some x_ → E env i = x_) → awp (tb [(42, R_RRank), (52, R_RAt)]) a54.body (fun x e t => (∀ i, x ≠ .exit i) ∧ aresults e t a54.results = some (rAtV (ceD d L k)) ∧ Keep s t) env s := by
  intro env hlen ha
  have h0 : E env 0 = _ := ha 0 _ rfl
  have h1 : E env 1 = _ := ha 1 _ rfl
  have hlen : elen env = _ := hlen
  simp only [a54] at hlen
  unfold a54
  try dsimp only [oO, oG]
  have ho := rd_one hr
  have hbx := boxV_m (a := .bool d) (b := rv) rfl ho.2
  have hK1 : Keep s (s.push (.row [.bool d, rv] true)) := (Keep.refl s).push _
  have hg1 := St.get_push_new s (.row [.bool d, rv] true)
  have hr1 := hK1.read hr
  obtain ⟨b0, b1, blt⟩ := row2_lod hg1
  have b2 := row2_lod2 hg1
  have hL := lenV_read hr
  have hr2 := (hK1.push (.row [.int .i64 0, .str ⟨#[]⟩] true)).read hr
  have hg2 := get_push_some (.row [.int .i64 0, .str ⟨#[]⟩] true) hg1
  have hg3 := St.get_push_new (s.push (.row [.bool d, rv] true)) (.row [.int .i64 0, .str ⟨#[]⟩] true)
  have hK2 := hK1.push (.row [.int .i64 0, .str ⟨#[]⟩] true)
  obtain ⟨u, hu⟩ : ∃ u, u = (s.push (.row [.bool d, rv] true)).push (.row [.int .i64 0, .str ⟨#[]⟩] true) := ⟨_, rfl⟩
  obtain ⟨nb, hnb⟩ : ∃ nb, nb = (s.push (.row [.bool d, rv] true)).next := ⟨_, rfl⟩
  rw [← hu] at hr2 hg2 hg3 hK2
  rw [← hnb] at hg3
  have hsnb : s.next ≤ nb := by rw [hnb]; simp
  have hne12 : s.next ≠ nb := by rw [hnb]; simp
  obtain ⟨c0, c1, clt⟩ := row2_lod hg2
  have c2 := row2_lod2 hg2
  have lt3 := St.get_lt hg3
  have st0 := row2_sto2 hg3 (x := .int .i64 0) (y := .str ⟨#[]⟩) rfl rfl
  have ld0 := row2_lod2 (St.get_put_same (b := .row [.int .i64 0, .str ⟨#[]⟩] true) hg3)
  have q1 := q_RRank true hr2 hl d k
  have q2 := q_RAt false hr2 hl d ((rkD d L k : Nat) : Int)
  rw [at_nat] at q2
  have e0 : ceD d L k = L[rkD d L k]? := rfl
  rw [← e0] at q2
  unfold rAtV at q2
  have st1 := row2_sto2 hg3 (x := .int .i64 (pd (ceD d L k)).1) (y := .str (pd (ceD d L k)).2) rfl rfl
  have ld1 := row2_lod2 (St.get_put_same (b := .row [.int .i64 (pd (ceD d L k)).1, .str (pd (ceD d L k)).2] true) hg3)
  unfold rAtV
  simp (config := {contextual := true, maxDischargeDepth := 12, maxSteps := 4000000}) only [tb_at, h0, h1, hlen, hbx, ← hu, ← hnb, c2, clt, ar_call, q1, q2, reserve0, st1, ld1, lt3, notV_bool, Bool.not_true, Bool.not_false, pickV_t, pickV_f, bin_eql, bin_neq, bin_neb, bin_npn, bin_np, bin_npnx, gcall_tt, gpure_tf, beq_self_eq_true, Bool.true_and, Bool.and_true, decide_true, decide_false, ↓bD, bU, forall_const, bS, implies_true, isNx, eq_self, ↓wp_cond, ↓wp_loop, ↓reduceIte, reduceCtorEq, Nat.reduceEqDiff, Nat.reduceLT, Nat.reduceAdd, Nat.reduceMul, bT, ↓sg_bsl, ↓st_callf, bX, ap_mkfn, ap_conv, ↓wi_seq, ↓wi_base, ↓wi_block, ↓wi_cond, ↓wi_loop, ↓wi_rf, ↓wy_seq, ↓wy_base, ↓wy_block, ↓wy_cond, ↓wy_loop, ↓wy_yld, ae_callvV, callvV_fn, List.append_nil, List.cons_append, List.nil_append, bin_nff, bin_nfn, bin_nffx, bin_nfnx, bin_streq, bin_bo_same, lstep_some, ↓st_load1nf, ↓st_loadnf, ↓st_appr, ↓st_appf0, bin_nfls]
  all_goals first | exact hK2.put _ hsnb lt3 | skip
theorem q_RCeil (cl : Bool) {s : St} {rv : AV} {L : List PrS} (hr : AM.read prC s rv = some L) (hl : L.length ≤ 10000) (d : Bool) (k : Int) : acall R_RCeil cl [.agg [.bool d, rv], .int .i64 k] s = some (rAtV (ceD d L k), s) := run_same n_RCeil (by simp [a54]) rfl (w_RCeil (s := lowd s) (read_low' hr) hl d k)
noncomputable def R_RFrom : Con := runFn (tb [(42, R_RRank)]) a18
theorem s_RFrom : SoundAt Try.prog 18 R_RFrom := run_sound (tb_sound (l := [(42, R_RRank)]) (by simpa using s_RRank)) mixed Try.func18 k18 c18
theorem n_RFrom : noNxtC a18.body = true := by kernel_rfl
theorem w_RFrom {s : St} {rv : AV} {L : List PrS} (hr : AM.read prC s rv = some L) (hl : L.length ≤ 10000) (d : Bool) (k : Int) : ∀ env : Env, elen env = a18.ntmps → (∀ i x_, [.agg [.bool d, rv], .int .i64 k][i]? = some x_ → E env i = x_) → awp (tb [(42, R_RRank)]) a18.body (fun x e t => (∀ i, x ≠ .exit i) ∧ ∃ r, aresults e t a18.results = some r ∧ AM.read prC t r = some (L.drop (rkD d L k)) ∧ Keep s t) env s := by
  intro env hlen ha
  have h0 : E env 0 = _ := ha 0 _ rfl
  have h1 : E env 1 = _ := ha 1 _ rfl
  have hlen : elen env = _ := hlen
  simp only [a18] at hlen
  unfold a18
  try dsimp only [oO, oG]
  have ho := rd_one hr
  have hbx := boxV_m (a := .bool d) (b := rv) rfl ho.2
  have hK1 : Keep s (s.push (.row [.bool d, rv] true)) := (Keep.refl s).push _
  have hg1 := St.get_push_new s (.row [.bool d, rv] true)
  have hr1 := hK1.read hr
  obtain ⟨b0, b1, blt⟩ := row2_lod hg1
  have b2 := row2_lod2 hg1
  have hL := lenV_read hr
  have q1 := q_RRank true hr1 hl d k
  obtain ⟨v', hsl, hrd⟩ := slc_lo (C := prC) hr1 (k := .i64) (i := ((rkD d L k : Nat) : Int)) rfl (rk_le d k L)
  rw [prC_sz] at hsl
  simp (config := {contextual := true, maxDischargeDepth := 12, maxSteps := 4000000}) only [tb_at, h0, h1, hlen, hbx, b1, b2, blt, ar_call, q1, hsl, reserve0, notV_bool, Bool.not_true, Bool.not_false, pickV_t, pickV_f, bin_eql, bin_neq, bin_neb, bin_npn, bin_np, bin_npnx, gcall_tt, gpure_tf, beq_self_eq_true, Bool.true_and, Bool.and_true, decide_true, decide_false, ↓bD, bU, forall_const, bS, implies_true, isNx, eq_self, ↓wp_cond, ↓wp_loop, ↓reduceIte, reduceCtorEq, Nat.reduceEqDiff, Nat.reduceLT, Nat.reduceAdd, Nat.reduceMul, bT, ↓sg_bsl, ↓st_callf, bX, ap_mkfn, ap_conv, ↓wi_seq, ↓wi_base, ↓wi_block, ↓wi_cond, ↓wi_loop, ↓wi_rf, ↓wy_seq, ↓wy_base, ↓wy_block, ↓wy_cond, ↓wy_loop, ↓wy_yld, ae_callvV, callvV_fn, List.append_nil, List.cons_append, List.nil_append, bin_nff, bin_nfn, bin_nffx, bin_nfnx, bin_streq, bin_bo_same, lstep_some, ↓st_load1nf, ↓st_loadnf, ↓st_appr, ↓st_appf0, bin_nfls]
  first | exact ⟨_, rfl, hrd _ (.refl _), hK1⟩ | exact ⟨_, rfl, hrd _ (.refl _)⟩
theorem q_RFrom {s : St} {rv : AV} {L : List PrS} (hr : AM.read prC s rv = some L) (hl : L.length ≤ 10000) (d : Bool) (k : Int) : ∃ w t, acall R_RFrom false [.agg [.bool d, rv], .int .i64 k] s = some (w, t) ∧ AM.read prC t w = some (L.drop (rkD d L k)) ∧ Keep s t :=
  run_any (s := s) n_RFrom (args := [.agg [.bool d, rv], .int .i64 k]) (Q := fun r t => AM.read prC t r = some (L.drop (rkD d L k))) (by simp [a18]) (fun r t t' hg hn h => read_mono h fun id b hb => by rw [hg]; exact hb) (fun r t hgr hk h => by
    cases r <;> first | exact h | cases hgr | (simp [AM.read] at h)) (w_RFrom (s := lowd s) (read_low' hr) hl d k)
noncomputable def R_RDelete : Con := runFn (tb []) a31
theorem s_RDelete : SoundAt Try.prog 31 R_RDelete := run_sound (tb_sound (l := []) (by simp)) mixed Try.func31 k31 c31
theorem n_RDelete : noNxtC a31.body = true := by kernel_rfl
theorem w_RDelete {s : St} {rv : AV} {L : List PrS} (hr : AM.read prC s rv = some L) (hl : L.length ≤ 10000) (d : Bool) (k : Int) : ∀ env : Env, elen env = a31.ntmps → (∀ i x_, [.agg [.bool d, rv], .int .i64 k][i]? = some x_ → E env i = x_) → awp (tb []) a31.body (fun x e t => (∀ i, x ≠ .exit i) ∧ ∃ r, aresults e t a31.results = some r ∧ (∃ lv, r = .agg [.bool d, lv] ∧ Own prC s t lv (dropK k L)) ∧ Keep s t) env s := by
  intro env hlen ha
  have h0 : E env 0 = _ := ha 0 _ rfl
  have h1 : E env 1 = _ := ha 1 _ rfl
  have hlen : elen env = _ := hlen
  simp only [a31] at hlen
  unfold a31
  try dsimp only [oO, oG]
  have ho := rd_one hr
  have hbx := boxV_m (a := .bool d) (b := rv) rfl ho.2
  have hK1 : Keep s (s.push (.row [.bool d, rv] true)) := (Keep.refl s).push _
  have hg1 := St.get_push_new s (.row [.bool d, rv] true)
  have hr1 := hK1.read hr
  obtain ⟨b0, b1, blt⟩ := row2_lod hg1
  have b2 := row2_lod2 hg1
  have hL := lenV_read hr
  have n1 : (s.push (.row [.bool d, rv] true)).next = s.next + 1 := rfl
  have n2 : ((s.push (.row [.bool d, rv] true)).push (.row [.bool false, .nils] true)).next = s.next + 2 := rfl
  obtain ⟨u2, hu2⟩ : ∃ u2, u2 = (s.push (.row [.bool d, rv] true)).push (.row [.bool false, .nils] true) := ⟨_, rfl⟩
  have g2a : u2.get s.next = some (.row [.bool d, rv] true) := by rw [hu2]; exact get_push_some _ hg1
  have g2b : u2.get (s.next + 1) = some (.row [.bool false, .nils] true) := by rw [hu2]; exact St.get_push_new (s.push (.row [.bool d, rv] true)) _
  have hK2 : Keep s u2 := by rw [hu2]; exact hK1.push _
  rw [← hu2] at n2
  have st1 := sto_z2 (m := s.next + 2) (t := u2) n2.symm (a := .bool d) (b := .nils) rfl rfl [.bool false, .nils] rfl
  obtain ⟨u3, hu3⟩ : ∃ u3, u3 = u2.lowed.push (.row [.bool d, .nils] true) := ⟨_, rfl⟩
  have g3c : u3.get (s.next + 2) = some (.row [.bool d, .nils] true) := by rw [hu3, ← n2]; exact St.get_push_new u2.lowed _
  have hK3 : Keep s u3 := by rw [hu3]; exact (hK2.trans (keep_lowed u2)).push _
  have hK23 : Keep u2 u3 := by rw [hu3]; exact (keep_lowed u2).push _
  rw [← hu3] at st1
  obtain ⟨c0, c1, clt⟩ := row2_lod g2a
  have fs0 := fstep_bw0' (x := .bool d) ⟨rfl, rfl⟩ (.bool false) .nils
  have lt0 : ltN (s.next + 2) (u2.push (.row [.bool false, .nils] true)) := by show s.next + 2 < u2.next + 1; omega
  simp (config := {contextual := true, maxDischargeDepth := 12, maxSteps := 4000000}) only [tb_at, h0, h1, hlen, hbx, n1, ← hu2, n2, c0, clt, ap_build, fillP_nil, fillP_cons, fs0, st1, lt0, notV_bool, Bool.not_true, Bool.not_false, pickV_t, pickV_f, bin_eql, bin_neq, bin_neb, bin_npn, bin_np, bin_npnx, gcall_tt, gpure_tf, beq_self_eq_true, Bool.true_and, Bool.and_true, decide_true, decide_false, ↓bD, bU, forall_const, bS, implies_true, isNx, eq_self, ↓wp_cond, ↓wp_loop, ↓reduceIte, reduceCtorEq, Nat.reduceEqDiff, Nat.reduceLT, Nat.reduceAdd, Nat.reduceMul, bT, ↓sg_bsl, ↓st_callf, bX, ap_mkfn, ap_conv, ↓wi_seq, ↓wi_base, ↓wi_block, ↓wi_cond, ↓wi_loop, ↓wi_rf, ↓wy_seq, ↓wy_base, ↓wy_block, ↓wy_cond, ↓wy_loop, ↓wy_yld, ae_callvV, callvV_fn, List.append_nil, List.cons_append, List.nil_append, bin_nff, bin_nfn, bin_nffx, bin_nfnx, bin_streq, bin_bo_same, lstep_some, ↓st_load1nf, ↓st_loadnf, ↓st_appr, ↓st_appf0, bin_nfls]
  obtain ⟨I, hI⟩ : ∃ I : Nat → Env → St → Prop, ∀ n e t, I n e t = (Keep s t ∧ ∃ (i : Nat) (lv : AV), n + i = L.length ∧ elen e = 36 ∧ E e 1 = .int .i64 k ∧ E e 2 = .ptr s.next 0 ∧ E e 4 = .ptr (s.next + 1) 0 ∧ E e 5 = .ptr (s.next + 2) 0 ∧ E e 6 = .int .i64 (i : Int) ∧ t.get s.next = some (.row [.bool d, rv] true) ∧ t.get (s.next + 1) = some (.row [.bool false, .nils] true) ∧ t.get (s.next + 2) = some (.row [.bool d, lv] true) ∧ Own prC s t lv (dropK k (L.take i))) := ⟨fun n e t => (Keep s t ∧ ∃ (i : Nat) (lv : AV), n + i = L.length ∧ elen e = 36 ∧ E e 1 = .int .i64 k ∧ E e 2 = .ptr s.next 0 ∧ E e 4 = .ptr (s.next + 1) 0 ∧ E e 5 = .ptr (s.next + 2) 0 ∧ E e 6 = .int .i64 (i : Int) ∧ t.get s.next = some (.row [.bool d, rv] true) ∧ t.get (s.next + 1) = some (.row [.bool false, .nils] true) ∧ t.get (s.next + 2) = some (.row [.bool d, lv] true) ∧ Own prC s t lv (dropK k (L.take i))), fun _ _ _ => rfl⟩
  refine lwp_inv I (n := L.length) ?_ ?_
  · rw [hI]
    exact ⟨hK3, 0, .nils, by omega, (by simp only [bE, Nat.reduceEqDiff, bN, Nat.reduceLT, hlen]; try rfl), (by simp only [bE, Nat.reduceEqDiff, bN, Nat.reduceLT, hlen, h1]; try rfl), (by simp only [bE, Nat.reduceEqDiff, bN, Nat.reduceLT, hlen]; try rfl), (by simp only [bE, Nat.reduceEqDiff, bN, Nat.reduceLT, hlen]; try rfl), (by simp only [bE, Nat.reduceEqDiff, bN, Nat.reduceLT, hlen]; try rfl), (by simp only [bE, Nat.reduceEqDiff, bN, Nat.reduceLT, hlen]; try rfl), hK23.blk g2a, hK23.blk g2b, g3c, .nil _ _ _⟩
  clear h0 ha
  intro n e t hi
  rw [hI] at hi
  obtain ⟨hK, i, lv, hni, he, e1, e2, e4, e5, e6, g0, g1, g2, hO⟩ := hi
  obtain ⟨d0, d1, dlt⟩ := row2_lod g0
  obtain ⟨f0, f1, flt⟩ := row2_lod g2
  by_cases hlt : i < L.length
  rotate_left
  · have y1 := eq_false (show ¬ (i : Int) < (L.length : Int) by omega)
    obtain rfl : i = L.length := by omega
    rw [List.take_length] at hO
    have ld5 := row2_lod2 g2
    have st2 := row2_sto2 g1 (x := .bool d) (y := lv) rfl (own_one1 hO).2
    have lt2 := St.get_lt g1
    have ld2 := row2_lod2 (St.get_put_same (b := .row [.bool d, lv] true) g1)
    have hO2 : Own prC s (t.put (s.next + 1) (.row [.bool d, lv] true)) lv (dropK k L) := by
      have hne := own_neb rfl hO g1
      rcases hO with q | ⟨j, q, q0, q1, q2⟩
      · exact .inl q
      · refine .inr ⟨j, q, q0, q1, ?_⟩
        rw [St.get_put_ne _ _ lt2 fun e => hne 0 _ none _ (by rw [q, e])]
        exact q2
    have hKf := hK.put (id := s.next + 1) (.row [.bool d, lv] true) (by omega) lt2
    simp (config := {contextual := true, maxDischargeDepth := 12, maxSteps := 4000000}) only [tb_at, he, e1, e2, e4, e5, e6, d1, dlt, hL, y1, ld5, flt, st2, lt2, ld2, notV_bool, Bool.not_true, Bool.not_false, pickV_t, pickV_f, bin_eql, bin_neq, bin_neb, bin_npn, bin_np, bin_npnx, gcall_tt, gpure_tf, beq_self_eq_true, Bool.true_and, Bool.and_true, decide_true, decide_false, ↓bD, bU, forall_const, bS, implies_true, isNx, eq_self, ↓wp_cond, ↓wp_loop, ↓reduceIte, reduceCtorEq, Nat.reduceEqDiff, Nat.reduceLT, Nat.reduceAdd, Nat.reduceMul, bT, ↓sg_bsl, ↓st_callf, bX, ap_mkfn, ap_conv, ↓wi_seq, ↓wi_base, ↓wi_block, ↓wi_cond, ↓wi_loop, ↓wi_rf, ↓wy_seq, ↓wy_base, ↓wy_block, ↓wy_cond, ↓wy_loop, ↓wy_yld, ae_callvV, callvV_fn, List.append_nil, List.cons_append, List.nil_append, bin_nff, bin_nfn, bin_nffx, bin_nfnx, bin_streq, bin_bo_same, lstep_some, ↓st_load1nf, ↓st_loadnf, ↓st_appr, ↓st_appf0, bin_nfls]
    first | exact ⟨_, rfl, ⟨lv, rfl, hO2⟩, hKf⟩ | exact ⟨⟨lv, rfl, hO2⟩, hKf⟩ | exact ⟨_, rfl, lv, rfl, hO2⟩
  have y1 := eq_true (show (i : Int) < (L.length : Int) by omega)
  have hw2 := wrap_add1 (n := i) (by omega)
  obtain ⟨y, hy⟩ := getsome hlt
  have hrt := hK.read hr
  obtain ⟨i1, a0, a1, _, a3⟩ := pr_lods hrt hy
  have hsn := dropK_snoc (k := k) hy
  by_cases hc : y.1 = k
  · have z1 := eq_true hc
    rw [if_pos hc] at hsn
    rw [← hsn] at hO
    simp (config := {contextual := true, maxDischargeDepth := 12, maxSteps := 4000000}) only [tb_at, he, e1, e2, e4, e5, e6, d1, dlt, hL, y1, hw2, i1, a1, a3, z1, notV_bool, Bool.not_true, Bool.not_false, pickV_t, pickV_f, bin_eql, bin_neq, bin_neb, bin_npn, bin_np, bin_npnx, gcall_tt, gpure_tf, beq_self_eq_true, Bool.true_and, Bool.and_true, decide_true, decide_false, ↓bD, bU, forall_const, bS, implies_true, isNx, eq_self, ↓wp_cond, ↓wp_loop, ↓reduceIte, reduceCtorEq, Nat.reduceEqDiff, Nat.reduceLT, Nat.reduceAdd, Nat.reduceMul, bT, ↓sg_bsl, ↓st_callf, bX, ap_mkfn, ap_conv, ↓wi_seq, ↓wi_base, ↓wi_block, ↓wi_cond, ↓wi_loop, ↓wi_rf, ↓wy_seq, ↓wy_base, ↓wy_block, ↓wy_cond, ↓wy_loop, ↓wy_yld, ae_callvV, callvV_fn, List.append_nil, List.cons_append, List.nil_append, bin_nff, bin_nfn, bin_nffx, bin_nfnx, bin_streq, bin_bo_same, lstep_some, ↓st_load1nf, ↓st_loadnf, ↓st_appr, ↓st_appf0, bin_nfls]
    refine ⟨n - 1, by omega, ?_⟩
    rw [hI]
    exact ⟨hK, i + 1, lv, by omega, (by simp only [bE, Nat.reduceEqDiff, bN, Nat.reduceLT, he, e1, e2, e4, e5, e6]; try rfl), (by simp only [bE, Nat.reduceEqDiff, bN, Nat.reduceLT, he, e1, e2, e4, e5, e6]; try rfl), (by simp only [bE, Nat.reduceEqDiff, bN, Nat.reduceLT, he, e1, e2, e4, e5, e6]; try rfl), (by simp only [bE, Nat.reduceEqDiff, bN, Nat.reduceLT, he, e1, e2, e4, e5, e6]; try rfl), (by simp only [bE, Nat.reduceEqDiff, bN, Nat.reduceLT, he, e1, e2, e4, e5, e6]; try rfl), (by simp only [bE, Nat.reduceEqDiff, bN, Nat.reduceLT, he, e1, e2, e4, e5, e6]; try rfl), g0, g1, g2, hO⟩
  · have z1 := eq_false hc
    rw [if_neg hc] at hsn
    have hbs : bslV [.int .i64 0, .str ⟨#[]⟩] 1 2 [(0, .agg [.int .i64 y.1, .str y.2])] = some (fun id => .sl id 0 1 (some 1) 2, .row [.int .i64 y.1, .str y.2] true) := by
      simp [bslV, fillP, aev, AV.cells, AV.one, setAt]
    obtain ⟨lv', t2, hap, hst, hlt2, hK2', g2', hO2, hfr⟩ := box2_app hK g2 (by omega) hO y (by have := dropK_len k (L.take i); rw [List.length_take] at this; omega)
    rw [← hsn] at hO2
    have g0' := hfr _ _ g0 (by omega) (own_neb rfl hO g0)
    have g1' := hfr _ _ g1 (by omega) (own_neb rfl hO g1)
    have hap : appV (t.push (.row [.int .i64 y.1, .str y.2] true)) 2 24 lv (.sl t.next 0 1 (some 1) 2) = some (lv', t2) := hap
    have hKR := keep_reserve t 1
    obtain ⟨d0', d1', dlt'⟩ := row2_lod (hKR.blk g0)
    obtain ⟨f0', f1', flt'⟩ := row2_lod (hKR.blk g2)
    obtain ⟨i1', a0', a1', _, a3'⟩ := pr_lods (hKR.read hrt) hy
    simp (config := {contextual := true, maxDischargeDepth := 12, maxSteps := 4000000}) only [tb_at, he, e1, e2, e4, e5, e6, d1, dlt, hL, y1, hw2, i1, a1, a3, z1, d1', dlt', f1', flt', a0', a3', hbs, hap, hst, hlt2, notV_bool, Bool.not_true, Bool.not_false, pickV_t, pickV_f, bin_eql, bin_neq, bin_neb, bin_npn, bin_np, bin_npnx, gcall_tt, gpure_tf, beq_self_eq_true, Bool.true_and, Bool.and_true, decide_true, decide_false, ↓bD, bU, forall_const, bS, implies_true, isNx, eq_self, ↓wp_cond, ↓wp_loop, ↓reduceIte, reduceCtorEq, Nat.reduceEqDiff, Nat.reduceLT, Nat.reduceAdd, Nat.reduceMul, bT, ↓sg_bsl, ↓st_callf, bX, ap_mkfn, ap_conv, ↓wi_seq, ↓wi_base, ↓wi_block, ↓wi_cond, ↓wi_loop, ↓wi_rf, ↓wy_seq, ↓wy_base, ↓wy_block, ↓wy_cond, ↓wy_loop, ↓wy_yld, ae_callvV, callvV_fn, List.append_nil, List.cons_append, List.nil_append, bin_nff, bin_nfn, bin_nffx, bin_nfnx, bin_streq, bin_bo_same, lstep_some, ↓st_load1nf, ↓st_loadnf, ↓st_appr, ↓st_appf0, bin_nfls]
    refine ⟨n - 1, by omega, ?_⟩
    rw [hI]
    exact ⟨hK2', i + 1, lv', by omega, (by simp only [bE, Nat.reduceEqDiff, bN, Nat.reduceLT, he, e1, e2, e4, e5, e6]; try rfl), (by simp only [bE, Nat.reduceEqDiff, bN, Nat.reduceLT, he, e1, e2, e4, e5, e6]; try rfl), (by simp only [bE, Nat.reduceEqDiff, bN, Nat.reduceLT, he, e1, e2, e4, e5, e6]; try rfl), (by simp only [bE, Nat.reduceEqDiff, bN, Nat.reduceLT, he, e1, e2, e4, e5, e6]; try rfl), (by simp only [bE, Nat.reduceEqDiff, bN, Nat.reduceLT, he, e1, e2, e4, e5, e6]; try rfl), (by simp only [bE, Nat.reduceEqDiff, bN, Nat.reduceLT, he, e1, e2, e4, e5, e6]; try rfl), g0', g1', g2', hO2⟩
theorem q_RDelete {s : St} {rv : AV} {L : List PrS} (hr : AM.read prC s rv = some L) (hl : L.length ≤ 10000) (d : Bool) (k : Int) : ∃ lv t, acall R_RDelete false [.agg [.bool d, rv], .int .i64 k] s = some (.agg [.bool d, lv], t) ∧ Own prC s t lv (dropK k L) ∧ Keep s t := by
  obtain ⟨r, t, h1, ⟨lv, rfl, h2⟩, h4⟩ := run_any (s := s) n_RDelete (args := [.agg [.bool d, rv], .int .i64 k]) (Q := fun r t => ∃ lv, r = .agg [.bool d, lv] ∧ Own prC s t lv (dropK k L)) (by simp [a31]) (fun r t t' hg hn ⟨lv, e, h⟩ => ⟨lv, e, h.mono fun id b hb => by rw [hg]; exact hb⟩) (fun r t hgr hk h => by
    obtain ⟨lv, rfl, h⟩ := h
    rcases h with ⟨rfl, e⟩ | ⟨j, rfl, _⟩
    · exact ⟨.nils, rfl, .inl ⟨rfl, e⟩⟩
    · cases d <;> cases hgr) (w_RDelete (s := lowd s) (read_low' hr) hl d k)
  exact ⟨lv, t, h1, h2, h4⟩

end Go.AM
end
/-
  Ordered maps: Set of the reference, Same, light; plain laws. Own work of this project; in part printed by a program of it.
-/
section
set_option maxRecDepth 100000
set_option maxHeartbeats 8000000
namespace Go.AM
open Go Go.Proofs

variable {s t u : St}
noncomputable def R_RSet : Con := runFn (tb [(31, R_RDelete), (42, R_RRank)]) a12
theorem s_RSet : SoundAt Try.prog 12 R_RSet := run_sound (tb_sound (l := [(31, R_RDelete), (42, R_RRank)]) (by simpa using ⟨s_RDelete, s_RRank⟩)) mixed Try.func12 k12 c12
theorem n_RSet : noNxtC a12.body = true := by kernel_rfl
theorem w_RSet {s : St} {rv : AV} {L : List PrS} (hr : AM.read prC s rv = some L) (hl : L.length ≤ 9000) (d : Bool) (k : Int) (v : ByteArray) : ∀ env : Env, elen env = a12.ntmps → (∀ i x_, [.agg [.bool d, rv], .int .i64 k, .str v][i]? = some x_ → E env i = x_) → awp (tb [(31, R_RDelete), (42, R_RRank)]) a12.body (fun x e t => (∀ i, x ≠ .exit i) ∧ ∃ r, aresults e t a12.results = some r ∧ (∃ lv, r = .agg [.bool d, lv] ∧ Own prC s t lv (putR d L k v)) ∧ Keep s t) env s := by
  intro env hlen ha
  have h0 : E env 0 = _ := ha 0 _ rfl
  have h1 : E env 1 = _ := ha 1 _ rfl
  have h2 : E env 2 = _ := ha 2 _ rfl
  have hlen : elen env = _ := hlen
  simp only [a12] at hlen
  unfold a12
  try dsimp only [oO, oG]
  have ho := rd_one hr
  have hbx := boxV_m (a := .bool d) (b := rv) rfl ho.2
  have hK1 : Keep s (s.push (.row [.bool d, rv] true)) := (Keep.refl s).push _
  have hg1 := St.get_push_new s (.row [.bool d, rv] true)
  have hr1 := hK1.read hr
  obtain ⟨b0, b1, blt⟩ := row2_lod hg1
  have b2 := row2_lod2 hg1
  have hL := lenV_read hr
  have n1 : (s.push (.row [.bool d, rv] true)).next = s.next + 1 := rfl
  obtain ⟨u2, hu2⟩ : ∃ u2, u2 = (s.push (.row [.bool d, rv] true)).push (.row [.bool false, .nils] true) := ⟨_, rfl⟩
  have g2a : u2.get s.next = some (.row [.bool d, rv] true) := by rw [hu2]; exact get_push_some _ hg1
  have g2b : u2.get (s.next + 1) = some (.row [.bool false, .nils] true) := by rw [hu2]; exact St.get_push_new (s.push (.row [.bool d, rv] true)) _
  have hK2 : Keep s u2 := by rw [hu2]; exact hK1.push _
  have ld0 := row2_lod2 g2a
  have clt := St.get_lt g2a
  obtain ⟨lv1, t3, q1, hO1, hK3⟩ := q_RDelete (hK2.read hr) (by omega) d k
  obtain ⟨M, hM⟩ : ∃ M, M = dropK k L := ⟨_, rfl⟩
  rw [← hM] at hO1
  have hML : M.length ≤ L.length := by rw [hM]; exact dropK_len k L
  have st1 := row2_sto2 (hK3.blk g2a) (x := .bool d) (y := lv1) rfl (own_one1 hO1).2
  have lt1 := St.get_lt (hK3.blk g2a)
  obtain ⟨u, hu⟩ : ∃ u, u = t3.put s.next (.row [.bool d, lv1] true) := ⟨_, rfl⟩
  have gu : u.get s.next = some (.row [.bool d, lv1] true) := by rw [hu]; exact St.get_put_same (hK3.blk g2a)
  have gu1 : u.get (s.next + 1) = some (.row [.bool false, .nils] true) := by rw [hu, St.get_put_ne _ _ lt1 (by omega)]; exact hK3.blk g2b
  have hKu : Keep s u := by rw [hu]; exact (hK2.trans hK3).put _ (Nat.le_refl _) lt1
  have hr1u : AM.read prC u lv1 = some M := by
    have hne := own_neb rfl hO1 (hK3.blk g2a)
    refine (show Own prC u2 u lv1 M from ?_).read
    rcases hO1 with e | ⟨j, e, q0, qa, qb⟩
    · exact .inl e
    · refine .inr ⟨j, e, q0, qa, ?_⟩
      rw [hu, St.get_put_ne _ _ lt1 fun e' => hne 0 _ none _ (by rw [e, e'])]
      exact qb
  rw [← hu] at st1
  have ld1 := row2_lod2 gu
  have ltu := St.get_lt gu
  have q2 := q_RRank false hr1u (by omega) d k
  obtain ⟨i, hi⟩ : ∃ i, i = rkD d M k := ⟨_, rfl⟩
  rw [← hi] at q2
  have hil : i ≤ M.length := by rw [hi]; exact rk_le d k M
  have hKR : Keep u (u.reserve 1) := keep_reserve u 1
  obtain ⟨v1, sl1, rd1⟩ := slc_hi (C := prC) hr1u (fun id off n c z e => by
    rcases hO1 with ⟨e', _⟩ | ⟨j, e', _⟩ <;> rw [e'] at e <;> cases e) (k := .i64) (i := (i : Int)) rfl hil
  obtain ⟨v2, sl2, rd2⟩ := slc_lo (C := prC) hr1u (k := .i64) (i := (i : Int)) rfl hil
  rw [prC_sz] at sl1 sl2
  obtain ⟨w1, t4, ap1, hK4, hO4⟩ := appG_list (C := prC) (Nat.le_refl _) (Keep.refl (u.reserve 1)) (.nil prC (u.reserve 1) (u.reserve 1)) (rd1 _ hKR) 24 (by rw [List.length_take]; unfold roomBytes; simp; omega)
  rw [List.nil_append] at hO4
  have hun : t4.get u.next = some .unborn := by rw [hK4.get _ (by simp), St.get_reserve]; simp
  have hun0 : t4.get (u.next + 0) = some .unborn := hun
  obtain ⟨t5, ht5⟩ : ∃ t5, t5 = t4.born u.next (.row [.int .i64 k, .str v] true) := ⟨_, rfl⟩
  have hK5 : Keep u t5 := by rw [ht5]; exact (hKR.trans hK4).born _ (Nat.le_refl _) (St.get_lt hun)
  have hO5 : Own prC u t5 w1 (M.take i) := by
    rw [ht5]
    exact (own_bornP hO4 hun (by simp)).from (by simp)
  have g5 : t5.get u.next = some (.row [.int .i64 k, .str v] true) := by rw [ht5]; exact St.get_born_same hun
  have hrd5 : AM.read prC t5 (.sl u.next 0 1 (some 1) 2) = some [(k, v)] := read_of (C := prC) (n := 1) rfl g5 (by simp [prC]) rfl
  obtain ⟨w2, t6, ap2, hK6, hO6⟩ := appG_list (C := prC) (Nat.le_refl u.next) hK5 hO5 hrd5 24 (by rw [List.length_take]; unfold roomBytes; simp; omega)
  obtain ⟨w3, t7, ap3, hK7, hO7⟩ := appG_list (C := prC) (Nat.le_refl u.next) hK6 hO6 (rd2 _ hK6) 24 (by rw [List.length_append, List.length_take, List.length_drop]; unfold roomBytes; simp; omega)
  rw [prC_sz] at ap1 ap2 ap3
  have hput : M.take i ++ [(k, v)] ++ M.drop i = putR d L k v := by
    unfold putR
    rw [← hM, ← hi]
    simp
  rw [hput] at hO7
  have oa : oldA u.next (.ptr s.next 0) = true := oldA_lt ltu
  have oa1 : oldA u.next (.ptr s.next 1) = true := oldA_lt ltu
  obtain ⟨c0, c1, clR⟩ := row2_lod (hKR.blk gu)
  obtain ⟨e0_, e1_, elt⟩ := row2_lod (hK6.blk gu)
  have fs0 := fstep_bw0' (x := .bool d) ⟨rfl, rfl⟩ (.bool false) .nils
  have fs1 := fstep_bw1' (x := w3) (own_one1 hO7) (.bool d) .nils
  have fs2 := fstep_bw0' (x := .int .i64 k) ⟨rfl, rfl⟩ (.int .i64 0) (.str ⟨#[]⟩)
  have fs3 := fstep_bw1' (x := .str v) ⟨rfl, rfl⟩ (.int .i64 k) (.str ⟨#[]⟩)
  have hbs : bslV [.int .i64 0, .str ⟨#[]⟩] 1 2 [(0, .agg [.int .i64 k, .str v])] = some (fun id => .sl id 0 1 (some 1) 2, .row [.int .i64 k, .str v] true) := by
    simp [bslV, fillP, aev, AV.cells, AV.one, setAt]
  have g7 := hK7.blk gu1
  have st2 := row2_sto2 g7 (x := .bool d) (y := w3) rfl (own_one1 hO7).2
  have lt2 := St.get_lt g7
  have ld2 := row2_lod2 (St.get_put_same (b := .row [.bool d, w3] true) g7)
  have hO8 : Own prC s (t7.put (s.next + 1) (.row [.bool d, w3] true)) w3 (putR d L k v) := by
    have hne := own_neb rfl hO7 g7
    have hKn := hKu.next
    rcases hO7 with e | ⟨j, e, q0, qa, qb⟩
    · exact .inl e
    · refine .inr ⟨j, e, q0, by omega, ?_⟩
      rw [St.get_put_ne _ _ lt2 fun e' => hne 0 _ none _ (by rw [e, e'])]
      exact qb
  have hKf : Keep s (t7.put (s.next + 1) (.row [.bool d, w3] true)) := (hKu.trans hK7).put _ (by omega) lt2
  simp (config := {contextual := true, maxDischargeDepth := 12, maxSteps := 4000000}) only [tb_at, h0, h1, h2, hlen, hbx, n1, ← hu2, ld0, clt, q1, st1, lt1, ld1, ltu, q2, oa, oa1, c0, c1, clR, sl1, ap1, hun, hun0, Nat.add_zero, fs0, fs1, fs2, fs3, ap_build, fillP_nil, fillP_cons, hbs, ← ht5, ap2, e0_, e1_, elt, sl2, ap3, st2, lt2, ld2, notV_bool, Bool.not_true, Bool.not_false, pickV_t, pickV_f, bin_eql, bin_neq, bin_neb, bin_npn, bin_np, bin_npnx, gcall_tt, gpure_tf, beq_self_eq_true, Bool.true_and, Bool.and_true, decide_true, decide_false, ↓bD, bU, forall_const, bS, implies_true, isNx, eq_self, ↓wp_cond, ↓wp_loop, ↓reduceIte, reduceCtorEq, Nat.reduceEqDiff, Nat.reduceLT, Nat.reduceAdd, Nat.reduceMul, bT, ↓sg_bsl, ↓st_callf, bX, ap_mkfn, ap_conv, ↓wi_seq, ↓wi_base, ↓wi_block, ↓wi_cond, ↓wi_loop, ↓wi_rf, ↓wy_seq, ↓wy_base, ↓wy_block, ↓wy_cond, ↓wy_loop, ↓wy_yld, ae_callvV, callvV_fn, List.append_nil, List.cons_append, List.nil_append, bin_nff, bin_nfn, bin_nffx, bin_nfnx, bin_streq, bin_bo_same, lstep_some, ↓st_load1nf, ↓st_loadnf, ↓st_appr, ↓st_appf0, bin_nfls]
  first | exact ⟨_, rfl, ⟨w3, rfl, hO8⟩, hKf⟩ | exact ⟨⟨w3, rfl, hO8⟩, hKf⟩ | exact ⟨_, rfl, w3, rfl, hO8⟩
theorem q_RSet {s : St} {rv : AV} {L : List PrS} (hr : AM.read prC s rv = some L) (hl : L.length ≤ 9000) (d : Bool) (k : Int) (v : ByteArray) : ∃ lv t, acall R_RSet false [.agg [.bool d, rv], .int .i64 k, .str v] s = some (.agg [.bool d, lv], t) ∧ Own prC s t lv (putR d L k v) ∧ Keep s t := by
  obtain ⟨r, t, h1, ⟨lv, rfl, h2⟩, h4⟩ := run_any (s := s) n_RSet (args := [.agg [.bool d, rv], .int .i64 k, .str v]) (Q := fun r t => ∃ lv, r = .agg [.bool d, lv] ∧ Own prC s t lv (putR d L k v)) (by simp [a12]) (fun r t t' hg hn ⟨lv, e, h⟩ => ⟨lv, e, h.mono fun id b hb => by rw [hg]; exact hb⟩) (fun r t hgr hk h => by
    obtain ⟨lv, rfl, h⟩ := h
    rcases h with ⟨rfl, e⟩ | ⟨j, rfl, _⟩
    · exact ⟨.nils, rfl, .inl ⟨rfl, e⟩⟩
    · cases d <;> cases hgr) (w_RSet (s := lowd s) (read_low' hr) hl d k v)
  exact ⟨lv, t, h1, h2, h4⟩
noncomputable def R_Same : Con := runFn (tb []) a15
theorem s_Same : SoundAt Try.prog 15 R_Same := run_sound (tb_sound (l := []) (by simp)) mixed Try.func15 k15 c15
theorem n_Same : noNxtC a15.body = true := by kernel_rfl
theorem w_Same {s : St} {a c : AV} {L : List PrS} (ha_ : AM.read prC s a = some L) (hc_ : AM.read prC s c = some L) (hl : L.length ≤ 10000) : ∀ env : Env, elen env = a15.ntmps → (∀ i x_, [a, c][i]? = some x_ → E env i = x_) → awp (tb []) a15.body (fun x e t => (∀ i, x ≠ .exit i) ∧ aresults e t a15.results = some (.bool true) ∧ Keep s t) env s := by
  intro env hlen ha
  have h0 : E env 0 = _ := ha 0 _ rfl
  have h1 : E env 1 = _ := ha 1 _ rfl
  have hlen : elen env = _ := hlen
  simp only [a15] at hlen
  unfold a15
  try dsimp only [oO, oG]
  have hL := lenV_read ha_
  have hL2 := lenV_read hc_
  have nn : ((L.length : Int) = (L.length : Int)) = True := eq_self _
  simp (config := {contextual := true, maxDischargeDepth := 12, maxSteps := 4000000}) only [tb_at, h0, h1, hlen, hL, hL2, nn, notV_bool, Bool.not_true, Bool.not_false, pickV_t, pickV_f, bin_eql, bin_neq, bin_neb, bin_npn, bin_np, bin_npnx, gcall_tt, gpure_tf, beq_self_eq_true, Bool.true_and, Bool.and_true, decide_true, decide_false, ↓bD, bU, forall_const, bS, implies_true, isNx, eq_self, ↓wp_cond, ↓wp_loop, ↓reduceIte, reduceCtorEq, Nat.reduceEqDiff, Nat.reduceLT, Nat.reduceAdd, Nat.reduceMul, bT, ↓sg_bsl, ↓st_callf, bX, ap_mkfn, ap_conv, ↓wi_seq, ↓wi_base, ↓wi_block, ↓wi_cond, ↓wi_loop, ↓wi_rf, ↓wy_seq, ↓wy_base, ↓wy_block, ↓wy_cond, ↓wy_loop, ↓wy_yld, ae_callvV, callvV_fn, List.append_nil, List.cons_append, List.nil_append, bin_nff, bin_nfn, bin_nffx, bin_nfnx, bin_streq, bin_bo_same, lstep_some, ↓st_load1nf, ↓st_loadnf, ↓st_appr, ↓st_appf0, bin_nfls]
  obtain ⟨I, hI⟩ : ∃ I : Nat → Env → St → Prop, ∀ n e t, I n e t = (t = s ∧ ∃ i : Nat, n + i = L.length ∧ elen e = 26 ∧ E e 0 = a ∧ E e 1 = c ∧ E e 5 = .int .i64 (i : Int)) := ⟨fun n e t => (t = s ∧ ∃ i : Nat, n + i = L.length ∧ elen e = 26 ∧ E e 0 = a ∧ E e 1 = c ∧ E e 5 = .int .i64 (i : Int)), fun _ _ _ => rfl⟩
  refine lwp_inv I (n := L.length) ?_ ?_
  · rw [hI]
    exact ⟨rfl, 0, by omega, (by simp only [bE, Nat.reduceEqDiff, bN, Nat.reduceLT, hlen]; try rfl), (by simp only [bE, Nat.reduceEqDiff, bN, Nat.reduceLT, hlen, h0]; try rfl), (by simp only [bE, Nat.reduceEqDiff, bN, Nat.reduceLT, hlen, h1]; try rfl), (by simp only [bE, Nat.reduceEqDiff, bN, Nat.reduceLT, hlen]; try rfl)⟩
  clear h0 h1 ha
  intro n e t hi
  rw [hI] at hi
  obtain ⟨hK, i, hni, he, e0, e1, e5⟩ := hi
  subst hK
  by_cases hlt : i < L.length
  rotate_left
  · have y1 := eq_false (show ¬ (i : Int) < (L.length : Int) by omega)
    simp (config := {contextual := true, maxDischargeDepth := 12, maxSteps := 4000000}) only [tb_at, he, e0, e1, e5, hL, y1, notV_bool, Bool.not_true, Bool.not_false, pickV_t, pickV_f, bin_eql, bin_neq, bin_neb, bin_npn, bin_np, bin_npnx, gcall_tt, gpure_tf, beq_self_eq_true, Bool.true_and, Bool.and_true, decide_true, decide_false, ↓bD, bU, forall_const, bS, implies_true, isNx, eq_self, ↓wp_cond, ↓wp_loop, ↓reduceIte, reduceCtorEq, Nat.reduceEqDiff, Nat.reduceLT, Nat.reduceAdd, Nat.reduceMul, bT, ↓sg_bsl, ↓st_callf, bX, ap_mkfn, ap_conv, ↓wi_seq, ↓wi_base, ↓wi_block, ↓wi_cond, ↓wi_loop, ↓wi_rf, ↓wy_seq, ↓wy_base, ↓wy_block, ↓wy_cond, ↓wy_loop, ↓wy_yld, ae_callvV, callvV_fn, List.append_nil, List.cons_append, List.nil_append, bin_nff, bin_nfn, bin_nffx, bin_nfnx, bin_streq, bin_bo_same, lstep_some, ↓st_load1nf, ↓st_loadnf, ↓st_appr, ↓st_appf0, bin_nfls]
    all_goals first | exact .refl _ | skip
  have y1 := eq_true (show (i : Int) < (L.length : Int) by omega)
  have hw2 := wrap_add1 (n := i) (by omega)
  obtain ⟨y, hy⟩ := getsome hlt
  obtain ⟨i1, a0, _, _, a3⟩ := pr_lods ha_ hy
  obtain ⟨j1, b0, _, _, b3⟩ := pr_lods hc_ hy
  simp (config := {contextual := true, maxDischargeDepth := 12, maxSteps := 4000000}) only [tb_at, he, e0, e1, e5, hL, y1, hw2, i1, a0, a3, j1, b0, b3, reserve0, notV_bool, Bool.not_true, Bool.not_false, pickV_t, pickV_f, bin_eql, bin_neq, bin_neb, bin_npn, bin_np, bin_npnx, gcall_tt, gpure_tf, beq_self_eq_true, Bool.true_and, Bool.and_true, decide_true, decide_false, ↓bD, bU, forall_const, bS, implies_true, isNx, eq_self, ↓wp_cond, ↓wp_loop, ↓reduceIte, reduceCtorEq, Nat.reduceEqDiff, Nat.reduceLT, Nat.reduceAdd, Nat.reduceMul, bT, ↓sg_bsl, ↓st_callf, bX, ap_mkfn, ap_conv, ↓wi_seq, ↓wi_base, ↓wi_block, ↓wi_cond, ↓wi_loop, ↓wi_rf, ↓wy_seq, ↓wy_base, ↓wy_block, ↓wy_cond, ↓wy_loop, ↓wy_yld, ae_callvV, callvV_fn, List.append_nil, List.cons_append, List.nil_append, bin_nff, bin_nfn, bin_nffx, bin_nfnx, bin_streq, bin_bo_same, lstep_some, ↓st_load1nf, ↓st_loadnf, ↓st_appr, ↓st_appf0, bin_nfls]
  refine ⟨n - 1, by omega, ?_⟩
  rw [hI]
  exact ⟨rfl, i + 1, by omega, (by simp only [bE, Nat.reduceEqDiff, bN, Nat.reduceLT, he, e0, e1, e5]; try rfl), (by simp only [bE, Nat.reduceEqDiff, bN, Nat.reduceLT, he, e0, e1, e5]; try rfl), (by simp only [bE, Nat.reduceEqDiff, bN, Nat.reduceLT, he, e0, e1, e5]; try rfl), (by simp only [bE, Nat.reduceEqDiff, bN, Nat.reduceLT, he, e0, e1, e5]; try rfl)⟩
theorem q_Same (cl : Bool) {s : St} {a c : AV} {L : List PrS} (ha_ : AM.read prC s a = some L) (hc_ : AM.read prC s c = some L) (hl : L.length ≤ 10000) : acall R_Same cl [a, c] s = some (.bool true, s) := run_same n_Same (by simp [a15]) rfl (w_Same (s := lowd s) (read_low' ha_) (read_low' hc_) hl)

def lensV : AV → Option AV
  | .str b => some (.int .i64 (b.size : Int))
  | _ => none
theorem ap_lens {env : Env} (x : AO) : apure env (.len .st x) = lensV (aev env x) := by
  simp only [apure, lensV] <;> (cases aev env x <;> rfl)
theorem lensV_str (b : ByteArray) : lensV (.str b) = some (.int .i64 (b.size : Int)) := nrfl rfl
abbrev AcT := Int × Int × ByteArray
def acC : Cod AcT where
  sz := 3
  enc := fun x => [.int .i64 x.1, .int .i64 x.2.1, .str x.2.2]
  dec := fun cs => match cs with
    | [.int .i64 a, .int .i64 b, .str c] => some (a, b, c)
    | _ => none
  pos := by decide
  len := fun _ => rfl
  plain := fun _ => rfl
  dec_enc := fun _ => rfl
  enc_dec := fun cs x h => by
    split at h
    · injection h with h; subst h; rfl
    · cases h
theorem acC_sz : acC.sz = 3 := rfl
theorem ac_lods {v : AV} {l : List AcT} (h : AM.read acC s v = some l) {i : Nat} {x : AcT} (hi : l[i]? = some x) : iadV 3 v (.int .i64 (i : Int)) = some (.ptr (bid v) (boff v + i * 3)) ∧ lod s 3 (.ptr (bid v) (boff v + i * 3)) = some (.agg [.int .i64 x.1, .int .i64 x.2.1, .str x.2.2]) ∧
    lod1 s (.ptr (bid v) (boff v + i * 3)) = some (.int .i64 x.1) ∧ lod1 s (.ptr (bid v) (boff v + i * 3 + 1)) = some (.int .i64 x.2.1) ∧ lod1 s (.ptr (bid v) (boff v + i * 3 + 2)) = some (.str x.2.2) ∧ ltN (bid v) s := by
  have h1 := read_idx h hi .i64
  rw [acC_sz] at h1
  have hl := read_lt h (Keep.refl s) hi
  refine ⟨h1, ?_⟩
  cases v with
  | nils => simp [AM.read] at h; subst h; simp at hi
  | sl id off n cap z =>
    obtain ⟨rfl, rfl, cs, own, hg, _, _, h5⟩ := read_sl h
    show lod s 3 (.ptr id (off + i * 3)) = _ ∧ lod1 s (.ptr id (off + i * 3)) = _ ∧ lod1 s (.ptr id (off + i * 3 + 1)) = _ ∧ lod1 s (.ptr id (off + i * 3 + 2)) = _ ∧ _
    have one : ∀ k v, k < 3 → (acC.enc x)[k]? = some v → cs[off + i * 3 + k]? = some v := fun k v hk hv => by
      obtain ⟨_, k2⟩ := h5 i x hi k 1 (by rw [acC_sz]; omega)
      rw [acC_sz] at k2
      have e := congrArg (fun l => l[0]?) k2
      simpa [List.getElem?_take, List.getElem?_drop, hv] using e
    refine ⟨?_, ?_, ?_, ?_, hl⟩
    · obtain ⟨k1, k2⟩ := h5 i x hi 0 3 (by rw [acC_sz]; omega)
      rw [acC_sz, Nat.add_zero] at k1 k2
      simp only [lod, hg]
      rw [if_pos (by omega), k2]
      rfl
    · simp only [lod1, hg]; exact one 0 _ (by omega) rfl
    · simp only [lod1, hg]; exact one 1 _ (by omega) rfl
    · simp only [lod1, hg]; exact one 2 _ (by omega) rfl
  | _ => simp [AM.read] at h
def okA (y : AcT) : Bool := !(decide (100 < (y.2.2.size : Int)) || decide (4611686018427387904 < y.2.1) || decide (y.2.1 < -4611686018427387904))
def ltA (l : List AcT) : Bool := (l.take 61).all okA && decide ((l.length : Int) ≤ 60)
theorem ltA_true {l : List AcT} (h : ltA l = true) : l.length ≤ 60 ∧ ∀ y ∈ l, -4611686018427387904 ≤ y.2.1 ∧ y.2.1 ≤ 4611686018427387904 ∧ y.2.2.size ≤ 100 := by
  unfold ltA at h
  rw [Bool.and_eq_true, decide_eq_true_eq] at h
  obtain ⟨h1, h2⟩ := h
  rw [List.take_of_length_le (by omega)] at h1
  refine ⟨by omega, fun y hy => ?_⟩
  have := List.all_eq_true.1 h1 y hy
  unfold okA at this
  rw [Bool.not_eq_true', Bool.or_eq_false_iff, Bool.or_eq_false_iff, decide_eq_false_iff_not, decide_eq_false_iff_not, decide_eq_false_iff_not] at this
  omega
noncomputable def R_light : Con := runFn (tb []) a8
theorem s_light : SoundAt Try.prog 8 R_light := run_sound (tb_sound (l := []) (by simp)) mixed Try.func8 k8 c8
theorem n_light : noNxtC a8.body = true := by kernel_rfl
theorem w_light {s : St} {v : AV} {l : List AcT} (hr : AM.read acC s v = some l) : ∀ env : Env, elen env = a8.ntmps → (∀ i x_, [v][i]? = some x_ → E env i = x_) → awp (tb []) a8.body (fun x e t => (∀ i, x ≠ .exit i) ∧ aresults e t a8.results = some (.bool (ltA l)) ∧ Keep s t) env s := by
  intro env hlen ha
  have h0 : E env 0 = _ := ha 0 _ rfl
  have hlen : elen env = _ := hlen
  simp only [a8] at hlen
  unfold a8
  try dsimp only [oO, oG]
  have hL := lenV_read hr
  simp (config := {contextual := true, maxDischargeDepth := 12, maxSteps := 4000000}) only [tb_at, h0, hlen, notV_bool, Bool.not_true, Bool.not_false, pickV_t, pickV_f, bin_eql, bin_neq, bin_neb, bin_npn, bin_np, bin_npnx, gcall_tt, gpure_tf, beq_self_eq_true, Bool.true_and, Bool.and_true, decide_true, decide_false, ↓bD, bU, forall_const, bS, implies_true, isNx, eq_self, ↓wp_cond, ↓wp_loop, ↓reduceIte, reduceCtorEq, Nat.reduceEqDiff, Nat.reduceLT, Nat.reduceAdd, Nat.reduceMul, bT, ↓sg_bsl, ↓st_callf, bX, ap_mkfn, ap_conv, ↓wi_seq, ↓wi_base, ↓wi_block, ↓wi_cond, ↓wi_loop, ↓wi_rf, ↓wy_seq, ↓wy_base, ↓wy_block, ↓wy_cond, ↓wy_loop, ↓wy_yld, ae_callvV, callvV_fn, List.append_nil, List.cons_append, List.nil_append, bin_nff, bin_nfn, bin_nffx, bin_nfnx, bin_streq, bin_bo_same, lstep_some, ↓st_load1nf, ↓st_loadnf, ↓st_appr, ↓st_appf0, bin_nfls, ap_lens, lensV_str]
  obtain ⟨I, hI⟩ : ∃ I : Nat → Env → St → Prop, ∀ n e t, I n e t = (t = s ∧ ∃ i : Nat, n + i = 61 ∧ elen e = 40 ∧ E e 0 = v ∧ E e 3 = .int .i64 (i : Int) ∧ i ≤ l.length ∧ (l.take i).all okA = true) := ⟨fun n e t => (t = s ∧ ∃ i : Nat, n + i = 61 ∧ elen e = 40 ∧ E e 0 = v ∧ E e 3 = .int .i64 (i : Int) ∧ i ≤ l.length ∧ (l.take i).all okA = true), fun _ _ _ => rfl⟩
  refine lwp_inv I (n := 61) ?_ ?_
  · rw [hI]
    exact ⟨rfl, 0, by omega, (by simp only [bE, Nat.reduceEqDiff, bN, Nat.reduceLT, hlen]; try rfl), (by simp only [bE, Nat.reduceEqDiff, bN, Nat.reduceLT, hlen, h0]; try rfl), (by simp only [bE, Nat.reduceEqDiff, bN, Nat.reduceLT, hlen]; try rfl), Nat.zero_le _, rfl⟩
  clear h0 ha
  intro n e t hi
  rw [hI] at hi
  obtain ⟨hK, i, hni, he, e0, e3, hil, hpre⟩ := hi
  subst hK
  by_cases hlt : i < l.length ∧ i < 61
  rotate_left
  · have hall : (l.take 61).all okA = true := by
      rcases (by omega : i = 61 ∨ i = l.length) with rfl | rfl
      · exact hpre
      · rw [List.take_length] at hpre
        exact List.all_eq_true.2 fun y hy => List.all_eq_true.1 hpre y (List.mem_of_mem_take hy)
    have hlt2 : ltA l = decide ((l.length : Int) ≤ 60) := by unfold ltA; rw [hall, Bool.true_and]
    rw [hlt2]
    by_cases c1 : i < l.length
    · have y1 := eq_true (show (i : Int) < (l.length : Int) by omega)
      have y2 := eq_false (show ¬ (i : Int) < 61 by omega)
      simp (config := {contextual := true, maxDischargeDepth := 12, maxSteps := 4000000}) only [tb_at, he, e0, e3, hL, y1, y2, notV_bool, Bool.not_true, Bool.not_false, pickV_t, pickV_f, bin_eql, bin_neq, bin_neb, bin_npn, bin_np, bin_npnx, gcall_tt, gpure_tf, beq_self_eq_true, Bool.true_and, Bool.and_true, decide_true, decide_false, ↓bD, bU, forall_const, bS, implies_true, isNx, eq_self, ↓wp_cond, ↓wp_loop, ↓reduceIte, reduceCtorEq, Nat.reduceEqDiff, Nat.reduceLT, Nat.reduceAdd, Nat.reduceMul, bT, ↓sg_bsl, ↓st_callf, bX, ap_mkfn, ap_conv, ↓wi_seq, ↓wi_base, ↓wi_block, ↓wi_cond, ↓wi_loop, ↓wi_rf, ↓wy_seq, ↓wy_base, ↓wy_block, ↓wy_cond, ↓wy_loop, ↓wy_yld, ae_callvV, callvV_fn, List.append_nil, List.cons_append, List.nil_append, bin_nff, bin_nfn, bin_nffx, bin_nfnx, bin_streq, bin_bo_same, lstep_some, ↓st_load1nf, ↓st_loadnf, ↓st_appr, ↓st_appf0, bin_nfls, ap_lens, lensV_str]
      all_goals first | exact .refl _ | skip
    · have y1 := eq_false (show ¬ (i : Int) < (l.length : Int) by omega)
      simp (config := {contextual := true, maxDischargeDepth := 12, maxSteps := 4000000}) only [tb_at, he, e0, e3, hL, y1, notV_bool, Bool.not_true, Bool.not_false, pickV_t, pickV_f, bin_eql, bin_neq, bin_neb, bin_npn, bin_np, bin_npnx, gcall_tt, gpure_tf, beq_self_eq_true, Bool.true_and, Bool.and_true, decide_true, decide_false, ↓bD, bU, forall_const, bS, implies_true, isNx, eq_self, ↓wp_cond, ↓wp_loop, ↓reduceIte, reduceCtorEq, Nat.reduceEqDiff, Nat.reduceLT, Nat.reduceAdd, Nat.reduceMul, bT, ↓sg_bsl, ↓st_callf, bX, ap_mkfn, ap_conv, ↓wi_seq, ↓wi_base, ↓wi_block, ↓wi_cond, ↓wi_loop, ↓wi_rf, ↓wy_seq, ↓wy_base, ↓wy_block, ↓wy_cond, ↓wy_loop, ↓wy_yld, ae_callvV, callvV_fn, List.append_nil, List.cons_append, List.nil_append, bin_nff, bin_nfn, bin_nffx, bin_nfnx, bin_streq, bin_bo_same, lstep_some, ↓st_load1nf, ↓st_loadnf, ↓st_appr, ↓st_appf0, bin_nfls, ap_lens, lensV_str]
      all_goals first | exact .refl _ | skip
  have y1 := eq_true (show (i : Int) < (l.length : Int) by omega)
  have y2 := eq_true (show (i : Int) < 61 by omega)
  have hw2 := wrap_add1 (n := i) (by omega)
  obtain ⟨y, hy⟩ := getsome hlt.1
  obtain ⟨i1, _, _, a1, a2, a3⟩ := ac_lods hr hy
  by_cases hok : okA y = true
  · have hok' := hok
    unfold okA at hok'
    rw [Bool.not_eq_true', Bool.or_eq_false_iff, Bool.or_eq_false_iff, decide_eq_false_iff_not, decide_eq_false_iff_not, decide_eq_false_iff_not] at hok'
    have z1 := eq_false hok'.1.1
    have z2 := eq_false hok'.1.2
    have z3 := eq_false hok'.2
    simp (config := {contextual := true, maxDischargeDepth := 12, maxSteps := 4000000}) only [tb_at, he, e0, e3, hL, y1, y2, hw2, i1, a1, a2, a3, z1, z2, z3, notV_bool, Bool.not_true, Bool.not_false, pickV_t, pickV_f, bin_eql, bin_neq, bin_neb, bin_npn, bin_np, bin_npnx, gcall_tt, gpure_tf, beq_self_eq_true, Bool.true_and, Bool.and_true, decide_true, decide_false, ↓bD, bU, forall_const, bS, implies_true, isNx, eq_self, ↓wp_cond, ↓wp_loop, ↓reduceIte, reduceCtorEq, Nat.reduceEqDiff, Nat.reduceLT, Nat.reduceAdd, Nat.reduceMul, bT, ↓sg_bsl, ↓st_callf, bX, ap_mkfn, ap_conv, ↓wi_seq, ↓wi_base, ↓wi_block, ↓wi_cond, ↓wi_loop, ↓wi_rf, ↓wy_seq, ↓wy_base, ↓wy_block, ↓wy_cond, ↓wy_loop, ↓wy_yld, ae_callvV, callvV_fn, List.append_nil, List.cons_append, List.nil_append, bin_nff, bin_nfn, bin_nffx, bin_nfnx, bin_streq, bin_bo_same, lstep_some, ↓st_load1nf, ↓st_loadnf, ↓st_appr, ↓st_appf0, bin_nfls, ap_lens, lensV_str]
    refine ⟨n - 1, by omega, ?_⟩
    rw [hI]
    exact ⟨rfl, i + 1, by omega, (by simp only [bE, Nat.reduceEqDiff, bN, Nat.reduceLT, he, e0, e3]; try rfl), (by simp only [bE, Nat.reduceEqDiff, bN, Nat.reduceLT, he, e0, e3]; try rfl), (by simp only [bE, Nat.reduceEqDiff, bN, Nat.reduceLT, he, e0, e3]; try rfl), by omega, by rw [take_snoc hy, List.all_append, hpre]; simp [hok]⟩
  · have hno : ltA l = false := by
      unfold ltA
      rw [Bool.and_eq_false_iff]
      refine .inl ?_
      rw [List.all_eq_false]
      exact ⟨y, List.mem_of_getElem? (l := l.take 61) (i := i) (by rw [List.getElem?_take_of_lt hlt.2]; exact hy), hok⟩
    rw [hno]
    have hok' : okA y = false := by simpa using hok
    unfold okA at hok'
    by_cases c1 : 100 < (y.2.2.size : Int)
    · have z1 := eq_true c1
      simp (config := {contextual := true, maxDischargeDepth := 12, maxSteps := 4000000}) only [tb_at, he, e0, e3, hL, y1, y2, i1, a1, a2, a3, z1, notV_bool, Bool.not_true, Bool.not_false, pickV_t, pickV_f, bin_eql, bin_neq, bin_neb, bin_npn, bin_np, bin_npnx, gcall_tt, gpure_tf, beq_self_eq_true, Bool.true_and, Bool.and_true, decide_true, decide_false, ↓bD, bU, forall_const, bS, implies_true, isNx, eq_self, ↓wp_cond, ↓wp_loop, ↓reduceIte, reduceCtorEq, Nat.reduceEqDiff, Nat.reduceLT, Nat.reduceAdd, Nat.reduceMul, bT, ↓sg_bsl, ↓st_callf, bX, ap_mkfn, ap_conv, ↓wi_seq, ↓wi_base, ↓wi_block, ↓wi_cond, ↓wi_loop, ↓wi_rf, ↓wy_seq, ↓wy_base, ↓wy_block, ↓wy_cond, ↓wy_loop, ↓wy_yld, ae_callvV, callvV_fn, List.append_nil, List.cons_append, List.nil_append, bin_nff, bin_nfn, bin_nffx, bin_nfnx, bin_streq, bin_bo_same, lstep_some, ↓st_load1nf, ↓st_loadnf, ↓st_appr, ↓st_appf0, bin_nfls, ap_lens, lensV_str]
      all_goals first | exact .refl _ | skip
    have z1 := eq_false c1
    by_cases c2 : 4611686018427387904 < y.2.1
    · have z2 := eq_true c2
      simp (config := {contextual := true, maxDischargeDepth := 12, maxSteps := 4000000}) only [tb_at, he, e0, e3, hL, y1, y2, i1, a1, a2, a3, z1, z2, notV_bool, Bool.not_true, Bool.not_false, pickV_t, pickV_f, bin_eql, bin_neq, bin_neb, bin_npn, bin_np, bin_npnx, gcall_tt, gpure_tf, beq_self_eq_true, Bool.true_and, Bool.and_true, decide_true, decide_false, ↓bD, bU, forall_const, bS, implies_true, isNx, eq_self, ↓wp_cond, ↓wp_loop, ↓reduceIte, reduceCtorEq, Nat.reduceEqDiff, Nat.reduceLT, Nat.reduceAdd, Nat.reduceMul, bT, ↓sg_bsl, ↓st_callf, bX, ap_mkfn, ap_conv, ↓wi_seq, ↓wi_base, ↓wi_block, ↓wi_cond, ↓wi_loop, ↓wi_rf, ↓wy_seq, ↓wy_base, ↓wy_block, ↓wy_cond, ↓wy_loop, ↓wy_yld, ae_callvV, callvV_fn, List.append_nil, List.cons_append, List.nil_append, bin_nff, bin_nfn, bin_nffx, bin_nfnx, bin_streq, bin_bo_same, lstep_some, ↓st_load1nf, ↓st_loadnf, ↓st_appr, ↓st_appf0, bin_nfls, ap_lens, lensV_str]
      all_goals first | exact .refl _ | skip
    have z2 := eq_false c2
    have c3 : y.2.1 < -4611686018427387904 := by
      simpa [c1, c2] using hok'
    have z3 := eq_true c3
    simp (config := {contextual := true, maxDischargeDepth := 12, maxSteps := 4000000}) only [tb_at, he, e0, e3, hL, y1, y2, i1, a1, a2, a3, z1, z2, z3, notV_bool, Bool.not_true, Bool.not_false, pickV_t, pickV_f, bin_eql, bin_neq, bin_neb, bin_npn, bin_np, bin_npnx, gcall_tt, gpure_tf, beq_self_eq_true, Bool.true_and, Bool.and_true, decide_true, decide_false, ↓bD, bU, forall_const, bS, implies_true, isNx, eq_self, ↓wp_cond, ↓wp_loop, ↓reduceIte, reduceCtorEq, Nat.reduceEqDiff, Nat.reduceLT, Nat.reduceAdd, Nat.reduceMul, bT, ↓sg_bsl, ↓st_callf, bX, ap_mkfn, ap_conv, ↓wi_seq, ↓wi_base, ↓wi_block, ↓wi_cond, ↓wi_loop, ↓wi_rf, ↓wy_seq, ↓wy_base, ↓wy_block, ↓wy_cond, ↓wy_loop, ↓wy_yld, ae_callvV, callvV_fn, List.append_nil, List.cons_append, List.nil_append, bin_nff, bin_nfn, bin_nffx, bin_nfnx, bin_streq, bin_bo_same, lstep_some, ↓st_load1nf, ↓st_loadnf, ↓st_appr, ↓st_appf0, bin_nfls, ap_lens, lensV_str]
    all_goals first | exact .refl _ | skip
theorem q_light (cl : Bool) {s : St} {v : AV} {l : List AcT} (hr : AM.read acC s v = some l) : acall R_light cl [v] s = some (.bool (ltA l), s) := run_same n_light (by simp [a8]) rfl (w_light (s := lowd s) (read_low' hr))

/-! ### Plain laws -/
variable {d : Bool} {L : List PrS}
theorem srt_rk (h : SrtD d L) {k : Int} {j : Nat} {y : PrS} (hy : L[j]? = some y) (hj : rkD d L k ≤ j) : ¬ sg d y.1 < sg d k := by
  have hjl := getlt hy
  obtain ⟨z, hz⟩ := getsome (show rkD d L k < L.length by omega)
  have h1 := rk_at hz
  by_cases e : j = rkD d L k
  · subst e
    rw [hz] at hy; injection hy with hy; rw [← hy]; exact h1
  · have := h.lt hz hy (by omega)
    omega
theorem drop_hit (h : SrtD d L) {k : Int} {v : ByteArray} (hg : gtD d L k = some v) : dropK k L = L.take (rkD d L k) ++ L.drop (rkD d L k + 1) := by
  have hx := gt_some hg
  have hi := getlt hx
  unfold dropK
  conv => lhs; rw [← List.take_append_drop (rkD d L k) L]
  rw [List.filter_append, List.drop_eq_getElem_cons hi, List.filter_cons]
  have e : L[rkD d L k] = (k, v) := (List.getElem?_eq_some_iff.1 hx).2
  rw [e]
  simp only [ne_eq, not_true_eq_false, decide_false, Bool.false_eq_true, if_false]
  congr 1
  · rw [List.filter_eq_self]
    intro y hy
    obtain ⟨j, hj⟩ := List.mem_iff_getElem?.1 hy
    have hj1 := getlt hj
    rw [List.length_take] at hj1
    rw [List.getElem?_take_of_lt (by omega)] at hj
    have := rk_lt (d := d) (k := k) (show j < rkD d L k by omega) hj
    have hne : y.1 ≠ k := fun q => by rw [q] at this; omega
    simp [hne]
  · rw [List.filter_eq_self]
    intro y hy
    obtain ⟨j, hj⟩ := List.mem_iff_getElem?.1 hy
    rw [List.getElem?_drop] at hj
    have := h.lt hx hj (by omega)
    have hne : y.1 ≠ k := fun q => by rw [q] at this; simp at this
    simp [hne]
theorem drop_miss (h : SrtD d L) {k : Int} (hg : gtD d L k = none) : dropK k L = L := by
  unfold dropK
  rw [List.filter_eq_self]
  intro y hy
  obtain ⟨j, hj⟩ := List.mem_iff_getElem?.1 hy
  have hne : y.1 ≠ k := fun q => by
    have h1 : ¬ j < rkD d L k := fun hlt => by
      have := rk_lt (d := d) (k := k) hlt hj
      rw [q] at this
      omega
    have h2 : ¬ rkD d L k < j := fun hlt => by
      obtain ⟨z, hz⟩ := getsome (show rkD d L k < L.length by have := getlt hj; omega)
      have h3 := h.lt hz hj hlt
      have h4 := rk_at hz
      rw [q] at h3
      omega
    have e : j = rkD d L k := by omega
    subst e
    unfold gtD at hg
    rw [hj] at hg
    simp [q] at hg
  simp [hne]
theorem dropK_del (h : SrtD d L) (k : Int) : dropK k L = delD d L k := by
  unfold delD
  rcases gtD_split d L k with ⟨hg, hg1⟩ | ⟨v, hg, hg1⟩
  · rw [hg1, drop_miss h hg]; rfl
  · rw [hg1, drop_hit h hg]; rfl
theorem putR_put (h : SrtD d L) (k : Int) (v : ByteArray) : putR d L k v = putD d L k v := by
  unfold putR putD
  rcases gtD_split d L k with ⟨hg, hg1⟩ | ⟨v0, hg, hg1⟩
  · rw [hg1, drop_miss h hg]; rfl
  · have hx := gt_some hg
    have hi := getlt hx
    have hlt : (L.take (rkD d L k)).length = rkD d L k := by rw [List.length_take]; omega
    have hrk : rkD d (dropK k L) k = rkD d L k := by
      rw [drop_hit h hg]
      refine rk_eq (by rw [List.length_append]; omega) (fun j y hj hy => ?_) (fun y hy => ?_)
      · rw [List.getElem?_append_left (by omega), List.getElem?_take_of_lt hj] at hy
        exact rk_lt hj hy
      · rw [List.getElem?_append_right (by omega), hlt, Nat.sub_self, List.getElem?_drop] at hy
        have := h.lt hx hy (by omega)
        simp at this
        omega
    rw [hg1, hrk, drop_hit h hg, List.take_append_of_le_length (by omega), List.drop_append_of_le_length (by omega), List.take_of_length_le (by omega), List.drop_eq_nil_of_le (by omega)]
    rfl
theorem srt_app {A B : List PrS} {x : PrS} (hA : SrtD d A) (hB : SrtD d B) (h1 : ∀ a ∈ A, sg d a.1 < sg d x.1) (h2 : ∀ b ∈ B, sg d x.1 < sg d b.1) : SrtD d (A ++ x :: B) := by
  unfold SrtD
  rw [List.pairwise_append, List.pairwise_cons]
  refine ⟨hA, ⟨h2, hB⟩, fun a ha b hb => ?_⟩
  rcases List.mem_cons.1 hb with rfl | hb
  · exact h1 a ha
  · have := h1 a ha
    have := h2 b hb
    omega
theorem SrtD.drop (h : SrtD d L) (i : Nat) : SrtD d (L.drop i) := List.Pairwise.sublist (List.drop_sublist i L) h
theorem put_srt (h : SrtD d L) (k : Int) (v : ByteArray) : SrtD d (putD d L k v) := by
  unfold putD
  refine srt_app (h.take _) (h.drop _) (fun a ha => ?_) (fun b hb => ?_)
  · obtain ⟨j, hj⟩ := List.mem_iff_getElem?.1 ha
    have hj1 := getlt hj
    rw [List.length_take] at hj1
    rw [List.getElem?_take_of_lt (by omega)] at hj
    exact rk_lt (show j < rkD d L k by omega) hj
  · obtain ⟨j, hj⟩ := List.mem_iff_getElem?.1 hb
    rw [List.getElem?_drop] at hj
    show sg d k < sg d b.1
    rcases gtD_split d L k with ⟨hg, hg1⟩ | ⟨v0, hg, hg1⟩
    · rw [hg1] at hj
      simp only [Bool.false_eq_true, if_false] at hj
      have h1 := srt_rk (k := k) h hj (by omega)
      have hne : b.1 ≠ k := fun q => by
        have hb' : b ∈ dropK k L := by rw [drop_miss h hg]; exact List.mem_of_getElem? hj
        unfold dropK at hb'
        rw [List.mem_filter] at hb'
        simp [q] at hb'
      have := mt (sg_inj d b.1 k).1 hne
      omega
    · rw [hg1] at hj
      simp only [if_true] at hj
      have := h.lt (gt_some hg) hj (by omega)
      exact this
theorem del_srt (h : SrtD d L) (k : Int) : SrtD d (delD d L k) := by
  rw [← dropK_del h]
  exact List.Pairwise.sublist List.filter_sublist h

end Go.AM
end
/-
  Ordered maps: a map looks like the reference. Own work of this project; in part printed by a program of it.
-/
section
set_option maxRecDepth 100000
set_option maxHeartbeats 8000000
namespace Go.AM
open Go Go.Proofs

variable {s t u : St}

theorem sg_callf3 {call : Nat → List AV → St → Option (AV × St)} {base : Nat} {d : Option Nat} {r : Option Nat} {rest : List AOper} {Q : Env → St → Prop} {env : Env} {s : St} (f : Nat) (l : List AO) (t : Nat) (w : Bool) : awops call base (⟨d, .call f false l, some (t, w), r, true⟩ :: rest) Q env s = gcall s (E env t) w (acallF (call f) (l.map (aev env)) s) fun v t => awops call base rest Q (pE env d v) t := by
  rw [st_guard, st_callf]
  rfl
theorem gpure_ff0 (x : AV) (K : AV → Prop) : gpure (.bool false) false (some x) K = K x := nrfl rfl
theorem acallF_it {c : Con} {args : List AV} {l : List PrS} (h : ∃ w t, acall c false args (lowd s) = some (w, t) ∧ ItR (lowd s) t w l ∧ Keep (lowd s) t) : ∃ w t, acallF c args s = some (w, t) ∧ ItR s t w l ∧ Keep s t := by
  obtain ⟨w, t, h1, h2, h3⟩ := h
  obtain ⟨t', g1, g2, g3, g4⟩ := acallF_keep h1 h3
  exact ⟨w, t', g1, (show ItR s t w l from h2).mono fun id b hb => by rw [g2]; exact hb, g4⟩
theorem acallF_own {c : Con} {args : List AV} {l : List PrS} (h : ∃ w t, acall c false args (lowd s) = some (w, t) ∧ Own prC (lowd s) t w l ∧ Keep (lowd s) t) : ∃ w t, acallF c args s = some (w, t) ∧ Own prC s t w l ∧ Keep s t := by
  obtain ⟨w, t, h1, h2, h3⟩ := h
  obtain ⟨t', g1, g2, g3, g4⟩ := acallF_keep h1 h3
  exact ⟨w, t', g1, (show Own prC s t w l from h2).mono fun id b hb => by rw [g2]; exact hb, g4⟩
theorem q_pairsF {s0 : St} {f : AV} {l : List PrS} (h : ItR s0 s f l) (hl : l.length ≤ 10000) {m : Int} : ∃ v t, acallF (conF prC pPairs) [f, .int .i64 m] s = some (v, t) ∧ Own prC s t v (if m < 1 then [] else l.take m.toNat) ∧ Keep s t :=
  acallF_own (q_pairs (h.keep (keep_low s)) hl)
theorem it_read {f : AV} {l : List PrS} (hl : l.length ≤ 60) : (if (100 : Int) < 1 then [] else l.take (Int.toNat 100)) = l := by
  rw [if_neg (by decide)]
  exact List.take_of_length_le (by show l.length ≤ 100; omega)
noncomputable def R_looks : Con := runFn (tb [(25, R_Len), (13, R_All), (16, conF prC pPairs), (15, R_Same), (52, R_RAt), (27, R_lat), (29, R_RGet), (53, R_RFloor), (54, R_RCeil), (28, R_gets), (26, R_Rank), (42, R_RRank), (34, R_lfloor), (35, R_lceil), (14, R_From), (18, R_RFrom)]) a33
theorem s_looks : SoundAt Try.prog 33 R_looks := run_sound (tb_sound (l := [(25, R_Len), (13, R_All), (16, conF prC pPairs), (15, R_Same), (52, R_RAt), (27, R_lat), (29, R_RGet), (53, R_RFloor), (54, R_RCeil), (28, R_gets), (26, R_Rank), (42, R_RRank), (34, R_lfloor), (35, R_lceil), (14, R_From), (18, R_RFrom)]) (by simpa using ⟨s_Len, s_All, s_pairs, s_Same, s_RAt, s_lat, s_RGet, s_RFloor, s_RCeil, s_gets, s_Rank, s_RRank, s_lfloor, s_lceil, s_From, s_RFrom⟩)) mixed Try.func33 k33 c33
theorem n_looks : noNxtC a33.body = true := by kernel_rfl
theorem w_looks {s : St} {id : Nat} {q : Option Nat} {d : Bool} {L : List PrS} (hk : MpR s id q d L) {rv : AV} (hr : AM.read prC s rv = some L) (hs : SrtD d L) (hl : L.length ≤ 60) {k : Int} (hk1 : -4611686018427387904 ≤ k) (hk2 : k ≤ 4611686018427387904) : ∀ env : Env, elen env = a33.ntmps → (∀ i x_, [.ptr id 0, .agg [.bool d, rv], .int .i64 k][i]? = some x_ → E env i = x_) → awp (tb [(25, R_Len), (13, R_All), (16, conF prC pPairs), (15, R_Same), (52, R_RAt), (27, R_lat), (29, R_RGet), (53, R_RFloor), (54, R_RCeil), (28, R_gets), (26, R_Rank), (42, R_RRank), (34, R_lfloor), (35, R_lceil), (14, R_From), (18, R_RFrom)]) a33.body (fun x e t => (∀ i, x ≠ .exit i) ∧ aresults e t a33.results = some (.bool true) ∧ Keep s t) env s := by
  intro env hlen ha
  have h0 : E env 0 = _ := ha 0 _ rfl
  have h1 : E env 1 = _ := ha 1 _ rfl
  have h2 : E env 2 = _ := ha 2 _ rfl
  have hlen : elen env = _ := hlen
  simp only [a33] at hlen
  unfold a33
  try dsimp only [oO, oG]
  have ho := rd_one hr
  have hbx := boxV_m (a := .bool d) (b := rv) rfl ho.2
  have hK1 : Keep s (s.push (.row [.bool d, rv] true)) := (Keep.refl s).push _
  have hg1 := St.get_push_new s (.row [.bool d, rv] true)
  obtain ⟨s1, hs1⟩ : ∃ s1, s1 = s.push (.row [.bool d, rv] true) := ⟨_, rfl⟩
  rw [← hs1] at hK1 hg1
  obtain ⟨b0, b1, blt⟩ := row2_lod hg1
  have hL := lenV_read hr
  have qL := q_Len true (hk.keep hK1)
  obtain ⟨w1, t1, qA, hI1, hKA⟩ := acallF_it (q_All (s := lowd s1) (hk.keep (hK1.trans (keep_low s1))))
  obtain ⟨v2, t2, qP, hO2, hKP⟩ := q_pairsF hI1 (by omega) (m := 100)
  rw [it_read (f := .nils) hl] at hO2
  have hK12 := hKA.trans hKP
  obtain ⟨c0, c1, clt⟩ := row2_lod (hK12.blk hg1)
  have qS := q_Same false hO2.read ((hK1.trans hK12).read hr) (by omega)
  have nn : ((L.length : Int) = (L.length : Int)) = True := eq_self _
  have hw0 : IntKind.i64.wrap (-1) = -1 := by decide
  simp (config := {contextual := true, maxDischargeDepth := 12, maxSteps := 4000000}) only [tb_at, h0, h1, h2, hlen, hbx, ← hs1, b1, blt, hL, ar_call, qL, nn, qA, qP, c1, clt, qS, reserve0, notV_bool, Bool.not_true, Bool.not_false, pickV_t, pickV_f, bin_eql, bin_neq, bin_neb, bin_npn, bin_np, bin_npnx, gcall_tt, gpure_tf, beq_self_eq_true, Bool.true_and, Bool.and_true, decide_true, decide_false, ↓bD, bU, forall_const, bS, implies_true, isNx, eq_self, ↓wp_cond, ↓wp_loop, ↓reduceIte, reduceCtorEq, Nat.reduceEqDiff, Nat.reduceLT, Nat.reduceAdd, Nat.reduceMul, bT, ↓sg_bsl, ↓st_callf, bX, ap_mkfn, ap_conv, ↓wi_seq, ↓wi_base, ↓wi_block, ↓wi_cond, ↓wi_loop, ↓wi_rf, ↓wy_seq, ↓wy_base, ↓wy_block, ↓wy_cond, ↓wy_loop, ↓wy_yld, ae_callvV, callvV_fn, List.append_nil, List.cons_append, List.nil_append, bin_nff, bin_nfn, bin_nffx, bin_nfnx, bin_streq, bin_bo_same, lstep_some, ↓st_load1nf, ↓st_loadnf, ↓st_appr, ↓st_appf0, bin_nfls, ap_lens, lensV_str, ↓sg_callf3, gcall_ff, gpure_ff0]
  obtain ⟨u, hu⟩ : ∃ u, u = t2 := ⟨_, rfl⟩
  rw [← hu] at hK12 ⊢
  have hKu := hK1.trans hK12
  have hgu := hK12.blk hg1
  clear qL qA qP qS c0 c1 clt b0 b1 blt hO2 hI1 hKA hKP
  obtain ⟨I, hI⟩ : ∃ I : Nat → Env → St → Prop, ∀ n e t, I n e t = (Keep u t ∧ ∃ i : Nat, n + i = L.length + 2 ∧ elen e = 135 ∧ E e 0 = .ptr id 0 ∧ E e 2 = .int .i64 k ∧ E e 4 = .ptr s.next 0 ∧ E e 7 = .int .i64 ((i : Int) - 1)) := ⟨fun n e t => (Keep u t ∧ ∃ i : Nat, n + i = L.length + 2 ∧ elen e = 135 ∧ E e 0 = .ptr id 0 ∧ E e 2 = .int .i64 k ∧ E e 4 = .ptr s.next 0 ∧ E e 7 = .int .i64 ((i : Int) - 1)), fun _ _ _ => rfl⟩
  refine lwp_inv I (n := L.length + 2) ?_ ?_
  · rw [hI]
    exact ⟨.refl _, 0, by omega, (by simp only [bE, Nat.reduceEqDiff, bN, Nat.reduceLT, hlen]; try rfl), (by simp only [bE, Nat.reduceEqDiff, bN, Nat.reduceLT, hlen, h0]; try rfl), (by simp only [bE, Nat.reduceEqDiff, bN, Nat.reduceLT, hlen, h2]; try rfl), (by simp only [bE, Nat.reduceEqDiff, bN, Nat.reduceLT, hlen]; try rfl), (by simp only [bE, Nat.reduceEqDiff, bN, Nat.reduceLT, hlen]; try rfl)⟩
  clear h0 h1 h2 ha hlen
  intro n e t hi
  rw [hI] at hi
  obtain ⟨hK, i, hni, he, e0, e2, e4, e7⟩ := hi
  obtain ⟨b0, b1, blt⟩ := row2_lod (hK.blk hgu)
  have b2 := row2_lod2 (hK.blk hgu)
  have hKt := hKu.trans hK
  have hrt := hKt.read hr
  by_cases hlt : i < L.length + 2
  · have y1 := eq_true (show (i : Int) - 1 ≤ (L.length : Int) by omega)
    have hw2 : IntKind.i64.wrap ((i : Int) - 1 + 1) = ((i + 1 : Nat) : Int) - 1 := by
      rw [wrapI (by omega) (by omega)]
      omega
    have q1 := q_RAt false hrt (by omega) d ((i : Int) - 1)
    unfold rAtV at q1
    have st1 := sto_z2 (m := t.next) (t := t) rfl (a := .int .i64 (pd (atD L ((i : Int) - 1))).1) (b := .str (pd (atD L ((i : Int) - 1))).2) rfl rfl [.int .i64 0, .str ⟨#[]⟩] rfl
    obtain ⟨t5, ht5⟩ : ∃ t5, t5 = t.lowed.push (.row [.int .i64 (pd (atD L ((i : Int) - 1))).1, .str (pd (atD L ((i : Int) - 1))).2] true) := ⟨_, rfl⟩
    have hK5 : Keep t t5 := by rw [ht5]; exact (keep_lowed t).push _
    have g5 : t5.get t.next = some (.row [.int .i64 (pd (atD L ((i : Int) - 1))).1, .str (pd (atD L ((i : Int) - 1))).2] true) := by rw [ht5]; exact St.get_push_new t.lowed _
    rw [← ht5] at st1
    have ld5 := row2_lod2 g5
    have lt5 := St.get_lt g5
    have q2 := q_lat false ((hk.keep hKt).keep hK5) ((i : Int) - 1)
    have hKf := hK.trans hK5
    simp (config := {contextual := true, maxDischargeDepth := 12, maxSteps := 4000000}) only [tb_at, he, e0, e2, e4, e7, b1, b2, blt, hL, y1, hw2, q1, st1, ld5, lt5, q2, notV_bool, Bool.not_true, Bool.not_false, pickV_t, pickV_f, bin_eql, bin_neq, bin_neb, bin_npn, bin_np, bin_npnx, gcall_tt, gpure_tf, beq_self_eq_true, Bool.true_and, Bool.and_true, decide_true, decide_false, ↓bD, bU, forall_const, bS, implies_true, isNx, eq_self, ↓wp_cond, ↓wp_loop, ↓reduceIte, reduceCtorEq, Nat.reduceEqDiff, Nat.reduceLT, Nat.reduceAdd, Nat.reduceMul, bT, ↓sg_bsl, ↓st_callf, bX, ap_mkfn, ap_conv, ↓wi_seq, ↓wi_base, ↓wi_block, ↓wi_cond, ↓wi_loop, ↓wi_rf, ↓wy_seq, ↓wy_base, ↓wy_block, ↓wy_cond, ↓wy_loop, ↓wy_yld, ae_callvV, callvV_fn, List.append_nil, List.cons_append, List.nil_append, bin_nff, bin_nfn, bin_nffx, bin_nfnx, bin_streq, bin_bo_same, lstep_some, ↓st_load1nf, ↓st_loadnf, ↓st_appr, ↓st_appf0, bin_nfls, ap_lens, lensV_str, ↓sg_callf3, gcall_ff, gpure_ff0]
    refine ⟨n - 1, by omega, ?_⟩
    rw [hI]
    exact ⟨hKf, i + 1, by omega, (by simp only [bE, Nat.reduceEqDiff, bN, Nat.reduceLT, he, e0, e2, e4, e7]; try rfl), (by simp only [bE, Nat.reduceEqDiff, bN, Nat.reduceLT, he, e0, e2, e4, e7]; try rfl), (by simp only [bE, Nat.reduceEqDiff, bN, Nat.reduceLT, he, e0, e2, e4, e7]; try rfl), (by simp only [bE, Nat.reduceEqDiff, bN, Nat.reduceLT, he, e0, e2, e4, e7]; try rfl), (by simp only [bE, Nat.reduceEqDiff, bN, Nat.reduceLT, he, e0, e2, e4, e7]; try rfl)⟩
  have y1 := eq_false (show ¬ (i : Int) - 1 ≤ (L.length : Int) by omega)
  clear hni
  simp (config := {contextual := true, maxDischargeDepth := 12, maxSteps := 4000000}) only [tb_at, he, e0, e2, e4, e7, b1, blt, hL, y1, notV_bool, Bool.not_true, Bool.not_false, pickV_t, pickV_f, bin_eql, bin_neq, bin_neb, bin_npn, bin_np, bin_npnx, gcall_tt, gpure_tf, beq_self_eq_true, Bool.true_and, Bool.and_true, decide_true, decide_false, ↓bD, bU, forall_const, bS, implies_true, isNx, eq_self, ↓wp_cond, ↓wp_loop, ↓reduceIte, reduceCtorEq, Nat.reduceEqDiff, Nat.reduceLT, Nat.reduceAdd, Nat.reduceMul, bT, ↓sg_bsl, ↓st_callf, bX, ap_mkfn, ap_conv, ↓wi_seq, ↓wi_base, ↓wi_block, ↓wi_cond, ↓wi_loop, ↓wi_rf, ↓wy_seq, ↓wy_base, ↓wy_block, ↓wy_cond, ↓wy_loop, ↓wy_yld, ae_callvV, callvV_fn, List.append_nil, List.cons_append, List.nil_append, bin_nff, bin_nfn, bin_nffx, bin_nfnx, bin_streq, bin_bo_same, lstep_some, ↓st_load1nf, ↓st_loadnf, ↓st_appr, ↓st_appf0, bin_nfls, ap_lens, lensV_str, ↓sg_callf3, gcall_ff, gpure_ff0]
  obtain ⟨u1, hu1⟩ : ∃ u1, u1 = t := ⟨_, rfl⟩
  rw [← hu1] at hK hKt hrt ⊢
  have hgu1 := hK.blk hgu
  obtain ⟨I2, hI2⟩ : ∃ I : Nat → Env → St → Prop, ∀ n e t, I n e t = (Keep u1 t ∧ ∃ i : Nat, n + i = 3 ∧ elen e = 135 ∧ E e 0 = .ptr id 0 ∧ E e 2 = .int .i64 k ∧ E e 4 = .ptr s.next 0 ∧ E e 10 = .int .i64 ((i : Int) - 1)) := ⟨fun n e t => (Keep u1 t ∧ ∃ i : Nat, n + i = 3 ∧ elen e = 135 ∧ E e 0 = .ptr id 0 ∧ E e 2 = .int .i64 k ∧ E e 4 = .ptr s.next 0 ∧ E e 10 = .int .i64 ((i : Int) - 1)), fun _ _ _ => rfl⟩
  refine lwp_inv I2 (n := 3) ?_ ?_
  · rw [hI2]
    exact ⟨.refl _, 0, by omega, (by simp only [bE, Nat.reduceEqDiff, bN, Nat.reduceLT, he]; try rfl), (by simp only [bE, Nat.reduceEqDiff, bN, Nat.reduceLT, he, e0]; try rfl), (by simp only [bE, Nat.reduceEqDiff, bN, Nat.reduceLT, he, e2]; try rfl), (by simp only [bE, Nat.reduceEqDiff, bN, Nat.reduceLT, he, e4]; try rfl), (by simp only [bE, Nat.reduceEqDiff, bN, Nat.reduceLT, he]; try rfl)⟩
  clear e0 e2 e4 e7 he
  intro n e t hi
  rw [hI2] at hi
  obtain ⟨hK, i, hni, he, e0, e2, e4, e10⟩ := hi
  have hKu1 := hKt
  obtain ⟨b0, b1, blt⟩ := row2_lod (hK.blk hgu1)
  have b2 := row2_lod2 (hK.blk hgu1)
  have hKt := hKu1.trans hK
  have hrt := hKt.read hr
  have hkt := hk.keep hKt
  by_cases hlt : i < 3
  rotate_left
  · obtain rfl : i = 3 := by omega
    have y1 := eq_false (show ¬ ((3 : Nat) : Int) - 1 ≤ 1 by omega)
    simp (config := {contextual := true, maxDischargeDepth := 12, maxSteps := 4000000}) only [tb_at, he, e0, e2, e4, e10, y1, notV_bool, Bool.not_true, Bool.not_false, pickV_t, pickV_f, bin_eql, bin_neq, bin_neb, bin_npn, bin_np, bin_npnx, gcall_tt, gpure_tf, beq_self_eq_true, Bool.true_and, Bool.and_true, decide_true, decide_false, ↓bD, bU, forall_const, bS, implies_true, isNx, eq_self, ↓wp_cond, ↓wp_loop, ↓reduceIte, reduceCtorEq, Nat.reduceEqDiff, Nat.reduceLT, Nat.reduceAdd, Nat.reduceMul, bT, ↓sg_bsl, ↓st_callf, bX, ap_mkfn, ap_conv, ↓wi_seq, ↓wi_base, ↓wi_block, ↓wi_cond, ↓wi_loop, ↓wi_rf, ↓wy_seq, ↓wy_base, ↓wy_block, ↓wy_cond, ↓wy_loop, ↓wy_yld, ae_callvV, callvV_fn, List.append_nil, List.cons_append, List.nil_append, bin_nff, bin_nfn, bin_nffx, bin_nfnx, bin_streq, bin_bo_same, lstep_some, ↓st_load1nf, ↓st_loadnf, ↓st_appr, ↓st_appf0, bin_nfls, ap_lens, lensV_str, ↓sg_callf3, gcall_ff, gpure_ff0]
    all_goals first | exact hKt | skip
  have y1 := eq_true (show (i : Int) - 1 ≤ 1 by omega)
  have hw2 : IntKind.i64.wrap ((i : Int) - 1 + 1) = ((i + 1 : Nat) : Int) - 1 := by
    rw [wrapI (by omega) (by omega)]
    omega
  obtain ⟨kd, hkd⟩ : ∃ kd, kd = k + ((i : Int) - 1) := ⟨_, rfl⟩
  have hw3 : IntKind.i64.wrap (k + ((i : Int) - 1)) = kd := by
    rw [hkd]
    have : IntKind.i64.wrap (k + ((i : Int) - 1)) = k + ((i : Int) - 1) := by
      simp only [IntKind.wrap, IntKind.signed, IntKind.bits]
      simp
      omega
    exact this
  have q1 := q_RGet false hrt (by omega) d kd
  rw [getV_eq] at q1
  have q2 := q_RFloor false hrt (by omega) d hs kd
  unfold rAtV at q2
  have st1 := sto_z2 (m := t.next) (t := t) rfl (a := .int .i64 (pd (flD d L kd)).1) (b := .str (pd (flD d L kd)).2) rfl rfl [.int .i64 0, .str ⟨#[]⟩] rfl
  obtain ⟨t5, ht5⟩ : ∃ t5, t5 = t.lowed.push (.row [.int .i64 (pd (flD d L kd)).1, .str (pd (flD d L kd)).2] true) := ⟨_, rfl⟩
  have hK5 : Keep t t5 := by rw [ht5]; exact (keep_lowed t).push _
  have g5 : t5.get t.next = some (.row [.int .i64 (pd (flD d L kd)).1, .str (pd (flD d L kd)).2] true) := by rw [ht5]; exact St.get_push_new t.lowed _
  rw [← ht5] at st1
  obtain ⟨c0, c1, clt⟩ := row2_lod ((hK.trans hK5).blk hgu1)
  have c2 := row2_lod2 ((hK.trans hK5).blk hgu1)
  have q3 := q_RCeil false (hK5.read hrt) (by omega) d kd
  unfold rAtV at q3
  have st2 := sto_z2 (m := t5.next) (t := t5) rfl (a := .int .i64 (pd (ceD d L kd)).1) (b := .str (pd (ceD d L kd)).2) rfl rfl [.int .i64 0, .str ⟨#[]⟩] rfl
  obtain ⟨t6, ht6⟩ : ∃ t6, t6 = t5.lowed.push (.row [.int .i64 (pd (ceD d L kd)).1, .str (pd (ceD d L kd)).2] true) := ⟨_, rfl⟩
  have hK6 : Keep t5 t6 := by rw [ht6]; exact (keep_lowed t5).push _
  have g6 : t6.get t5.next = some (.row [.int .i64 (pd (ceD d L kd)).1, .str (pd (ceD d L kd)).2] true) := by rw [ht6]; exact St.get_push_new t5.lowed _
  rw [← ht6] at st2
  have g5' := hK6.blk g5
  have hK56 := hK5.trans hK6
  have hk6 := hkt.keep hK56
  have hr6 := hK56.read hrt
  have d2 := row2_lod2 ((hK.trans hK56).blk hgu1)
  have dlt := St.get_lt ((hK.trans hK56).blk hgu1)
  have q4 := q_gets false hk6 hs kd
  have q5 := q_Rank true hk6 hs kd
  have q6 := q_RRank false hr6 (by omega) d kd
  have nr : ((((rkD d L kd : Nat) : Int)) = ((rkD d L kd : Nat) : Int)) = True := eq_self _
  have ld5 := row2_lod2 g5'
  have lt5 := St.get_lt g5'
  have ld6 := row2_lod2 g6
  have lt6 := St.get_lt g6
  have q7 := q_lfloor false hk6 hs kd
  have q8 := q_lceil false hk6 hs kd
  obtain ⟨w7, t7, q9, hI7, hK7⟩ := acallF_it (q_From (s := lowd t6) hk6.low hs kd)
  obtain ⟨v8, t8, q10, hO8, hK8⟩ := q_pairsF hI7 (by rw [List.length_drop]; omega) (m := 100)
  rw [it_read (f := .nils) (by rw [List.length_drop]; omega)] at hO8
  have hK68 := hK7.trans hK8
  have f2 := row2_lod2 (((hK.trans hK56).trans hK68).blk hgu1)
  have flt := St.get_lt (((hK.trans hK56).trans hK68).blk hgu1)
  obtain ⟨w9, t9, q11, hr9, hK9⟩ := q_RFrom (hK68.read hr6) (by omega) d kd
  have q12 := q_Same false (hK9.read hO8.read) hr9 (by rw [List.length_drop]; omega)
  have hKf := (hK.trans hK56).trans (hK68.trans hK9)
  simp (config := {contextual := true, maxDischargeDepth := 12, maxSteps := 4000000}) only [tb_at, he, e0, e2, e4, e10, y1, hw2, hw3, b2, blt, q1, q2, st1, c2, clt, q3, st2, d2, dlt, ar_call, q4, q5, q6, nr, ld5, lt5, ld6, lt6, q7, q8, q9, q10, f2, flt, q11, q12, reserve0, notV_bool, Bool.not_true, Bool.not_false, pickV_t, pickV_f, bin_eql, bin_neq, bin_neb, bin_npn, bin_np, bin_npnx, gcall_tt, gpure_tf, beq_self_eq_true, Bool.true_and, Bool.and_true, decide_true, decide_false, ↓bD, bU, forall_const, bS, implies_true, isNx, eq_self, ↓wp_cond, ↓wp_loop, ↓reduceIte, reduceCtorEq, Nat.reduceEqDiff, Nat.reduceLT, Nat.reduceAdd, Nat.reduceMul, bT, ↓sg_bsl, ↓st_callf, bX, ap_mkfn, ap_conv, ↓wi_seq, ↓wi_base, ↓wi_block, ↓wi_cond, ↓wi_loop, ↓wi_rf, ↓wy_seq, ↓wy_base, ↓wy_block, ↓wy_cond, ↓wy_loop, ↓wy_yld, ae_callvV, callvV_fn, List.append_nil, List.cons_append, List.nil_append, bin_nff, bin_nfn, bin_nffx, bin_nfnx, bin_streq, bin_bo_same, lstep_some, ↓st_load1nf, ↓st_loadnf, ↓st_appr, ↓st_appf0, bin_nfls, ap_lens, lensV_str, ↓sg_callf3, gcall_ff, gpure_ff0]
  refine ⟨n - 1, by omega, ?_⟩
  rw [hI2]
  exact ⟨hKf, i + 1, by omega, (by simp only [bE, Nat.reduceEqDiff, bN, Nat.reduceLT, he, e0, e2, e4, e10]; try rfl), (by simp only [bE, Nat.reduceEqDiff, bN, Nat.reduceLT, he, e0, e2, e4, e10]; try rfl), (by simp only [bE, Nat.reduceEqDiff, bN, Nat.reduceLT, he, e0, e2, e4, e10]; try rfl), (by simp only [bE, Nat.reduceEqDiff, bN, Nat.reduceLT, he, e0, e2, e4, e10]; try rfl), (by simp only [bE, Nat.reduceEqDiff, bN, Nat.reduceLT, he, e0, e2, e4, e10]; try rfl)⟩
theorem q_looks (cl : Bool) {s : St} {id : Nat} {q : Option Nat} {d : Bool} {L : List PrS} (hk : MpR s id q d L) {rv : AV} (hr : AM.read prC s rv = some L) (hs : SrtD d L) (hl : L.length ≤ 60) {k : Int} (hk1 : -4611686018427387904 ≤ k) (hk2 : k ≤ 4611686018427387904) : acall R_looks cl [.ptr id 0, .agg [.bool d, rv], .int .i64 k] s = some (.bool true, s) := run_same n_looks (by simp [a33]) rfl (w_looks (s := lowd s) hk.low (read_low' hr) hs hl hk1 hk2)

end Go.AM
end
/-
  The chapter's examples: 'known' answers true. Own work of this project; in part printed by a program of it.
-/
section
set_option maxRecDepth 100000
set_option maxHeartbeats 8000000
namespace Go.AM
open Go Go.Proofs

variable {s t u : St}

def tabK : Nat → AFun
  | 9 => .code a9
  | 10 => .code a10
  | 30 => .code a30
  | 28 => .code a28
  | 27 => .code a27
  | 34 => .code a34
  | 35 => .code a35
  | 50 => .code a50
  | 38 => .code a38
  | 15 => .code a15
  | 36 => .code a36
  | 11 => .code a11
  | 51 => .code a51
  | 17 => .code a17
  | 25 => .code a25
  | 49 => .code a49
  | 26 => .code a26
  | 55 => .code a55
  | 56 => .code a56
  | 13 => .code a13
  | 14 => .code a14
  | 40 => .code a40
  | 39 => .code a39
  | 58 => .code a58
  | 43 => .code a43
  | 62 => .code a62
  | 57 => .code a57
  | 16 => .con (conF prC pPairs)
  | 41 => .con (conIns)
  | 44 => .con (conDel)
  | _ => .no
theorem tabK_ok : ∀ f, FunOk Try.prog f (tabK f) := by
  intro f
  unfold tabK
  split
  · exact ⟨k9, _, Try.func9, c9⟩
  · exact ⟨k10, _, Try.func10, c10⟩
  · exact ⟨k30, _, Try.func30, c30⟩
  · exact ⟨k28, _, Try.func28, c28⟩
  · exact ⟨k27, _, Try.func27, c27⟩
  · exact ⟨k34, _, Try.func34, c34⟩
  · exact ⟨k35, _, Try.func35, c35⟩
  · exact ⟨k50, _, Try.func50, c50⟩
  · exact ⟨k38, _, Try.func38, c38⟩
  · exact ⟨k15, _, Try.func15, c15⟩
  · exact ⟨k36, _, Try.func36, c36⟩
  · exact ⟨k11, _, Try.func11, c11⟩
  · exact ⟨k51, _, Try.func51, c51⟩
  · exact ⟨k17, _, Try.func17, c17⟩
  · exact ⟨k25, _, Try.func25, c25⟩
  · exact ⟨k49, _, Try.func49, c49⟩
  · exact ⟨k26, _, Try.func26, c26⟩
  · exact ⟨k55, _, Try.func55, c55⟩
  · exact ⟨k56, _, Try.func56, c56⟩
  · exact ⟨k13, _, Try.func13, c13⟩
  · exact ⟨k14, _, Try.func14, c14⟩
  · exact ⟨k40, _, Try.func40, c40⟩
  · exact ⟨k39, _, Try.func39, c39⟩
  · exact ⟨k58, _, Try.func58, c58⟩
  · exact ⟨k43, _, Try.func43, c43⟩
  · exact ⟨k62, _, Try.func62, c62⟩
  · exact ⟨k57, _, Try.func57, c57⟩
  · exact s_pairs
  · exact s_cInsI
  · exact s_cDelI
  · trivial
theorem known_run : isTrue (acalls tabK 1000 16 9 [] St.empty) = true := by kernel_rfl
theorem s_known : SoundAt Try.prog 9 (closed [] (.bool true)) := by
  obtain ⟨s, hs⟩ := isTrue_ex known_run
  exact closed_sound (acalls_sound mixed tabK_ok 16 _) hs rfl
theorem q_known (cl : Bool) {s : St} : acall (closed [] (.bool true)) cl [] s = some (.bool true, s) := by simp [acall, closed, AV.ground, AV.plain, AV.plains]

end Go.AM
end
/-
  The row's last part: a call that leaves what was there alone, and answers true. Own work of this project.
-/
section
namespace Go.AM
open Go Go.ChangeShapes Go.WideShapes Go.ChangeAt Go.RowKit

variable {H : Type} {enc : TypeId × Value → H} {P : Program}

theorem Clean.below {W W' : World} (h : Clean W W') : Below W.heap.size W W' := ⟨h.os, h.tape, h.output, h.size, h.block⟩
theorem Clean.frozen {W W' : World} (h : Clean W W') {a : Addr} (ha : a.block < W.heap.size) : W'.frozen? a = W.frozen? a := h.below.frozen ha

theorem trodAll_clean (hl : laidOutB P = true) {W W' : World} (hc : Clean W W') (sp : Nat → Bool) : ∀ {ts : List TypeId} {vs : List Value} {ds : List (DataW H)} {ps : List MemPlace}, (∀ t ∈ ts, P.readableRec t = true ∧ t < P.types.size) →
    DataW.TrodAll enc P W 0 (fun _ => true) true ts vs ds ps → (∀ p ∈ ps, sp p.block = true) → DataW.TrodAll enc P W' 0 sp true ts vs ds ps
  | [], vs, ds, ps, _, h, _ => by
    obtain ⟨rfl, rfl, rfl⟩ := trodAll_nil h
    rfl
  | t :: ts, vs, ds, ps, hr, h, hs => by
    obtain ⟨v, vs1, d, ds1, a, b, rfl, rfl, rfl, h1, h2⟩ := trodAll_cons h
    have hlt := DataW.TrodAll.lt h
    refine ⟨a, b, ?_, trodAll_clean hl hc sp (fun t ht => hr t (by simp [ht])) h2 fun p hp => hs p (by simp [hp]), rfl⟩
    exact WideElems.Trod_stays hl (hr t (by simp)).1 (hr t (by simp)).2 h1 (fun x hx => hc.below.same (hlt x (by simp [hx]))) fun x hx => hs x (by simp [hx])

theorem post_of_clean {f : Func} {s : ChangeSpec} {apart fresh handsOn again : Bool} {W W' : World} {args : Array Value} {ds gs : List (DataW H)} {before : List MemPlace} {tb : TypeId} (hl : laidOutB P = true)
    (hread : ∀ t ∈ f.params.toList, P.readableRec t = true ∧ t < P.types.size) (hW : DataW.Whole enc P f.params.toList s.vars apart W args.toList ds gs before) (hv : s.vars = [])
    (hres : (s.fn H (ds ++ gs)).results = [.lit (.bool true)]) (hargs : (s.fn H (ds ++ gs)).args = ds) (hvars : (s.fn H (ds ++ gs)).vars = []) (hrt : f.resultTypes = #[tb]) (hb : P.underlying tb = some .bool) (hc : Clean W W') :
    s.post enc P f apart fresh handsOn again W args (.bool true) W' := by
  have hlt : ∀ p ∈ before, p.block < W.heap.size := hW.lt
  have hW0 := hW
  obtain ⟨pa, pv, hA, hV, rfl, hz, hn⟩ := hW
  have hpv : pv = [] := by
    rw [hv] at hV
    cases gs with
    | nil => exact hV
    | cons g gs => exact hV.elim
  subst hpv
  simp only [List.append_nil] at hW0 hlt hz hn
  have hR : ∀ (b : Nat) (sp : Nat → Bool) (hd : Bool), DataW.TrodAll enc P W' b sp hd [tb] [.bool true] [.lit (.bool true)] [] := fun b sp hd => trodAll_mk1 (shut_bool hb true)
  have hrl : (Value.bool true).resultList f.resultTypes.size = [.bool true] := by simp [hrt, Value.resultList]
  refine ⟨ds, gs, pa, [], pa, [], hW0, ?_, ?_, ?_, ?_, fun _ => ⟨fun j t r h1 h2 => ?_, ?_⟩⟩
  · rw [hrl, hres, hrt]
    exact hR _ _ _
  · rw [hargs]
    exact trodAll_clean hl hc _ hread hA fun p hp => by simpa using hlt p hp
  · rw [hvars, hv]
    rfl
  · exact hc.below.frame _
  · rw [hrl] at h2
    rw [hrt] at h1
    cases j with
    | zero =>
      simp at h1 h2
      subst h1; subst h2
      simp [Value.okWide, hb, Cell.okWide, Cell.ok]
    | succ j => simp at h1
  · refine ⟨[.lit (.bool true)] ++ ds, [], pa, ⟨[] ++ pa, [], ?_, ?_, by simp, ?_, ?_⟩, fun p hp _ => hp⟩
    · rw [hrl, hrt]
      exact trodAll_append (trodAll_clean hl hc _ hread hA fun _ _ => rfl) (hR _ _ _)
    · rw [hv]
      rfl
    · intro b off hp
      rw [hc.frozen (hlt _ hp)]
      exact hz b off hp
    · intro ha
      simpa using hn ha

end Go.AM
end
/-
  From a row's reading of an argument to the abstract machine's memory. Own work of this project.
-/
section
namespace Go.AM
open Go Go.ChangeShapes Go.WideShapes Go.ChangeAt Go.RowKit Go.Deep

/-- The kinds of plain cells. -/
inductive CK where
  | b | i (k : IntKind) | s
def CK.ok : CK → AV → Prop
  | .b, v => ∃ x, v = .bool x
  | .i k, v => ∃ n, v = .int k n ∧ (Lit.int k n).wf = true
  | .s, v => ∃ x, v = .str x
def CKs : List CK → List AV → Prop
  | [], vs => vs = []
  | k :: ks, vs => ∃ v r, vs = v :: r ∧ k.ok v ∧ CKs ks r
theorem CKs.append : ∀ {ks ks' : List CK} {vs vs' : List AV}, CKs ks vs → CKs ks' vs' → CKs (ks ++ ks') (vs ++ vs')
  | [], ks', vs, vs', h, h' => by simp only [CKs] at h; subst h; exact h'
  | k :: ks, ks', vs, vs', h, h' => by
    simp only [CKs] at h
    obtain ⟨v, r, rfl, h1, h2⟩ := h
    exact ⟨v, r ++ vs', rfl, h1, CKs.append h2 h'⟩
theorem CKs.len : ∀ {ks : List CK} {vs : List AV}, CKs ks vs → vs.length = ks.length
  | [], vs, h => by simp only [CKs] at h; subst h; rfl
  | k :: ks, vs, h => by
    simp only [CKs] at h
    obtain ⟨v, r, rfl, h1, h2⟩ := h
    simp [CKs.len h2]
theorem CK.ok_one {k : CK} {v : AV} (h : k.ok v) : v.one = true := by
  cases k <;> simp only [CK.ok] at h
  · obtain ⟨x, rfl⟩ := h; rfl
  · obtain ⟨x, rfl, _⟩ := h; rfl
  · obtain ⟨x, rfl⟩ := h; rfl
theorem CKs.one : ∀ {ks : List CK} {vs : List AV}, CKs ks vs → vs.all AV.one = true
  | [], vs, h => by simp only [CKs] at h; subst h; rfl
  | k :: ks, vs, h => by
    simp only [CKs] at h
    obtain ⟨v, r, rfl, h1, h2⟩ := h
    simp [CK.ok_one h1, CKs.one h2]

variable (P : Program)
variable {P}
variable {H : Type} {enc : TypeId × Value → H} {w : World} {base : Nat} {spare : Nat → Bool} {held : Bool}
theorem cell_some {a : Addr} {v : Value} (h : w.cell? a = some v) : ∃ cells el fr, w.heap[a.block]? = some (.cells cells el fr) ∧ a.spot = none := by
  unfold World.cell? at h
  split at h
  · rename_i c el fr hh
    split at h
    · cases h
    · rename_i hs
      exact ⟨c, el, fr, hh, by simpa using hs⟩
  · cases h
theorem addr_block (a : Addr) (i : Nat) : (a.add i).block = a.block := by unfold Addr.add; split <;> rfl
theorem addr_spot (a : Addr) (i : Nat) (h : (a.add i).spot = none) (h0 : i = 0 ∨ True) : i = 0 → a.spot = none := by
  intro hi
  subst hi
  unfold Addr.add at h
  simpa using h

/-- Cells, each kind in its turn, again and again. -/
def Rows (ks : List CK) (rows : List (List AV)) : Prop := ∀ r ∈ rows, CKs ks r
end Go.AM
end
/-
  Arguments with slices in slices and in structs, opened into the abstract machine's memory. Own work of this project.
-/
section
set_option maxRecDepth 100000
namespace Go.AM
open Go Go.ChangeShapes Go.WideShapes Go.ChangeAt Go.RowKit Go.Deep

/-- Some block of cells is there. -/
def HasCellsD (W : World) : Prop := ∃ (b : Nat) (cs : Array Value) (e : TypeId) (fr : Nat × Nat), W.heap[b]? = some (Obj.cells cs e fr)
theorem dummyD {W : World} (h : HasCellsD W) : ∃ L : Loc, L.b < W.heap.size ∧ ∀ ρ, BlkOk ρ L W (.row [] false) := by
  obtain ⟨b, cs, e, fr, hb⟩ := h
  refine ⟨⟨b, 0, cs.size⟩, (Array.getElem?_eq_some_iff.1 hb).1, fun ρ => ?_⟩
  simp only [BlkOk]
  exact ⟨cs, e, fr, hb, rfl, by simp, fun i v h => by simp at h, by simp, rfl⟩

section
variable (P : Program)
/-- What the memory shows at cells of a type. -/
def RdF (ok : TypeId → List AV → Prop) : List Field → List AV → Prop
  | [], vs => vs = []
  | f :: r, vs => ∃ a b, vs = a ++ b ∧ ok f.type a ∧ RdF ok r b
def RdT (s : St) : Nat → TypeId → List AV → Prop
  | 0, _, _ => False
  | d + 1, t, vs => match P.underlying t with
    | some .bool => ∃ x, vs = [.bool x]
    | some (.int k) => ∃ n, vs = [.int k n] ∧ (Lit.int k n).wf = true
    | some .string => ∃ x, vs = [.str x]
    | some (.struct fs) => RdF (RdT s d) fs.toList vs
    | some (.slice e) => vs = [.nils] ∨ ∃ (id n cap : Nat) (rows : List (List AV)), vs = [.sl id 0 n (some cap) (P.cellsOf e)] ∧ n ≤ cap ∧ cap ≤ maxLen ∧ rows.length = cap ∧ s.get id = some (.row rows.flatten false) ∧ ∀ r ∈ rows, RdT s d e r ∧ r.length = P.cellsOf e
    | _ => False
def okF (ok : TypeId → Bool) : List Field → Nat → Nat → Bool
  | [], at_, sz => decide (sz = at_)
  | f :: r, at_, sz => decide (f.offset = at_) && ok f.type && okF ok r (at_ + P.cellsOf f.type) sz
def okT : Nat → TypeId → Bool
  | 0, _ => false
  | d + 1, t => match P.underlying t with
    | some .bool | some (.int _) | some .string => true
    | some (.struct fs) => okF P (okT d) fs.toList 0 (P.cellsOf t)
    | some (.slice e) => decide (P.cellsOf e ≠ 0) && okT d e
    | _ => false
end

variable {P : Program} {H : Type} {enc : TypeId × Value → H} {W : World} {base : Nat} {held : Bool}
/-- Cells, and the blocks that they reach, numbered from 'start' on. -/
structure Opn (W : World) (Q : St → List AV → Prop) (start : Nat) (cs : List Value) (vs : List AV) (bl : List (AB × Loc)) : Prop where
  lt : ∀ p ∈ bl, p.2.b < W.heap.size
  own : ∀ p ∈ bl, p.1.owned = false
  vr : ∀ ρ : Ren, (∀ i p, bl[i]? = some p → ρ (start + i) = some p.2) → VRs ρ vs cs ∧ ∀ p ∈ bl, BlkOk ρ p.2 W p.1
  rd : ∀ s : St, (∀ i p, bl[i]? = some p → s.get (start + i) = some p.1) → Q s vs
  one : vs.all AV.one = true
  len : vs.length = cs.length
theorem Opn.plain {Q : St → List AV → Prop} {start : Nat} {cs : List Value} {vs : List AV} (h : ∀ ρ, VRs ρ vs cs) (hq : ∀ s, Q s vs) (ho : vs.all AV.one = true) (hl : vs.length = cs.length) : Opn W Q start cs vs [] :=
  ⟨by simp, by simp, fun ρ _ => ⟨h ρ, by simp⟩, fun s _ => hq s, ho, hl⟩
theorem Opn.app {Q1 Q2 : St → List AV → Prop} {start : Nat} {c1 c2 : List Value} {v1 v2 : List AV} {b1 b2 : List (AB × Loc)} (h : Opn W Q1 start c1 v1 b1) (k : Opn W Q2 (start + b1.length) c2 v2 b2) :
    Opn W (fun s _ => Q1 s v1 ∧ Q2 s v2) start (c1 ++ c2) (v1 ++ v2) (b1 ++ b2) := by
  have e1 : ∀ {i : Nat} {p}, b1[i]? = some p → (b1 ++ b2)[i]? = some p := fun {i p} hp => by
    rw [List.getElem?_append_left (List.getElem?_eq_some_iff.1 hp).1]; exact hp
  have e2 : ∀ {i : Nat} {p}, b2[i]? = some p → (b1 ++ b2)[b1.length + i]? = some p := fun {i p} hp => by
    rw [List.getElem?_append_right (by omega), Nat.add_sub_cancel_left]; exact hp
  refine ⟨fun p hp => ?_, fun p hp => ?_, fun ρ hρ => ?_, fun s hs => ⟨h.rd s fun i p hp => hs i p (e1 hp), k.rd s fun i p hp => ?_⟩, by simp [h.one, k.one], by simp [h.len, k.len]⟩
  · rcases List.mem_append.1 hp with q | q
    · exact h.lt p q
    · exact k.lt p q
  · rcases List.mem_append.1 hp with q | q
    · exact h.own p q
    · exact k.own p q
  · obtain ⟨r1, r2⟩ := h.vr ρ fun i p hp => hρ i p (e1 hp)
    obtain ⟨r3, r4⟩ := k.vr ρ fun i p hp => by have := hρ _ p (e2 hp); rwa [← Nat.add_assoc] at this
    refine ⟨r1.append r3, fun p hp => ?_⟩
    rcases List.mem_append.1 hp with q | q
    · exact r2 p q
    · exact r4 p q
  · have := hs _ p (e2 hp)
    rwa [← Nat.add_assoc] at this
theorem Opn.imp {Q Q' : St → List AV → Prop} {start : Nat} {cs : List Value} {vs : List AV} {bl : List (AB × Loc)} (h : Opn W Q start cs vs bl) (k : ∀ s, Q s vs → Q' s vs) : Opn W Q' start cs vs bl :=
  ⟨h.lt, h.own, h.vr, fun s hs => k s (h.rd s hs), h.one, h.len⟩

/-- A slice's place, its elements as they are read one by one. -/
theorem slice_geo {t e : TypeId} {fuel : Nat} {cs : List Value} {x : DataW H × List MemPlace} (hu : P.underlying t = some (.slice e)) (h0 : P.cellsOf e ≠ 0)
    (h : DataW.trod enc P W base (fun _ => true) held fuel t cs = some x) : cs = [.slice none 0 0] ∨ (∃ a, cs = [.slice (some a) 0 0]) ∨
    ∃ (b off len cap : Nat) (cells : Array Value) (el : TypeId) (fr : Nat × Nat) (n : Nat), cs = [.slice (some ⟨b, off, none⟩) len cap] ∧ 0 < cap ∧ len ≤ cap ∧ cap ≤ maxLen ∧ W.heap[b]? = some (.cells cells el fr) ∧ off + cap * P.cellsOf e ≤ cells.size ∧
      ∀ i, i < cap → ∃ x, DataW.trod enc P W base (fun _ => true) held n e ((cells.toList.drop (off + i * P.cellsOf e)).take (P.cellsOf e)) = some x := by
  rcases open_slice hu h with ⟨rfl, _⟩ | ⟨a, len, cap, m, n, D, Pl, rfl, hb, hl, hm, hmm, _, hx⟩
  · exact .inl rfl
  right
  simp only [if_true] at hmm
  subst hmm
  by_cases hc : m = 0
  · left
    subst hc
    have : len = 0 := by omega
    subst this
    exact ⟨a, rfl⟩
  right
  obtain ⟨cs0, h1, _⟩ := hx 0 (by omega)
  obtain ⟨_, hl0, hat0⟩ := World.cells?_some h1
  have hc0 := hat0 0 (by omega)
  obtain ⟨b, off, spot⟩ := a
  have hsome : ∃ v, cs0[0]? = some v := ⟨cs0[0]'(by omega), by simp⟩
  obtain ⟨v0, hv0⟩ := hsome
  rw [hv0] at hc0
  obtain ⟨cells, el, fr, hh, hsp⟩ := cell_some hc0
  rw [addr_block, addr_block] at hh
  simp only at hh
  have hspot : spot = none := by
    have h2 := addr_spot _ 0 hsp (.inl rfl) rfl
    have h3 := addr_spot _ (0 * P.cellsOf e) h2 (.inr trivial) (by simp)
    exact h3
  subst hspot
  have hat : ∀ i, i < m → off + (i + 1) * P.cellsOf e ≤ cells.size ∧ ∃ x, DataW.trod enc P W base (fun _ => true) held n e ((cells.toList.drop (off + i * P.cellsOf e)).take (P.cellsOf e)) = some x := by
    intro i hi
    obtain ⟨cs', e1, e2⟩ := hx i hi
    obtain ⟨_, hl', hat'⟩ := World.cells?_some e1
    have hget : ∀ j, j < P.cellsOf e → cells[off + i * P.cellsOf e + j]? = cs'[j]? := by
      intro j hj
      have := hat' j hj
      rw [addr_add, addr_add, cell_at hh] at this
      exact this
    have hsz : off + (i + 1) * P.cellsOf e ≤ cells.size := by
      have hj : P.cellsOf e - 1 < P.cellsOf e := by omega
      have := hget _ hj
      rw [List.getElem?_eq_getElem (by omega)] at this
      have hlt := (Array.getElem?_eq_some_iff.1 this).1
      rw [Nat.succ_mul]
      omega
    refine ⟨hsz, (D i, Pl i), ?_⟩
    have : (cells.toList.drop (off + i * P.cellsOf e)).take (P.cellsOf e) = cs' := by
      apply List.ext_getElem?
      intro j
      by_cases hj : j < P.cellsOf e
      · rw [List.getElem?_take_of_lt hj, List.getElem?_drop]
        have := hget j (by omega)
        simpa using this
      · rw [List.getElem?_eq_none (by simp; omega), List.getElem?_eq_none (by omega)]
    rw [this]
    exact e2
  obtain ⟨q2, _⟩ := hat (m - 1) (by omega)
  rw [show m - 1 + 1 = m by omega] at q2
  exact ⟨b, off, len, m, cells, el, fr, n, rfl, by omega, hl, hm, hh, q2, fun i hi => (hat i hi).2⟩

def DeepOk (P : Program) (enc : TypeId × Value → H) (W : World) (base : Nat) (held : Bool) (d : Nat) (t : TypeId) : Prop :=
  ∀ (fuel : Nat) (cs : List Value) (x : DataW H × List MemPlace), DataW.trod enc P W base (fun _ => true) held fuel t cs = some x → ∀ start, ∃ vs bl, Opn W (fun s vs => RdT P s d t vs) start cs vs bl

theorem deep_fields {d : Nat} (IH : ∀ t, okT P d t = true → DeepOk P enc W base held d t) {n : Nat} {cs : List Value} {sz : Nat} (hcs : cs.length = sz) : ∀ (fs : List Field) (at_ : Nat), okF P (okT P d) fs at_ sz = true →
    (∀ f ∈ fs, ∃ x, DataW.trod enc P W base (fun _ => true) held n f.type ((cs.drop f.offset).take (P.cellsOf f.type)) = some x) → ∀ start, ∃ vs bl, Opn W (fun s vs => RdF (RdT P s d) fs vs) start (cs.drop at_) vs bl
  | [], at_, h, _, start => by
    simp only [okF, decide_eq_true_eq] at h
    rw [List.drop_eq_nil_of_le (by omega)]
    exact ⟨[], [], .plain (fun _ => VRs_nil) (fun _ => rfl) rfl rfl⟩
  | f :: r, at_, h, hx, start => by
    simp only [okF, Bool.and_eq_true, decide_eq_true_eq] at h
    obtain ⟨⟨hoff, hok⟩, hr⟩ := h
    obtain ⟨x, hxf⟩ := hx f (by simp)
    obtain ⟨v1, b1, o1⟩ := IH f.type hok n _ x hxf start
    obtain ⟨v2, b2, o2⟩ := deep_fields IH hcs r (at_ + P.cellsOf f.type) hr (fun g hg => hx g (by simp [hg])) (start + b1.length)
    refine ⟨v1 ++ v2, b1 ++ b2, ?_⟩
    have := o1.app o2
    rw [hoff, ← List.drop_drop, List.take_append_drop] at this
    exact this.imp fun s q => ⟨v1, v2, rfl, q⟩
theorem deep_rows {d : Nat} {e : TypeId} {n : Nat} (IH : DeepOk P enc W base held d e) (cells : List Value) (off : Nat) : ∀ (k : Nat), off + k * P.cellsOf e ≤ cells.length →
    (∀ i, i < k → ∃ x, DataW.trod enc P W base (fun _ => true) held n e ((cells.drop (off + i * P.cellsOf e)).take (P.cellsOf e)) = some x) → ∀ start, ∃ (rows : List (List AV)) (bl : List (AB × Loc)), rows.length = k ∧
      Opn W (fun s _ => ∀ r ∈ rows, RdT P s d e r ∧ r.length = P.cellsOf e) start ((cells.drop off).take (k * P.cellsOf e)) rows.flatten bl
  | 0, _, _, start => ⟨[], [], rfl, .plain (fun _ => by simpa using VRs_nil) (fun _ r hr => by simp at hr) rfl (by simp)⟩
  | k + 1, hle, hx, start => by
    obtain ⟨rows, b1, h1, o1⟩ := deep_rows IH cells off k (by rw [Nat.succ_mul] at hle; omega) (fun i hi => hx i (by omega)) start
    obtain ⟨x, hxk⟩ := hx k (by omega)
    obtain ⟨v2, b2, o2⟩ := IH n _ x hxk (start + b1.length)
    refine ⟨rows ++ [v2], b1 ++ b2, by simp [h1], ?_⟩
    have hl2 : v2.length = P.cellsOf e := by
      rw [o2.len, List.length_take, List.length_drop]
      rw [Nat.succ_mul] at hle
      omega
    have := o1.app o2
    rw [List.flatten_append, List.flatten_singleton, Nat.succ_mul, List.take_add, List.drop_drop]
    refine this.imp fun s hq r hr => ?_
    rcases List.mem_append.1 hr with q | q
    · exact hq.1 r q
    · simp at q
      subst q
      exact ⟨hq.2, hl2⟩
theorem VRs.cell {ρ : Ren} {vs : List AV} {cs : List Value} (h : VRs ρ vs cs) {i : Nat} {v : AV} (hi : vs[i]? = some v) : ∃ c, cs[i]? = some c ∧ VR ρ v c := VRs.at_ i h hi
theorem deep_open (hc : HasCellsD W) : ∀ (d : Nat) (t : TypeId), okT P d t = true → DeepOk P enc W base held d t
  | 0, t, h => by simp [okT] at h
  | d + 1, t, h => by
    intro fuel cs x hx start
    simp only [okT] at h
    split at h
    · rename_i hu
      obtain ⟨b, rfl, _⟩ := DataW.trod_bool hu hx
      exact ⟨[.bool b], [], .plain (fun ρ => VRs_cons.2 ⟨by simp [VR], VRs_nil⟩) (fun s => by simp only [RdT, hu]; exact ⟨b, rfl⟩) rfl rfl⟩
    · rename_i k hu
      obtain ⟨b, rfl, _, hw⟩ := DataW.trod_int hu hx
      exact ⟨[.int k b], [], .plain (fun ρ => VRs_cons.2 ⟨by simp [VR], VRs_nil⟩) (fun s => by simp only [RdT, hu]; exact ⟨b, rfl, hw⟩) rfl rfl⟩
    · rename_i hu
      obtain ⟨b, rfl, _⟩ := DataW.trod_string hu hx
      exact ⟨[.str b], [], .plain (fun ρ => VRs_cons.2 ⟨by simp [VR], VRs_nil⟩) (fun s => by simp only [RdT, hu]; exact ⟨b, rfl⟩) rfl rfl⟩
    · rename_i fs hu
      obtain ⟨xs, n, _, _, hl, hxl, hf⟩ := DataW.trod_struct hu hx
      obtain ⟨vs, bl, ho⟩ := deep_fields (fun t hk => deep_open hc d t hk) hl fs.toList 0 h (n := n) (fun f hmem => by
        obtain ⟨i, hi⟩ := List.getElem?_of_mem hmem
        have hi' : fs[i]? = some f := by simpa using hi
        have hlt : i < xs.length := by
          have := (Array.getElem?_eq_some_iff.1 hi').1
          omega
        exact ⟨xs[i], by rw [hf i f hi']; simp [hlt]⟩) start
      rw [List.drop_zero] at ho
      exact ⟨vs, bl, ho.imp fun s q => by simp only [RdT, hu]; exact q⟩
    · rename_i e hu
      simp only [Bool.and_eq_true, decide_eq_true_eq] at h
      obtain ⟨L, hL1, hL2⟩ := dummyD hc
      rcases slice_geo hu h.1 hx with rfl | ⟨a, rfl⟩ | ⟨b, off, len, cap, cells, el, fr, n, rfl, h2, h3, h4, h5, h6, h7⟩
      · exact ⟨[.nils], [], .plain (fun ρ => VRs_cons.2 ⟨by simp [VR], VRs_nil⟩) (fun s => by simp only [RdT, hu]; exact .inl (by trivial)) rfl rfl⟩
      · refine ⟨[.sl start 0 0 (some 0) (P.cellsOf e)], [(.row [] false, L)], ?_, ?_, fun ρ hρ => ⟨VRs_cons.2 ⟨?_, VRs_nil⟩, ?_⟩, fun s hs => ?_, rfl, rfl⟩
        · intro p hp
          simp at hp
          subst hp
          exact hL1
        · intro p hp
          simp at hp
          subst hp
          rfl
        · simp only [VR]
          exact ⟨L, a, 0, hρ 0 _ rfl, rfl, Nat.le_refl _, fun k hk => by injection hk, .inl rfl⟩
        · intro p hp
          simp at hp
          subst hp
          exact hL2 ρ
        · simp only [RdT, hu]
          exact .inr ⟨start, 0, 0, [], rfl, Nat.le_refl _, Nat.zero_le _, rfl, hs 0 _ rfl, fun r hr => by simp at hr⟩
      · have hlt := (Array.getElem?_eq_some_iff.1 h5).1
        obtain ⟨rows, bl, hr1, ho⟩ := deep_rows (deep_open hc d e h.2) cells.toList off cap (by simpa using h6) h7 (start + 1)
        have hfl : rows.flatten.length = cap * P.cellsOf e := by
          rw [ho.len, List.length_take, List.length_drop]
          simp
          omega
        have hup : ∀ {ρ : Ren}, (∀ i p, ((AB.row rows.flatten false, (⟨b, off, cells.size⟩ : Loc)) :: bl)[i]? = some p → ρ (start + i) = some p.2) → ∀ i p, bl[i]? = some p → ρ (start + 1 + i) = some p.2 := fun hρ i p hp => by
          have := hρ (i + 1) p (by simpa using hp)
          rwa [show start + (i + 1) = start + 1 + i by omega] at this
        refine ⟨[.sl start 0 len (some cap) (P.cellsOf e)], (.row rows.flatten false, ⟨b, off, cells.size⟩) :: bl, ?_, ?_, fun ρ hρ => ?_, fun s hs => ?_, rfl, rfl⟩
        · intro p hp
          rcases List.mem_cons.1 hp with rfl | hp
          · exact hlt
          · exact ho.lt p hp
        · intro p hp
          rcases List.mem_cons.1 hp with rfl | hp
          · rfl
          · exact ho.own p hp
        · obtain ⟨r1, r2⟩ := ho.vr ρ (hup hρ)
          refine ⟨VRs_cons.2 ⟨?_, VRs_nil⟩, fun p hp => ?_⟩
          · simp only [VR]
            exact ⟨⟨b, off, cells.size⟩, ⟨b, off, none⟩, cap, hρ 0 _ rfl, rfl, h3, fun k hk => by injection hk, .inr ⟨by simp, by simpa using h6⟩⟩
          · rcases List.mem_cons.1 hp with rfl | hp
            · simp only [BlkOk]
              refine ⟨cells, el, fr, h5, rfl, by rw [hfl]; exact h6, fun i v hi => ?_, by simp, ho.one⟩
              have hi' := (List.getElem?_eq_some_iff.1 hi).1
              obtain ⟨c, hc1, hc2⟩ := r1.cell hi
              refine ⟨c, ?_, hc2⟩
              rw [List.getElem?_take_of_lt (by omega), List.getElem?_drop] at hc1
              simpa using hc1
            · exact r2 p hp
        · simp only [RdT, hu]
          refine .inr ⟨start, len, cap, rows, rfl, h3, h4, hr1, hs 0 _ rfl, ?_⟩
          refine ho.rd s fun i p hp => ?_
          have := hs (i + 1) p (by simpa using hp)
          rwa [show start + (i + 1) = start + 1 + i by omega] at this
    · cases h

/-! ### All arguments of a call -/
def argAV (P : Program) (t : TypeId) (vs : List AV) : AV := match P.underlying t with
  | some (.struct _) => .agg vs
  | _ => vs.headD .und
def RdA (P : Program) (s : St) (d : Nat) (t : TypeId) (v : AV) : Prop := ∃ vs, RdT P s d t vs ∧ v = argAV P t vs
def RdAs (P : Program) (s : St) (d : Nat) : List TypeId → List AV → Prop
  | [], xs => xs = []
  | t :: ts, xs => ∃ v r, xs = v :: r ∧ RdA P s d t v ∧ RdAs P s d ts r
structure OpnA (W : World) (Q : St → List AV → Prop) (start : Nat) (cs : List Value) (vs : List AV) (bl : List (AB × Loc)) : Prop where
  lt : ∀ p ∈ bl, p.2.b < W.heap.size
  own : ∀ p ∈ bl, p.1.owned = false
  vr : ∀ ρ : Ren, (∀ i p, bl[i]? = some p → ρ (start + i) = some p.2) → VRs ρ vs cs ∧ ∀ p ∈ bl, BlkOk ρ p.2 W p.1
  rd : ∀ s : St, (∀ i p, bl[i]? = some p → s.get (start + i) = some p.1) → Q s vs
theorem OpnA.cons {Q1 Q2 : St → List AV → Prop} {start : Nat} {c : Value} {cs : List Value} {v : AV} {vs : List AV} {b1 b2 : List (AB × Loc)} (h : OpnA W Q1 start [c] [v] b1) (k : OpnA W Q2 (start + b1.length) cs vs b2) :
    OpnA W (fun s _ => Q1 s [v] ∧ Q2 s vs) start (c :: cs) (v :: vs) (b1 ++ b2) := by
  have e1 : ∀ {i : Nat} {p}, b1[i]? = some p → (b1 ++ b2)[i]? = some p := fun {i p} hp => by
    rw [List.getElem?_append_left (List.getElem?_eq_some_iff.1 hp).1]; exact hp
  have e2 : ∀ {i : Nat} {p}, b2[i]? = some p → (b1 ++ b2)[b1.length + i]? = some p := fun {i p} hp => by
    rw [List.getElem?_append_right (by omega), Nat.add_sub_cancel_left]; exact hp
  refine ⟨fun p hp => ?_, fun p hp => ?_, fun ρ hρ => ?_, fun s hs => ⟨h.rd s fun i p hp => hs i p (e1 hp), k.rd s fun i p hp => ?_⟩⟩
  · rcases List.mem_append.1 hp with q | q
    · exact h.lt p q
    · exact k.lt p q
  · rcases List.mem_append.1 hp with q | q
    · exact h.own p q
    · exact k.own p q
  · obtain ⟨r1, r2⟩ := h.vr ρ fun i p hp => hρ i p (e1 hp)
    obtain ⟨r3, r4⟩ := k.vr ρ fun i p hp => by have := hρ _ p (e2 hp); rwa [← Nat.add_assoc] at this
    refine ⟨r1.append r3, fun p hp => ?_⟩
    rcases List.mem_append.1 hp with q | q
    · exact r2 p q
    · exact r4 p q
  · have := hs _ p (e2 hp)
    rwa [← Nat.add_assoc] at this
theorem arg_deep (hc : HasCellsD W) {d : Nat} {t : TypeId} (hok : okT P (d + 1) t = true) {v : Value} {x : DataW H} {p : List MemPlace} (h : DataW.Trod enc P W base (fun _ => true) held t v x p) {b0 : Nat} (hval : Value.okWide P W .any b0 t v) (start : Nat) :
    ∃ a bl, OpnA W (fun s _ => RdA P s (d + 1) t a) start [v] [a] bl := by
  obtain ⟨fuel, h⟩ := h
  obtain ⟨vs, bl, ho⟩ := deep_open hc (d + 1) t hok fuel _ _ h start
  have hone : ∀ (hv : v.cells.toList = [v]) (ha : argAV P t vs = vs.headD .und), ∃ a bl, OpnA W (fun s _ => RdA P s (d + 1) t a) start [v] [a] bl := by
    intro hv ha
    have hl := ho.len
    rw [hv] at hl
    match vs, hl with
    | [a], _ =>
      refine ⟨a, bl, ho.lt, ho.own, fun ρ hρ => ?_, fun s hs => ⟨[a], ho.rd s hs, by rw [ha]; rfl⟩⟩
      have := ho.vr ρ hρ
      rw [hv] at this
      exact this
  simp only [okT] at hok
  split at hok
  · rename_i hu
    obtain ⟨b, rfl⟩ := okWide_bool hu hval
    exact hone rfl (by simp [argAV, hu])
  · rename_i k hu
    obtain ⟨b, rfl⟩ := okWide_int hu hval
    exact hone rfl (by simp [argAV, hu])
  · rename_i hu
    obtain ⟨b, rfl⟩ := okWide_string hu hval
    exact hone rfl (by simp [argAV, hu])
  · rename_i fs hu
    obtain ⟨cs, rfl, _⟩ := okWide_struct hu hval
    refine ⟨.agg vs, bl, ho.lt, ho.own, fun ρ hρ => ?_, fun s hs => ⟨vs, ho.rd s hs, by simp [argAV, hu]⟩⟩
    obtain ⟨r1, r2⟩ := ho.vr ρ hρ
    refine ⟨VRs_cons.2 ⟨?_, VRs_nil⟩, r2⟩
    simp only [VR]
    exact ⟨cs.toList, by simp, r1⟩
  · rename_i e hu
    obtain ⟨a, len, cap, rfl⟩ := okWide_slice hu hval
    exact hone rfl (by simp [argAV, hu])
  · cases hok
theorem args_deep (hc : HasCellsD W) {d : Nat} : ∀ {ts : List TypeId} {vs : List Value} {ds : List (DataW H)} {ps : List MemPlace}, (∀ t ∈ ts, okT P (d + 1) t = true) → DataW.TrodAll enc P W base (fun _ => true) held ts vs ds ps →
    (∀ (j : Nat) t v, ts[j]? = some t → vs[j]? = some v → ∃ b0, Value.okWide P W .any b0 t v) → ∀ start, ∃ xs bl, OpnA W (fun s _ => RdAs P s (d + 1) ts xs) start vs xs bl
  | [], vs, ds, ps, _, h, _, start => by
    obtain ⟨rfl, rfl, rfl⟩ := trodAll_nil h
    exact ⟨[], [], by simp, by simp, fun ρ _ => ⟨VRs_nil, by simp⟩, fun s _ => rfl⟩
  | t :: ts, vs, ds, ps, hok, h, hval, start => by
    obtain ⟨v, vs1, x, ds1, a, b, rfl, rfl, rfl, h1, h2⟩ := trodAll_cons h
    obtain ⟨b0, hv⟩ := hval 0 t v rfl rfl
    obtain ⟨av, bl1, o1⟩ := arg_deep hc (hok t (by simp)) h1 hv start
    obtain ⟨xs, bl2, o2⟩ := args_deep hc (fun t' ht => hok t' (by simp [ht])) h2 (fun j t' v' e1 e2 => hval (j + 1) t' v' (by simpa using e1) (by simpa using e2)) (start + bl1.length)
    have := o1.cons o2
    exact ⟨av :: xs, bl1 ++ bl2, this.lt, this.own, this.vr, fun s hs => ⟨av, xs, rfl, this.rd s hs⟩⟩
open Classical in
noncomputable def lawC (P : Program) (d : Nat) (ts : List TypeId) : List AV → St → Option (AV × St) := fun xs s => if RdAs P s d ts xs then some (.bool true, { heap := s.heap, next := s.next, low := min s.low s.next }) else none
theorem deep_call {d : Nat} {ts : List TypeId} {args : List Value} {xs : List AV} {bl : List (AB × Loc)} (ho : OpnA W (fun s _ => RdAs P s d ts xs) 0 args xs bl) {f : Nat} (hs : SoundAt P f (lawC P d ts)) : Calls P f args.toArray W fun e W' => e = .returned (.bool true) ∧ Clean W W' := by
  obtain ⟨s0, hs0⟩ : ∃ s0 : St, s0 = ⟨(bl.map (·.1)).reverse, bl.length, 0⟩ := ⟨_, rfl⟩
  have hnx : s0.next = bl.length := by rw [hs0]
  have hget : ∀ i, s0.get i = (bl[i]?).map (·.1) := by
    intro i
    subst hs0
    unfold St.get
    simp only
    split
    · rename_i h
      rw [List.getElem?_reverse (by simp; omega)]
      simp only [List.length_map, List.getElem?_map]
      rw [show bl.length - 1 - (bl.length - 1 - i) = i by omega]
    · rename_i h
      rw [List.getElem?_eq_none (by omega)]
      rfl
  have hown : ∀ i b, s0.get i = some b → b.owned = false := by
    intro i b h
    rw [hget] at h
    obtain ⟨p, hp, rfl⟩ := Option.map_eq_some_iff.1 h
    exact ho.own p (List.mem_of_getElem? hp)
  obtain ⟨ρ, hρ⟩ : ∃ ρ : Ren, ρ = fun i => (bl[i]?).map (·.2) := ⟨_, rfl⟩
  have hρ1 : ∀ i p, bl[i]? = some p → ρ (0 + i) = some p.2 := fun i p hp => by rw [hρ, Nat.zero_add]; simp [hp]
  obtain ⟨hv, hb⟩ := ho.vr ρ hρ1
  have hR : R s0 ρ W := by
    refine ⟨fun i L h => ?_, fun i b L h1 h2 => ?_, fun i j L M bi bj _ _ _ e3 _ e5 _ => ?_⟩
    · rw [hρ] at h
      obtain ⟨p, hp, rfl⟩ := Option.map_eq_some_iff.1 h
      exact ho.lt p (List.mem_of_getElem? hp)
    · rw [hget] at h1
      rw [hρ] at h2
      obtain ⟨p, hp, rfl⟩ := Option.map_eq_some_iff.1 h1
      simp [hp] at h2
      subst h2
      exact hb p (List.mem_of_getElem? hp)
    · rw [hown i bi e3] at e5; cases e5
  have hrd := ho.rd s0 fun i p hp => by rw [Nat.zero_add, hget, hp]; rfl
  obtain ⟨_, _, h⟩ := hs xs s0 _ _ (by unfold lawC; rw [if_pos hrd])
  have := h ρ W args (fun i hi => by rw [hρ]; simp; omega) hR hv
  refine this.mono fun e W' hp => ?_
  obtain ⟨ρ', v, rfl, hv', hst, _⟩ := hp
  simp only [VR] at hv'
  subst hv'
  exact ⟨rfl, hst.size, hst.os, hst.tape, hst.output, hst.drawn, fun b hb => hst.frame b hb fun id L blk _ _ h1 h2 => by rw [hown id blk h1] at h2; cases h2⟩
theorem trodAll_len : ∀ {ts : List TypeId} {vs : List Value} {ds : List (DataW H)} {ps : List MemPlace}, DataW.TrodAll enc P W base (fun _ => true) held ts vs ds ps → ds.length = ts.length
  | [], vs, ds, ps, h => by
    obtain ⟨rfl, rfl, rfl⟩ := trodAll_nil h
    rfl
  | t :: ts, vs, ds, ps, h => by
    obtain ⟨v, vs1, x, ds1, a, b, rfl, rfl, rfl, h1, h2⟩ := trodAll_cons h
    simp [trodAll_len h2]
end Go.AM
end
/-
  What the arguments of the statements show: numbers, nodes, states, lists of states. Own work of this project.
-/
section
set_option maxRecDepth 100000
namespace Go.AM
open Go Go.Proofs

variable {P : Program} {s : St}
theorem rd_slice {d : Nat} {t e : TypeId} {vs : List AV} (hu : P.underlying t = some (.slice e)) (h : RdT P s (d + 1) t vs) : vs = [.nils] ∨ ∃ (id n cap : Nat) (rows : List (List AV)), vs = [.sl id 0 n (some cap) (P.cellsOf e)] ∧ n ≤ cap ∧ cap ≤ maxLen ∧ rows.length = cap ∧ s.get id = some (.row rows.flatten false) ∧ ∀ r ∈ rows, RdT P s d e r ∧ r.length = P.cellsOf e := by
  simp only [RdT, hu] at h
  exact h
theorem rd_int {d : Nat} {t : TypeId} {k : IntKind} {vs : List AV} (hu : P.underlying t = some (.int k)) (h : RdT P s (d + 1) t vs) : ∃ n, vs = [.int k n] ∧ (Lit.int k n).wf = true := by
  simp only [RdT, hu] at h
  exact h
theorem lawC_some {d : Nat} {ts : List TypeId} {xs : List AV} {r : AV} {s' : St} (h : lawC P d ts xs s = some (r, s')) : RdAs P s d ts xs ∧ r = .bool true ∧ s' = s.lowed := by
  unfold lawC at h
  split at h
  · rename_i hr
    injection h with h
    obtain ⟨rfl, rfl⟩ := Prod.mk.inj h
    exact ⟨hr, rfl, rfl⟩
  · cases h
theorem rdas_1 {d : Nat} {t : TypeId} {xs : List AV} (h : RdAs P s d [t] xs) : ∃ v, xs = [v] ∧ RdA P s d t v := by
  obtain ⟨v, r, rfl, h1, h2⟩ := h
  simp only [RdAs] at h2
  subst h2
  exact ⟨v, rfl, h1⟩
theorem rdas_2 {d : Nat} {t1 t2 : TypeId} {xs : List AV} (h : RdAs P s d [t1, t2] xs) : ∃ v w, xs = [v, w] ∧ RdA P s d t1 v ∧ RdA P s d t2 w := by
  obtain ⟨v, r, rfl, h1, h2⟩ := h
  obtain ⟨w, rfl, h3⟩ := rdas_1 h2
  exact ⟨v, w, rfl, h1, h3⟩
end Go.AM
end
/-
  Arguments that are structs, field by field. Own work of this project.
-/
section
namespace Go.AM
open Go

variable {s t u : St}
section
variable {P : Program}
def RdTs (P : Program) (s : St) (d : Nat) : List TypeId → List AV → Prop
  | [], vs => vs = []
  | t :: r, vs => ∃ a b, vs = a ++ b ∧ RdT P s d t a ∧ RdTs P s d r b
theorem rd_fields {d : Nat} : ∀ (fs : List Field) (vs : List AV), RdF (RdT P s d) fs vs → RdTs P s d (fs.map (·.type)) vs
  | [], _, h => h
  | f :: r, vs, h => by
    obtain ⟨a, b, rfl, h1, h2⟩ := h
    exact ⟨a, b, rfl, h1, rd_fields r b h2⟩
def fieldsT (P : Program) (t : TypeId) : Option (List TypeId) := match P.underlying t with
  | some (.struct fs) => some (fs.toList.map (·.type))
  | _ => none
theorem rd_struct {d : Nat} {t : TypeId} {ts : List TypeId} {vs : List AV} (hu : fieldsT P t = some ts) (h : RdT P s (d + 1) t vs) : RdTs P s d ts vs := by
  unfold fieldsT at hu
  split at hu
  · rename_i fs hq
    injection hu with hu
    subst hu
    simp only [RdT, hq] at h
    exact rd_fields _ _ h
  · cases hu
end
end Go.AM
end
