/-
  Crash. Own work of this project; in part printed by a program of it.
-/
import Derived.Test.YtcdlgjllklhjfaaP3
set_option linter.unusedVariables false
set_option linter.unusedSimpArgs false
section
set_option maxRecDepth 100000
set_option maxHeartbeats 8000000
namespace Go.AM
open Go Go.Proofs

variable {s t u : St}

/-- The next block write, and what a crash makes. -/
def nxt (L : List (Int × List UInt8)) (w : Nat) : Int × List UInt8 := (L[w]?).getD (0, [])
def crL (L : List (Int × List UInt8)) (w m : Nat) : List (Int × List UInt8) := L.take w ++ [((nxt L w).1, (nxt L w).2.take m)]
theorem aev_c' (v : AV) : aev [] (.c v) = v := rfl
theorem slc_cap {st : AV} {l : List UInt8} (hr : read byC s st = some l) (hc : CapB st) {m : Nat} (hm : m ≤ l.length) : ∃ v', slcV 1 st none (some (.int .i64 (m : Int))) = some v' ∧ (∀ t, Keep s t → read byC t v' = some (l.take m)) ∧ v'.cells = [v'] ∧ v'.one = true ∧ CapB v' := by
  obtain ⟨v', h1, h2⟩ := slc_hi (C := byC) hr hc (k := .i64) (i := (m : Int)) rfl hm
  have h1 : slcV 1 st none (some (.int .i64 (m : Int))) = some v' := h1
  have h3 := read_oneB (h2 s (.refl s))
  refine ⟨v', h1, h2, h3.1, h3.2, ?_⟩
  intro id off n c z e
  subst e
  cases st with
  | nils => simp [slcV, optNat] at h1; revert h1; split <;> intro h1 <;> cases h1
  | sl id' off' n' cap' z' =>
    unfold slcV at h1
    simp only at h1
    split at h1
    · cases cap' with
      | none =>
        simp only at h1
        split at h1
        · simp only [optNat] at h1
          injection h1 with h1
          injection h1 with _ _ _ h1 _
          cases h1
        · cases h1
      | some c' =>
        simp only at h1
        split at h1
        · rename_i h hh
          simp only [optNat] at h1
          injection h1 with h1
          injection h1 with _ _ e1 e2 _
          injection e2 with e2
          have : h ≤ c' := by
            simp only [optNat, asNatIn] at hh
            split at hh
            · injection hh with hh
              omega
            · cases hh
          omega
        · cases h1
    · cases h1
  | _ => simp [read] at hr
noncomputable def R_Crash2 : Con := runFn (tb [(31, R_check2), (32, R_run2)]) a14
theorem s_Crash2 : SoundAt Try.prog 14 R_Crash2 := run_sound (tb_sound (l := [(31, R_check2), (32, R_run2)]) (by simpa using ⟨s_check2, s_run2⟩)) mixed Try.func14 k14 c14
theorem n_Crash2 : noNxtC a14.body = true := by kernel_rfl
theorem w_Crash2 {s : St} {id j z : Nat} {cap : Option Nat} {l : List UInt8} (hd : DkR s id j cap z l) {v : AV} {L : List (Int × List UInt8)} (hv : BwJ j s v L) (hL4 : L.length ≤ 4000000) (hc : checkP (l.length / z) z L = 0) {w m : Nat} (hw : w ≤ L.length) (hm : m ≤ (nxt L w).2.length) (hn0 : 0 < l.length / z) : ∀ env : Env, elen env = a14.ntmps → (∀ i x_, [.ptr id 0, v, .int .i64 (w : Int), .int .i64 (m : Int)][i]? = some x_ → E env i = x_) → awp (tb [(31, R_check2), (32, R_run2)]) a14.body (fun x e t => (∀ i, x ≠ .exit i) ∧ ∃ r, aresults e t a14.results = some r ∧ (r = .int .i64 0 ∧ DkR t id j cap z (wrL z l (crL L w m)) ∧ Chg [j] s t)) env s := by
  intro env hlen ha
  have h0 : E env 0 = _ := ha 0 _ rfl
  have h1 : E env 1 = _ := ha 1 _ rfl
  have h2 : E env 2 = _ := ha 2 _ rfl
  have h3 : E env 3 = _ := ha 3 _ rfl
  have hlen : elen env = _ := hlen
  simp only [a14] at hlen
  unfold a14
  try dsimp only [oO, oG]
  have q1 := q_check2 false hd hv hL4
  rw [hc] at q1
  have n00 : ((0 : Int) = 0) = True := eq_true rfl
  have zw0 := eq_false (show ¬ (w : Int) < 0 by omega)
  have zlen := eq_false (show ¬ (L.length : Int) < (w : Int) by omega)
  have hL := hv.len
  have y1 := eq_false (show ¬ (m : Int) < 0 by omega)
  have hKA : Keep s (s.push (.row [.int .i64 0, .nils] true)) := (Keep.refl s).push _
  by_cases hlt : w < L.length
  · have zlt := eq_true (show (w : Int) < (L.length : Int) by omega)
    obtain ⟨x, hx⟩ := getsome hlt
    have hnx : nxt L w = x := by unfold nxt; rw [hx]; rfl
    obtain ⟨st, ib, ob, ⟨i1, hcb⟩, hl⟩ := hv.at hx
    obtain ⟨a1, _, _, a4, hrd0⟩ := hl (s.push (.row [.int .i64 0, .nils] true)) (hKA.chg _)
    have ho := read_oneB hrd0
    have hst := sto_bw (show sameN s.next s from rfl) (b := x.1) ho
    rw [← hnx] at hst a1
    have hKT : Keep s (s.lowed.push (.row [.int .i64 (nxt L w).1, st] true)) := (Keep.refl s).lowed.push _
    have hgb : (s.lowed.push (.row [.int .i64 (nxt L w).1, st] true)).get s.next = some (.row [.int .i64 (nxt L w).1, st] true) := St.get_push_new s.lowed _
    have hrT : ∀ t, Chg [j] (s.lowed.push (.row [.int .i64 (nxt L w).1, st] true)) t → read byC t st = some (nxt L w).2 := fun t q => by
      rw [hnx]
      exact (hl t ((hKT.chg [j]).trans q fun id hid => .inl hid)).2.2.2.2
    have hrd := hrT _ (Chg.refl _ _)
    obtain ⟨e0_, e1_, elt⟩ := row2_lod hgb
    have hLs := lenV_read hrd
    have y2 := eq_false (show ¬ ((nxt L w).2.length : Int) < (m : Int) by omega)
    obtain ⟨v', sl1, hv'⟩ := hv.take hw
    have hCT : Chg [j] s (s.lowed.push (.row [.int .i64 (nxt L w).1, st] true)) := hKT.chg _
    have hdT := hd.keep hKT
    have hft := checkP_fits hc
    obtain ⟨t1, q2, hd1, hC1⟩ := q_run2 hdT (hv'.chg hCT) (by rw [List.length_take]; omega) hft.take
    have hgj := St.get_lt hd.dat
    have hgb1 : t1.get s.next = some (.row [.int .i64 (nxt L w).1, st] true) := hC1.blk hgb (by simp; omega)
    have hKR : Keep t1 (t1.reserve 1) := keep_reserve t1 1
    obtain ⟨r0_, r1_, rlt⟩ := row2_lod (hKR.blk hgb1)
    have hr1 := hrT t1 hC1
    obtain ⟨st', sl2, hst', o1, o2, hcb'⟩ := slc_cap hr1 hcb hm
    have fb0 := fstep_bw0 (x := .int .i64 (nxt L w).1) ⟨rfl, rfl⟩ (.int .i64 0) .nils
    have fb1 := fstep_bw1 (x := st') ⟨o1, o2⟩ (.int .i64 (nxt L w).1) .nils
    have fb2 : ∀ K : List AV → Option (List AV), fstep [.int .i64 0, .nils] 0 2 (.agg [.int .i64 (nxt L w).1, st']) K = K [.int .i64 (nxt L w).1, st'] := fun K => by
      have hi : (AV.int .i64 (nxt L w).1).one = true := rfl
      simp only [fstep, AV.cells, List.all_cons, hi, o2, List.all_nil]
      rfl
    have hbs : bslV [.int .i64 0, .nils] 1 2 [(0, .agg [.int .i64 (nxt L w).1, st'])] = some (fun id => .sl id 0 1 (some 1) 2, .row [.int .i64 (nxt L w).1, st'] true) := by
      have hi : (AV.int .i64 (nxt L w).1).one = true := rfl
      simp only [bslV, List.map_cons, List.map_nil, fillP_cons, aev_c', fb2, fillP_nil, Nat.zero_mul]
      rfl
    have hKp : Keep t1 (t1.push (.row [.int .i64 (nxt L w).1, st'] true)) := (Keep.refl t1).push _
    have hBp : BwJ j (t1.push (.row [.int .i64 (nxt L w).1, st'] true)) (.sl t1.next 0 1 (some 1) 2) [((nxt L w).1, (nxt L w).2.take m)] := by
      have hgp : (t1.push (.row [.int .i64 (nxt L w).1, st'] true)).get t1.next = some (.row [.int .i64 (nxt L w).1, st'] true) := St.get_push_new _ _
      have hltn := St.get_lt hd1.dat
      refine .inr ⟨t1.next, 0, some 1, rfl, fun c q => by injection q with q; simp; omega, fun i x hx => ?_⟩
      have : i = 0 := by have := getlt hx; simpa using this
      subst this
      injection hx with hx
      subst hx
      refine ⟨st', hcb', fun t q => ?_⟩
      have hgq := q.blk hgp (by simp; omega)
      refine ⟨by simp [lod, hgq], by simp [lod1, hgq], by simp [lod1, hgq], St.get_lt hgq, ?_⟩
      have hct : Chg [j] (s.lowed.push (.row [.int .i64 (nxt L w).1, st] true)) t := (hC1.trans (hKp.chg []) (by simp)).trans q fun id hid => .inl hid
      obtain ⟨v2, e, h2, _⟩ := slc_cap (hrT t hct) hcb hm
      rw [sl2] at e
      injection e with e
      subst e
      exact h2 t (.refl t)
    have hln := wrL_len (z := z) (L := L.take w) (l := l) hft.take
    have hnl1 : (nxt L w).1 = 0 ∧ (nxt L w).2 = [] ∨ ∃ x ∈ L, nxt L w = x := by
      unfold nxt
      cases hx : L[w]? with
      | none => exact .inl ⟨rfl, rfl⟩
      | some x => exact .inr ⟨x, List.mem_of_getElem? hx, rfl⟩
    have hft2 : Fits ((wrL z l (L.take w)).length / z) z [((nxt L w).1, (nxt L w).2.take m)] := by
      intro y hy
      simp only [List.mem_singleton] at hy
      subst hy
      rw [hln]
      simp only [List.length_take]
      rcases hnl1 with ⟨e1, e2⟩ | ⟨x, hx, e⟩
      · rw [e1, e2]
        exact ⟨Int.le_refl _, by omega, by simp⟩
      · obtain ⟨f1, f2, f3⟩ := hft x hx
        rw [e]
        exact ⟨f1, f2, by omega⟩
    obtain ⟨t2, q3, hd2, hC2⟩ := q_run2 (hd1.keep hKp) hBp (by simp) hft2
    have hwr : wrL z (wrL z l (L.take w)) [((nxt L w).1, (nxt L w).2.take m)] = wrL z l (crL L w m) := by
      unfold wrL crL
      rw [List.foldl_append]
    rw [hwr] at hd2
    have hCall : Chg [j] s t2 := (((hCT.trans hC1 fun id hid => .inl hid).trans (hKp.chg []) (by simp)).trans hC2 fun id hid => .inl hid)
    simp (config := {contextual := true, maxDischargeDepth := 12}) only [tb_at, h0, h1, h2, h3, hlen, q1, n00, zw0, zlen, hL, y1, e0_, e1_, elt, hLs, y2, sl1, q2, r0_, r1_, rlt, sl2, ap_build, fillP_nil, fillP_cons, fb0, fb1, fb2, hbs, q3, decide_true, decide_false, bin_eql, notV_bool, Bool.not_true, reserve0, zlt, i1, a1, a4, hst, ↓bD, bU, forall_const, bS, implies_true, isNx, eq_self, ↓wp_cond, ↓wp_loop, ↓reduceIte, reduceCtorEq, Nat.reduceEqDiff, Nat.reduceLT, Nat.reduceAdd, Nat.reduceMul, bT, ↓sg_bsl, ↓st_callf, bX, ar_b2s, bin_mulE, ap_mkfn, ↓wi_seq, ↓wi_base, ↓wi_block, ↓wi_cond, ↓wi_loop, ↓wi_rf, ↓wy_seq, ↓wy_base, ↓wy_block, ↓wy_cond, ↓wy_loop, ↓wy_yld, q_known, ↓sg_callf3]
    first | exact ⟨_, rfl, rfl, hd2, hCall⟩ | exact ⟨rfl, hd2, hCall⟩ | exact ⟨hd2, hCall⟩
  · have zlt := eq_false (show ¬ (w : Int) < (L.length : Int) by omega)
    obtain ⟨st, hst0⟩ : ∃ st, st = AV.nils := ⟨_, rfl⟩
    have hnx : nxt L w = (0, []) := by unfold nxt; rw [List.getElem?_eq_none (by omega)]; rfl
    have hcb : CapB st := by rw [hst0]; exact CapB.nils
    have hKT := hKA
    have hgb : (s.push (.row [.int .i64 0, .nils] true)).get s.next = some (.row [.int .i64 (nxt L w).1, st] true) := by rw [hnx, hst0]; exact St.get_push_new s _
    have hrT : ∀ t, Chg [j] (s.push (.row [.int .i64 0, .nils] true)) t → read byC t st = some (nxt L w).2 := fun t q => by rw [hnx, hst0]; rfl
    have hrd := hrT _ (Chg.refl _ _)
    obtain ⟨e0_, e1_, elt⟩ := row2_lod hgb
    have hLs := lenV_read hrd
    have y2 := eq_false (show ¬ ((nxt L w).2.length : Int) < (m : Int) by omega)
    obtain ⟨v', sl1, hv'⟩ := hv.take hw
    have hCT : Chg [j] s (s.push (.row [.int .i64 0, .nils] true)) := hKT.chg _
    have hdT := hd.keep hKT
    have hft := checkP_fits hc
    obtain ⟨t1, q2, hd1, hC1⟩ := q_run2 hdT (hv'.chg hCT) (by rw [List.length_take]; omega) hft.take
    have hgj := St.get_lt hd.dat
    have hgb1 : t1.get s.next = some (.row [.int .i64 (nxt L w).1, st] true) := hC1.blk hgb (by simp; omega)
    have hKR : Keep t1 (t1.reserve 1) := keep_reserve t1 1
    obtain ⟨r0_, r1_, rlt⟩ := row2_lod (hKR.blk hgb1)
    have hr1 := hrT t1 hC1
    obtain ⟨st', sl2, hst', o1, o2, hcb'⟩ := slc_cap hr1 hcb hm
    have fb0 := fstep_bw0 (x := .int .i64 (nxt L w).1) ⟨rfl, rfl⟩ (.int .i64 0) .nils
    have fb1 := fstep_bw1 (x := st') ⟨o1, o2⟩ (.int .i64 (nxt L w).1) .nils
    have fb2 : ∀ K : List AV → Option (List AV), fstep [.int .i64 0, .nils] 0 2 (.agg [.int .i64 (nxt L w).1, st']) K = K [.int .i64 (nxt L w).1, st'] := fun K => by
      have hi : (AV.int .i64 (nxt L w).1).one = true := rfl
      simp only [fstep, AV.cells, List.all_cons, hi, o2, List.all_nil]
      rfl
    have hbs : bslV [.int .i64 0, .nils] 1 2 [(0, .agg [.int .i64 (nxt L w).1, st'])] = some (fun id => .sl id 0 1 (some 1) 2, .row [.int .i64 (nxt L w).1, st'] true) := by
      have hi : (AV.int .i64 (nxt L w).1).one = true := rfl
      simp only [bslV, List.map_cons, List.map_nil, fillP_cons, aev_c', fb2, fillP_nil, Nat.zero_mul]
      rfl
    have hKp : Keep t1 (t1.push (.row [.int .i64 (nxt L w).1, st'] true)) := (Keep.refl t1).push _
    have hBp : BwJ j (t1.push (.row [.int .i64 (nxt L w).1, st'] true)) (.sl t1.next 0 1 (some 1) 2) [((nxt L w).1, (nxt L w).2.take m)] := by
      have hgp : (t1.push (.row [.int .i64 (nxt L w).1, st'] true)).get t1.next = some (.row [.int .i64 (nxt L w).1, st'] true) := St.get_push_new _ _
      have hltn := St.get_lt hd1.dat
      refine .inr ⟨t1.next, 0, some 1, rfl, fun c q => by injection q with q; simp; omega, fun i x hx => ?_⟩
      have : i = 0 := by have := getlt hx; simpa using this
      subst this
      injection hx with hx
      subst hx
      refine ⟨st', hcb', fun t q => ?_⟩
      have hgq := q.blk hgp (by simp; omega)
      refine ⟨by simp [lod, hgq], by simp [lod1, hgq], by simp [lod1, hgq], St.get_lt hgq, ?_⟩
      have hct : Chg [j] (s.push (.row [.int .i64 0, .nils] true)) t := (hC1.trans (hKp.chg []) (by simp)).trans q fun id hid => .inl hid
      obtain ⟨v2, e, h2, _⟩ := slc_cap (hrT t hct) hcb hm
      rw [sl2] at e
      injection e with e
      subst e
      exact h2 t (.refl t)
    have hln := wrL_len (z := z) (L := L.take w) (l := l) hft.take
    have hnl1 : (nxt L w).1 = 0 ∧ (nxt L w).2 = [] ∨ ∃ x ∈ L, nxt L w = x := by
      unfold nxt
      cases hx : L[w]? with
      | none => exact .inl ⟨rfl, rfl⟩
      | some x => exact .inr ⟨x, List.mem_of_getElem? hx, rfl⟩
    have hft2 : Fits ((wrL z l (L.take w)).length / z) z [((nxt L w).1, (nxt L w).2.take m)] := by
      intro y hy
      simp only [List.mem_singleton] at hy
      subst hy
      rw [hln]
      simp only [List.length_take]
      rcases hnl1 with ⟨e1, e2⟩ | ⟨x, hx, e⟩
      · rw [e1, e2]
        exact ⟨Int.le_refl _, by omega, by simp⟩
      · obtain ⟨f1, f2, f3⟩ := hft x hx
        rw [e]
        exact ⟨f1, f2, by omega⟩
    obtain ⟨t2, q3, hd2, hC2⟩ := q_run2 (hd1.keep hKp) hBp (by simp) hft2
    have hwr : wrL z (wrL z l (L.take w)) [((nxt L w).1, (nxt L w).2.take m)] = wrL z l (crL L w m) := by
      unfold wrL crL
      rw [List.foldl_append]
    rw [hwr] at hd2
    have hCall : Chg [j] s t2 := (((hCT.trans hC1 fun id hid => .inl hid).trans (hKp.chg []) (by simp)).trans hC2 fun id hid => .inl hid)
    simp (config := {contextual := true, maxDischargeDepth := 12}) only [tb_at, h0, h1, h2, h3, hlen, q1, n00, zw0, zlen, hL, y1, e0_, e1_, elt, hLs, y2, sl1, q2, r0_, r1_, rlt, sl2, ap_build, fillP_nil, fillP_cons, fb0, fb1, fb2, hbs, q3, decide_true, decide_false, bin_eql, notV_bool, Bool.not_true, reserve0, zlt, ↓bD, bU, forall_const, bS, implies_true, isNx, eq_self, ↓wp_cond, ↓wp_loop, ↓reduceIte, reduceCtorEq, Nat.reduceEqDiff, Nat.reduceLT, Nat.reduceAdd, Nat.reduceMul, bT, ↓sg_bsl, ↓st_callf, bX, ar_b2s, bin_mulE, ap_mkfn, ↓wi_seq, ↓wi_base, ↓wi_block, ↓wi_cond, ↓wi_loop, ↓wi_rf, ↓wy_seq, ↓wy_base, ↓wy_block, ↓wy_cond, ↓wy_loop, ↓wy_yld, q_known, ↓sg_callf3]
    first | exact ⟨_, rfl, rfl, hd2, hCall⟩ | exact ⟨rfl, hd2, hCall⟩ | exact ⟨hd2, hCall⟩
theorem q_Crash2 {s : St} {id j z : Nat} {cap : Option Nat} {l : List UInt8} (hd : DkR s id j cap z l) {v : AV} {L : List (Int × List UInt8)} (hv : BwJ j s v L) (hL4 : L.length ≤ 4000000) (hc : checkP (l.length / z) z L = 0) {w m : Nat} (hw : w ≤ L.length) (hm : m ≤ (nxt L w).2.length) (hn0 : 0 < l.length / z) : ∃ t, acall R_Crash2 false [.ptr id 0, v, .int .i64 (w : Int), .int .i64 (m : Int)] s = some (.int .i64 0, t) ∧ DkR t id j cap z (wrL z l (crL L w m)) ∧ Chg [j] s t := by
  obtain ⟨r, t, h1, rfl, h2, h3⟩ := run_awp n_Crash2 (args := [.ptr id 0, v, .int .i64 (w : Int), .int .i64 (m : Int)]) (by simp [a14]) (w_Crash2 (s := lowd s) hd.low hv.low hL4 hc hw hm hn0)
  obtain ⟨t', g1, g2, _, g4⟩ := run_chg s_Crash2 h1 h3
  have i1 := St.get_lt hd.box
  have i2 := St.get_lt hd.dat
  exact ⟨t', g1, ⟨by rw [g2 _ i1]; exact h2.box, by rw [g2 _ i2]; exact h2.dat, h2.hcap, h2.pos, h2.len⟩, g4⟩

end Go.AM
end
/-
  Plain laws of split block writes: what they make, a crash in between. Own work of this project.
-/
section
namespace Go.AM
open Go Go.Proofs

/-- Bytes laid over others. -/
def putD (l : List UInt8) (o : Nat) (d : List UInt8) : List UInt8 := l.take o ++ d ++ l.drop (o + d.length)
theorem putD_nil {l : List UInt8} {o : Nat} : putD l o [] = l := by
  unfold putD
  simp
/-- The block writes of a split. -/
def chL (k z : Nat) (d : List UInt8) : List (Int × List UInt8) := (List.range (chunksN z d.length)).map fun i => (((k + i : Nat) : Int), (d.drop (i * z)).take z)
theorem chL_len (k z : Nat) (d : List UInt8) : (chL k z d).length = chunksN z d.length := by simp [chL]
theorem chL_at {k z i : Nat} {d : List UInt8} (h : i < chunksN z d.length) : (chL k z d)[i]? = some (((k + i : Nat) : Int), (d.drop (i * z)).take z) := by
  simp [chL, h]
theorem chunk_all {z n : Nat} (hz : 0 < z) : n ≤ chunksN z n * z := by
  have h : ¬ chunksN z n < chunksN z n := Nat.lt_irrefl _
  rw [chunks_lt hz] at h
  omega
theorem fits_chk {n z : Nat} : ∀ {L : List (Int × List UInt8)}, Fits n z L → chkL n z L = 0
  | [], _ => rfl
  | x :: r, h => by
    obtain ⟨h1, h2, h3⟩ := h x (by simp)
    unfold chkL
    rw [if_neg (by omega), if_neg (by omega)]
    exact fits_chk fun y hy => h y (by simp [hy])
end Go.AM
end
/-
  Split's answer as block writes. Own work of this project; in part printed by a program of it.
-/
section
set_option maxRecDepth 100000
set_option maxHeartbeats 8000000
namespace Go.AM
open Go Go.Proofs

variable {s t u : St}

/-- What Split answers: two new blocks, or nil. -/
def SpL (t : St) (b : Nat) (lv : AV) (k z : Nat) (d : List UInt8) : Prop := (d = [] ∧ lv = .nils) ∨ (d ≠ [] ∧ lv = .sl (b + 1) 0 (chunksN z d.length) none 2 ∧ t.get b = some (.row (byC.cells d) true) ∧ t.get (b + 1) = some (.row (bwL (k : Int) z d.length (chunksN z d.length) b) true))
theorem SpL.mono {b k z : Nat} {lv : AV} {d : List UInt8} (h : SpL t b lv k z d) (g : ∀ id bl, id = b ∨ id = b + 1 → t.get id = some bl → u.get id = some bl) : SpL u b lv k z d := h.imp (fun q => q) fun ⟨h1, h2, h3, h4⟩ => ⟨h1, h2, g _ _ (.inl rfl) h3, g _ _ (.inr rfl) h4⟩
theorem bwL_at {b : Int} {z n cnt j i : Nat} (h : i < cnt) : (bwL b z n cnt j)[i * 2]? = some (.int .i64 (b + i)) ∧ (bwL b z n cnt j)[i * 2 + 1]? = some (.sl j (i * z) (min z (n - i * z)) (some (min z (n - i * z))) 1) := by
  induction cnt with
  | zero => omega
  | succ c ih =>
    have hl := bwL_len b z n c j
    rw [bwL_succ]
    by_cases hi : i < c
    · obtain ⟨h1, h2⟩ := ih hi
      exact ⟨by rw [List.getElem?_append_left (by omega)]; exact h1, by rw [List.getElem?_append_left (by omega)]; exact h2⟩
    · obtain rfl : i = c := by omega
      rw [List.getElem?_append_right (by omega), List.getElem?_append_right (by omega), hl]
      have e1 : i * 2 - i * 2 = 0 := by omega
      have e2 : i * 2 + 1 - i * 2 = 1 := by omega
      rw [e1, e2]
      exact ⟨rfl, rfl⟩
theorem take2 {l : List AV} {p : Nat} {a b : AV} (h0 : l[p]? = some a) (h1 : l[p + 1]? = some b) : (l.drop p).take 2 = [a, b] := by
  obtain ⟨q0, e0⟩ := List.getElem?_eq_some_iff.1 h0
  obtain ⟨q1, e1⟩ := List.getElem?_eq_some_iff.1 h1
  rw [List.drop_eq_getElem_cons q0, List.drop_eq_getElem_cons q1, e0, e1]
  rfl
theorem SpL.bwj {b k z j : Nat} {lv : AV} {d : List UInt8} (h : SpL t b lv k z d) (hz : 0 < z) (h1 : j ≠ b) (h2 : j ≠ b + 1) : BwJ j t lv (chL k z d) := by
  rcases h with ⟨rfl, rfl⟩ | ⟨hd, rfl, g1, g2⟩
  · refine .inl ⟨rfl, ?_⟩
    have : chunksN z ([] : List UInt8).length = 0 := by
      have := chunks_lt (z := z) (n := 0) (i := 0) hz
      simp at this
      simpa using this
    unfold chL
    rw [this]
    rfl
  · refine .inr ⟨b + 1, 0, none, by rw [chL_len], (fun c q => by cases q), fun i x hx => ?_⟩
    have hi := getlt hx
    rw [chL_len] at hi
    rw [chL_at hi] at hx
    injection hx with hx
    subst hx
    have hlt := (chunks_lt hz).1 hi
    have hmn : min z (d.length - i * z) = ((d.drop (i * z)).take z).length := by rw [List.length_take, List.length_drop]
    refine ⟨.sl b (i * z) (min z (d.length - i * z)) (some (min z (d.length - i * z))) 1, fun _ _ _ _ _ q => by injection q with _ _ q1 q2; injection q2 with q2; omega, fun t' q => ?_⟩
    have g1' := q.blk g1 (by simp; exact fun e => h1 e.symm)
    have g2' := q.blk g2 (by simp; exact fun e => h2 e.symm)
    obtain ⟨c0, c1⟩ := bwL_at (b := (k : Int)) (z := z) (n := d.length) (j := b) hi
    have hlen := bwL_len (k : Int) z d.length (chunksN z d.length) b
    rw [Nat.zero_add]
    have hb : ((k : Int) + (i : Int)) = ((k + i : Nat) : Int) := by omega
    refine ⟨?_, by simp only [lod1, g2', c0, hb], by simp only [lod1, g2', c1], St.get_lt g2', ?_⟩
    · simp only [lod, g2']
      rw [if_pos (by omega)]
      rw [take2 c0 c1, hb]
    · have := read_part (t := t') (j := b) (o := i * z) (m := min z (d.length - i * z)) (cap := some (min z (d.length - i * z))) g1' (by omega)
      have e : (d.drop (i * z)).take (min z (d.length - i * z)) = (d.drop (i * z)).take z := by
        rw [List.take_eq_take_iff, List.length_drop]
        omega
      rw [this, e]
theorem q_SplitD {s : St} {id j z : Nat} {cap : Option Nat} {l : List UInt8} (hd : DkR s id j cap z l) {k : Nat} (hk : k < l.length / z) {v : AV} {d : List UInt8} (hv : read byC s v = some d) (hfit : k * z + d.length ≤ l.length) : ∃ lv t, acall cSplit false [.ptr id 0, .int .i64 (k : Int), v] s = some (.tup [lv, .int .i64 0], t) ∧ SpL t s.next lv k z d ∧ Keep s t := by
  have hz := hd.pos
  have hll := hd.len
  have hg : (lowd s).get id = some (.row [.int .i64 (z : Int), .sl j 0 l.length cap 1] true) := hd.box
  have hr1 : read byC (lowd s) (.sl j 0 l.length cap 1) = some l := read_low' hd.rd
  have hr2 : read byC (lowd s) v = some d := read_low' hv
  have hc0 : ¬ ((z : Int) = 0) := by omega
  have hc1 : (0 : Int) < (z : Int) ∧ l.length ≤ 4000000 ∧ d.length ≤ 4000000 := ⟨by omega, by omega, by omega⟩
  have hc2 : ¬ ((k : Int) < 0 ∨ ((l.length / (z : Int).toNat : Nat) : Int) ≤ (k : Int)) := by rw [Int.toNat_natCast]; omega
  have hc3 : ¬ (l.length - (k : Int).toNat * (z : Int).toNat < d.length) := by rw [Int.toNat_natCast, Int.toNat_natCast]; omega
  by_cases hd0 : d.length = 0
  · refine ⟨.nils, s, acall_rol ?_ rfl, .inl ⟨by simpa using hd0, rfl⟩, .refl s⟩
    show cSplit [.ptr id 0, .int .i64 (k : Int), v] (lowd s) = _
    simp only [cSplit, hg, hr1, hr2]
    rw [if_neg hc0, if_pos hc1, if_neg hc2, if_neg hc3, if_pos hd0]
  · have hc : cSplit [.ptr id 0, .int .i64 (k : Int), v] (lowd s) = some (.tup [.sl (s.next + 1) 0 (chunksN z d.length) none 2, .int .i64 0], ((lowd s).lowed.push (.row (byC.cells d) true)).push (.row (bwL (k : Int) z d.length (chunksN z d.length) s.next) true)) := by
      simp only [cSplit, hg, hr1, hr2]
      rw [if_neg hc0, if_pos hc1, if_neg hc2, if_neg hc3, if_neg hd0, Int.toNat_natCast]
    have hKl : Keep (lowd s) (((lowd s).lowed.push (.row (byC.cells d) true)).push (.row (bwL (k : Int) z d.length (chunksN z d.length) s.next) true)) := ((keep_lowed _).push _).push _
    obtain ⟨t', g1, g2, g3, g4⟩ := acall_new (s := s) hc (hKl.chg []) (.inl rfl)
    refine ⟨_, t', g1, .inr ⟨by intro e; rw [e] at hd0; simp at hd0, rfl, ?_, ?_⟩, g4.keep⟩
    · rw [g2]
      exact get_push_some _ (St.get_push_new (lowd s).lowed _)
    · rw [g2]
      exact St.get_push_new ((lowd s).lowed.push (.row (byC.cells d) true)) _

theorem NewB.from {s0 : St} {v : AV} {l : List UInt8} (h : NewB s t v l) (k : s0.next ≤ s.next) : NewB s0 t v l := h.imp (fun q => q) fun ⟨j, cap, e, h1, h2, h3⟩ => ⟨j, cap, e, Nat.le_trans k h1, h2, h3⟩
/-- A new list of bytes is as it was, whatever older or younger block is written. -/
theorem NewB.chg {j : Nat} {v : AV} {l : List UInt8} (h : NewB s t v l) (hj : j < s.next) (q : Chg [j] t u) : NewB s u v l := h.imp (fun q => q) fun ⟨i, cap, e, h1, h2, h3⟩ => ⟨i, cap, e, h1, q.blk h2 (by simp; omega), h3⟩
theorem q_Split_long {s : St} {id j z : Nat} {cap : Option Nat} {l : List UInt8} (hd : DkR s id j cap z l) {k : Nat} (hk : k < l.length / z) {v : AV} {d : List UInt8} (hv : read byC s v = some d) (hdl : d.length ≤ 4000000) (hlong : l.length < k * z + d.length) : acall cSplit false [.ptr id 0, .int .i64 (k : Int), v] s = some (.tup [.nils, .int .i64 3], s) := by
  have hz := hd.pos
  have hll := hd.len
  have hg : (lowd s).get id = some (.row [.int .i64 (z : Int), .sl j 0 l.length cap 1] true) := hd.box
  have hr1 : read byC (lowd s) (.sl j 0 l.length cap 1) = some l := read_low' hd.rd
  have hr2 : read byC (lowd s) v = some d := read_low' hv
  have hc0 : ¬ ((z : Int) = 0) := by omega
  have hc1 : (0 : Int) < (z : Int) ∧ l.length ≤ 4000000 ∧ d.length ≤ 4000000 := ⟨by omega, by omega, hdl⟩
  have hc2 : ¬ ((k : Int) < 0 ∨ ((l.length / (z : Int).toNat : Nat) : Int) ≤ (k : Int)) := by rw [Int.toNat_natCast]; omega
  have hkz : k * z ≤ l.length := Nat.le_trans (Nat.mul_le_mul_right z (Nat.le_of_lt hk)) (Nat.div_mul_le_self _ _)
  have hc3 : l.length - (k : Int).toNat * (z : Int).toNat < d.length := by rw [Int.toNat_natCast, Int.toNat_natCast]; omega
  refine acall_rol ?_ rfl
  show cSplit [.ptr id 0, .int .i64 (k : Int), v] (lowd s) = _
  simp only [cSplit, hg, hr1, hr2]
  rw [if_neg hc0, if_pos hc1, if_neg hc2, if_pos hc3]
theorem w_Read3 {s : St} {id j z : Nat} {cap : Option Nat} {l : List UInt8} (hd : DkR s id j cap z l) {k m : Nat} (hk : k < l.length / z) (hm : k * z + m ≤ l.length) : ∀ env : Env, elen env = a19.ntmps → (∀ i x_, [.ptr id 0, .int .i64 (k : Int), .int .i64 (m : Int)][i]? = some x_ → E env i = x_) → awp (tb [(35, R_from), (36, R_BClone)]) a19.body (fun x e t => (∀ i, x ≠ .exit i) ∧ ∃ r, aresults e t a19.results = some r ∧ (∃ v, r = .tup [v, .int .i64 0] ∧ NewB s t v ((l.drop (k * z)).take m)) ∧ Keep s t) env s := by
  intro env hlen ha
  have h0 : E env 0 = _ := ha 0 _ rfl
  have h1 : E env 1 = _ := ha 1 _ rfl
  have h2 : E env 2 = _ := ha 2 _ rfl
  have hlen : elen env = _ := hlen
  simp only [a19] at hlen
  unfold a19
  try dsimp only [oO, oG]
  obtain ⟨cap', t1, q, hc', hK1⟩ := q_from_dk hd hk
  have hd1 := hd.keep hK1
  have hL : lenV (.sl j (k * z) (l.length - k * z) cap' 1) = some (.int .i64 ((l.length - k * z : Nat) : Int)) := rfl
  have z1 := eq_false (show ¬ (m : Int) < 0 by omega)
  have z2 := eq_false (show ¬ ((l.length - k * z : Nat) : Int) < (m : Int) by omega)
  have n01 : ((0 : Int) = 1) = False := eq_false (by decide)
  have n00 : ((0 : Int) = 0) = True := eq_true rfl
  obtain ⟨cap2, sl1⟩ : ∃ cap2, slcV 1 (.sl j (k * z) (l.length - k * z) cap' 1) none (some (.int .i64 (m : Int))) = some (.sl j (k * z) m cap2 1) := by
    have hm' : m ≤ l.length - k * z := by omega
    cases cap' with
    | none => exact ⟨none, by simp [slcV, optNat, asNatIn, hm']⟩
    | some c =>
      obtain rfl := hc' c rfl
      exact ⟨some (l.length - k * z), by simp [slcV, optNat, asNatIn, hm']⟩
  have hnn := hd.len
  obtain ⟨w, t2, q2, hN, hK2⟩ := q_BClone (read_part (cap := cap2) hd1.dat hm) (by rw [List.length_take]; omega)
  have hN := hN.from hK1.next
  simp (config := {contextual := true, maxDischargeDepth := 12}) only [tb_at, h0, h1, h2, hlen, q, hL, z1, z2, n01, n00, sl1, q2, decide_true, Bool.not_true, ↓bD, bU, forall_const, bS, implies_true, isNx, eq_self, ↓wp_cond, ↓wp_loop, ↓reduceIte, reduceCtorEq, Nat.reduceEqDiff, Nat.reduceLT, Nat.reduceAdd, Nat.reduceMul, bT, ↓sg_bsl, ↓st_callf, bX, ar_b2s, bin_mulE, ap_mkfn, ↓wi_seq, ↓wi_base, ↓wi_block, ↓wi_cond, ↓wi_loop, ↓wi_rf, ↓wy_seq, ↓wy_base, ↓wy_block, ↓wy_cond, ↓wy_loop, ↓wy_yld, q_known, ↓sg_callf3]
  first | exact ⟨_, rfl, ⟨w, rfl, hN⟩, hK1.trans hK2⟩ | exact ⟨_, rfl, w, rfl, hN⟩
theorem q_Read3 {s : St} {id j z : Nat} {cap : Option Nat} {l : List UInt8} (hd : DkR s id j cap z l) {k m : Nat} (hk : k < l.length / z) (hm : k * z + m ≤ l.length) : ∃ v t, acall R_Read2 false [.ptr id 0, .int .i64 (k : Int), .int .i64 (m : Int)] s = some (.tup [v, .int .i64 0], t) ∧ NewB s t v ((l.drop (k * z)).take m) ∧ Keep s t := by
  obtain ⟨r, t, h1, ⟨v, rfl, h2⟩, h3⟩ := run_any (s := s) n_Read2 (args := [.ptr id 0, .int .i64 (k : Int), .int .i64 (m : Int)]) (Q := fun r t => ∃ v, r = .tup [v, .int .i64 0] ∧ NewB (lowd s) t v ((l.drop (k * z)).take m)) (by simp [a19]) (fun r t t' hg hn ⟨v, e, h⟩ => ⟨v, e, h.mono fun id b hb => by rw [hg]; exact hb⟩) (fun r t hgr hk ⟨v, e, h⟩ => ⟨v, e, by
    rw [e] at hgr
    rcases h with ⟨rfl, h⟩ | ⟨j', c', rfl, _⟩
    · exact .inl ⟨rfl, h⟩
    · simp [AV.ground, AV.plains, AV.plain] at hgr⟩) (w_Read3 (s := lowd s) hd.low hk hm)
  exact ⟨v, t, h1, NewB.from (s := lowd s) h2 (Nat.le_refl _), h3⟩

end Go.AM
end
/-
  DiskNew. Own work of this project; in part printed by a program of it.
-/
section
set_option maxRecDepth 100000
set_option maxHeartbeats 8000000
namespace Go.AM
open Go Go.Proofs

variable {s t u : St}
noncomputable def R_New : Con := runFn (tb []) a8
theorem s_New : SoundAt Try.prog 8 R_New := run_sound (tb_sound (l := []) (by simp)) mixed Try.func8 k8 c8
theorem n_New : noNxtC a8.body = true := by kernel_rfl
end Go.AM
end
/-
  What DiskHolds needs besides: new disks are new, numbers. Own work of this project; in part printed by a program of it.
-/
section
set_option maxRecDepth 100000
set_option maxHeartbeats 8000000
namespace Go.AM
open Go Go.Proofs

variable {s t u : St}

theorem ap_conv {env : Env} (k : IntKind) (x : AO) : apure env (.conv k x) = (match aev env x with
    | .int _ n => some (.int k (k.wrap n))
    | _ => none) := nrfl rfl
theorem w_NewF_ok {s : St} (a b : Nat) (h : 1 ≤ a ∧ a ≤ 4096 ∧ 32 ≤ b ∧ b ≤ 4096) (hfit : a * b ≤ 1048576) : ∀ env : Env, elen env = a8.ntmps → (∀ i x_, [.int .i64 (a : Int), .int .i64 (b : Int)][i]? = some x_ → E env i = x_) → awp (tb []) a8.body (fun x e t => (∀ i, x ≠ .exit i) ∧ ∃ r, aresults e t a8.results = some r ∧ (∃ id j, r = .tup [.ptr id 0, .int .i64 0] ∧ DkR t id j (some (a * b)) b (List.replicate (a * b) 0) ∧ s.next ≤ id ∧ s.next ≤ j) ∧ Keep s t) env s := by
  intro env hlen ha
  have h0 : E env 0 = _ := ha 0 _ rfl
  have h1 : E env 1 = _ := ha 1 _ rfl
  have hlen : elen env = _ := hlen
  simp only [a8] at hlen
  unfold a8
  try dsimp only [oO, oG]
  have z1 := eq_false (show ¬ (a : Int) < 1 by omega)
  have z2 := eq_false (show ¬ 4096 < (a : Int) by omega)
  have z3 := eq_false (show ¬ (b : Int) < 32 by omega)
  have z4 := eq_false (show ¬ 4096 < (b : Int) by omega)
  have hab : a * b ≤ 4096 * 4096 := Nat.mul_le_mul (by omega) (by omega)
  have hm : IntKind.i64.wrap ((a : Int) * (b : Int)) = ((a * b : Nat) : Int) := by
    rw [← Int.natCast_mul]
    exact wrapI (by omega) (by omega)
  have z5 := eq_false (show ¬ (1048576 : Int) < ((a * b : Nat) : Int) by omega)
  have hmk := mkslB (n := a * b) (by omega)
  obtain ⟨n, hn⟩ : ∃ n, n = a * b := ⟨_, rfl⟩
  rw [← hn] at hmk hm z5 hab hfit
  have f0 := fstep_bw0 (x := .int .i64 (b : Int)) ⟨rfl, rfl⟩ (.int .i64 0) .nils
  have f1 := fstep_bw1 (x := .sl s.next 0 n (some n) 1) ⟨rfl, rfl⟩ (.int .i64 (b : Int)) .nils
  have hbx : boxV 2 (.agg [.int .i64 (b : Int), .sl s.next 0 n (some n) 1]) = some (fun id => .ptr id 0, .row [.int .i64 (b : Int), .sl s.next 0 n (some n) 1] true) := boxV_2 rfl rfl
  have hD : DkR ((s.push (.row (byC.cells (List.replicate n 0)) true)).push (.row [.int .i64 (b : Int), .sl s.next 0 n (some n) 1] true)) (s.push (.row (byC.cells (List.replicate n 0)) true)).next s.next (some n) b (List.replicate n 0) := ⟨by rw [List.length_replicate]; exact St.get_push_new _ _, get_push_some _ (St.get_push_new s _), fun c hc => by injection hc with hc; rw [List.length_replicate]; exact hc.symm, by omega, by rw [List.length_replicate]; omega⟩
  simp (config := {contextual := true, maxDischargeDepth := 12}) only [tb_at, h0, h1, hlen, z1, z2, z3, z4, hm, z5, aa_mksl, hmk, ap_build, fillP_nil, fillP_cons, f0, f1, hbx, ↓bD, bU, forall_const, bS, implies_true, isNx, eq_self, ↓wp_cond, ↓wp_loop, ↓reduceIte, reduceCtorEq, Nat.reduceEqDiff, Nat.reduceLT, Nat.reduceAdd, Nat.reduceMul, bT, ↓sg_bsl, ↓st_callf, bX, ar_b2s, bin_mulE, ap_mkfn, ↓wi_seq, ↓wi_base, ↓wi_block, ↓wi_cond, ↓wi_loop, ↓wi_rf, ↓wy_seq, ↓wy_base, ↓wy_block, ↓wy_cond, ↓wy_loop, ↓wy_yld, q_known, ↓sg_callf3]
  rw [← hn]
  first | exact ⟨_, rfl, ⟨_, _, rfl, hD, by simp, Nat.le_refl _⟩, ((Keep.refl s).push _).push _⟩ | exact ⟨_, rfl, _, _, rfl, hD, by simp, Nat.le_refl _⟩
theorem q_NewF_ok {s : St} (a b : Nat) (h : 1 ≤ a ∧ a ≤ 4096 ∧ 32 ≤ b ∧ b ≤ 4096) (hfit : a * b ≤ 1048576) : ∃ id j t, acall R_New false [.int .i64 (a : Int), .int .i64 (b : Int)] s = some (.tup [.ptr id 0, .int .i64 0], t) ∧ DkR t id j (some (a * b)) b (List.replicate (a * b) 0) ∧ s.next ≤ id ∧ s.next ≤ j ∧ Keep s t := by
  obtain ⟨r, t, h1, ⟨id, j, rfl, h2, h4, h5⟩, h3⟩ := run_any (s := s) n_New (args := [.int .i64 (a : Int), .int .i64 (b : Int)]) (Q := fun r t => ∃ id j, r = .tup [.ptr id 0, .int .i64 0] ∧ DkR t id j (some (a * b)) b (List.replicate (a * b) 0) ∧ s.next ≤ id ∧ s.next ≤ j) (by simp [a8]) (fun r t t' hg hn ⟨id, j, e, h, k1, k2⟩ => ⟨id, j, e, ⟨by rw [hg]; exact h.box, by rw [hg]; exact h.dat, h.hcap, h.pos, h.len⟩, k1, k2⟩) (fun r t hgr hk ⟨id, j, e, h, _⟩ => by
    rw [e] at hgr
    simp [AV.ground, AV.plains, AV.plain] at hgr) (w_NewF_ok (s := lowd s) a b h hfit)
  exact ⟨id, j, t, h1, h2, h4, h5, h3⟩

end Go.AM
end
/-
  DiskHolds. Own work of this project; in part printed by a program of it.
-/
section
set_option maxRecDepth 100000
set_option maxHeartbeats 8000000
namespace Go.AM
open Go Go.Proofs

variable {s t u : St}

theorem DkR.chg {id j j' z : Nat} {cap : Option Nat} {l : List UInt8} (h : DkR t id j cap z l) (q : Chg [j'] t u) (h1 : id ≠ j') (h2 : j ≠ j') : DkR u id j cap z l := ⟨q.blk h.box (by simpa using h1), q.blk h.dat (by simpa using h2), h.hcap, h.pos, h.len⟩
theorem SpL.bwj2 {b k z j : Nat} {lv : AV} {d : List UInt8} (h : SpL t b lv k z d) (hz : 0 < z) {s1 : St} (h1 : SpL s1 b lv k z d) (hj : j < b ∨ s1.next ≤ j) : BwJ j t lv (chL k z d) := by
  by_cases hd : d = []
  · rcases h with ⟨rfl, rfl⟩ | ⟨q, _⟩
    · have h0 : SpL t (j + 1) .nils k z [] := .inl ⟨rfl, rfl⟩
      exact h0.bwj hz (by omega) (by omega)
    · exact absurd hd q
  · obtain ⟨_, _, _, g⟩ := h1.resolve_left fun q => hd q.1
    have := St.get_lt g
    exact h.bwj hz (by omega) (by omega)
theorem NewB.cap {v : AV} {l : List UInt8} (h : NewB s t v l) : CapB v := by
  rcases h with ⟨rfl, _⟩ | ⟨j, cap, rfl, _, _, hc⟩
  · exact CapB.nils
  · intro id off n c z e
    injection e with _ _ e1 e2
    have := hc c e2
    omega
end Go.AM
end
/-
  Cutting a walk in parts: behind the first part an own statement about registers and memory. Own work of this project.
-/
section
set_option maxRecDepth 100000
namespace Go.AM
open Go

theorem awp_cutM {call : Nat → List AV → St → Option (AV × St)} {A B : AC} {Q : AEx → Env → St → Prop} {env : Env} {s : St} (M : Env → St → Prop) (h1 : awp call A (fun x e t => x = .nor ∧ M e t) env s) (h2 : ∀ e t, M e t → awp call B Q e t) : awp call (.seq A B) Q env s := by
  rw [wp_seq]
  refine awp_mono _ (fun x e t h => ?_) h1
  obtain ⟨rfl, hm⟩ := h
  exact h2 e t hm
end Go.AM
end
/-
  The reference's disk, of which blocks are written. Own work of this project; in part printed by a program of it.
-/
section
set_option maxRecDepth 100000
set_option maxHeartbeats 8000000
namespace Go.AM
open Go Go.Proofs

variable {s t u : St}
/-- Block writes that lie apart from some blocks. -/
def BwM (M : List Nat) (s : St) (v : AV) (L : List (Int × List UInt8)) : Prop := (v = .nils ∧ L = []) ∨ ∃ id off cap, v = .sl id off L.length cap 2 ∧ (∀ c, cap = some c → L.length ≤ c) ∧ ∀ (i : Nat) (x : Int × List UInt8), L[i]? = some x → ∃ st, CapB st ∧ ∀ t, Chg M s t → lod t 2 (.ptr id (off + i * 2)) = some (.agg [.int .i64 x.1, st]) ∧ lod1 t (.ptr id (off + i * 2)) = some (.int .i64 x.1) ∧ lod1 t (.ptr id (off + i * 2 + 1)) = some st ∧ ltN id t ∧ AM.read byC t st = some x.2
theorem BwM.len {M : List Nat} {v : AV} {L : List (Int × List UInt8)} (h : BwM M s v L) : lenV v = some (.int .i64 (L.length : Int)) := by
  rcases h with ⟨rfl, rfl⟩ | ⟨id, off, cap, rfl, _⟩ <;> rfl
theorem BwM.at {M : List Nat} {i : Nat} {v : AV} {L : List (Int × List UInt8)} {x : Int × List UInt8} (h : BwM M s v L) (hx : L[i]? = some x) : ∃ st id o, (iadV 2 v (.int .i64 (i : Int)) = some (.ptr id o) ∧ CapB st) ∧ ∀ t, Chg M s t → lod t 2 (.ptr id o) = some (.agg [.int .i64 x.1, st]) ∧ lod1 t (.ptr id o) = some (.int .i64 x.1) ∧ lod1 t (.ptr id (o + 1)) = some st ∧ ltN id t ∧ AM.read byC t st = some x.2 := by
  rcases h with ⟨_, rfl⟩ | ⟨id, off, cap, rfl, _, h⟩
  · simp at hx
  · obtain ⟨st, hcb, h2⟩ := h i x hx
    exact ⟨st, id, off + i * 2, ⟨iadV_nat (getlt hx), hcb⟩, h2⟩
theorem BwM.chg {M : List Nat} {v : AV} {L : List (Int × List UInt8)} (h : BwM M s v L) (k : Chg M s u) : BwM M u v L := h.imp (fun q => q) fun ⟨id, off, cap, e, hc, h⟩ => ⟨id, off, cap, e, hc, fun i x hx => by
  obtain ⟨st, hcb, h2⟩ := h i x hx
  exact ⟨st, hcb, fun t q => h2 t (k.trans q fun id hid => .inl hid)⟩⟩
theorem BwM.low {M : List Nat} {v : AV} {L : List (Int × List UInt8)} (h : BwM M s v L) : BwM M (lowd s) v L := h.chg ((keep_low s).chg _)
/-- The first ones. -/
theorem BwM.take {M : List Nat} {a : Nat} {v : AV} {L : List (Int × List UInt8)} (h : BwM M s v L) (ha : a ≤ L.length) : ∃ v', slcV 2 v none (some (.int .i64 (a : Int))) = some v' ∧ BwM M s v' (L.take a) := by
  rcases h with ⟨rfl, rfl⟩ | ⟨id, off, cap, rfl, hc, h⟩
  · obtain rfl : a = 0 := by simpa using ha
    exact ⟨.nils, by simp [slcV, optNat, asNatIn], .inl ⟨rfl, rfl⟩⟩
  · have hl : (L.take a).length = a := by rw [List.length_take]; omega
    cases cap with
    | none => exact ⟨.sl id off a none 2, by simp [slcV, optNat, asNatIn, ha], .inr ⟨id, off, none, by rw [hl], (fun c q => by cases q), fun i x hx => h i x (by
        have := getlt hx
        rw [hl] at this
        rwa [List.getElem?_take_of_lt this] at hx)⟩⟩
    | some c =>
      have hc := hc c rfl
      have hac : a ≤ c := by omega
      exact ⟨.sl id off a (some c) 2, by simp [slcV, optNat, asNatIn, hac], .inr ⟨id, off, some c, by rw [hl], fun c' q => by injection q with q; omega, fun i x hx => h i x (by
        have := getlt hx
        rw [hl] at this
        rwa [List.getElem?_take_of_lt this] at hx)⟩⟩
/-- One of them. -/
theorem BwM.one {M : List Nat} {i : Nat} {v : AV} {L : List (Int × List UInt8)} {x : Int × List UInt8} (h : BwM M s v L) (hx : L[i]? = some x) : ∃ v', slcV 2 v (some (.int .i64 (i : Int))) (some (.int .i64 ((i + 1 : Nat) : Int))) = some v' ∧ BwM M s v' [x] := by
  have hi := getlt hx
  rcases h with ⟨_, rfl⟩ | ⟨id, off, cap, rfl, hc, h⟩
  · simp at hx
  · obtain ⟨st, hcb, h2⟩ := h i x hx
    have key : ∀ cap', (∀ c, cap' = some c → 1 ≤ c) → BwM M s (.sl id (off + i * 2) 1 cap' 2) [x] := fun cap' hc' => .inr ⟨id, off + i * 2, cap', rfl, hc', fun k y hy => by
      have : k = 0 := by have := getlt hy; simpa using this
      subst this
      injection hy with hy
      subst hy
      exact ⟨st, hcb, fun t q => by rw [Nat.zero_mul, Nat.add_zero]; exact h2 t q⟩⟩
    have n1 := asNat_ok (show i ≤ i + 1 by omega)
    cases cap with
    | none =>
      have n2 := asNat_ok (show i + 1 ≤ L.length by omega)
      refine ⟨.sl id (off + i * 2) 1 none 2, ?_, key none fun c q => by cases q⟩
      simp only [slcV, optNat, n1, n2, if_true, show i + 1 - i = 1 by omega]
    | some c =>
      have hc := hc c rfl
      have n2 := asNat_ok (show i + 1 ≤ c by omega)
      refine ⟨.sl id (off + i * 2) 1 (some (c - i)) 2, ?_, key _ fun c' q => by injection q with q; omega⟩
      simp only [slcV, optNat, n1, n2, if_true, show i + 1 - i = 1 by omega]

theorem BwM.jay {j : Nat} {v : AV} {L : List (Int × List UInt8)} (h : BwM [j] s v L) : BwJ j s v L := h
theorem BwM.mono {M M' : List Nat} {v : AV} {L : List (Int × List UInt8)} (h : BwM M s v L) (hM : ∀ id ∈ M', id ∈ M) : BwM M' s v L := h.imp (fun q => q) fun ⟨id, off, cap, e, hc, h⟩ => ⟨id, off, cap, e, hc, fun i x hx => by
  obtain ⟨st, hcb, h2⟩ := h i x hx
  exact ⟨st, hcb, fun t q => h2 t (q.mono hM)⟩⟩
theorem BwA.apartM {M : List Nat} {s0 : St} {v : AV} {L : List (Int × List UInt8)} (h : BwA s0 v L) (hK : Keep s0 s) (hM : ∀ j ∈ M, s0.next ≤ j) : BwM M s v L := by
  rcases h with q | ⟨id, cap, rfl, hcap, h⟩
  · exact .inl q
  · refine .inr ⟨id, 0, some cap, rfl, fun c q => by injection q with q; omega, fun i x hx => ?_⟩
    obtain ⟨st, hcb, h2, h3⟩ := h i x hx
    refine ⟨st, hcb, fun t q => ?_⟩
    have hKt : Keep s0 t := hK.chgn q hM
    obtain ⟨a1, a2, a3, a4⟩ := h2 t hKt
    rw [Nat.zero_add]
    exact ⟨a1, a2, a3, a4, hKt.read h3⟩
theorem by_lods {v : AV} {l : List UInt8} (h : AM.read byC s v = some l) {i : Nat} {b : UInt8} (hi : l[i]? = some b) : iadV 1 v (.int .i64 (i : Int)) = some (.ptr (bid v) (boff v + i)) ∧ lod1 s (.ptr (bid v) (boff v + i)) = some (.int .u8 (b.toNat : Int)) ∧ ltN (bid v) s := by
  have h1 := read_idx h hi .i64
  rw [byC_sz, Nat.mul_one] at h1
  have hl := read_lt h (Keep.refl s) hi
  refine ⟨h1, ?_, hl⟩
  cases v with
  | nils => simp [AM.read] at h; subst h; simp at hi
  | sl id off n cap z =>
    obtain ⟨rfl, rfl, cs, own, hg, _, _, h5⟩ := read_sl h
    obtain ⟨k1, k2⟩ := h5 i b hi 0 1 (Nat.le_refl 1)
    rw [byC_sz, Nat.mul_one, Nat.add_zero] at k1 k2
    show lod1 s (.ptr id (off + i)) = _
    simp only [lod1, hg]
    have e := congrArg (fun l => l[0]?) k2
    simpa [show byC.enc b = [AV.int .u8 (b.toNat : Int)] from rfl] using e
  | _ => simp [AM.read] at h
def slId : AV → Nat
  | .sl q _ _ _ _ => q
  | _ => 0
def NkX (s t : St) (id : Nat) (lv : AV) (vs : List AV) (z i : Nat) : Prop := NkR s t id lv vs z i ∧ (vs.map slId).Nodup ∧ ∀ v ∈ vs, s.next ≤ slId v
theorem NkX.next {id z i : Nat} {lv lv' : AV} {vs : List AV} (h : NkX s t id lv vs z i) (hK : Keep s t) {t' : St} (h' : NkR s t' id lv' (vs ++ [.sl t.next 0 z (some z) 1]) z (i + 1)) : NkX s t' id lv' (vs ++ [.sl t.next 0 z (some z) 1]) z (i + 1) := by
  refine ⟨h', ?_, fun v hv => ?_⟩
  · rw [List.map_append, List.nodup_append]
    refine ⟨h.2.1, by simp, fun a ha b hb => ?_⟩
    obtain ⟨v, hv, rfl⟩ := List.mem_map.1 ha
    obtain ⟨q, rfl, hg⟩ := h.1.row v hv
    simp at hb
    subst hb
    have := St.get_lt hg
    show q ≠ t.next
    omega
  · rcases List.mem_append.1 hv with hv | hv
    · exact h.2.2 v hv
    · simp at hv
      subst hv
      exact hK.next
structure XkR (s t : St) (ix jx : Nat) (qs : List Nat) (z : Nat) (ls : List (List UInt8)) : Prop where
  box : t.get ix = some (.row [.int .i64 (z : Int), .sl jx 0 qs.length none 1] true)
  lst : t.get jx = some (.row (qs.map fun q => AV.sl q 0 z (some z) 1) true)
  len : qs.length = ls.length
  nd : qs.Nodup
  row : ∀ (i q : Nat), qs[i]? = some q → ∃ l, ls[i]? = some l ∧ l.length = z ∧ t.get q = some (.row (byC.cells l) true)
  pos : 0 < z
  z4 : z ≤ 4096
  hix : s.next ≤ ix
  hjx : s.next ≤ jx
  hqs : ∀ q ∈ qs, s.next ≤ q
theorem XkR.keep {ix jx z : Nat} {qs : List Nat} {ls : List (List UInt8)} (h : XkR s t ix jx qs z ls) (hK : Keep t u) : XkR s u ix jx qs z ls := ⟨hK.blk h.box, hK.blk h.lst, h.len, h.nd, fun i q hq => by
  obtain ⟨l, h1, h2, h3⟩ := h.row i q hq
  exact ⟨l, h1, h2, hK.blk h3⟩, h.pos, h.z4, h.hix, h.hjx, h.hqs⟩
theorem XkR.of {s0 : St} {ix jx z : Nat} {qs : List Nat} {ls : List (List UInt8)} (h : XkR s t ix jx qs z ls) (hs : s0.next ≤ s.next) : XkR s0 t ix jx qs z ls := ⟨h.box, h.lst, h.len, h.nd, h.row, h.pos, h.z4, Nat.le_trans hs h.hix, Nat.le_trans hs h.hjx, fun q hq => Nat.le_trans hs (h.hqs q hq)⟩
theorem XkR.low {s0 : St} {ix jx z : Nat} {qs : List Nat} {ls : List (List UInt8)} (h : XkR s0 s ix jx qs z ls) : XkR s0 (lowd s) ix jx qs z ls := h.keep (keep_low s)
theorem XkR.chg {M : List Nat} {ix jx z : Nat} {qs : List Nat} {ls : List (List UInt8)} (h : XkR s t ix jx qs z ls) (hC : Chg M t u) (h1 : ix ∉ M) (h2 : jx ∉ M) (h3 : ∀ q ∈ qs, q ∉ M) : XkR s u ix jx qs z ls := ⟨hC.blk h.box h1, hC.blk h.lst h2, h.len, h.nd, fun i q hq => by
  obtain ⟨l, k1, k2, k3⟩ := h.row i q hq
  exact ⟨l, k1, k2, hC.blk k3 (h3 q (List.mem_of_getElem? hq))⟩, h.pos, h.z4, h.hix, h.hjx, h.hqs⟩
theorem cells_hd {l : List UInt8} {z : Nat} (hl : l.length = z) (hz : 0 < z) : ∃ b r, byC.cells l = AV.int .u8 b :: r := by
  cases l with
  | nil => simp at hl; omega
  | cons b r => exact ⟨_, _, by rw [cells_cons]; rfl⟩
theorem XkR.mem {ix jx z q : Nat} {qs : List Nat} {ls : List (List UInt8)} (h : XkR s t ix jx qs z ls) (hq : q ∈ qs) : ∃ b r, t.get q = some (.row (AV.int .u8 b :: r) true) := by
  obtain ⟨i, hi⟩ := List.mem_iff_getElem?.1 hq
  obtain ⟨l, h1, h2, h3⟩ := h.row i q hi
  obtain ⟨b, r, e⟩ := cells_hd h2 h.pos
  exact ⟨b, r, by rw [h3, e]⟩
theorem XkR.nix {ix jx z : Nat} {qs : List Nat} {ls : List (List UInt8)} (h : XkR s t ix jx qs z ls) : ix ∉ qs := fun hq => by
  obtain ⟨b, r, e⟩ := h.mem hq
  rw [h.box] at e
  injection e with e
  injection e with e _
  injection e with e _
  cases e
theorem XkR.njx {ix jx z : Nat} {qs : List Nat} {ls : List (List UInt8)} (h : XkR s t ix jx qs z ls) : jx ∉ qs := fun hq => by
  obtain ⟨b, r, e⟩ := h.mem hq
  rw [h.lst] at e
  injection e with e
  injection e with e _
  cases qs with
  | nil => simp at hq
  | cons a l =>
    injection e with e _
    cases e
theorem XkR.put {ix jx z b q : Nat} {qs : List Nat} {ls : List (List UInt8)} {l' : List UInt8} (h : XkR s t ix jx qs z ls) (hq : qs[b]? = some q) (hl : l'.length = z) : XkR s (t.put q (.row (byC.cells l') true)) ix jx qs z (ls.set b l') := by
  have hm := List.mem_of_getElem? hq
  obtain ⟨l0, k1, k2, k3⟩ := h.row b q hq
  have hlt := St.get_lt k3
  have hbl := getlt k1
  refine ⟨?_, ?_, by simp [h.len], h.nd, fun i q' hq' => ?_, h.pos, h.z4, h.hix, h.hjx, h.hqs⟩
  · rw [St.get_put_ne _ _ hlt fun e => h.nix (by rw [e]; exact hm)]
    exact h.box
  · rw [St.get_put_ne _ _ hlt fun e => h.njx (by rw [e]; exact hm)]
    exact h.lst
  · by_cases hi : i = b
    · subst hi
      rw [hq] at hq'; injection hq' with hq'; subst hq'
      exact ⟨l', by rw [List.getElem?_set_self hbl], hl, St.get_put_same k3⟩
    · obtain ⟨l, g1, g2, g3⟩ := h.row i q' hq'
      refine ⟨l, by rw [List.getElem?_set_ne (Ne.symm hi)]; exact g1, g2, ?_⟩
      rw [St.get_put_ne _ _ hlt fun e => ?_]
      · exact g3
      · subst e
        have := (List.getElem?_inj (getlt hq') h.nd).1 (hq'.trans hq.symm)
        exact hi this
theorem XkR.rkr {ix jx z : Nat} {qs : List Nat} {ls : List (List UInt8)} (h : XkR s t ix jx qs z ls) : RkR s t ix (.sl jx 0 qs.length none 1) (qs.map fun q => AV.sl q 0 z (some z) 1) z ls :=
  ⟨h.box, .inr ⟨jx, none, by simp, h.lst, h.hjx⟩, by simp [h.len], fun i v hv => by
    rw [List.getElem?_map] at hv
    obtain ⟨q, hq, rfl⟩ := Option.map_eq_some_iff.1 hv
    obtain ⟨l, h1, h2, h3⟩ := h.row i q hq
    refine ⟨l, h1, ?_⟩
    have := read_part (t := t) (j := q) (o := 0) (m := z) (cap := some z) (l := l) h3 (by omega)
    rw [← h2, List.drop_zero, List.take_length] at this
    rw [← h2]
    exact this⟩
theorem XkR.at {ix jx z i : Nat} {qs : List Nat} {ls : List (List UInt8)} {l : List UInt8} (h : XkR s t ix jx qs z ls) (hl : ls[i]? = some l) : ∃ q, qs[i]? = some q ∧ iadV 1 (.sl jx 0 qs.length none 1) (.int .i64 (i : Int)) = some (.ptr jx i) ∧ lod1 t (.ptr jx i) = some (.sl q 0 z (some z) 1) ∧ ltN jx t ∧ l.length = z ∧ t.get q = some (.row (byC.cells l) true) := by
  obtain ⟨q, hq⟩ := getsome (show i < qs.length by rw [h.len]; exact getlt hl)
  obtain ⟨l', h1, h2, h3⟩ := h.row i q hq
  rw [hl] at h1; injection h1 with h1; subst h1
  have hi : iadV 1 (.sl jx 0 qs.length none 1) (.int .i64 (i : Int)) = some (.ptr jx (0 + i * 1)) := iadV_nat (getlt hq)
  refine ⟨q, hq, by simpa using hi, ?_, St.get_lt h.lst, h2, h3⟩
  simp only [lod1, h.lst, List.getElem?_map, hq]
  rfl
theorem XkR.ofNk {id z i : Nat} {lv : AV} {vs : List AV} (h : NkX s t id lv vs z i) (hi : 0 < i) (hz : 0 < z) (hz4 : z ≤ 4096) (hid : s.next ≤ id) : ∃ jx qs, XkR s t id jx qs z (List.replicate i (List.replicate z 0)) := by
  obtain ⟨h1, h2, h3⟩ := h
  rcases h1.out with ⟨q, _⟩ | ⟨j, _, e, hg, hj⟩
  · omega
  have hv : vs = (vs.map slId).map fun q => AV.sl q 0 z (some z) 1 := by
    rw [List.map_map]
    conv => lhs; rw [← List.map_id vs]
    refine List.map_congr_left fun v hv => ?_
    obtain ⟨q, rfl, _⟩ := h1.row v hv
    rfl
  have hl := h1.len
  refine ⟨j, vs.map slId, by rw [List.length_map, hl, ← e]; exact h1.box, by rw [← hv]; exact hg, by simp [hl], h2, fun k q hq => ?_, hz, hz4, hid, hj, fun q hq => ?_⟩
  · rw [List.getElem?_map] at hq
    obtain ⟨v, hv, rfl⟩ := Option.map_eq_some_iff.1 hq
    obtain ⟨q, rfl, hg⟩ := h1.row v (List.mem_of_getElem? hv)
    have hk : k < i := by rw [← hl]; exact getlt hv
    exact ⟨List.replicate z 0, by rw [List.getElem?_replicate, if_pos hk], by simp, hg⟩
  · obtain ⟨v, hv, rfl⟩ := List.mem_map.1 hq
    exact h3 v hv
theorem w_RNewX {s : St} (a z : Nat) (ha : a ≤ 4096) (ha0 : 0 < a) (hz : 0 < z) (hz4 : z ≤ 4096) : ∀ env : Env, elen env = a12.ntmps → (∀ i x_, [.int .i64 (a : Int), .int .i64 (z : Int)][i]? = some x_ → E env i = x_) → awp (tb []) a12.body (fun x e t => (∀ i, x ≠ .exit i) ∧ ∃ r, aresults e t a12.results = some r ∧ (∃ jx qs, r = .ptr s.next 0 ∧ XkR s t s.next jx qs z (List.replicate a (List.replicate z 0))) ∧ Keep s t) env s := by
  intro env hlen ha
  have h0 : E env 0 = _ := ha 0 _ rfl
  have h1 : E env 1 = _ := ha 1 _ rfl
  have hlen : elen env = _ := hlen
  simp only [a12] at hlen
  unfold a12
  try dsimp only [oO, oG]
  have hbx : boxV 2 (.agg [.int .i64 (z : Int), .nils]) = some (fun id => .ptr id 0, .row [.int .i64 (z : Int), .nils] true) := rfl
  have f0 := fstep_bw0 (x := .int .i64 (z : Int)) ⟨rfl, rfl⟩ (.int .i64 0) .nils
  have hK1 : Keep s (s.push (.row [.int .i64 (z : Int), .nils] true)) := (Keep.refl s).push _
  simp (config := {contextual := true, maxDischargeDepth := 12}) only [tb_at, h0, h1, hlen, ap_build, fillP_nil, fillP_cons, f0, hbx, ↓bD, bU, forall_const, bS, implies_true, isNx, eq_self, ↓wp_cond, ↓wp_loop, ↓reduceIte, reduceCtorEq, Nat.reduceEqDiff, Nat.reduceLT, Nat.reduceAdd, Nat.reduceMul, bT, ↓sg_bsl, ↓st_callf, bX, ar_b2s, bin_mulE, ap_mkfn, ↓wi_seq, ↓wi_base, ↓wi_block, ↓wi_cond, ↓wi_loop, ↓wi_rf, ↓wy_seq, ↓wy_base, ↓wy_block, ↓wy_cond, ↓wy_loop, ↓wy_yld, q_known, ↓sg_callf3]
  obtain ⟨I, hI⟩ : ∃ I : Nat → Env → St → Prop, ∀ n e t, I n e t = (Keep s t ∧ ∃ (i : Nat) (lv : AV) (vs : List AV), n + i = a ∧ elen e = 27 ∧ E e 0 = .int .i64 (a : Int) ∧ E e 1 = .int .i64 (z : Int) ∧ E e 5 = .ptr s.next 0 ∧ E e 6 = .int .i64 (i : Int) ∧ NkX s t s.next lv vs z i) := ⟨fun n e t => (Keep s t ∧ ∃ (i : Nat) (lv : AV) (vs : List AV), n + i = a ∧ elen e = 27 ∧ E e 0 = .int .i64 (a : Int) ∧ E e 1 = .int .i64 (z : Int) ∧ E e 5 = .ptr s.next 0 ∧ E e 6 = .int .i64 (i : Int) ∧ NkX s t s.next lv vs z i), fun _ _ _ => rfl⟩
  refine lwp_inv I (n := a) ?_ ?_
  · rw [hI]
    exact ⟨hK1, 0, .nils, [], by omega, (by simp only [bE, Nat.reduceEqDiff, bN, Nat.reduceLT, hlen]; try rfl), (by simp only [bE, Nat.reduceEqDiff, bN, Nat.reduceLT, hlen, h0]; try rfl), (by simp only [bE, Nat.reduceEqDiff, bN, Nat.reduceLT, hlen, h1]; try rfl), (by simp only [bE, Nat.reduceEqDiff, bN, Nat.reduceLT, hlen]; try rfl), (by simp only [bE, Nat.reduceEqDiff, bN, Nat.reduceLT, hlen]; try rfl), ⟨⟨St.get_push_new s _, .inl ⟨rfl, rfl, rfl⟩, rfl, fun v hv => by simp at hv⟩, by simp, fun v hv => by simp at hv⟩⟩
  clear h0 h1 hlen
  intro n e t hi
  rw [hI] at hi
  obtain ⟨hK, i, lv, vs, hni, he, e0, e1, e5, e6, hN⟩ := hi
  by_cases hlt : i < a
  · have hw2 := wrap_add1 (n := i) (by omega)
    have z1 := eq_true (show (i : Int) < (a : Int) by omega)
    obtain ⟨lv', t', hap, hst, hltb, hN', hK'⟩ := hN.1.step hz (by omega) hK (Nat.le_refl _)
    have hNX := hN.next hK hN'
    have hKR := keep_reserve t 2
    obtain ⟨b0, b1, blt⟩ := row2_lod (hKR.blk hN.1.box)
    have hmk := mkslB (n := z) (by omega)
    have hbs : bslV [.nils] 1 1 [(0, .sl t.next 0 z (some z) 1)] = some (fun id => .sl id 0 1 (some 1) 1, .row [.sl t.next 0 z (some z) 1] true) := rfl
    have fs : ∀ K : List AV → Option (List AV), fstep [.nils] 0 1 (.sl t.next 0 z (some z) 1) K = K [.sl t.next 0 z (some z) 1] := fun K => by simp [fstep, AV.cells, AV.one, setAt]
    have rv := resv2 t
    have rv' := resv2' t
    have bo := born2 t
    simp (config := {contextual := true, maxDischargeDepth := 12}) only [tb_at, he, e0, e1, e5, e6, z1, hw2, b0, b1, blt, nchkV_ptr, aa_mksl, hmk, hbs, fs, rv, rv', bo, hap, hst, hltb, reserve0, ↓bD, bU, forall_const, bS, implies_true, isNx, eq_self, ↓wp_cond, ↓wp_loop, ↓reduceIte, reduceCtorEq, Nat.reduceEqDiff, Nat.reduceLT, Nat.reduceAdd, Nat.reduceMul, bT, ↓sg_bsl, ↓st_callf, bX, ar_b2s, bin_mulE, ap_mkfn, ↓wi_seq, ↓wi_base, ↓wi_block, ↓wi_cond, ↓wi_loop, ↓wi_rf, ↓wy_seq, ↓wy_base, ↓wy_block, ↓wy_cond, ↓wy_loop, ↓wy_yld, q_known, ↓sg_callf3]
    refine ⟨n - 1, by omega, ?_⟩
    rw [hI]
    exact ⟨hK', i + 1, lv', _, by omega, (by simp only [bE, Nat.reduceEqDiff, bN, Nat.reduceLT, he, e0, e1, e5, e6]; try rfl), (by simp only [bE, Nat.reduceEqDiff, bN, Nat.reduceLT, he, e0, e1, e5, e6]; try rfl), (by simp only [bE, Nat.reduceEqDiff, bN, Nat.reduceLT, he, e0, e1, e5, e6]; try rfl), (by simp only [bE, Nat.reduceEqDiff, bN, Nat.reduceLT, he, e0, e1, e5, e6]; try rfl), (by simp only [bE, Nat.reduceEqDiff, bN, Nat.reduceLT, he, e0, e1, e5, e6]; try rfl), hNX⟩
  · obtain rfl : i = a := by omega
    have z1 := eq_false (show ¬ (i : Int) < (i : Int) by omega)
    simp (config := {contextual := true, maxDischargeDepth := 12}) only [tb_at, he, e0, e1, e5, e6, z1, ↓bD, bU, forall_const, bS, implies_true, isNx, eq_self, ↓wp_cond, ↓wp_loop, ↓reduceIte, reduceCtorEq, Nat.reduceEqDiff, Nat.reduceLT, Nat.reduceAdd, Nat.reduceMul, bT, ↓sg_bsl, ↓st_callf, bX, ar_b2s, bin_mulE, ap_mkfn, ↓wi_seq, ↓wi_base, ↓wi_block, ↓wi_cond, ↓wi_loop, ↓wi_rf, ↓wy_seq, ↓wy_base, ↓wy_block, ↓wy_cond, ↓wy_loop, ↓wy_yld, q_known, ↓sg_callf3]
    obtain ⟨jx, qs, hX⟩ := XkR.ofNk hN ha0 hz hz4 (Nat.le_refl _)
    first | exact ⟨_, rfl, ⟨jx, qs, rfl, hX⟩, hK⟩ | exact ⟨_, rfl, jx, qs, rfl, hX⟩
theorem q_RNewX {s : St} (a z : Nat) (ha : a ≤ 4096) (ha0 : 0 < a) (hz : 0 < z) (hz4 : z ≤ 4096) : ∃ jx qs t, acall R_RNew false [.int .i64 (a : Int), .int .i64 (z : Int)] s = some (.ptr s.next 0, t) ∧ XkR s t s.next jx qs z (List.replicate a (List.replicate z 0)) ∧ Keep s t := by
  obtain ⟨r, t, h1, ⟨jx, qs, rfl, h2⟩, h3⟩ := run_any (s := s) n_RNew (args := [.int .i64 (a : Int), .int .i64 (z : Int)]) (Q := fun r t => ∃ jx qs, r = .ptr s.next 0 ∧ XkR (lowd s) t s.next jx qs z (List.replicate a (List.replicate z 0))) (by simp [a12]) (fun r t t' hg hn ⟨jx, qs, e, h⟩ => ⟨jx, qs, e, by rw [hg]; exact h.box, by rw [hg]; exact h.lst, h.len, h.nd, fun i q hq => by rw [hg]; exact h.row i q hq, h.pos, h.z4, h.hix, h.hjx, h.hqs⟩) (fun r t hgr hk ⟨jx, qs, e, h⟩ => by
    rw [e] at hgr
    simp [AV.ground, AV.plain] at hgr) (w_RNewX (s := lowd s) a z ha ha0 hz hz4)
  exact ⟨jx, qs, t, h1, ⟨h2.box, h2.lst, h2.len, h2.nd, h2.row, h2.pos, h2.z4, h2.hix, h2.hjx, h2.hqs⟩, h3⟩
noncomputable def R_Rput : Con := runFn (tb []) a34
theorem s_Rput : SoundAt Try.prog 34 R_Rput := run_sound (tb_sound (l := []) (by simp)) mixed Try.func34 k34 c34
theorem n_Rput : noNxtC a34.body = true := by kernel_rfl

theorem set_same {l d : List UInt8} {i : Nat} {x : UInt8} (hx : d[i]? = some x) (hi : i < l.length) : (d.take i ++ l.drop i).set i x = d.take (i + 1) ++ l.drop (i + 1) := by
  have hd := getlt hx
  have h1 : (d.take i).length = i := by rw [List.length_take]; omega
  rw [List.set_append_right _ _ (by omega), h1, Nat.sub_self, List.drop_eq_getElem_cons hi, List.set_cons_zero, List.take_add_one, hx]
  simp
theorem cells_set {l : List UInt8} {i : Nat} (hi : i < l.length) (b : UInt8) : setAt (byC.cells l) i [.int .u8 (b.toNat : Int)] = byC.cells (l.set i b) := by
  rw [byC_map, byC_map, List.map_set, List.set_eq_take_append_cons_drop, if_pos (by simpa using hi)]
  simp [setAt]
theorem set_id {α : Type} {l : List α} {i : Nat} {x : α} (h : l[i]? = some x) : l.set i x = l := by
  refine List.ext_getElem? fun k => ?_
  by_cases hk : k = i
  · subst hk
    rw [List.getElem?_set_self (getlt h), h]
  · rw [List.getElem?_set_ne (Ne.symm hk)]
theorem sto_by {q i : Nat} {l : List UInt8} (hg : t.get q = some (.row (byC.cells l) true)) (hi : i < l.length) (b : UInt8) : sto t 1 (.ptr q i) (.int .u8 (b.toNat : Int)) = some (.und, t.put q (.row (byC.cells (l.set i b)) true)) := by
  simp only [sto, hg]
  rw [if_pos ⟨rfl, rfl, by rw [cells_len, byC_sz]; omega⟩]
  show some (AV.und, t.put q (.row (setAt (byC.cells l) i [.int .u8 (b.toNat : Int)]) true)) = _
  rw [cells_set hi]
theorem w_Rput {s : St} {s0 : St} {ix jx z : Nat} {qs : List Nat} {ls : List (List UInt8)} (hx : XkR s0 s ix jx qs z ls) {b : Nat} {l : List UInt8} (hb : ls[b]? = some l) {st : AV} {d : List UInt8} (hst : ∀ t, Chg qs s t → AM.read byC t st = some d) {m : Nat} (hm : m ≤ d.length) (hmz : m ≤ z) : ∀ env : Env, elen env = a34.ntmps → (∀ i x_, [.ptr ix 0, .agg [.int .i64 (b : Int), st], .int .i64 (m : Int)][i]? = some x_ → E env i = x_) → awp (tb []) a34.body (fun x e t => (∀ i, x ≠ .exit i) ∧ ∃ r, aresults e t a34.results = some r ∧ (r = .tup [] ∧ XkR s0 t ix jx qs z (ls.set b (d.take m ++ l.drop m)) ∧ Chg qs s t ∧ (0 < m → ∃ q ∈ qs, t.low ≤ q))) env s := by
  intro env hlen ha
  have h0 : E env 0 = _ := ha 0 _ rfl
  have h1 : E env 1 = _ := ha 1 _ rfl
  have h2 : E env 2 = _ := ha 2 _ rfl
  have hlen : elen env = _ := hlen
  simp only [a34] at hlen
  unfold a34
  try dsimp only [oO, oG]
  have hso := read_oneB (hst s (Chg.refl _ _))
  have hbxv : boxV 2 (.agg [.int .i64 (b : Int), st]) = some (fun id => .ptr id 0, .row [.int .i64 (b : Int), st] true) := boxV_2 rfl hso.2
  have hK1 : Keep s (s.push (.row [.int .i64 (b : Int), st] true)) := (Keep.refl s).push _
  have hz4 := hx.z4
  have hX0 : XkR s0 (s.push (.row [.int .i64 (b : Int), st] true)) ix jx qs z (ls.set b (d.take 0 ++ l.drop 0)) := by
    rw [List.take_zero, List.nil_append, List.drop_zero, set_id hb]
    exact hx.keep hK1
  simp (config := {contextual := true, maxDischargeDepth := 12}) only [tb_at, h0, h1, h2, hlen, hbxv, ↓bD, bU, forall_const, bS, implies_true, isNx, eq_self, ↓wp_cond, ↓wp_loop, ↓reduceIte, reduceCtorEq, Nat.reduceEqDiff, Nat.reduceLT, Nat.reduceAdd, Nat.reduceMul, bT, ↓sg_bsl, ↓st_callf, bX, ar_b2s, bin_mulE, ap_mkfn, ↓wi_seq, ↓wi_base, ↓wi_block, ↓wi_cond, ↓wi_loop, ↓wi_rf, ↓wy_seq, ↓wy_base, ↓wy_block, ↓wy_cond, ↓wy_loop, ↓wy_yld, q_known, ↓sg_callf3]
  obtain ⟨I, hI⟩ : ∃ I : Nat → Env → St → Prop, ∀ n e t, I n e t = (Chg qs s t ∧ ∃ i : Nat, n + i = m ∧ elen e = 27 ∧ E e 0 = .ptr ix 0 ∧ E e 2 = .int .i64 (m : Int) ∧ E e 4 = .ptr s.next 0 ∧ E e 6 = .int .i64 (i : Int) ∧ XkR s0 t ix jx qs z (ls.set b (d.take i ++ l.drop i)) ∧ t.get s.next = some (.row [.int .i64 (b : Int), st] true) ∧ (0 < i → ∃ q ∈ qs, t.low ≤ q)) := ⟨fun n e t => (Chg qs s t ∧ ∃ i : Nat, n + i = m ∧ elen e = 27 ∧ E e 0 = .ptr ix 0 ∧ E e 2 = .int .i64 (m : Int) ∧ E e 4 = .ptr s.next 0 ∧ E e 6 = .int .i64 (i : Int) ∧ XkR s0 t ix jx qs z (ls.set b (d.take i ++ l.drop i)) ∧ t.get s.next = some (.row [.int .i64 (b : Int), st] true) ∧ (0 < i → ∃ q ∈ qs, t.low ≤ q)), fun _ _ _ => rfl⟩
  refine lwp_inv I (n := m) ?_ ?_
  · rw [hI]
    exact ⟨hK1.chg _, 0, by omega, (by simp only [bE, Nat.reduceEqDiff, bN, Nat.reduceLT, hlen]; try rfl), (by simp only [bE, Nat.reduceEqDiff, bN, Nat.reduceLT, hlen, h0]; try rfl), (by simp only [bE, Nat.reduceEqDiff, bN, Nat.reduceLT, hlen, h2]; try rfl), (by simp only [bE, Nat.reduceEqDiff, bN, Nat.reduceLT, hlen]; try rfl), (by simp only [bE, Nat.reduceEqDiff, bN, Nat.reduceLT, hlen]; try rfl), hX0, St.get_push_new s _, fun h => by omega⟩
  clear h0 h1 h2 hlen
  intro n e t hi
  rw [hI] at hi
  obtain ⟨hK, i, hni, he, e0, e2, e4, e6, hX, hbx, hlow⟩ := hi
  by_cases hlt : i < m
  · have hw2 := wrap_add1 (n := i) (by omega)
    have z1 := eq_true (show (i : Int) < (m : Int) by omega)
    have hbl := getlt hb
    obtain ⟨q, hq, i1, l1, lt1, hcl, hgq⟩ := hX.at (i := b) (l := d.take i ++ l.drop i) (List.getElem?_set_self hbl)
    obtain ⟨x, hx_⟩ := getsome (show i < d.length by omega)
    obtain ⟨a1, a2, alt⟩ := by_lods (hst t hK) hx_
    obtain ⟨c0, c1, clt⟩ := row2_lod hbx
    obtain ⟨b0, b1, blt⟩ := row2_lod hX.box
    have hi2 : iadV 1 (.sl q 0 z (some z) 1) (.int .i64 (i : Int)) = some (.ptr q (0 + i * 1)) := iadV_nat (by omega)
    rw [Nat.zero_add, Nat.mul_one] at hi2
    have hst2 := sto_by hgq (i := i) (by omega) x
    have hll : l.length = z := by
      rw [List.length_append, List.length_take, List.length_drop] at hcl
      omega
    rw [set_same hx_ (by omega)] at hst2
    have hX' := hX.put hq (l' := d.take (i + 1) ++ l.drop (i + 1)) (by rw [List.length_append, List.length_take, List.length_drop]; omega)
    rw [List.set_set] at hX'
    have hqlt := St.get_lt hgq
    have hqm := List.mem_of_getElem? hq
    have hK' := hK.put (.row (byC.cells (d.take (i + 1) ++ l.drop (i + 1))) true) (.inl hqm) hqlt
    have hne : s.next ≠ q := by
      have h1 := (hx.row b q hq)
      obtain ⟨_, _, _, h1⟩ := h1
      have := St.get_lt h1
      omega
    have hbx' : (t.put q (.row (byC.cells (d.take (i + 1) ++ l.drop (i + 1))) true)).get s.next = some (.row [.int .i64 (b : Int), st] true) := by rw [St.get_put_ne _ _ hqlt hne]; exact hbx
    have hlow' : ∃ q' ∈ qs, (t.put q (.row (byC.cells (d.take (i + 1) ++ l.drop (i + 1))) true)).low ≤ q' := ⟨q, hqm, Nat.min_le_right _ _⟩
    simp (config := {contextual := true, maxDischargeDepth := 12}) only [tb_at, he, e0, e2, e4, e6, z1, hw2, i1, l1, lt1, a1, a2, alt, b0, b1, blt, c0, c1, clt, nchkV_ptr, hi2, hst2, reserve0, ↓bD, bU, forall_const, bS, implies_true, isNx, eq_self, ↓wp_cond, ↓wp_loop, ↓reduceIte, reduceCtorEq, Nat.reduceEqDiff, Nat.reduceLT, Nat.reduceAdd, Nat.reduceMul, bT, ↓sg_bsl, ↓st_callf, bX, ar_b2s, bin_mulE, ap_mkfn, ↓wi_seq, ↓wi_base, ↓wi_block, ↓wi_cond, ↓wi_loop, ↓wi_rf, ↓wy_seq, ↓wy_base, ↓wy_block, ↓wy_cond, ↓wy_loop, ↓wy_yld, q_known, ↓sg_callf3]
    refine ⟨n - 1, by omega, ?_⟩
    rw [hI]
    exact ⟨hK', i + 1, by omega, (by simp only [bE, Nat.reduceEqDiff, bN, Nat.reduceLT, he, e0, e2, e4, e6]; try rfl), (by simp only [bE, Nat.reduceEqDiff, bN, Nat.reduceLT, he, e0, e2, e4, e6]; try rfl), (by simp only [bE, Nat.reduceEqDiff, bN, Nat.reduceLT, he, e0, e2, e4, e6]; try rfl), (by simp only [bE, Nat.reduceEqDiff, bN, Nat.reduceLT, he, e0, e2, e4, e6]; try rfl), (by simp only [bE, Nat.reduceEqDiff, bN, Nat.reduceLT, he, e0, e2, e4, e6]; try rfl), hX', hbx', fun _ => hlow'⟩
  · obtain rfl : i = m := by omega
    have z1 := eq_false (show ¬ (i : Int) < (i : Int) by omega)
    simp (config := {contextual := true, maxDischargeDepth := 12}) only [tb_at, he, e0, e2, e4, e6, z1, ↓bD, bU, forall_const, bS, implies_true, isNx, eq_self, ↓wp_cond, ↓wp_loop, ↓reduceIte, reduceCtorEq, Nat.reduceEqDiff, Nat.reduceLT, Nat.reduceAdd, Nat.reduceMul, bT, ↓sg_bsl, ↓st_callf, bX, ar_b2s, bin_mulE, ap_mkfn, ↓wi_seq, ↓wi_base, ↓wi_block, ↓wi_cond, ↓wi_loop, ↓wi_rf, ↓wy_seq, ↓wy_base, ↓wy_block, ↓wy_cond, ↓wy_loop, ↓wy_yld, q_known, ↓sg_callf3]
    first | exact ⟨_, rfl, rfl, hX, hK, hlow⟩ | exact ⟨hX, hK, hlow⟩
theorem q_Rput {s : St} {s0 : St} {ix jx z : Nat} {qs : List Nat} {ls : List (List UInt8)} (hx : XkR s0 s ix jx qs z ls) {b : Nat} {l : List UInt8} (hb : ls[b]? = some l) {st : AV} {d : List UInt8} (hst : ∀ t, Chg qs s t → AM.read byC t st = some d) {m : Nat} (hm : m ≤ d.length) (hmz : m ≤ z) : ∃ t, acall R_Rput false [.ptr ix 0, .agg [.int .i64 (b : Int), st], .int .i64 (m : Int)] s = some (.tup [], t) ∧ XkR s0 t ix jx qs z (ls.set b (d.take m ++ l.drop m)) ∧ Chg qs s t := by
  have hst' : ∀ t, Chg qs (lowd s) t → AM.read byC t st = some d := fun t q => hst t (((keep_low s).chg _).trans q fun id hid => .inl hid)
  obtain ⟨r, t, h1, rfl, h2, h3, h4⟩ := run_awp n_Rput (args := [.ptr ix 0, .agg [.int .i64 (b : Int), st], .int .i64 (m : Int)]) (by simp [a34]) (w_Rput (s := lowd s) hx.low hb hst' hm hmz)
  obtain ⟨t', g1, g2, _, g4⟩ := run_chg s_Rput h1 h3
  exact ⟨t', g1, ⟨by rw [g2 _ (St.get_lt hx.box)]; exact h2.box, by rw [g2 _ (St.get_lt hx.lst)]; exact h2.lst, h2.len, h2.nd, fun i q hq => by
    obtain ⟨_, _, _, k⟩ := hx.row i q hq
    rw [g2 _ (St.get_lt k)]
    exact h2.row i q hq, h2.pos, h2.z4, h2.hix, h2.hjx, h2.hqs⟩, g4⟩

end Go.AM
end
/-
  New lists of block writes; what the reference says of block writes, and does with them. Own work of this project; in part printed by a program of it.
-/
section
set_option maxRecDepth 100000
set_option maxHeartbeats 8000000
namespace Go.AM
open Go Go.Proofs

variable {s t u : St}

/-- A new list of rows of two cells. -/
def Raw2 (s t : St) (v : AV) (rows : List (AV × AV)) : Prop := (v = .nils ∧ rows = []) ∨ ∃ j, v = .sl j 0 rows.length none 2 ∧ rows ≠ [] ∧ s.next ≤ j ∧ t.get j = some (.row (rows.flatMap fun x => [x.1, x.2]) true)
theorem Raw2.mono {v : AV} {rows : List (AV × AV)} (h : Raw2 s t v rows) (k : ∀ id b, t.get id = some b → u.get id = some b) : Raw2 s u v rows :=
  h.imp (fun q => q) fun ⟨j, e, h0, h1, h2⟩ => ⟨j, e, h0, h1, k _ _ h2⟩
theorem flat2_len (rows : List (AV × AV)) : (rows.flatMap fun x => [x.1, x.2]).length = rows.length * 2 := by
  induction rows with
  | nil => rfl
  | cons x r ih => rw [List.flatMap_cons, List.length_append, ih]; simp; omega
theorem Raw2.app {v : AV} {rows : List (AV × AV)} {a b : AV} {p : Nat} (h : Raw2 s t v rows) (hp : t.get p = some (.row [a, b] true)) (hK : Keep s t) (hn : rows.length ≤ 4000000) :
    ∃ v' t', appV t 2 32 v (.sl p 0 1 (some 1) 2) = some (v', t') ∧ Raw2 s t' v' (rows ++ [(a, b)]) ∧ Keep s t' ∧ ∀ id bl, t.get id = some bl → (∀ c, v ≠ .sl id 0 rows.length c 2) → t'.get id = some bl := by
  have hs1 : shown t 2 (.sl p 0 1 (some 1) 2) = some [a, b] := by
    simp only [shown, hp, if_true]
    rfl
  have hs2 : lenOf (.sl p 0 1 (some 1) 2) = some 1 := rfl
  have hsn := hK.next
  simp only [appV, hs1, hs2]
  rcases h with ⟨rfl, rfl⟩ | ⟨j, rfl, h0, h1, h2⟩
  · simp only [aappend]
    rw [if_neg (by omega), if_pos (by unfold roomBytes; omega)]
    refine ⟨_, _, rfl, .inr ⟨_, rfl, by simp, hsn, ?_⟩, hK.push _, fun id bl hb _ => get_push_some _ hb⟩
    rw [St.get_push_new]
    rfl
  · have hlt := St.get_lt h2
    simp only [aappend, h2, if_true]
    rw [if_neg (by omega), if_pos ⟨by rw [flat2_len]; simp, by unfold roomBytes; omega⟩]
    refine ⟨_, _, rfl, .inr ⟨_, by rw [List.length_append]; rfl, by simp, hsn, ?_⟩, (hK.put .dead h1 hlt).push _, fun id bl hb hne => ?_⟩
    · refine (St.get_push_new (t.put j .dead) _).trans ?_
      rw [List.drop_zero, ← flat2_len, List.take_length, List.flatMap_append]
      rfl
    · refine get_push_some _ ?_
      have : id ≠ j := fun q => hne none (by rw [q])
      rw [St.get_put_ne _ _ hlt this]
      exact hb
/-- A new list of new block writes. -/
def OwB (s t : St) (v : AV) (L : List (Int × List UInt8)) (sts : List AV) : Prop := sts.length = L.length ∧ Raw2 s t v ((L.zip sts).map fun y => (.int .i64 y.1.1, y.2)) ∧ ∀ (i : Nat) (x : Int × List UInt8) (st : AV), L[i]? = some x → sts[i]? = some st → Own byC s t st x.2
theorem OwB.nil : OwB s t .nils [] [] := ⟨rfl, .inl ⟨rfl, rfl⟩, fun i x st h => by simp at h⟩
theorem OwB.mono {v : AV} {L : List (Int × List UInt8)} {sts : List AV} (h : OwB s t v L sts) (k : ∀ id b, t.get id = some b → u.get id = some b) : OwB s u v L sts := ⟨h.1, h.2.1.mono k, fun i x st h1 h2 => (h.2.2 i x st h1 h2).mono k⟩
theorem OwB.len {v : AV} {L : List (Int × List UInt8)} {sts : List AV} (h : OwB s t v L sts) : lenV v = some (.int .i64 (L.length : Int)) := by
  rcases h.2.1 with ⟨rfl, e⟩ | ⟨j, rfl, _⟩
  · have := congrArg List.length e
    rw [List.length_map, List.length_zip, h.1] at this
    simp at this
    rw [this]
    rfl
  · show some (AV.int .i64 _) = _
    rw [List.length_map, List.length_zip, h.1, Nat.min_self]
theorem OwB.app {v : AV} {L : List (Int × List UInt8)} {sts : List AV} {b : Int} {st : AV} {d : List UInt8} {p : Nat} (h : OwB s t v L sts) (hp : t.get p = some (.row [.int .i64 b, st] true)) (hO : Own byC s t st d) (hK : Keep s t) (hn : L.length ≤ 4000000) :
    ∃ v' t', appV t 2 32 v (.sl p 0 1 (some 1) 2) = some (v', t') ∧ OwB s t' v' (L ++ [(b, d)]) (sts ++ [st]) ∧ Keep s t' := by
  have hzl : ((L.zip sts).map fun y => (AV.int .i64 y.1.1, y.2)).length = L.length := by rw [List.length_map, List.length_zip, h.1, Nat.min_self]
  obtain ⟨v', t', e, hR, hK', hf⟩ := h.2.1.app hp hK (by rw [hzl]; exact hn)
  have hfo : ∀ st' d', Own byC s t st' d' → Own byC s t' st' d' := fun st' d' q => by
    rcases q with ⟨rfl, rfl⟩ | ⟨q, rfl, h0, h1, h2⟩
    · exact .nil _ _ _
    · refine .inr ⟨q, rfl, h0, h1, hf _ _ h2 fun c e => ?_⟩
      rcases h.2.1 with ⟨rfl, _⟩ | ⟨j, rfl, g0, _, g2⟩
      · cases e
      · injection e with e
        subst e
        rw [h2] at g2
        injection g2 with g2
        injection g2 with g2 _
        obtain ⟨b', r', e'⟩ := cells_hd (l := d') rfl (List.length_pos_iff.2 h0)
        cases hz : L.zip sts with
        | nil => rw [hz] at g0; exact g0 rfl
        | cons y r =>
          rw [hz, List.map_cons, List.flatMap_cons, e'] at g2
          injection g2 with g2 _
          cases g2
  refine ⟨v', t', e, ⟨by simp [h.1], ?_, fun i x st' h1 h2 => ?_⟩, hK'⟩
  · rw [List.zip_append h.1.symm, List.map_append]
    exact hR
  · by_cases hi : i < L.length
    · rw [List.getElem?_append_left hi] at h1
      rw [List.getElem?_append_left (by rw [h.1]; exact hi)] at h2
      exact hfo _ _ (h.2.2 i x st' h1 h2)
    · have hi2 := getlt h1
      rw [List.length_append, List.length_singleton] at hi2
      obtain rfl : i = L.length := by omega
      rw [List.getElem?_append_right (Nat.le_refl _), Nat.sub_self] at h1
      rw [List.getElem?_append_right (by rw [h.1]; exact Nat.le_refl _), h.1, Nat.sub_self] at h2
      simp at h1 h2
      subst h1 h2
      exact hfo _ _ hO
theorem flat2_at {rows : List (AV × AV)} {i : Nat} {x : AV × AV} (h : rows[i]? = some x) : (rows.flatMap fun x => [x.1, x.2])[i * 2]? = some x.1 ∧ (rows.flatMap fun x => [x.1, x.2])[i * 2 + 1]? = some x.2 := by
  induction rows generalizing i with
  | nil => simp at h
  | cons y r ih =>
    cases i with
    | zero => simp at h; subst h; exact ⟨rfl, rfl⟩
    | succ i =>
      rw [List.flatMap_cons]
      have e1 : (i + 1) * 2 = i * 2 + 1 + 1 := by omega
      rw [e1]
      exact ih (by simpa using h)
theorem OwB.row {v : AV} {L : List (Int × List UInt8)} {sts : List AV} (h : OwB s t v L sts) {i : Nat} {x : Int × List UInt8} {st : AV} (hx : L[i]? = some x) (hst : sts[i]? = some st) : ∃ j, v = .sl j 0 L.length none 2 ∧ s.next ≤ j ∧ Own byC s t st x.2 ∧ ∃ cs, t.get j = some (.row cs true) ∧ cs[i * 2]? = some (.int .i64 x.1) ∧ cs[i * 2 + 1]? = some st ∧ i * 2 + 2 ≤ cs.length := by
  have hi := getlt hx
  have hzl : ((L.zip sts).map fun y => (AV.int .i64 y.1.1, y.2)).length = L.length := by rw [List.length_map, List.length_zip, h.1, Nat.min_self]
  rcases h.2.1 with ⟨_, e⟩ | ⟨j, rfl, _, g1, g2⟩
  · rw [e] at hzl; simp at hzl; omega
  · have hz : ((L.zip sts).map fun y => (AV.int .i64 y.1.1, y.2))[i]? = some (.int .i64 x.1, st) := by
      rw [List.getElem?_map, show (L.zip sts)[i]? = some (x, st) by rw [List.getElem?_zip_eq_some]; exact ⟨hx, hst⟩]
      rfl
    obtain ⟨c0, c1⟩ := flat2_at hz
    exact ⟨j, by rw [hzl], g1, h.2.2 i x st hx hst, _, g2, c0, c1, by rw [flat2_len, hzl]; omega⟩
theorem Own.blkB {v : AV} {d : List UInt8} (h : Own byC s t v d) {M : List Nat} (hC : Chg M t u) (hM : ∀ id ∈ M, id < s.next ∨ t.next ≤ id) : Own byC s u v d := by
  rcases h with q | ⟨q, rfl, h0, h1, h2⟩
  · exact .inl q
  · refine .inr ⟨q, rfl, h0, h1, hC.blk h2 fun hm => ?_⟩
    have := St.get_lt h2
    rcases hM q hm with k | k <;> omega
theorem OwB.chg {v : AV} {L : List (Int × List UInt8)} {sts : List AV} (h : OwB s t v L sts) {M : List Nat} (hC : Chg M t u) (hM : ∀ id ∈ M, id < s.next ∨ t.next ≤ id) : OwB s u v L sts := by
  refine ⟨h.1, h.2.1.imp (fun q => q) fun ⟨j, e, h0, h1, h2⟩ => ⟨j, e, h0, h1, hC.blk h2 fun hm => ?_⟩, fun i x st h1 h2 => (h.2.2 i x st h1 h2).blkB hC hM⟩
  have := St.get_lt h2
  rcases hM j hm with k | k <;> omega
theorem OwB.bwm {v : AV} {L : List (Int × List UInt8)} {sts : List AV} (h : OwB s t v L sts) {M : List Nat} (hM : ∀ id ∈ M, id < s.next ∨ t.next ≤ id) : BwM M t v L := by
  by_cases hL : L = []
  · subst hL
    rcases h.2.1 with ⟨e, _⟩ | ⟨j, _, h0, _⟩
    · exact .inl ⟨e, rfl⟩
    · simp at h0
  · obtain ⟨x0, hx0⟩ := getsome (List.length_pos_iff.2 hL)
    obtain ⟨st0, hst0⟩ := getsome (show 0 < sts.length by rw [h.1]; exact List.length_pos_iff.2 hL)
    obtain ⟨j, rfl, hj, _⟩ := h.row hx0 hst0
    refine .inr ⟨j, 0, none, rfl, (fun c e => by cases e), fun i x hx => ?_⟩
    obtain ⟨st, hst⟩ := getsome (show i < sts.length by rw [h.1]; exact getlt hx)
    obtain ⟨j', e, _, hO, _⟩ := h.row hx hst
    refine ⟨st, ?_, fun u hC => ?_⟩
    · rcases hO with ⟨rfl, _⟩ | ⟨q, rfl, _⟩
      · exact CapB.nils
      · intro _ _ _ _ _ e
        injection e with _ _ _ e _
        cases e
    · obtain ⟨j2, e2, _, hO2, cs, hg, c0, c1, c2⟩ := (h.chg hC hM).row hx hst
      injection e2 with e2
      subst e2
      rw [Nat.zero_add]
      refine ⟨?_, by simp only [lod1, hg, c0], by simp only [lod1, hg, c1], St.get_lt hg, hO2.read⟩
      simp only [lod, hg]
      rw [if_pos c2, take2 c0 c1]

theorem ne_of_at {α : Type} {l m : List α} {i : Nat} {x y : α} (h1 : l[i]? = some x) (h2 : m[i]? = some y) (h : x ≠ y) : l ≠ m := fun e => by
  subst e
  rw [h1] at h2
  injection h2 with h2
  exact h h2
theorem w_Same2 {s : St} {v1 v2 : AV} {L1 L2 : List (Int × List UInt8)} (h1_ : BwM [] s v1 L1) (h2_ : BwM [] s v2 L2) (hL4 : L1.length ≤ 4000000) : ∀ env : Env, elen env = a26.ntmps → (∀ i x_, [v1, v2][i]? = some x_ → E env i = x_) → awp (tb []) a26.body (fun x e t => (∀ i, x ≠ .exit i) ∧ aresults e t a26.results = some (.bool (decide (L1 = L2))) ∧ Keep s t) env s := by
  intro env hlen ha
  have h0 : E env 0 = _ := ha 0 _ rfl
  have h1 : E env 1 = _ := ha 1 _ rfl
  have hlen : elen env = _ := hlen
  simp only [a26] at hlen
  unfold a26
  try dsimp only [oO, oG]
  have l1 := h1_.len
  have l2 := h2_.len
  by_cases hl : L1.length = L2.length
  rotate_left
  · have z1 := eq_false (show ¬ (L1.length : Int) = (L2.length : Int) by omega)
    rw [decide_eq_false (fun e : L1 = L2 => hl (by rw [e]))]
    simp (config := {contextual := true, maxDischargeDepth := 12}) only [tb_at, h0, h1, hlen, l1, l2, z1, bin_eql, decide_false, Bool.not_false, ↓bD, bU, forall_const, bS, implies_true, isNx, eq_self, ↓wp_cond, ↓wp_loop, ↓reduceIte, reduceCtorEq, Nat.reduceEqDiff, Nat.reduceLT, Nat.reduceAdd, Nat.reduceMul, bT, ↓sg_bsl, ↓st_callf, bX, ar_b2s, bin_mulE, ap_mkfn, ↓wi_seq, ↓wi_base, ↓wi_block, ↓wi_cond, ↓wi_loop, ↓wi_rf, ↓wy_seq, ↓wy_base, ↓wy_block, ↓wy_cond, ↓wy_loop, ↓wy_yld, q_known, ↓sg_callf3]
    all_goals first | exact .refl s | skip
  have z1 := eq_true (show (L1.length : Int) = (L2.length : Int) by omega)
  simp (config := {contextual := true, maxDischargeDepth := 12}) only [tb_at, h0, h1, hlen, l1, l2, z1, bin_eql, decide_true, Bool.not_true, ↓bD, bU, forall_const, bS, implies_true, isNx, eq_self, ↓wp_cond, ↓wp_loop, ↓reduceIte, reduceCtorEq, Nat.reduceEqDiff, Nat.reduceLT, Nat.reduceAdd, Nat.reduceMul, bT, ↓sg_bsl, ↓st_callf, bX, ar_b2s, bin_mulE, ap_mkfn, ↓wi_seq, ↓wi_base, ↓wi_block, ↓wi_cond, ↓wi_loop, ↓wi_rf, ↓wy_seq, ↓wy_base, ↓wy_block, ↓wy_cond, ↓wy_loop, ↓wy_yld, q_known, ↓sg_callf3]
  obtain ⟨I, hI⟩ : ∃ I : Nat → Env → St → Prop, ∀ n e t, I n e t = (Keep s t ∧ ∃ i : Nat, n + i = L1.length ∧ elen e = 43 ∧ E e 0 = v1 ∧ E e 1 = v2 ∧ E e 5 = .int .i64 (i : Int) ∧ L1.take i = L2.take i) := ⟨fun n e t => (Keep s t ∧ ∃ i : Nat, n + i = L1.length ∧ elen e = 43 ∧ E e 0 = v1 ∧ E e 1 = v2 ∧ E e 5 = .int .i64 (i : Int) ∧ L1.take i = L2.take i), fun _ _ _ => rfl⟩
  refine lwp_inv I (n := L1.length) ?_ ?_
  · rw [hI]
    exact ⟨.refl s, 0, by omega, (by simp only [bE, Nat.reduceEqDiff, bN, Nat.reduceLT, hlen]; try rfl), (by simp only [bE, Nat.reduceEqDiff, bN, Nat.reduceLT, hlen, h0]; try rfl), (by simp only [bE, Nat.reduceEqDiff, bN, Nat.reduceLT, hlen, h1]; try rfl), (by simp only [bE, Nat.reduceEqDiff, bN, Nat.reduceLT, hlen]; try rfl), by simp⟩
  clear h0 h1 hlen
  intro n e t hi
  rw [hI] at hi
  obtain ⟨hK, i, hni, he, e0, e1, e5, hti⟩ := hi
  by_cases hlt : i < L1.length
  · obtain ⟨x, hx⟩ := getsome hlt
    obtain ⟨y, hy⟩ := getsome (show i < L2.length by omega)
    have hw2 := wrap_add1 (n := i) (by omega)
    obtain ⟨st1, id1, o1, ⟨i1, _⟩, hl1⟩ := h1_.at hx
    obtain ⟨st2, id2, o2, ⟨i2, _⟩, hl2⟩ := h2_.at hy
    obtain ⟨_, a1, a2, a3, hr1⟩ := hl1 t (hK.chg _)
    obtain ⟨_, b1, b2, b3, hr2⟩ := hl2 t (hK.chg _)
    have g1 := b2s_read hr1
    have g2 := b2s_read hr2
    have ne1 := bin_nes x.2 y.2
    have z2 := eq_true (show (i : Int) < (L1.length : Int) by omega)
    by_cases hb : x.1 = y.1
    rotate_left
    · have y1 := eq_false hb
      rw [decide_eq_false (ne_of_at hx hy fun e => hb (by rw [e]))]
      simp (config := {contextual := true, maxDischargeDepth := 12}) only [tb_at, he, e0, e1, e5, l1, z2, i1, i2, a1, b1, y1, bin_eql, decide_false, Bool.not_false, ↓bD, bU, forall_const, bS, implies_true, isNx, eq_self, ↓wp_cond, ↓wp_loop, ↓reduceIte, reduceCtorEq, Nat.reduceEqDiff, Nat.reduceLT, Nat.reduceAdd, Nat.reduceMul, bT, ↓sg_bsl, ↓st_callf, bX, ar_b2s, bin_mulE, ap_mkfn, ↓wi_seq, ↓wi_base, ↓wi_block, ↓wi_cond, ↓wi_loop, ↓wi_rf, ↓wy_seq, ↓wy_base, ↓wy_block, ↓wy_cond, ↓wy_loop, ↓wy_yld, q_known, ↓sg_callf3]
      all_goals first | exact hK | skip
    have y1 := eq_true hb
    by_cases hd : x.2 = y.2
    rotate_left
    · rw [decide_eq_false hd] at ne1
      rw [decide_eq_false (ne_of_at hx hy fun e => hd (by rw [e]))]
      simp (config := {contextual := true, maxDischargeDepth := 12}) only [tb_at, he, e0, e1, e5, l1, z2, i1, i2, a1, b1, a2, b2, y1, g1, g2, ne1, bin_eql, decide_true, Bool.not_true, Bool.not_false, ↓bD, bU, forall_const, bS, implies_true, isNx, eq_self, ↓wp_cond, ↓wp_loop, ↓reduceIte, reduceCtorEq, Nat.reduceEqDiff, Nat.reduceLT, Nat.reduceAdd, Nat.reduceMul, bT, ↓sg_bsl, ↓st_callf, bX, ar_b2s, bin_mulE, ap_mkfn, ↓wi_seq, ↓wi_base, ↓wi_block, ↓wi_cond, ↓wi_loop, ↓wi_rf, ↓wy_seq, ↓wy_base, ↓wy_block, ↓wy_cond, ↓wy_loop, ↓wy_yld, q_known, ↓sg_callf3]
      all_goals first | exact hK | skip
    rw [decide_eq_true hd] at ne1
    have hxy : x = y := Prod.ext hb hd
    have hti' : L1.take (i + 1) = L2.take (i + 1) := by rw [List.take_add_one, List.take_add_one, hti, hx, hy, hxy]
    simp (config := {contextual := true, maxDischargeDepth := 12}) only [tb_at, he, e0, e1, e5, l1, z2, hw2, i1, i2, a1, b1, a2, b2, y1, g1, g2, ne1, bin_eql, decide_true, Bool.not_true, ↓bD, bU, forall_const, bS, implies_true, isNx, eq_self, ↓wp_cond, ↓wp_loop, ↓reduceIte, reduceCtorEq, Nat.reduceEqDiff, Nat.reduceLT, Nat.reduceAdd, Nat.reduceMul, bT, ↓sg_bsl, ↓st_callf, bX, ar_b2s, bin_mulE, ap_mkfn, ↓wi_seq, ↓wi_base, ↓wi_block, ↓wi_cond, ↓wi_loop, ↓wi_rf, ↓wy_seq, ↓wy_base, ↓wy_block, ↓wy_cond, ↓wy_loop, ↓wy_yld, q_known, ↓sg_callf3]
    refine ⟨n - 1, by omega, ?_⟩
    rw [hI]
    exact ⟨hK, i + 1, by omega, (by simp only [bE, Nat.reduceEqDiff, bN, Nat.reduceLT, he, e0, e1, e5]; try rfl), (by simp only [bE, Nat.reduceEqDiff, bN, Nat.reduceLT, he, e0, e1, e5]; try rfl), (by simp only [bE, Nat.reduceEqDiff, bN, Nat.reduceLT, he, e0, e1, e5]; try rfl), (by simp only [bE, Nat.reduceEqDiff, bN, Nat.reduceLT, he, e0, e1, e5]; try rfl), hti'⟩
  · obtain rfl : i = L1.length := by omega
    have z2 := eq_false (show ¬ (L1.length : Int) < (L1.length : Int) by omega)
    have he12 : L1 = L2 := by
      rw [List.take_length, hl, List.take_length] at hti
      exact hti
    rw [decide_eq_true he12]
    simp (config := {contextual := true, maxDischargeDepth := 12}) only [tb_at, he, e0, e1, e5, l1, z2, ↓bD, bU, forall_const, bS, implies_true, isNx, eq_self, ↓wp_cond, ↓wp_loop, ↓reduceIte, reduceCtorEq, Nat.reduceEqDiff, Nat.reduceLT, Nat.reduceAdd, Nat.reduceMul, bT, ↓sg_bsl, ↓st_callf, bX, ar_b2s, bin_mulE, ap_mkfn, ↓wi_seq, ↓wi_base, ↓wi_block, ↓wi_cond, ↓wi_loop, ↓wi_rf, ↓wy_seq, ↓wy_base, ↓wy_block, ↓wy_cond, ↓wy_loop, ↓wy_yld, q_known, ↓sg_callf3]
    all_goals first | exact hK | skip
theorem q_Same2 (cl : Bool) {s : St} {v1 v2 : AV} {L1 L2 : List (Int × List UInt8)} (h1_ : BwM [] s v1 L1) (h2_ : BwM [] s v2 L2) (hL4 : L1.length ≤ 4000000) : acall R_Same cl [v1, v2] s = some (.bool (decide (L1 = L2)), s) := run_same n_Same (by simp [a26]) rfl (w_Same2 (s := lowd s) h1_.low h2_.low hL4)

theorem bsl_bw {b : Int} {u : AV} (hu : u.cells = [u] ∧ u.one = true) : bslV [.int .i64 0, .nils] 1 2 [(0, .agg [.int .i64 b, u])] = some (fun id => .sl id 0 1 (some 1) 2, .row [.int .i64 b, u] true) := by
  have h1 : (AV.int .i64 b).one = true := rfl
  simp [bslV, fillP_cons, fillP_nil, aev, fstep, AV.cells, h1, hu.2, setAt]
/-- An append that may write nothing that was there. -/
def appF (s : St) (sz b : Nat) (a x : AV) : Option (AV × St) := match appV (lowd s) sz b a x with
  | some (v, t) => if s.next ≤ t.low then some (v, { t with low := min s.low t.low }) else none
  | none => none
theorem st_appf {call : Nat → List AV → St → Option (AV × St)} {base : Nat} {d : Option Nat} {r : Option Nat} {rest : List AOper} {Q : Env → St → Prop} {env : Env} {s : St} (sz b : Nat) (z : List AV) (a x : AO) : awops call base (⟨d, .app sz b z a x, none, r, true⟩ :: rest) Q env s = estep (appF s sz b (aev env a) (aev env x)) fun v t => awops call base rest Q (pE env d v) t := by
  rw [st_efff (op := .app sz b z a x) (by simp) rfl rfl rfl]
  simp only [ae_app, appF, AOp.floor, AOp.isStore, Bool.false_eq_true, if_false]
  cases appV (lowd s) sz b (aev env a) (aev env x) with
  | none => rfl
  | some q =>
    obtain ⟨v, t⟩ := q
    simp only [estep]
    by_cases h : s.next ≤ t.low
    · rw [if_pos h, if_pos h]
    · rw [if_neg h, if_neg h]
theorem appF_list {x : AV} {d : List UInt8} (hr : AM.read byC s x = some d) (hd : d.length ≤ 4000000) : ∃ v t, appF s 1 1 .nils x = some (v, t) ∧ Own byC s t v d ∧ Keep s t := by
  obtain ⟨v, t, h1, h2, h3⟩ := appV_list (C := byC) (Keep.refl (lowd s)) (Own.nil byC _ _) (read_low' hr) 1 (by unfold roomBytes; simp; omega)
  rw [List.nil_append] at h3
  have h1 : appV (lowd s) 1 1 .nils x = some (v, t) := h1
  have hl : s.next ≤ t.low := by
    have := h2.low
    have : min s.next s.next ≤ t.low := this
    omega
  refine ⟨v, { t with low := min s.low t.low }, by simp only [appF, h1, if_pos hl], ?_, h2.next, h2.get, ?_⟩
  · rcases h3 with q | ⟨q, e, h0, g1, g2⟩
    · exact .inl q
    · exact .inr ⟨q, e, h0, g1, g2⟩
  · show min s.low s.next ≤ min s.low t.low
    omega
noncomputable def R_copied : Con := runFn (tb []) a22
theorem s_copied : SoundAt Try.prog 22 R_copied := run_sound (tb_sound (l := []) (by simp)) mixed Try.func22 k22 c22
theorem n_copied : noNxtC a22.body = true := by kernel_rfl
theorem w_copied {s : St} {v : AV} {L : List (Int × List UInt8)} (hv : BwM [] s v L) (hL4 : L.length ≤ 4000000) (hd4 : ∀ x ∈ L, x.2.length ≤ 4000000) : ∀ env : Env, elen env = a22.ntmps → (∀ i x_, [v][i]? = some x_ → E env i = x_) → awp (tb []) a22.body (fun x e t => (∀ i, x ≠ .exit i) ∧ ∃ r, aresults e t a22.results = some r ∧ (∃ sts, OwB s t r L sts) ∧ Keep s t) env s := by
  intro env hlen ha
  have h0 : E env 0 = _ := ha 0 _ rfl
  have hlen : elen env = _ := hlen
  simp only [a22] at hlen
  unfold a22
  try dsimp only [oO, oG]
  have l1 := hv.len
  simp (config := {contextual := true, maxDischargeDepth := 12}) only [tb_at, h0, hlen, ↓bD, bU, forall_const, bS, implies_true, isNx, eq_self, ↓wp_cond, ↓wp_loop, ↓reduceIte, reduceCtorEq, Nat.reduceEqDiff, Nat.reduceLT, Nat.reduceAdd, Nat.reduceMul, bT, ↓sg_bsl, ↓st_callf, bX, ar_b2s, bin_mulE, ap_mkfn, ↓wi_seq, ↓wi_base, ↓wi_block, ↓wi_cond, ↓wi_loop, ↓wi_rf, ↓wy_seq, ↓wy_base, ↓wy_block, ↓wy_cond, ↓wy_loop, ↓wy_yld, q_known, ↓sg_callf3, ↓st_appf]
  obtain ⟨I, hI⟩ : ∃ I : Nat → Env → St → Prop, ∀ n e t, I n e t = (Keep s t ∧ ∃ (i : Nat) (vo : AV) (sts : List AV), n + i = L.length ∧ elen e = 27 ∧ E e 0 = v ∧ E e 3 = vo ∧ E e 4 = .int .i64 (i : Int) ∧ OwB s t vo (L.take i) sts) := ⟨fun n e t => (Keep s t ∧ ∃ (i : Nat) (vo : AV) (sts : List AV), n + i = L.length ∧ elen e = 27 ∧ E e 0 = v ∧ E e 3 = vo ∧ E e 4 = .int .i64 (i : Int) ∧ OwB s t vo (L.take i) sts), fun _ _ _ => rfl⟩
  refine lwp_inv I (n := L.length) ?_ ?_
  · rw [hI]
    exact ⟨.refl s, 0, .nils, [], by omega, (by simp only [bE, Nat.reduceEqDiff, bN, Nat.reduceLT, hlen]; try rfl), (by simp only [bE, Nat.reduceEqDiff, bN, Nat.reduceLT, hlen, h0]; try rfl), (by simp only [bE, Nat.reduceEqDiff, bN, Nat.reduceLT, hlen]; try rfl), (by simp only [bE, Nat.reduceEqDiff, bN, Nat.reduceLT, hlen]; try rfl), OwB.nil⟩
  clear h0 hlen
  intro n e t hi
  rw [hI] at hi
  obtain ⟨hK, i, vo, sts, hni, he, e0, e3, e4, hO⟩ := hi
  by_cases hlt : i < L.length
  · obtain ⟨x, hx⟩ := getsome hlt
    have hw2 := wrap_add1 (n := i) (by omega)
    obtain ⟨st, id, o, ⟨i1, _⟩, hl1⟩ := hv.at hx
    have hKR := keep_reserve t 1
    obtain ⟨_, a1, a2, a3, hr⟩ := hl1 (t.reserve 1) ((hK.trans hKR).chg _)
    have hdx := hd4 x (List.mem_of_getElem? hx)
    obtain ⟨u1, t1, ap, hO1, hK1⟩ := appF_list hr hdx
    have z2 := eq_true (show (i : Int) < (L.length : Int) by omega)
    have hu := read_oneB hO1.read
    have hun : t1.get t.next = some .unborn := by rw [hK1.get _ (by simp), St.get_reserve]; simp
    have f0 := fstep_bw0 (x := .int .i64 x.1) ⟨rfl, rfl⟩ (.int .i64 0) .nils
    have f1 := fstep_bw1 (x := u1) hu (.int .i64 x.1) .nils
    have hbs : bslV [.int .i64 0, .nils] 1 2 [(0, .agg [.int .i64 x.1, u1])] = some (fun id => .sl id 0 1 (some 1) 2, .row [.int .i64 x.1, u1] true) := bsl_bw hu
    have hlt1 := St.get_lt hun
    obtain ⟨t2, ht2⟩ : ∃ t2, t2 = t1.born t.next (.row [.int .i64 x.1, u1] true) := ⟨_, rfl⟩
    have hg2 : t2.get t.next = some (.row [.int .i64 x.1, u1] true) := by rw [ht2]; exact St.get_born_same hun
    have hO2 : Own byC s t2 u1 x.2 := by
      refine (hO1.from (s0 := s) (by have := hK.next; simp; omega)).imp (fun q => q) fun ⟨q, e, h0, g1, g2⟩ => ⟨q, e, h0, g1, ?_⟩
      rw [ht2, St.get_born_ne _ _ hlt1 fun e' => ?_]
      · exact g2
      · rcases hO1 with ⟨e1, _⟩ | ⟨q', e1, _, g3, _⟩
        · rw [e1] at e; cases e
        · rw [e1] at e; injection e with e
          simp at g3
          omega
    have hm2 : ∀ id b, t.get id = some b → t2.get id = some b := fun id b hb => by
      have := St.get_lt hb
      rw [ht2, St.get_born_ne _ _ hlt1 (by omega)]
      exact (hKR.trans hK1).blk hb
    have hK2 : Keep s t2 := by
      rw [ht2]
      exact ((hK.trans hKR).trans hK1).born _ hK.next hlt1
    obtain ⟨v', t3, ap2, hO3, hK3⟩ := (hO.mono hm2).app hg2 hO2 hK2 (by rw [List.length_take]; omega)
    have hti : L.take i ++ [(x.1, x.2)] = L.take (i + 1) := by rw [List.take_add_one, hx]; rfl
    rw [hti] at hO3
    rw [ht2] at ap2
    simp (config := {contextual := true, maxDischargeDepth := 12}) only [tb_at, he, e0, e3, e4, l1, z2, hw2, i1, a1, a2, ap, ap_build, fillP_nil, fillP_cons, f0, f1, aa_bsl1, hbs, hun, ap2, ↓bD, bU, forall_const, bS, implies_true, isNx, eq_self, ↓wp_cond, ↓wp_loop, ↓reduceIte, reduceCtorEq, Nat.reduceEqDiff, Nat.reduceLT, Nat.reduceAdd, Nat.reduceMul, bT, ↓sg_bsl, ↓st_callf, bX, ar_b2s, bin_mulE, ap_mkfn, ↓wi_seq, ↓wi_base, ↓wi_block, ↓wi_cond, ↓wi_loop, ↓wi_rf, ↓wy_seq, ↓wy_base, ↓wy_block, ↓wy_cond, ↓wy_loop, ↓wy_yld, q_known, ↓sg_callf3, ↓st_appf]
    refine ⟨n - 1, by omega, ?_⟩
    rw [hI]
    exact ⟨hK3, i + 1, v', _, by omega, (by simp only [bE, Nat.reduceEqDiff, bN, Nat.reduceLT, he, e0, e3, e4]; try rfl), (by simp only [bE, Nat.reduceEqDiff, bN, Nat.reduceLT, he, e0, e3, e4]; try rfl), (by simp only [bE, Nat.reduceEqDiff, bN, Nat.reduceLT, he, e0, e3, e4]; try rfl), (by simp only [bE, Nat.reduceEqDiff, bN, Nat.reduceLT, he, e0, e3, e4]; try rfl), hO3⟩
  · obtain rfl : i = L.length := by omega
    have z2 := eq_false (show ¬ (L.length : Int) < (L.length : Int) by omega)
    rw [List.take_length] at hO
    simp (config := {contextual := true, maxDischargeDepth := 12}) only [tb_at, he, e0, e3, e4, l1, z2, ↓bD, bU, forall_const, bS, implies_true, isNx, eq_self, ↓wp_cond, ↓wp_loop, ↓reduceIte, reduceCtorEq, Nat.reduceEqDiff, Nat.reduceLT, Nat.reduceAdd, Nat.reduceMul, bT, ↓sg_bsl, ↓st_callf, bX, ar_b2s, bin_mulE, ap_mkfn, ↓wi_seq, ↓wi_base, ↓wi_block, ↓wi_cond, ↓wi_loop, ↓wi_rf, ↓wy_seq, ↓wy_base, ↓wy_block, ↓wy_cond, ↓wy_loop, ↓wy_yld, q_known, ↓sg_callf3, ↓st_appf]
    first | exact ⟨_, rfl, ⟨_, hO⟩, hK⟩ | exact ⟨⟨_, hO⟩, hK⟩ | exact ⟨_, hO⟩

end Go.AM
end
/-
  The reference's Bad, Write, From and Read. Own work of this project; in part printed by a program of it.
-/
section
set_option maxRecDepth 100000
set_option maxHeartbeats 8000000
namespace Go.AM
open Go Go.Proofs

variable {s t u : St}
theorem q_copied {s : St} {v : AV} {L : List (Int × List UInt8)} (hv : BwM [] s v L) (hL4 : L.length ≤ 4000000) (hd4 : ∀ x ∈ L, x.2.length ≤ 4000000) : ∃ v' sts t, acall R_copied false [v] s = some (v', t) ∧ OwB s t v' L sts ∧ Keep s t := by
  obtain ⟨r, t, h1, ⟨sts, h2⟩, h3⟩ := run_any (s := s) n_copied (args := [v]) (Q := fun r t => ∃ sts, OwB s t r L sts) (by simp [a22]) (fun r t t' hg hn ⟨sts, h⟩ => ⟨sts, h.mono fun id b hb => by rw [hg]; exact hb⟩) (fun r t hgr hk ⟨sts, h⟩ => ⟨sts, by
    rcases h.2.1 with ⟨rfl, e⟩ | ⟨j, rfl, _⟩
    · have := congrArg List.length e
      rw [List.length_map, List.length_zip, h.1] at this
      simp at this
      subst this
      have h0 := h.1
      obtain rfl : sts = [] := by simpa using h0
      exact OwB.nil
    · simp [AV.ground, AV.plain] at hgr⟩) (w_copied (s := lowd s) hv.low hL4 hd4)
  exact ⟨r, sts, t, h1, h2, h3⟩
noncomputable def R_RBad : Con := runFn (tb []) a33
theorem s_RBad : SoundAt Try.prog 33 R_RBad := run_sound (tb_sound (l := []) (by simp)) mixed Try.func33 k33 c33
theorem n_RBad : noNxtC a33.body = true := by kernel_rfl
theorem w_RBad {s : St} {s0 : St} {ix jx z : Nat} {qs : List Nat} {ls : List (List UInt8)} (hx : XkR s0 s ix jx qs z ls) {M : List Nat} {v : AV} {L : List (Int × List UInt8)} (hv : BwM M s v L) (hL4 : L.length ≤ 4000000) : ∀ env : Env, elen env = a33.ntmps → (∀ i x_, [.ptr ix 0, v][i]? = some x_ → E env i = x_) → awp (tb []) a33.body (fun x e t => (∀ i, x ≠ .exit i) ∧ aresults e t a33.results = some (.int .i64 (checkP ls.length z L)) ∧ Keep s t) env s := by
  intro env hlen ha
  have h0 : E env 0 = _ := ha 0 _ rfl
  have h1 : E env 1 = _ := ha 1 _ rfl
  have hlen : elen env = _ := hlen
  simp only [a33] at hlen
  unfold a33
  try dsimp only [oO, oG]
  have hL := hv.len
  by_cases hbig : 10000 < L.length
  · have z1 := eq_true (show (10000 : Int) < (L.length : Int) by omega)
    have hS : checkP ls.length z L = 5 := by unfold checkP; rw [if_pos hbig]
    rw [hS]
    simp (config := {contextual := true, maxDischargeDepth := 12}) only [tb_at, h0, h1, hlen, hL, z1, ↓bD, bU, forall_const, bS, implies_true, isNx, eq_self, ↓wp_cond, ↓wp_loop, ↓reduceIte, reduceCtorEq, Nat.reduceEqDiff, Nat.reduceLT, Nat.reduceAdd, Nat.reduceMul, bT, ↓sg_bsl, ↓st_callf, bX, ar_b2s, bin_mulE, ap_mkfn, ↓wi_seq, ↓wi_base, ↓wi_block, ↓wi_cond, ↓wi_loop, ↓wi_rf, ↓wy_seq, ↓wy_base, ↓wy_block, ↓wy_cond, ↓wy_loop, ↓wy_yld, q_known, ↓sg_callf3, ↓st_appf]
    all_goals first | exact .refl s | skip
  · have z1 := eq_false (show ¬ (10000 : Int) < (L.length : Int) by omega)
    have hS : checkP ls.length z L = chkL ls.length z L := by unfold checkP; rw [if_neg hbig]
    rw [hS]
    simp (config := {contextual := true, maxDischargeDepth := 12}) only [tb_at, h0, h1, hlen, hL, z1, ↓bD, bU, forall_const, bS, implies_true, isNx, eq_self, ↓wp_cond, ↓wp_loop, ↓reduceIte, reduceCtorEq, Nat.reduceEqDiff, Nat.reduceLT, Nat.reduceAdd, Nat.reduceMul, bT, ↓sg_bsl, ↓st_callf, bX, ar_b2s, bin_mulE, ap_mkfn, ↓wi_seq, ↓wi_base, ↓wi_block, ↓wi_cond, ↓wi_loop, ↓wi_rf, ↓wy_seq, ↓wy_base, ↓wy_block, ↓wy_cond, ↓wy_loop, ↓wy_yld, q_known, ↓sg_callf3, ↓st_appf]
    obtain ⟨I, hI⟩ : ∃ I : Nat → Env → St → Prop, ∀ n e t, I n e t = (Keep s t ∧ ∃ i : Nat, n + i = L.length ∧ elen e = 45 ∧ E e 0 = .ptr ix 0 ∧ E e 1 = v ∧ E e 5 = .int .i64 (i : Int) ∧ chkL ls.length z L = chkL ls.length z (L.drop i)) := ⟨fun n e t => (Keep s t ∧ ∃ i : Nat, n + i = L.length ∧ elen e = 45 ∧ E e 0 = .ptr ix 0 ∧ E e 1 = v ∧ E e 5 = .int .i64 (i : Int) ∧ chkL ls.length z L = chkL ls.length z (L.drop i)), fun _ _ _ => rfl⟩
    refine lwp_inv I (n := L.length) ?_ ?_
    · rw [hI]
      exact ⟨.refl s, 0, by omega, (by simp only [bE, Nat.reduceEqDiff, bN, Nat.reduceLT, hlen]; try rfl), (by simp only [bE, Nat.reduceEqDiff, bN, Nat.reduceLT, hlen, h0]; try rfl), (by simp only [bE, Nat.reduceEqDiff, bN, Nat.reduceLT, hlen, h1]; try rfl), (by simp only [bE, Nat.reduceEqDiff, bN, Nat.reduceLT, hlen]; try rfl), rfl⟩
    clear h0 h1 hlen
    intro n e t hi
    rw [hI] at hi
    obtain ⟨hK, i, hni, he, e0, e1, e5, hch⟩ := hi
    rw [hch]
    by_cases hlt : i < L.length
    · obtain ⟨x, hxx⟩ := getsome hlt
      have hw2 := wrap_add1 (n := i) (by omega)
      have z2 := eq_true (show (i : Int) < (L.length : Int) by omega)
      obtain ⟨st, ib, ob, ⟨i1, _⟩, hl⟩ := hv.at hxx
      obtain ⟨a1, a2, a3, a4, hrd⟩ := hl t (hK.chg _)
      have hLs := lenV_read hrd
      have hxt := hx.keep hK
      obtain ⟨b0, b1, blt⟩ := row2_lod hxt.box
      have hLq : lenV (.sl jx 0 qs.length none 1) = some (.int .i64 (ls.length : Int)) := by rw [hx.len]; rfl
      rw [chk_at hxx]
      by_cases hb0 : x.1 < 0
      · have y1 := eq_true hb0
        rw [if_pos (.inl hb0)]
        simp (config := {contextual := true, maxDischargeDepth := 12}) only [tb_at, he, e0, e1, e5, hL, z2, i1, a2, y1, ↓bD, bU, forall_const, bS, implies_true, isNx, eq_self, ↓wp_cond, ↓wp_loop, ↓reduceIte, reduceCtorEq, Nat.reduceEqDiff, Nat.reduceLT, Nat.reduceAdd, Nat.reduceMul, bT, ↓sg_bsl, ↓st_callf, bX, ar_b2s, bin_mulE, ap_mkfn, ↓wi_seq, ↓wi_base, ↓wi_block, ↓wi_cond, ↓wi_loop, ↓wi_rf, ↓wy_seq, ↓wy_base, ↓wy_block, ↓wy_cond, ↓wy_loop, ↓wy_yld, q_known, ↓sg_callf3, ↓st_appf]
        all_goals first | exact hK | skip
      · have y1 := eq_false hb0
        by_cases hb1 : (ls.length : Int) ≤ x.1
        · have y2 := eq_true hb1
          rw [if_pos (.inr hb1)]
          simp (config := {contextual := true, maxDischargeDepth := 12}) only [tb_at, he, e0, e1, e5, hL, z2, i1, a2, y1, y2, b0, b1, blt, nchkV_ptr, hLq, ↓bD, bU, forall_const, bS, implies_true, isNx, eq_self, ↓wp_cond, ↓wp_loop, ↓reduceIte, reduceCtorEq, Nat.reduceEqDiff, Nat.reduceLT, Nat.reduceAdd, Nat.reduceMul, bT, ↓sg_bsl, ↓st_callf, bX, ar_b2s, bin_mulE, ap_mkfn, ↓wi_seq, ↓wi_base, ↓wi_block, ↓wi_cond, ↓wi_loop, ↓wi_rf, ↓wy_seq, ↓wy_base, ↓wy_block, ↓wy_cond, ↓wy_loop, ↓wy_yld, q_known, ↓sg_callf3, ↓st_appf]
          all_goals first | exact hK | skip
        · have y2 := eq_false hb1
          rw [if_neg (by omega)]
          by_cases h5 : z < x.2.length
          · have y3 := eq_true (show (z : Int) < (x.2.length : Int) by omega)
            rw [if_pos h5]
            simp (config := {contextual := true, maxDischargeDepth := 12}) only [tb_at, he, e0, e1, e5, hL, z2, i1, a2, a3, y1, y2, y3, b0, b1, blt, nchkV_ptr, hLq, hLs, ↓bD, bU, forall_const, bS, implies_true, isNx, eq_self, ↓wp_cond, ↓wp_loop, ↓reduceIte, reduceCtorEq, Nat.reduceEqDiff, Nat.reduceLT, Nat.reduceAdd, Nat.reduceMul, bT, ↓sg_bsl, ↓st_callf, bX, ar_b2s, bin_mulE, ap_mkfn, ↓wi_seq, ↓wi_base, ↓wi_block, ↓wi_cond, ↓wi_loop, ↓wi_rf, ↓wy_seq, ↓wy_base, ↓wy_block, ↓wy_cond, ↓wy_loop, ↓wy_yld, q_known, ↓sg_callf3, ↓st_appf]
            all_goals first | exact hK | skip
          · have y3 := eq_false (show ¬ (z : Int) < (x.2.length : Int) by omega)
            have hch' : chkL ls.length z L = chkL ls.length z (L.drop (i + 1)) := by rw [hch, chk_at hxx, if_neg (by omega), if_neg h5]
            rw [if_neg h5]
            simp (config := {contextual := true, maxDischargeDepth := 12}) only [tb_at, he, e0, e1, e5, hL, z2, i1, a2, a3, y1, y2, y3, b0, b1, blt, nchkV_ptr, hLq, hLs, hw2, ↓bD, bU, forall_const, bS, implies_true, isNx, eq_self, ↓wp_cond, ↓wp_loop, ↓reduceIte, reduceCtorEq, Nat.reduceEqDiff, Nat.reduceLT, Nat.reduceAdd, Nat.reduceMul, bT, ↓sg_bsl, ↓st_callf, bX, ar_b2s, bin_mulE, ap_mkfn, ↓wi_seq, ↓wi_base, ↓wi_block, ↓wi_cond, ↓wi_loop, ↓wi_rf, ↓wy_seq, ↓wy_base, ↓wy_block, ↓wy_cond, ↓wy_loop, ↓wy_yld, q_known, ↓sg_callf3, ↓st_appf]
            refine ⟨n - 1, by omega, ?_⟩
            rw [hI]
            exact ⟨hK, i + 1, by omega, (by simp only [bE, Nat.reduceEqDiff, bN, Nat.reduceLT, he, e0, e1, e5]; try rfl), (by simp only [bE, Nat.reduceEqDiff, bN, Nat.reduceLT, he, e0, e1, e5]; try rfl), (by simp only [bE, Nat.reduceEqDiff, bN, Nat.reduceLT, he, e0, e1, e5]; try rfl), (by simp only [bE, Nat.reduceEqDiff, bN, Nat.reduceLT, he, e0, e1, e5]; try rfl), hch'⟩
    · obtain rfl : i = L.length := by omega
      have z2 := eq_false (show ¬ (L.length : Int) < (L.length : Int) by omega)
      rw [List.drop_length]
      simp (config := {contextual := true, maxDischargeDepth := 12}) only [tb_at, he, e0, e1, e5, hL, z2, ↓bD, bU, forall_const, bS, implies_true, isNx, eq_self, ↓wp_cond, ↓wp_loop, ↓reduceIte, reduceCtorEq, Nat.reduceEqDiff, Nat.reduceLT, Nat.reduceAdd, Nat.reduceMul, bT, ↓sg_bsl, ↓st_callf, bX, ar_b2s, bin_mulE, ap_mkfn, ↓wi_seq, ↓wi_base, ↓wi_block, ↓wi_cond, ↓wi_loop, ↓wi_rf, ↓wy_seq, ↓wy_base, ↓wy_block, ↓wy_cond, ↓wy_loop, ↓wy_yld, q_known, ↓sg_callf3, ↓st_appf]
      all_goals first | exact ⟨rfl, hK⟩ | exact hK | skip
theorem q_RBad (cl : Bool) {s : St} {s0 : St} {ix jx z : Nat} {qs : List Nat} {ls : List (List UInt8)} (hx : XkR s0 s ix jx qs z ls) {M : List Nat} {v : AV} {L : List (Int × List UInt8)} (hv : BwM M s v L) (hL4 : L.length ≤ 4000000) : acall R_RBad cl [.ptr ix 0, v] s = some (.int .i64 (checkP ls.length z L), s) := run_same n_RBad (by simp [a33]) rfl (w_RBad (s := lowd s) hx.low hv.low hL4)
noncomputable def R_RWrite : Con := runFn (tb [(33, R_RBad), (34, R_Rput)]) a16
theorem s_RWrite : SoundAt Try.prog 16 R_RWrite := run_sound (tb_sound (l := [(33, R_RBad), (34, R_Rput)]) (by simpa using ⟨s_RBad, s_Rput⟩)) mixed Try.func16 k16 c16
theorem n_RWrite : noNxtC a16.body = true := by kernel_rfl

def putR (ls : List (List UInt8)) (x : Int × List UInt8) (m : Nat) : List (List UInt8) := ls.set x.1.toNat (x.2.take m ++ ((ls[x.1.toNat]?).getD []).drop m)
def wrR (ls : List (List UInt8)) (L : List (Int × List UInt8)) : List (List UInt8) := L.foldl (fun ls x => putR ls x x.2.length) ls
theorem putR_len (ls : List (List UInt8)) (x : Int × List UInt8) (m : Nat) : (putR ls x m).length = ls.length := by simp [putR]
theorem wrR_len (ls : List (List UInt8)) (L : List (Int × List UInt8)) : (wrR ls L).length = ls.length := by
  unfold wrR
  induction L generalizing ls with
  | nil => rfl
  | cons x r ih => rw [List.foldl_cons, ih, putR_len]
theorem wrR_snoc {i : Nat} {ls : List (List UInt8)} {L : List (Int × List UInt8)} {x : Int × List UInt8} (hx : L[i]? = some x) : wrR ls (L.take (i + 1)) = putR (wrR ls (L.take i)) x x.2.length := by
  unfold wrR
  rw [List.take_add_one, hx, List.foldl_append]
  rfl
def wrRS (z : Nat) (ls : List (List UInt8)) (L : List (Int × List UInt8)) : List (List UInt8) := if checkP ls.length z L = 0 then wrR ls L else ls
/-- put, told by its block write. -/
theorem q_RputX {s : St} {s0 : St} {ix jx z : Nat} {qs : List Nat} {ls : List (List UInt8)} (hx : XkR s0 s ix jx qs z ls) {x : Int × List UInt8} (h0_ : 0 ≤ x.1) (hlt : x.1 < (ls.length : Int)) {st : AV} (hst : ∀ t, Chg qs s t → AM.read byC t st = some x.2) {m : Nat} (hm : m ≤ x.2.length) (hmz : m ≤ z) : ∃ t, acall R_Rput false [.ptr ix 0, .agg [.int .i64 x.1, st], .int .i64 (m : Int)] s = some (.tup [], t) ∧ XkR s0 t ix jx qs z (putR ls x m) ∧ Chg qs s t := by
  obtain ⟨b, hb⟩ : ∃ b : Nat, x.1 = (b : Int) := ⟨x.1.toNat, by omega⟩
  obtain ⟨l, hl⟩ := getsome (show b < ls.length by omega)
  obtain ⟨t, h1, h2, h3⟩ := q_Rput hx hl hst hm hmz
  refine ⟨t, by rw [hb]; exact h1, ?_, h3⟩
  have e : x.1.toNat = b := by omega
  unfold putR
  rw [e, hl]
  exact h2
theorem w_RWrite {s : St} {s0 : St} {ix jx z : Nat} {qs : List Nat} {ls : List (List UInt8)} (hx : XkR s0 s ix jx qs z ls) {v : AV} {L : List (Int × List UInt8)} (hv : BwM qs s v L) (hL4 : L.length ≤ 4000000) : ∀ env : Env, elen env = a16.ntmps → (∀ i x_, [.ptr ix 0, v][i]? = some x_ → E env i = x_) → awp (tb [(33, R_RBad), (34, R_Rput)]) a16.body (fun x e t => (∀ i, x ≠ .exit i) ∧ ∃ r, aresults e t a16.results = some r ∧ (r = .int .i64 (checkP ls.length z L) ∧ XkR s0 t ix jx qs z (wrRS z ls L) ∧ Chg qs s t)) env s := by
  intro env hlen ha
  have h0 : E env 0 = _ := ha 0 _ rfl
  have h1 : E env 1 = _ := ha 1 _ rfl
  have hlen : elen env = _ := hlen
  simp only [a16] at hlen
  unfold a16
  try dsimp only [oO, oG]
  have hL := hv.len
  have q1 := q_RBad false hx hv hL4
  by_cases hc : checkP ls.length z L = 0
  rotate_left
  · have hS : wrRS z ls L = ls := by unfold wrRS; rw [if_neg hc]
    have n00 := eq_false hc
    rw [hS]
    simp (config := {contextual := true, maxDischargeDepth := 12}) only [tb_at, h0, h1, hlen, q1, n00, decide_false, bin_eql, Bool.not_false, ↓bD, bU, forall_const, bS, implies_true, isNx, eq_self, ↓wp_cond, ↓wp_loop, ↓reduceIte, reduceCtorEq, Nat.reduceEqDiff, Nat.reduceLT, Nat.reduceAdd, Nat.reduceMul, bT, ↓sg_bsl, ↓st_callf, bX, ar_b2s, bin_mulE, ap_mkfn, ↓wi_seq, ↓wi_base, ↓wi_block, ↓wi_cond, ↓wi_loop, ↓wi_rf, ↓wy_seq, ↓wy_base, ↓wy_block, ↓wy_cond, ↓wy_loop, ↓wy_yld, q_known, ↓sg_callf3, ↓st_appf]
    first | exact ⟨_, rfl, rfl, hx, Chg.refl _ _⟩ | exact ⟨hx, Chg.refl _ _⟩
  have hS : wrRS z ls L = wrR ls L := by unfold wrRS; rw [if_pos hc]
  have hfit := checkP_fits hc
  rw [hc] at q1
  have n00 : ((0 : Int) = 0) = True := eq_true rfl
  rw [hS, hc]
  simp (config := {contextual := true, maxDischargeDepth := 12}) only [tb_at, h0, h1, hlen, q1, n00, decide_true, bin_eql, Bool.not_true, ↓bD, bU, forall_const, bS, implies_true, isNx, eq_self, ↓wp_cond, ↓wp_loop, ↓reduceIte, reduceCtorEq, Nat.reduceEqDiff, Nat.reduceLT, Nat.reduceAdd, Nat.reduceMul, bT, ↓sg_bsl, ↓st_callf, bX, ar_b2s, bin_mulE, ap_mkfn, ↓wi_seq, ↓wi_base, ↓wi_block, ↓wi_cond, ↓wi_loop, ↓wi_rf, ↓wy_seq, ↓wy_base, ↓wy_block, ↓wy_cond, ↓wy_loop, ↓wy_yld, q_known, ↓sg_callf3, ↓st_appf]
  obtain ⟨I, hI⟩ : ∃ I : Nat → Env → St → Prop, ∀ n e t, I n e t = (Chg qs s t ∧ ∃ i : Nat, n + i = L.length ∧ elen e = 31 ∧ E e 0 = .ptr ix 0 ∧ E e 1 = v ∧ E e 6 = .int .i64 (i : Int) ∧ XkR s0 t ix jx qs z (wrR ls (L.take i))) := ⟨fun n e t => (Chg qs s t ∧ ∃ i : Nat, n + i = L.length ∧ elen e = 31 ∧ E e 0 = .ptr ix 0 ∧ E e 1 = v ∧ E e 6 = .int .i64 (i : Int) ∧ XkR s0 t ix jx qs z (wrR ls (L.take i))), fun _ _ _ => rfl⟩
  refine lwp_inv I (n := L.length) ?_ ?_
  · rw [hI]
    exact ⟨Chg.refl _ _, 0, by omega, (by simp only [bE, Nat.reduceEqDiff, bN, Nat.reduceLT, hlen]; try rfl), (by simp only [bE, Nat.reduceEqDiff, bN, Nat.reduceLT, hlen, h0]; try rfl), (by simp only [bE, Nat.reduceEqDiff, bN, Nat.reduceLT, hlen, h1]; try rfl), (by simp only [bE, Nat.reduceEqDiff, bN, Nat.reduceLT, hlen]; try rfl), hx⟩
  clear h0 h1 hlen q1
  intro n e t hi
  rw [hI] at hi
  obtain ⟨hK, i, hni, he, e0, e1, e6, hX⟩ := hi
  by_cases hlt : i < L.length
  · obtain ⟨x, hxx⟩ := getsome hlt
    have hw2 := wrap_add1 (n := i) (by omega)
    have z2 := eq_true (show (i : Int) < (L.length : Int) by omega)
    obtain ⟨st, ib, ob, ⟨i1, _⟩, hl⟩ := hv.at hxx
    obtain ⟨a1, a2, a3, a4, hrd⟩ := hl t hK
    have hLs := lenV_read hrd
    obtain ⟨f1, f2, f3⟩ := hfit x (List.mem_of_getElem? hxx)
    obtain ⟨t', q2, hX', hK'⟩ := q_RputX hX (x := x) f1 (by rw [wrR_len]; exact f2) (st := st) (fun u hu => (hl u (hK.trans hu fun id hid => .inl hid)).2.2.2.2) (m := x.2.length) (Nat.le_refl _) f3
    rw [← wrR_snoc hxx] at hX'
    have hK2 := hK.trans hK' fun id hid => .inl hid
    simp (config := {contextual := true, maxDischargeDepth := 12}) only [tb_at, he, e0, e1, e6, hL, z2, hw2, i1, a1, a3, hLs, q2, ↓bD, bU, forall_const, bS, implies_true, isNx, eq_self, ↓wp_cond, ↓wp_loop, ↓reduceIte, reduceCtorEq, Nat.reduceEqDiff, Nat.reduceLT, Nat.reduceAdd, Nat.reduceMul, bT, ↓sg_bsl, ↓st_callf, bX, ar_b2s, bin_mulE, ap_mkfn, ↓wi_seq, ↓wi_base, ↓wi_block, ↓wi_cond, ↓wi_loop, ↓wi_rf, ↓wy_seq, ↓wy_base, ↓wy_block, ↓wy_cond, ↓wy_loop, ↓wy_yld, q_known, ↓sg_callf3, ↓st_appf]
    refine ⟨n - 1, by omega, ?_⟩
    rw [hI]
    exact ⟨hK2, i + 1, by omega, (by simp only [bE, Nat.reduceEqDiff, bN, Nat.reduceLT, he, e0, e1, e6]; try rfl), (by simp only [bE, Nat.reduceEqDiff, bN, Nat.reduceLT, he, e0, e1, e6]; try rfl), (by simp only [bE, Nat.reduceEqDiff, bN, Nat.reduceLT, he, e0, e1, e6]; try rfl), (by simp only [bE, Nat.reduceEqDiff, bN, Nat.reduceLT, he, e0, e1, e6]; try rfl), hX'⟩
  · obtain rfl : i = L.length := by omega
    have z2 := eq_false (show ¬ (L.length : Int) < (L.length : Int) by omega)
    rw [List.take_length] at hX
    simp (config := {contextual := true, maxDischargeDepth := 12}) only [tb_at, he, e0, e1, e6, hL, z2, ↓bD, bU, forall_const, bS, implies_true, isNx, eq_self, ↓wp_cond, ↓wp_loop, ↓reduceIte, reduceCtorEq, Nat.reduceEqDiff, Nat.reduceLT, Nat.reduceAdd, Nat.reduceMul, bT, ↓sg_bsl, ↓st_callf, bX, ar_b2s, bin_mulE, ap_mkfn, ↓wi_seq, ↓wi_base, ↓wi_block, ↓wi_cond, ↓wi_loop, ↓wi_rf, ↓wy_seq, ↓wy_base, ↓wy_block, ↓wy_cond, ↓wy_loop, ↓wy_yld, q_known, ↓sg_callf3, ↓st_appf]
    first | exact ⟨_, rfl, rfl, hX, hK⟩ | exact ⟨hX, hK⟩
theorem XkR.same {s0 : St} {ix jx z : Nat} {qs : List Nat} {ls0 ls : List (List UInt8)} (h0 : XkR s0 s ix jx qs z ls0) (h : XkR s0 t ix jx qs z ls) (g : ∀ id, id < s.next → u.get id = t.get id) : XkR s0 u ix jx qs z ls := ⟨by rw [g _ (St.get_lt h0.box)]; exact h.box, by rw [g _ (St.get_lt h0.lst)]; exact h.lst, h.len, h.nd, fun i q hq => by
    obtain ⟨_, _, _, k⟩ := h0.row i q hq
    rw [g _ (St.get_lt k)]
    exact h.row i q hq, h.pos, h.z4, h.hix, h.hjx, h.hqs⟩
theorem q_RWrite {s : St} {s0 : St} {ix jx z : Nat} {qs : List Nat} {ls : List (List UInt8)} (hx : XkR s0 s ix jx qs z ls) {v : AV} {L : List (Int × List UInt8)} (hv : BwM qs s v L) (hL4 : L.length ≤ 4000000) : ∃ t, acall R_RWrite false [.ptr ix 0, v] s = some (.int .i64 (checkP ls.length z L), t) ∧ XkR s0 t ix jx qs z (wrRS z ls L) ∧ Chg qs s t := by
  obtain ⟨r, t, h1, rfl, h2, h3⟩ := run_awp n_RWrite (args := [.ptr ix 0, v]) (by simp [a16]) (w_RWrite (s := lowd s) hx.low hv.low hL4)
  obtain ⟨t', g1, g2, _, g4⟩ := run_chg s_RWrite h1 h3
  exact ⟨t', g1, hx.same h2 g2, g4⟩

theorem flat_take_le (ls : List (List UInt8)) (k i : Nat) : ((ls.drop k).take i).flatten.length ≤ ls.flatten.length := by
  have h1 : ∀ (l : List (List UInt8)) (n : Nat), (l.take n).flatten.length ≤ l.flatten.length := fun l n => by
    have := congrArg (fun x => x.flatten.length) (List.take_append_drop n l)
    simp only [List.flatten_append, List.length_append] at this
    omega
  have h2 : (ls.drop k).flatten.length ≤ ls.flatten.length := by
    have := congrArg (fun x => x.flatten.length) (List.take_append_drop k ls)
    simp only [List.flatten_append, List.length_append] at this
    omega
  exact Nat.le_trans (h1 _ _) h2
theorem w_RFromK {s : St} {s0 : St} {id z : Nat} {lv : AV} {vs : List AV} {ls : List (List UInt8)} (hx : RkR s0 s id lv vs z ls) (hn : ls.length ≤ 5000) (hb : ls.flatten.length ≤ 4000000) {k : Nat} (hk : k ≤ ls.length) : ∀ env : Env, elen env = a30.ntmps → (∀ i x_, [.ptr id 0, .int .i64 (k : Int)][i]? = some x_ → E env i = x_) → awp (tb []) a30.body (fun x e t => (∀ i, x ≠ .exit i) ∧ Keep s t ∧ ∃ r, aresults e t a30.results = some r ∧ Own byC s t r (ls.drop k).flatten) env s := by
  intro env hlen ha
  have h0 : E env 0 = _ := ha 0 _ rfl
  have h1 : E env 1 = _ := ha 1 _ rfl
  have hlen : elen env = _ := hlen
  simp only [a30] at hlen
  unfold a30
  try dsimp only [oO, oG]
  obtain ⟨b0, b1, blt⟩ := row2_lod hx.box
  have hL := hx.lenV
  simp (config := {contextual := true, maxDischargeDepth := 12}) only [tb_at, h0, h1, hlen, ↓bD, bU, forall_const, bS, implies_true, isNx, eq_self, ↓wp_cond, ↓wp_loop, ↓reduceIte, reduceCtorEq, Nat.reduceEqDiff, Nat.reduceLT, Nat.reduceAdd, Nat.reduceMul, bT, ↓sg_bsl, ↓st_callf, bX, ar_b2s, bin_mulE, ap_mkfn, ↓wi_seq, ↓wi_base, ↓wi_block, ↓wi_cond, ↓wi_loop, ↓wi_rf, ↓wy_seq, ↓wy_base, ↓wy_block, ↓wy_cond, ↓wy_loop, ↓wy_yld, q_known, ↓sg_callf3, ↓st_appf]
  obtain ⟨I, hI⟩ : ∃ I : Nat → Env → St → Prop, ∀ n e t, I n e t = (Keep s t ∧ ∃ i : Nat, n + i = ls.length - k ∧ elen e = 27 ∧ E e 0 = .ptr id 0 ∧ E e 6 = .int .i64 ((k + i : Nat) : Int) ∧ Own byC s t (E e 5) ((ls.drop k).take i).flatten) := ⟨fun n e t => (Keep s t ∧ ∃ i : Nat, n + i = ls.length - k ∧ elen e = 27 ∧ E e 0 = .ptr id 0 ∧ E e 6 = .int .i64 ((k + i : Nat) : Int) ∧ Own byC s t (E e 5) ((ls.drop k).take i).flatten), fun _ _ _ => rfl⟩
  refine lwp_inv I (n := ls.length - k) ?_ ?_
  · rw [hI]
    exact ⟨.refl s, 0, by omega, (by simp only [bE, Nat.reduceEqDiff, bN, Nat.reduceLT, hlen]; try rfl), (by simp only [bE, Nat.reduceEqDiff, bN, Nat.reduceLT, hlen, h0]; try rfl), (by simp only [bE, Nat.reduceEqDiff, bN, Nat.reduceLT, hlen, h1, Nat.add_zero]; try rfl), by simp only [bE, Nat.reduceEqDiff, bN, Nat.reduceLT, hlen]; exact .nil _ _ _⟩
  clear h0 h1 hlen
  intro n e t hi
  rw [hI] at hi
  obtain ⟨hK, i, hni, he, e0, e6, hO⟩ := hi
  have hxt := hx.keep hK
  obtain ⟨b0, b1, blt⟩ := row2_lod hxt.box
  by_cases hlt : k + i < ls.length
  · obtain ⟨x, hxi⟩ := getsome hlt
    have hw2 := wrap_add1 (n := k + i) (by omega)
    obtain ⟨v, jj, i1, a1, a2, hr⟩ := hxt.at hxi
    have hsn : ((ls.drop k).take (i + 1)).flatten = ((ls.drop k).take i).flatten ++ x := by
      rw [List.take_add_one, List.getElem?_drop, hxi, List.flatten_append]
      simp
    have hb1 := flat_take_le ls k (i + 1)
    rw [hsn, List.length_append] at hb1
    obtain ⟨u1, t1, ap, hK', hO'⟩ := appV_list (C := byC) hK hO hr 1 (by unfold roomBytes; omega)
    have ap : appV t 1 1 (E e 5) v = some (u1, t1) := ap
    have z1 := eq_true (show ((k + i : Nat) : Int) < (ls.length : Int) by omega)
    rw [Nat.add_assoc] at hw2
    simp (config := {contextual := true, maxDischargeDepth := 12}) only [tb_at, he, e0, e6, hL, b0, b1, blt, nchkV_ptr, z1, hw2, i1, a1, a2, ap, ↓bD, bU, forall_const, bS, implies_true, isNx, eq_self, ↓wp_cond, ↓wp_loop, ↓reduceIte, reduceCtorEq, Nat.reduceEqDiff, Nat.reduceLT, Nat.reduceAdd, Nat.reduceMul, bT, ↓sg_bsl, ↓st_callf, bX, ar_b2s, bin_mulE, ap_mkfn, ↓wi_seq, ↓wi_base, ↓wi_block, ↓wi_cond, ↓wi_loop, ↓wi_rf, ↓wy_seq, ↓wy_base, ↓wy_block, ↓wy_cond, ↓wy_loop, ↓wy_yld, q_known, ↓sg_callf3, ↓st_appf]
    refine ⟨n - 1, by omega, ?_⟩
    rw [hI]
    exact ⟨hK', i + 1, by omega, (by simp only [bE, Nat.reduceEqDiff, bN, Nat.reduceLT, he, e0, e6]; try rfl), (by simp only [bE, Nat.reduceEqDiff, bN, Nat.reduceLT, he, e0, e6]; try rfl), (by simp only [bE, Nat.reduceEqDiff, bN, Nat.reduceLT, he, e0, e6]; try rfl), by simp only [bE, Nat.reduceEqDiff, bN, Nat.reduceLT, he]; rw [hsn]; exact hO'⟩
  · obtain rfl : i = ls.length - k := by omega
    have e1 : k + (ls.length - k) = ls.length := by omega
    rw [e1] at e6
    have e2 : (ls.drop k).take (ls.length - k) = ls.drop k := by rw [← List.length_drop, List.take_length]
    rw [e2] at hO
    have z1 := eq_false (show ¬ (ls.length : Int) < (ls.length : Int) by omega)
    simp (config := {contextual := true, maxDischargeDepth := 12}) only [tb_at, he, e0, e6, hL, b0, b1, blt, nchkV_ptr, z1, ↓bD, bU, forall_const, bS, implies_true, isNx, eq_self, ↓wp_cond, ↓wp_loop, ↓reduceIte, reduceCtorEq, Nat.reduceEqDiff, Nat.reduceLT, Nat.reduceAdd, Nat.reduceMul, bT, ↓sg_bsl, ↓st_callf, bX, ar_b2s, bin_mulE, ap_mkfn, ↓wi_seq, ↓wi_base, ↓wi_block, ↓wi_cond, ↓wi_loop, ↓wi_rf, ↓wy_seq, ↓wy_base, ↓wy_block, ↓wy_cond, ↓wy_loop, ↓wy_yld, q_known, ↓sg_callf3, ↓st_appf]
    first | exact ⟨hK, _, rfl, hO⟩ | exact ⟨_, rfl, hO⟩
theorem q_RFromK {s : St} {s0 : St} {id z : Nat} {lv : AV} {vs : List AV} {ls : List (List UInt8)} (hx : RkR s0 s id lv vs z ls) (hn : ls.length ≤ 5000) (hb : ls.flatten.length ≤ 4000000) {k : Nat} (hk : k ≤ ls.length) : ∃ v t, acall R_RFrom false [.ptr id 0, .int .i64 (k : Int)] s = some (v, t) ∧ Own byC s t v ((ls.drop k).flatten) ∧ Keep s t := run_fresh n_RFrom (by simp [a30]) (fun v => v) (fun _ _ _ _ _ => rfl) (w_RFromK (s := lowd s) hx.low hn hb hk)
noncomputable def R_RRead : Con := runFn (tb [(30, R_RFrom)]) a23
theorem s_RRead : SoundAt Try.prog 23 R_RRead := run_sound (tb_sound (l := [(30, R_RFrom)]) (by simpa using s_RFrom)) mixed Try.func23 k23 c23
theorem n_RRead : noNxtC a23.body = true := by kernel_rfl

/-- What Read answers. -/
def rdP (n z : Nat) (l : List UInt8) (a m : Int) : List UInt8 × Int := if m < 0 then ([], 2) else if a < 0 ∨ (n : Int) ≤ a then ([], 3) else if ((l.length - a.toNat * z : Nat) : Int) < m then ([], 3) else ((l.drop (a.toNat * z)).take m.toNat, 0)
theorem flat_len {z : Nat} : ∀ {ls : List (List UInt8)}, (∀ l ∈ ls, l.length = z) → ls.flatten.length = ls.length * z
  | [], _ => by simp
  | l :: r, h => by
    rw [List.flatten_cons, List.length_append, flat_len (fun x hx => h x (by simp [hx])), h l (by simp), List.length_cons, Nat.succ_mul]
    omega
theorem flat_drop {z : Nat} : ∀ {ls : List (List UInt8)} (k : Nat), (∀ l ∈ ls, l.length = z) → (ls.drop k).flatten = ls.flatten.drop (k * z)
  | _, 0, _ => by simp
  | [], k + 1, _ => by simp
  | l :: r, k + 1, h => by
    have hl := h l (by simp)
    rw [List.drop_succ_cons, flat_drop k (fun x hx => h x (by simp [hx])), List.flatten_cons, Nat.succ_mul, List.drop_append, List.drop_eq_nil_of_le (by omega : l.length ≤ k * z + z), List.nil_append, hl, Nat.add_sub_cancel]
theorem XkR.rows {s0 : St} {ix jx z : Nat} {qs : List Nat} {ls : List (List UInt8)} (h : XkR s0 t ix jx qs z ls) : ∀ l ∈ ls, l.length = z := fun l hl => by
  obtain ⟨i, hi⟩ := List.mem_iff_getElem?.1 hl
  obtain ⟨q, _, _, _, _, k, _⟩ := h.at hi
  exact k
theorem w_RRead {s : St} {s0 : St} {ix jx z : Nat} {qs : List Nat} {ls : List (List UInt8)} (hx : XkR s0 s ix jx qs z ls) (hn : ls.length ≤ 5000) (hb : ls.flatten.length ≤ 4000000) (a m : Int) : ∀ env : Env, elen env = a23.ntmps → (∀ i x_, [.ptr ix 0, .int .i64 a, .int .i64 m][i]? = some x_ → E env i = x_) → awp (tb [(30, R_RFrom)]) a23.body (fun x e t => (∀ i, x ≠ .exit i) ∧ ∃ r, aresults e t a23.results = some r ∧ (∃ w, r = .tup [w, .int .i64 (rdP ls.length z ls.flatten a m).2] ∧ AM.read byC t w = some (rdP ls.length z ls.flatten a m).1) ∧ Keep s t) env s := by
  intro env hlen ha
  have h0 : E env 0 = _ := ha 0 _ rfl
  have h1 : E env 1 = _ := ha 1 _ rfl
  have h2 : E env 2 = _ := ha 2 _ rfl
  have hlen : elen env = _ := hlen
  simp only [a23] at hlen
  unfold a23
  try dsimp only [oO, oG]
  have hrk := hx.rkr
  obtain ⟨b0, b1, blt⟩ := row2_lod hx.box
  have hLq : lenV (.sl jx 0 qs.length none 1) = some (.int .i64 (ls.length : Int)) := by rw [hx.len]; rfl
  by_cases hm : m < 0
  · have z1 := eq_true hm
    have hr : rdP ls.length z ls.flatten a m = ([], 2) := by unfold rdP; rw [if_pos hm]
    rw [hr]
    simp (config := {contextual := true, maxDischargeDepth := 12}) only [tb_at, h0, h1, h2, hlen, z1, ↓bD, bU, forall_const, bS, implies_true, isNx, eq_self, ↓wp_cond, ↓wp_loop, ↓reduceIte, reduceCtorEq, Nat.reduceEqDiff, Nat.reduceLT, Nat.reduceAdd, Nat.reduceMul, bT, ↓sg_bsl, ↓st_callf, bX, ar_b2s, bin_mulE, ap_mkfn, ↓wi_seq, ↓wi_base, ↓wi_block, ↓wi_cond, ↓wi_loop, ↓wi_rf, ↓wy_seq, ↓wy_base, ↓wy_block, ↓wy_cond, ↓wy_loop, ↓wy_yld, q_known, ↓sg_callf3, ↓st_appf]
    all_goals first | exact ⟨_, rfl, _, rfl, rfl⟩ | exact ⟨_, rfl, ⟨_, rfl, rfl⟩, .refl s⟩ | skip
  have z1 := eq_false hm
  by_cases ha0 : a < 0
  · have z2 := eq_true ha0
    have hr : rdP ls.length z ls.flatten a m = ([], 3) := by unfold rdP; rw [if_neg hm, if_pos (.inl ha0)]
    rw [hr]
    simp (config := {contextual := true, maxDischargeDepth := 12}) only [tb_at, h0, h1, h2, hlen, z1, z2, ↓bD, bU, forall_const, bS, implies_true, isNx, eq_self, ↓wp_cond, ↓wp_loop, ↓reduceIte, reduceCtorEq, Nat.reduceEqDiff, Nat.reduceLT, Nat.reduceAdd, Nat.reduceMul, bT, ↓sg_bsl, ↓st_callf, bX, ar_b2s, bin_mulE, ap_mkfn, ↓wi_seq, ↓wi_base, ↓wi_block, ↓wi_cond, ↓wi_loop, ↓wi_rf, ↓wy_seq, ↓wy_base, ↓wy_block, ↓wy_cond, ↓wy_loop, ↓wy_yld, q_known, ↓sg_callf3, ↓st_appf]
    all_goals first | exact ⟨_, rfl, _, rfl, rfl⟩ | exact ⟨_, rfl, ⟨_, rfl, rfl⟩, .refl s⟩ | skip
  have z2 := eq_false ha0
  by_cases ha1 : (ls.length : Int) ≤ a
  · have z3 := eq_true ha1
    have hr : rdP ls.length z ls.flatten a m = ([], 3) := by unfold rdP; rw [if_neg hm, if_pos (.inr ha1)]
    rw [hr]
    simp (config := {contextual := true, maxDischargeDepth := 12}) only [tb_at, h0, h1, h2, hlen, z1, z2, z3, b0, b1, blt, nchkV_ptr, hLq, ↓bD, bU, forall_const, bS, implies_true, isNx, eq_self, ↓wp_cond, ↓wp_loop, ↓reduceIte, reduceCtorEq, Nat.reduceEqDiff, Nat.reduceLT, Nat.reduceAdd, Nat.reduceMul, bT, ↓sg_bsl, ↓st_callf, bX, ar_b2s, bin_mulE, ap_mkfn, ↓wi_seq, ↓wi_base, ↓wi_block, ↓wi_cond, ↓wi_loop, ↓wi_rf, ↓wy_seq, ↓wy_base, ↓wy_block, ↓wy_cond, ↓wy_loop, ↓wy_yld, q_known, ↓sg_callf3, ↓st_appf]
    all_goals first | exact ⟨_, rfl, _, rfl, rfl⟩ | exact ⟨_, rfl, ⟨_, rfl, rfl⟩, .refl s⟩ | skip
  have z3 := eq_false ha1
  obtain ⟨k, rfl⟩ : ∃ k : Nat, a = (k : Int) := ⟨a.toNat, by omega⟩
  obtain ⟨n, rfl⟩ : ∃ n : Nat, m = (n : Int) := ⟨m.toNat, by omega⟩
  obtain ⟨w, t1, q1, hO1, hK1⟩ := q_RFromK hrk hn hb (k := k) (by omega)
  have hfd := flat_drop k hx.rows
  rw [hfd] at hO1
  have hLw := lenV_read hO1.read
  rw [List.length_drop] at hLw
  have hkn : (k : Int).toNat = k := rfl
  by_cases hlong : ((ls.flatten.length - k * z : Nat) : Int) < (n : Int)
  · have z4 := eq_true hlong
    have hr : rdP ls.length z ls.flatten (k : Int) (n : Int) = ([], 3) := by unfold rdP; rw [if_neg hm, if_neg (by omega), hkn, if_pos hlong]
    rw [hr]
    simp (config := {contextual := true, maxDischargeDepth := 12}) only [tb_at, h0, h1, h2, hlen, z1, z2, z3, z4, b0, b1, blt, nchkV_ptr, hLq, q1, hLw, ↓bD, bU, forall_const, bS, implies_true, isNx, eq_self, ↓wp_cond, ↓wp_loop, ↓reduceIte, reduceCtorEq, Nat.reduceEqDiff, Nat.reduceLT, Nat.reduceAdd, Nat.reduceMul, bT, ↓sg_bsl, ↓st_callf, bX, ar_b2s, bin_mulE, ap_mkfn, ↓wi_seq, ↓wi_base, ↓wi_block, ↓wi_cond, ↓wi_loop, ↓wi_rf, ↓wy_seq, ↓wy_base, ↓wy_block, ↓wy_cond, ↓wy_loop, ↓wy_yld, q_known, ↓sg_callf3, ↓st_appf]
    all_goals first | exact ⟨_, rfl, ⟨_, rfl, rfl⟩, hK1⟩ | skip
  have z4 := eq_false hlong
  obtain ⟨w2, t2, q2, hO2, hK2⟩ := q_RFromK (hrk.keep hK1) hn hb (k := k) (by omega)
  rw [hfd] at hO2
  have hr : rdP ls.length z ls.flatten (k : Int) (n : Int) = ((ls.flatten.drop (k * z)).take n, 0) := by unfold rdP; rw [if_neg hm, if_neg (by omega), hkn, if_neg hlong]; rfl
  rw [hr]
  have hcap : CapB w2 := by
    rcases hO2 with ⟨rfl, _⟩ | ⟨q, rfl, _⟩
    · exact CapB.nils
    · intro _ _ _ _ _ e
      injection e with _ _ _ e _
      cases e
  obtain ⟨s1, a1, r1⟩ := slc_hi (C := byC) hO2.read hcap (k := .i64) (i := (n : Int)) rfl (by rw [List.length_drop]; omega)
  have hrr := r1 t2 (.refl _)
  have a1 : slcV 1 w2 none (some (.int .i64 (n : Int))) = some s1 := a1
  simp (config := {contextual := true, maxDischargeDepth := 12}) only [tb_at, h0, h1, h2, hlen, z1, z2, z3, z4, b0, b1, blt, nchkV_ptr, hLq, q1, hLw, q2, a1, ↓bD, bU, forall_const, bS, implies_true, isNx, eq_self, ↓wp_cond, ↓wp_loop, ↓reduceIte, reduceCtorEq, Nat.reduceEqDiff, Nat.reduceLT, Nat.reduceAdd, Nat.reduceMul, bT, ↓sg_bsl, ↓st_callf, bX, ar_b2s, bin_mulE, ap_mkfn, ↓wi_seq, ↓wi_base, ↓wi_block, ↓wi_cond, ↓wi_loop, ↓wi_rf, ↓wy_seq, ↓wy_base, ↓wy_block, ↓wy_cond, ↓wy_loop, ↓wy_yld, q_known, ↓sg_callf3, ↓st_appf]
  all_goals first | exact ⟨_, rfl, ⟨_, rfl, hrr⟩, hK1.trans hK2⟩ | exact ⟨_, _, rfl, hrr, hK1.trans hK2⟩ | exact ⟨_, rfl, ⟨_, rfl, hrr⟩, hK1.trans hK2⟩ | skip
theorem q_RRead {s : St} {s0 : St} {ix jx z : Nat} {qs : List Nat} {ls : List (List UInt8)} (hx : XkR s0 s ix jx qs z ls) (hn : ls.length ≤ 5000) (hb : ls.flatten.length ≤ 4000000) (a m : Int) : ∃ w t, acall R_RRead false [.ptr ix 0, .int .i64 a, .int .i64 m] s = some (.tup [w, .int .i64 (rdP ls.length z ls.flatten a m).2], t) ∧ AM.read byC t w = some (rdP ls.length z ls.flatten a m).1 ∧ Keep s t := by
  obtain ⟨r, t, h1, ⟨w, rfl, h2⟩, h3⟩ := run_any (s := s) n_RRead (args := [.ptr ix 0, .int .i64 a, .int .i64 m]) (Q := fun r t => ∃ w, r = .tup [w, .int .i64 (rdP ls.length z ls.flatten a m).2] ∧ AM.read byC t w = some (rdP ls.length z ls.flatten a m).1) (by simp [a23]) (fun r t t' hg hn ⟨w, e, h⟩ => ⟨w, e, read_mono h fun id b hb => by rw [hg]; exact hb⟩) (fun r t hgr hk ⟨w, e, h⟩ => ⟨w, e, by
    rw [e] at hgr
    cases w with
    | nils => exact h
    | sl => simp [AV.ground, AV.plains, AV.plain] at hgr
    | _ => simp [AM.read] at h⟩) (w_RRead (s := lowd s) hx.low hn hb a m)
  exact ⟨w, t, h1, h2, h3⟩

end Go.AM
end
/-
  Crash, Read and Split at any numbers; the reference's Crash and Split. Own work of this project; in part printed by a program of it.
-/
section
set_option maxRecDepth 100000
set_option maxHeartbeats 8000000
namespace Go.AM
open Go Go.Proofs

variable {s t u : St}
noncomputable def R_RCrash : Con := runFn (tb [(33, R_RBad), (34, R_Rput), (16, R_RWrite)]) a17
theorem s_RCrash : SoundAt Try.prog 17 R_RCrash := run_sound (tb_sound (l := [(33, R_RBad), (34, R_Rput), (16, R_RWrite)]) (by simpa using ⟨s_RBad, s_Rput, s_RWrite⟩)) mixed Try.func17 k17 c17
theorem n_RCrash : noNxtC a17.body = true := by kernel_rfl

/-- The error of a crash. -/
def crE (n z : Nat) (L : List (Int × List UInt8)) (w m : Int) : Int := if checkP n z L ≠ 0 then checkP n z L else if w < 0 ∨ (L.length : Int) < w ∨ m < 0 ∨ ((nxt L w.toNat).2.length : Int) < m then 2 else 0
def crR (ls : List (List UInt8)) (L : List (Int × List UInt8)) (w m : Nat) : List (List UInt8) := if w < L.length then putR (wrR ls (L.take w)) (nxt L w) m else wrR ls (L.take w)
theorem nxt_end {L : List (Int × List UInt8)} {w : Nat} (h : L.length ≤ w) : nxt L w = (0, []) := by unfold nxt; rw [List.getElem?_eq_none h]; rfl
theorem nxt_at {L : List (Int × List UInt8)} {w : Nat} {x : Int × List UInt8} (h : L[w]? = some x) : nxt L w = x := by unfold nxt; rw [h]; rfl
theorem w_RCrash_e {s : St} {s0 : St} {ix jx z : Nat} {qs : List Nat} {ls : List (List UInt8)} (hx : XkR s0 s ix jx qs z ls) {v : AV} {L : List (Int × List UInt8)} (hv : BwM qs s v L) (hL4 : L.length ≤ 4000000) {w m : Int} (he : crE ls.length z L w m ≠ 0) : ∀ env : Env, elen env = a17.ntmps → (∀ i x_, [.ptr ix 0, v, .int .i64 w, .int .i64 m][i]? = some x_ → E env i = x_) → awp (tb [(33, R_RBad), (34, R_Rput), (16, R_RWrite)]) a17.body (fun x e t => (∀ i, x ≠ .exit i) ∧ aresults e t a17.results = some (.int .i64 (crE ls.length z L w m)) ∧ Keep s t) env s := by
  intro env hlen ha
  have h0 : E env 0 = _ := ha 0 _ rfl
  have h1 : E env 1 = _ := ha 1 _ rfl
  have h2 : E env 2 = _ := ha 2 _ rfl
  have h3 : E env 3 = _ := ha 3 _ rfl
  have hlen : elen env = _ := hlen
  simp only [a17] at hlen
  unfold a17
  try dsimp only [oO, oG]
  have hL := hv.len
  have q1 := q_RBad false hx hv hL4
  by_cases hc : checkP ls.length z L = 0
  rotate_left
  · have hr : crE ls.length z L w m = checkP ls.length z L := by unfold crE; rw [if_pos hc]
    have n00 := eq_false hc
    rw [hr]
    simp (config := {contextual := true, maxDischargeDepth := 12}) only [tb_at, h0, h1, h2, h3, hlen, q1, n00, hL, n00, decide_true, decide_false, bin_eql, Bool.not_true, Bool.not_false, ↓bD, bU, forall_const, bS, implies_true, isNx, eq_self, ↓wp_cond, ↓wp_loop, ↓reduceIte, reduceCtorEq, Nat.reduceEqDiff, Nat.reduceLT, Nat.reduceAdd, Nat.reduceMul, bT, ↓sg_bsl, ↓st_callf, bX, ar_b2s, bin_mulE, ap_mkfn, ↓wi_seq, ↓wi_base, ↓wi_block, ↓wi_cond, ↓wi_loop, ↓wi_rf, ↓wy_seq, ↓wy_base, ↓wy_block, ↓wy_cond, ↓wy_loop, ↓wy_yld, q_known, ↓sg_callf3, ↓st_appf]
    all_goals first | exact .refl s | skip
  rw [hc] at q1
  have n00 : ((0 : Int) = 0) = True := eq_true rfl
  have hr : crE ls.length z L w m = 2 := by
    unfold crE at he ⊢
    rw [if_neg (by simpa using hc)] at he ⊢
    split at he
    · rename_i h; rw [if_pos h]
    · exact absurd rfl he
  have hcond : w < 0 ∨ (L.length : Int) < w ∨ m < 0 ∨ ((nxt L w.toNat).2.length : Int) < m := by
    unfold crE at he
    rw [if_neg (by simpa using hc)] at he
    split at he
    · assumption
    · exact absurd rfl he
  rw [hr]
  by_cases y1 : w < 0
  · have z1 := eq_true y1
    simp (config := {contextual := true, maxDischargeDepth := 12}) only [tb_at, h0, h1, h2, h3, hlen, q1, n00, hL, z1, decide_true, decide_false, bin_eql, Bool.not_true, Bool.not_false, ↓bD, bU, forall_const, bS, implies_true, isNx, eq_self, ↓wp_cond, ↓wp_loop, ↓reduceIte, reduceCtorEq, Nat.reduceEqDiff, Nat.reduceLT, Nat.reduceAdd, Nat.reduceMul, bT, ↓sg_bsl, ↓st_callf, bX, ar_b2s, bin_mulE, ap_mkfn, ↓wi_seq, ↓wi_base, ↓wi_block, ↓wi_cond, ↓wi_loop, ↓wi_rf, ↓wy_seq, ↓wy_base, ↓wy_block, ↓wy_cond, ↓wy_loop, ↓wy_yld, q_known, ↓sg_callf3, ↓st_appf]
    all_goals first | exact .refl s | skip
  have z1 := eq_false y1
  by_cases y2 : (L.length : Int) < w
  · have z2 := eq_true y2
    simp (config := {contextual := true, maxDischargeDepth := 12}) only [tb_at, h0, h1, h2, h3, hlen, q1, n00, hL, z1, z2, decide_true, decide_false, bin_eql, Bool.not_true, Bool.not_false, ↓bD, bU, forall_const, bS, implies_true, isNx, eq_self, ↓wp_cond, ↓wp_loop, ↓reduceIte, reduceCtorEq, Nat.reduceEqDiff, Nat.reduceLT, Nat.reduceAdd, Nat.reduceMul, bT, ↓sg_bsl, ↓st_callf, bX, ar_b2s, bin_mulE, ap_mkfn, ↓wi_seq, ↓wi_base, ↓wi_block, ↓wi_cond, ↓wi_loop, ↓wi_rf, ↓wy_seq, ↓wy_base, ↓wy_block, ↓wy_cond, ↓wy_loop, ↓wy_yld, q_known, ↓sg_callf3, ↓st_appf]
    all_goals first | exact .refl s | skip
  have z2 := eq_false y2
  by_cases y3 : m < 0
  · have z3 := eq_true y3
    simp (config := {contextual := true, maxDischargeDepth := 12}) only [tb_at, h0, h1, h2, h3, hlen, q1, n00, hL, z1, z2, z3, decide_true, decide_false, bin_eql, Bool.not_true, Bool.not_false, ↓bD, bU, forall_const, bS, implies_true, isNx, eq_self, ↓wp_cond, ↓wp_loop, ↓reduceIte, reduceCtorEq, Nat.reduceEqDiff, Nat.reduceLT, Nat.reduceAdd, Nat.reduceMul, bT, ↓sg_bsl, ↓st_callf, bX, ar_b2s, bin_mulE, ap_mkfn, ↓wi_seq, ↓wi_base, ↓wi_block, ↓wi_cond, ↓wi_loop, ↓wi_rf, ↓wy_seq, ↓wy_base, ↓wy_block, ↓wy_cond, ↓wy_loop, ↓wy_yld, q_known, ↓sg_callf3, ↓st_appf]
    all_goals first | exact .refl s | skip
  have z3 := eq_false y3
  obtain ⟨w, rfl⟩ : ∃ k : Nat, w = (k : Int) := ⟨w.toNat, by omega⟩
  have hwn : (w : Int).toNat = w := rfl
  rw [hwn] at hcond
  have hlong : ((nxt L w).2.length : Int) < m := by omega
  by_cases y4 : w = L.length
  · subst y4
    have z4 : ((L.length : Int) = (L.length : Int)) = True := eq_true rfl
    have z5 := eq_true (show (0 : Int) < m by rw [nxt_end (Nat.le_refl _)] at hlong; simpa using hlong)
    simp (config := {contextual := true, maxDischargeDepth := 12}) only [tb_at, h0, h1, h2, h3, hlen, q1, n00, hL, z1, z2, z3, z4, z5, decide_true, decide_false, bin_eql, Bool.not_true, Bool.not_false, ↓bD, bU, forall_const, bS, implies_true, isNx, eq_self, ↓wp_cond, ↓wp_loop, ↓reduceIte, reduceCtorEq, Nat.reduceEqDiff, Nat.reduceLT, Nat.reduceAdd, Nat.reduceMul, bT, ↓sg_bsl, ↓st_callf, bX, ar_b2s, bin_mulE, ap_mkfn, ↓wi_seq, ↓wi_base, ↓wi_block, ↓wi_cond, ↓wi_loop, ↓wi_rf, ↓wy_seq, ↓wy_base, ↓wy_block, ↓wy_cond, ↓wy_loop, ↓wy_yld, q_known, ↓sg_callf3, ↓st_appf]
    all_goals first | exact .refl s | skip
  have z4 := eq_false (show ¬ (w : Int) = (L.length : Int) by omega)
  have z5 := eq_true (show (w : Int) < (L.length : Int) by omega)
  obtain ⟨x, hxx⟩ := getsome (show w < L.length by omega)
  rw [nxt_at hxx] at hlong
  obtain ⟨st, ib, ob, ⟨i1, _⟩, hl⟩ := hv.at hxx
  obtain ⟨a1, a2, a3, a4, hrd⟩ := hl s (Chg.refl _ _)
  have hLs := lenV_read hrd
  have z6 := eq_true hlong
  simp (config := {contextual := true, maxDischargeDepth := 12}) only [tb_at, h0, h1, h2, h3, hlen, q1, n00, hL, z1, z2, z3, z4, z5, z6, i1, a3, hLs, decide_true, decide_false, bin_eql, Bool.not_true, Bool.not_false, ↓bD, bU, forall_const, bS, implies_true, isNx, eq_self, ↓wp_cond, ↓wp_loop, ↓reduceIte, reduceCtorEq, Nat.reduceEqDiff, Nat.reduceLT, Nat.reduceAdd, Nat.reduceMul, bT, ↓sg_bsl, ↓st_callf, bX, ar_b2s, bin_mulE, ap_mkfn, ↓wi_seq, ↓wi_base, ↓wi_block, ↓wi_cond, ↓wi_loop, ↓wi_rf, ↓wy_seq, ↓wy_base, ↓wy_block, ↓wy_cond, ↓wy_loop, ↓wy_yld, q_known, ↓sg_callf3, ↓st_appf]
  all_goals first | exact .refl s | skip
theorem q_RCrash_e (cl : Bool) {s : St} {s0 : St} {ix jx z : Nat} {qs : List Nat} {ls : List (List UInt8)} (hx : XkR s0 s ix jx qs z ls) {v : AV} {L : List (Int × List UInt8)} (hv : BwM qs s v L) (hL4 : L.length ≤ 4000000) {w m : Int} (he : crE ls.length z L w m ≠ 0) : acall R_RCrash cl [.ptr ix 0, v, .int .i64 w, .int .i64 m] s = some (.int .i64 (crE ls.length z L w m), s) := run_same n_RCrash (by simp [a17]) rfl (w_RCrash_e (s := lowd s) hx.low hv.low hL4 he)
theorem w_RCrash {s : St} {s0 : St} {ix jx z : Nat} {qs : List Nat} {ls : List (List UInt8)} (hx : XkR s0 s ix jx qs z ls) {v : AV} {L : List (Int × List UInt8)} (hv : BwM qs s v L) (hL4 : L.length ≤ 4000000) {w m : Nat} (hc : checkP ls.length z L = 0) (hw : w ≤ L.length) (hm : m ≤ (nxt L w).2.length) : ∀ env : Env, elen env = a17.ntmps → (∀ i x_, [.ptr ix 0, v, .int .i64 (w : Int), .int .i64 (m : Int)][i]? = some x_ → E env i = x_) → awp (tb [(33, R_RBad), (34, R_Rput), (16, R_RWrite)]) a17.body (fun x e t => (∀ i, x ≠ .exit i) ∧ ∃ r, aresults e t a17.results = some r ∧ (r = .int .i64 0 ∧ XkR s0 t ix jx qs z (crR ls L w m) ∧ Chg qs s t)) env s := by
  intro env hlen ha
  have h0 : E env 0 = _ := ha 0 _ rfl
  have h1 : E env 1 = _ := ha 1 _ rfl
  have h2 : E env 2 = _ := ha 2 _ rfl
  have h3 : E env 3 = _ := ha 3 _ rfl
  have hlen : elen env = _ := hlen
  simp only [a17] at hlen
  unfold a17
  try dsimp only [oO, oG]
  have hL := hv.len
  have q1 := q_RBad false hx hv hL4
  rw [hc] at q1
  have n00 : ((0 : Int) = 0) = True := eq_true rfl
  have hfit := checkP_fits hc
  have z1 := eq_false (show ¬ (w : Int) < 0 by omega)
  have z2 := eq_false (show ¬ (L.length : Int) < (w : Int) by omega)
  have z3 := eq_false (show ¬ (m : Int) < 0 by omega)
  obtain ⟨v', sl1, hv'⟩ := hv.take hw
  obtain ⟨t1, q2, hX1, hC1⟩ := q_RWrite hx hv' (by rw [List.length_take]; omega)
  have hct : checkP ls.length z (L.take w) = 0 := by
    have := hc
    unfold checkP at this ⊢
    split at this
    · cases this
    · rw [if_neg (by rw [List.length_take]; omega)]
      exact fits_chk hfit.take
  have hS : wrRS z ls (L.take w) = wrR ls (L.take w) := by unfold wrRS; rw [if_pos hct]
  rw [hS] at hX1
  by_cases y4 : w = L.length
  · subst y4
    have z4 : ((L.length : Int) = (L.length : Int)) = True := eq_true rfl
    have z5 := eq_false (show ¬ (0 : Int) < (m : Int) by rw [nxt_end (Nat.le_refl _)] at hm; simp at hm; omega)
    have z6 := eq_false (show ¬ (L.length : Int) < (L.length : Int) by omega)
    have hR : crR ls L L.length m = wrR ls (L.take L.length) := by unfold crR; rw [if_neg (by omega)]
    rw [hR]
    simp (config := {contextual := true, maxDischargeDepth := 12}) only [tb_at, h0, h1, h2, h3, hlen, q1, n00, hL, z1, z2, z3, z4, z5, z6, sl1, q2, decide_true, decide_false, bin_eql, Bool.not_true, Bool.not_false, ↓bD, bU, forall_const, bS, implies_true, isNx, eq_self, ↓wp_cond, ↓wp_loop, ↓reduceIte, reduceCtorEq, Nat.reduceEqDiff, Nat.reduceLT, Nat.reduceAdd, Nat.reduceMul, bT, ↓sg_bsl, ↓st_callf, bX, ar_b2s, bin_mulE, ap_mkfn, ↓wi_seq, ↓wi_base, ↓wi_block, ↓wi_cond, ↓wi_loop, ↓wi_rf, ↓wy_seq, ↓wy_base, ↓wy_block, ↓wy_cond, ↓wy_loop, ↓wy_yld, q_known, ↓sg_callf3, ↓st_appf]
    first | exact ⟨_, rfl, rfl, hX1, hC1⟩ | exact ⟨hX1, hC1⟩
  have z4 := eq_false (show ¬ (w : Int) = (L.length : Int) by omega)
  have z5 := eq_true (show (w : Int) < (L.length : Int) by omega)
  obtain ⟨x, hxx⟩ := getsome (show w < L.length by omega)
  have hnx := nxt_at hxx
  obtain ⟨st, ib, ob, ⟨i1, _⟩, hl⟩ := hv.at hxx
  obtain ⟨a1, a2, a3, a4, hrd⟩ := hl s (Chg.refl _ _)
  obtain ⟨b1, b2, b3, b4, hrd1⟩ := hl t1 hC1
  have hLs := lenV_read hrd
  rw [hnx] at hm
  have z6 := eq_false (show ¬ (x.2.length : Int) < (m : Int) by omega)
  obtain ⟨f1, f2, f3⟩ := hfit x (List.mem_of_getElem? hxx)
  obtain ⟨t2, q3, hX2, hC2⟩ := q_RputX hX1 (x := x) f1 (by rw [wrR_len]; exact f2) (st := st) (fun u hu => (hl u (hC1.trans hu fun id hid => .inl hid)).2.2.2.2) (m := m) hm (by omega)
  have hR : crR ls L w m = putR (wrR ls (L.take w)) x m := by unfold crR; rw [if_pos (by omega), hnx]
  have hC12 := hC1.trans hC2 fun id hid => .inl hid
  rw [hR]
  simp (config := {contextual := true, maxDischargeDepth := 12}) only [tb_at, h0, h1, h2, h3, hlen, q1, n00, hL, z1, z2, z3, z4, z5, z6, i1, a3, hLs, sl1, q2, b1, q3, decide_true, decide_false, bin_eql, Bool.not_true, Bool.not_false, ↓bD, bU, forall_const, bS, implies_true, isNx, eq_self, ↓wp_cond, ↓wp_loop, ↓reduceIte, reduceCtorEq, Nat.reduceEqDiff, Nat.reduceLT, Nat.reduceAdd, Nat.reduceMul, bT, ↓sg_bsl, ↓st_callf, bX, ar_b2s, bin_mulE, ap_mkfn, ↓wi_seq, ↓wi_base, ↓wi_block, ↓wi_cond, ↓wi_loop, ↓wi_rf, ↓wy_seq, ↓wy_base, ↓wy_block, ↓wy_cond, ↓wy_loop, ↓wy_yld, q_known, ↓sg_callf3, ↓st_appf]
  first | exact ⟨_, rfl, rfl, hX2, hC12⟩ | exact ⟨hX2, hC12⟩
theorem q_RCrash {s : St} {s0 : St} {ix jx z : Nat} {qs : List Nat} {ls : List (List UInt8)} (hx : XkR s0 s ix jx qs z ls) {v : AV} {L : List (Int × List UInt8)} (hv : BwM qs s v L) (hL4 : L.length ≤ 4000000) {w m : Nat} (hc : checkP ls.length z L = 0) (hw : w ≤ L.length) (hm : m ≤ (nxt L w).2.length) : ∃ t, acall R_RCrash false [.ptr ix 0, v, .int .i64 (w : Int), .int .i64 (m : Int)] s = some (.int .i64 0, t) ∧ XkR s0 t ix jx qs z (crR ls L w m) ∧ Chg qs s t := by
  obtain ⟨r, t, h1, rfl, h2, h3⟩ := run_awp n_RCrash (args := [.ptr ix 0, v, .int .i64 (w : Int), .int .i64 (m : Int)]) (by simp [a17]) (w_RCrash (s := lowd s) hx.low hv.low hL4 hc hw hm)
  obtain ⟨t', g1, g2, _, g4⟩ := run_chg s_RCrash h1 h3
  exact ⟨t', g1, hx.same h2 g2, g4⟩
theorem w_Crash2_e {s : St} {id j z : Nat} {cap : Option Nat} {l : List UInt8} (hd : DkR s id j cap z l) {v : AV} {L : List (Int × List UInt8)} (hv : BwJ j s v L) (hL4 : L.length ≤ 4000000) {w m : Int} (he : crE (l.length / z) z L w m ≠ 0) : ∀ env : Env, elen env = a14.ntmps → (∀ i x_, [.ptr id 0, v, .int .i64 w, .int .i64 m][i]? = some x_ → E env i = x_) → awp (tb [(31, R_check2), (32, R_run2)]) a14.body (fun x e t => (∀ i, x ≠ .exit i) ∧ aresults e t a14.results = some (.int .i64 (crE (l.length / z) z L w m)) ∧ Keep s t) env s := by
  intro env hlen ha
  have h0 : E env 0 = _ := ha 0 _ rfl
  have h1 : E env 1 = _ := ha 1 _ rfl
  have h2 : E env 2 = _ := ha 2 _ rfl
  have h3 : E env 3 = _ := ha 3 _ rfl
  have hlen : elen env = _ := hlen
  simp only [a14] at hlen
  unfold a14
  try dsimp only [oO, oG]
  have hL := hv.len
  have q1 := q_check2 false hd hv hL4
  by_cases hc : checkP (l.length / z) z L = 0
  rotate_left
  · have hr : crE (l.length / z) z L w m = checkP (l.length / z) z L := by unfold crE; rw [if_pos hc]
    have n00 := eq_false hc
    rw [hr]
    simp (config := {contextual := true, maxDischargeDepth := 12}) only [tb_at, h0, h1, h2, h3, hlen, q1, n00, hL, n00, decide_true, decide_false, bin_eql, Bool.not_true, Bool.not_false, ↓bD, bU, forall_const, bS, implies_true, isNx, eq_self, ↓wp_cond, ↓wp_loop, ↓reduceIte, reduceCtorEq, Nat.reduceEqDiff, Nat.reduceLT, Nat.reduceAdd, Nat.reduceMul, bT, ↓sg_bsl, ↓st_callf, bX, ar_b2s, bin_mulE, ap_mkfn, ↓wi_seq, ↓wi_base, ↓wi_block, ↓wi_cond, ↓wi_loop, ↓wi_rf, ↓wy_seq, ↓wy_base, ↓wy_block, ↓wy_cond, ↓wy_loop, ↓wy_yld, q_known, ↓sg_callf3, ↓st_appf]
    all_goals first | exact .refl s | skip
  rw [hc] at q1
  have n00 : ((0 : Int) = 0) = True := eq_true rfl
  have hr : crE (l.length / z) z L w m = 2 := by
    unfold crE at he ⊢
    rw [if_neg (by simpa using hc)] at he ⊢
    split at he
    · rename_i h; rw [if_pos h]
    · exact absurd rfl he
  have hcond : w < 0 ∨ (L.length : Int) < w ∨ m < 0 ∨ ((nxt L w.toNat).2.length : Int) < m := by
    unfold crE at he
    rw [if_neg (by simpa using hc)] at he
    split at he
    · assumption
    · exact absurd rfl he
  rw [hr]
  by_cases y1 : w < 0
  · have z1 := eq_true y1
    simp (config := {contextual := true, maxDischargeDepth := 12}) only [tb_at, h0, h1, h2, h3, hlen, q1, n00, hL, z1, decide_true, decide_false, bin_eql, Bool.not_true, Bool.not_false, ↓bD, bU, forall_const, bS, implies_true, isNx, eq_self, ↓wp_cond, ↓wp_loop, ↓reduceIte, reduceCtorEq, Nat.reduceEqDiff, Nat.reduceLT, Nat.reduceAdd, Nat.reduceMul, bT, ↓sg_bsl, ↓st_callf, bX, ar_b2s, bin_mulE, ap_mkfn, ↓wi_seq, ↓wi_base, ↓wi_block, ↓wi_cond, ↓wi_loop, ↓wi_rf, ↓wy_seq, ↓wy_base, ↓wy_block, ↓wy_cond, ↓wy_loop, ↓wy_yld, q_known, ↓sg_callf3, ↓st_appf]
    all_goals first | exact .refl s | skip
  have z1 := eq_false y1
  by_cases y2 : (L.length : Int) < w
  · have z2 := eq_true y2
    simp (config := {contextual := true, maxDischargeDepth := 12}) only [tb_at, h0, h1, h2, h3, hlen, q1, n00, hL, z1, z2, decide_true, decide_false, bin_eql, Bool.not_true, Bool.not_false, ↓bD, bU, forall_const, bS, implies_true, isNx, eq_self, ↓wp_cond, ↓wp_loop, ↓reduceIte, reduceCtorEq, Nat.reduceEqDiff, Nat.reduceLT, Nat.reduceAdd, Nat.reduceMul, bT, ↓sg_bsl, ↓st_callf, bX, ar_b2s, bin_mulE, ap_mkfn, ↓wi_seq, ↓wi_base, ↓wi_block, ↓wi_cond, ↓wi_loop, ↓wi_rf, ↓wy_seq, ↓wy_base, ↓wy_block, ↓wy_cond, ↓wy_loop, ↓wy_yld, q_known, ↓sg_callf3, ↓st_appf]
    all_goals first | exact .refl s | skip
  have z2 := eq_false y2
  obtain ⟨w, rfl⟩ : ∃ k : Nat, w = (k : Int) := ⟨w.toNat, by omega⟩
  have hwn : (w : Int).toNat = w := rfl
  rw [hwn] at hcond
  have hKA : Keep s (s.push (.row [.int .i64 0, .nils] true)) := (Keep.refl s).push _
  by_cases hlt : w < L.length
  · have zlt := eq_true (show (w : Int) < (L.length : Int) by omega)
    obtain ⟨x, hxx⟩ := getsome hlt
    rw [nxt_at hxx] at hcond
    obtain ⟨st, ib, ob, ⟨i1, hcb⟩, hl⟩ := hv.at hxx
    obtain ⟨a1, _, _, a4, hrd0⟩ := hl (s.push (.row [.int .i64 0, .nils] true)) (hKA.chg _)
    have ho := read_oneB hrd0
    have hst := sto_bw (show sameN s.next s from rfl) (b := x.1) ho
    have hKT : Keep s (s.lowed.push (.row [.int .i64 x.1, st] true)) := (Keep.refl s).lowed.push _
    obtain ⟨e0_, e1_, elt⟩ := row2_lod (St.get_push_new s.lowed (.row [.int .i64 x.1, st] true))
    have e1_ : lod1 (s.lowed.push (.row [.int .i64 x.1, st] true)) (.ptr s.next 1) = some st := e1_
    have elt : ltN s.next (s.lowed.push (.row [.int .i64 x.1, st] true)) := elt
    have hLs := lenV_read hrd0
    by_cases y3 : m < 0
    · have z3 := eq_true y3
      simp (config := {contextual := true, maxDischargeDepth := 12}) only [tb_at, h0, h1, h2, h3, hlen, q1, n00, hL, z1, z2, zlt, i1, a1, a4, hst, z3, decide_true, decide_false, bin_eql, Bool.not_true, Bool.not_false, ↓bD, bU, forall_const, bS, implies_true, isNx, eq_self, ↓wp_cond, ↓wp_loop, ↓reduceIte, reduceCtorEq, Nat.reduceEqDiff, Nat.reduceLT, Nat.reduceAdd, Nat.reduceMul, bT, ↓sg_bsl, ↓st_callf, bX, ar_b2s, bin_mulE, ap_mkfn, ↓wi_seq, ↓wi_base, ↓wi_block, ↓wi_cond, ↓wi_loop, ↓wi_rf, ↓wy_seq, ↓wy_base, ↓wy_block, ↓wy_cond, ↓wy_loop, ↓wy_yld, q_known, ↓sg_callf3, ↓st_appf]
      all_goals first | exact hKT | skip
    have z3 := eq_false y3
    have z4 := eq_true (show (x.2.length : Int) < m by omega)
    simp (config := {contextual := true, maxDischargeDepth := 12}) only [tb_at, h0, h1, h2, h3, hlen, q1, n00, hL, z1, z2, zlt, i1, a1, a4, hst, z3, z4, e1_, elt, hLs, decide_true, decide_false, bin_eql, Bool.not_true, Bool.not_false, ↓bD, bU, forall_const, bS, implies_true, isNx, eq_self, ↓wp_cond, ↓wp_loop, ↓reduceIte, reduceCtorEq, Nat.reduceEqDiff, Nat.reduceLT, Nat.reduceAdd, Nat.reduceMul, bT, ↓sg_bsl, ↓st_callf, bX, ar_b2s, bin_mulE, ap_mkfn, ↓wi_seq, ↓wi_base, ↓wi_block, ↓wi_cond, ↓wi_loop, ↓wi_rf, ↓wy_seq, ↓wy_base, ↓wy_block, ↓wy_cond, ↓wy_loop, ↓wy_yld, q_known, ↓sg_callf3, ↓st_appf]
    all_goals first | exact hKT | skip
  have zlt := eq_false (show ¬ (w : Int) < (L.length : Int) by omega)
  rw [nxt_end (by omega)] at hcond
  obtain ⟨e0_, e1_, elt⟩ := row2_lod (St.get_push_new s (.row [.int .i64 0, .nils] true))
  by_cases y3 : m < 0
  · have z3 := eq_true y3
    simp (config := {contextual := true, maxDischargeDepth := 12}) only [tb_at, h0, h1, h2, h3, hlen, q1, n00, hL, z1, z2, zlt, z3, decide_true, decide_false, bin_eql, Bool.not_true, Bool.not_false, ↓bD, bU, forall_const, bS, implies_true, isNx, eq_self, ↓wp_cond, ↓wp_loop, ↓reduceIte, reduceCtorEq, Nat.reduceEqDiff, Nat.reduceLT, Nat.reduceAdd, Nat.reduceMul, bT, ↓sg_bsl, ↓st_callf, bX, ar_b2s, bin_mulE, ap_mkfn, ↓wi_seq, ↓wi_base, ↓wi_block, ↓wi_cond, ↓wi_loop, ↓wi_rf, ↓wy_seq, ↓wy_base, ↓wy_block, ↓wy_cond, ↓wy_loop, ↓wy_yld, q_known, ↓sg_callf3, ↓st_appf]
    all_goals first | exact hKA | skip
  have z3 := eq_false y3
  have hLn : lenV .nils = some (.int .i64 0) := rfl
  have z4 := eq_true (show (0 : Int) < m by simp at hcond; omega)
  simp (config := {contextual := true, maxDischargeDepth := 12}) only [tb_at, h0, h1, h2, h3, hlen, q1, n00, hL, z1, z2, zlt, z3, z4, e1_, elt, hLn, decide_true, decide_false, bin_eql, Bool.not_true, Bool.not_false, ↓bD, bU, forall_const, bS, implies_true, isNx, eq_self, ↓wp_cond, ↓wp_loop, ↓reduceIte, reduceCtorEq, Nat.reduceEqDiff, Nat.reduceLT, Nat.reduceAdd, Nat.reduceMul, bT, ↓sg_bsl, ↓st_callf, bX, ar_b2s, bin_mulE, ap_mkfn, ↓wi_seq, ↓wi_base, ↓wi_block, ↓wi_cond, ↓wi_loop, ↓wi_rf, ↓wy_seq, ↓wy_base, ↓wy_block, ↓wy_cond, ↓wy_loop, ↓wy_yld, q_known, ↓sg_callf3, ↓st_appf]
  all_goals first | exact hKA | skip
theorem q_Crash2_e (cl : Bool) {s : St} {id j z : Nat} {cap : Option Nat} {l : List UInt8} (hd : DkR s id j cap z l) {v : AV} {L : List (Int × List UInt8)} (hv : BwJ j s v L) (hL4 : L.length ≤ 4000000) {w m : Int} (he : crE (l.length / z) z L w m ≠ 0) : acall R_Crash2 cl [.ptr id 0, v, .int .i64 w, .int .i64 m] s = some (.int .i64 (crE (l.length / z) z L w m), s) := run_same n_Crash2 (by simp [a14]) rfl (w_Crash2_e (s := lowd s) hd.low hv.low hL4 he)
theorem w_Read2_e {s : St} {id j z : Nat} {cap : Option Nat} {l : List UInt8} (hd : DkR s id j cap z l) {a m : Int} (he : (rdP (l.length / z) z l a m).2 ≠ 0) : ∀ env : Env, elen env = a19.ntmps → (∀ i x_, [.ptr id 0, .int .i64 a, .int .i64 m][i]? = some x_ → E env i = x_) → awp (tb [(35, R_from), (36, R_BClone)]) a19.body (fun x e t => (∀ i, x ≠ .exit i) ∧ aresults e t a19.results = some (.tup [.nils, .int .i64 (rdP (l.length / z) z l a m).2]) ∧ Keep s t) env s := by
  intro env hlen ha
  have h0 : E env 0 = _ := ha 0 _ rfl
  have h1 : E env 1 = _ := ha 1 _ rfl
  have h2 : E env 2 = _ := ha 2 _ rfl
  have hlen : elen env = _ := hlen
  simp only [a19] at hlen
  unfold a19
  try dsimp only [oO, oG]
  have n01 : ((0 : Int) = 1) = False := eq_false (by decide)
  have n00 : ((0 : Int) = 0) = True := eq_true rfl
  have n31 : ((3 : Int) = 1) = False := eq_false (by decide)
  have n30 : ((3 : Int) = 0) = False := eq_false (by decide)
  by_cases ha : a < 0 ∨ ((l.length / z : Nat) : Int) ≤ a
  · have q := q_from_bad false hd.box hd.pos hd.rd hd.len a ha
    by_cases hm : m < 0
    · have z1 := eq_true hm
      have hr : (rdP (l.length / z) z l a m).2 = 2 := by unfold rdP; rw [if_pos hm]
      rw [hr]
      simp (config := {contextual := true, maxDischargeDepth := 12}) only [tb_at, h0, h1, h2, hlen, n01, n00, n31, n30, q, z1, decide_true, decide_false, bin_eql, Bool.not_true, Bool.not_false, ↓bD, bU, forall_const, bS, implies_true, isNx, eq_self, ↓wp_cond, ↓wp_loop, ↓reduceIte, reduceCtorEq, Nat.reduceEqDiff, Nat.reduceLT, Nat.reduceAdd, Nat.reduceMul, bT, ↓sg_bsl, ↓st_callf, bX, ar_b2s, bin_mulE, ap_mkfn, ↓wi_seq, ↓wi_base, ↓wi_block, ↓wi_cond, ↓wi_loop, ↓wi_rf, ↓wy_seq, ↓wy_base, ↓wy_block, ↓wy_cond, ↓wy_loop, ↓wy_yld, q_known, ↓sg_callf3, ↓st_appf]
      all_goals first | exact .refl s | skip
    have z1 := eq_false hm
    have hr : (rdP (l.length / z) z l a m).2 = 3 := by unfold rdP; rw [if_neg hm, if_pos ha]
    rw [hr]
    simp (config := {contextual := true, maxDischargeDepth := 12}) only [tb_at, h0, h1, h2, hlen, n01, n00, n31, n30, q, z1, decide_true, decide_false, bin_eql, Bool.not_true, Bool.not_false, ↓bD, bU, forall_const, bS, implies_true, isNx, eq_self, ↓wp_cond, ↓wp_loop, ↓reduceIte, reduceCtorEq, Nat.reduceEqDiff, Nat.reduceLT, Nat.reduceAdd, Nat.reduceMul, bT, ↓sg_bsl, ↓st_callf, bX, ar_b2s, bin_mulE, ap_mkfn, ↓wi_seq, ↓wi_base, ↓wi_block, ↓wi_cond, ↓wi_loop, ↓wi_rf, ↓wy_seq, ↓wy_base, ↓wy_block, ↓wy_cond, ↓wy_loop, ↓wy_yld, q_known, ↓sg_callf3, ↓st_appf]
    all_goals first | exact .refl s | skip
  obtain ⟨k, rfl⟩ : ∃ k : Nat, a = (k : Int) := ⟨a.toNat, by omega⟩
  have hkn : (k : Int).toNat = k := rfl
  obtain ⟨cap', t1, q, hc', hK1⟩ := q_from_dk hd (k := k) (by omega)
  have hLx : lenV (.sl j (k * z) (l.length - k * z) cap' 1) = some (.int .i64 ((l.length - k * z : Nat) : Int)) := rfl
  by_cases hm : m < 0
  · have z1 := eq_true hm
    have hr : (rdP (l.length / z) z l (k : Int) m).2 = 2 := by unfold rdP; rw [if_pos hm]
    rw [hr]
    simp (config := {contextual := true, maxDischargeDepth := 12}) only [tb_at, h0, h1, h2, hlen, n01, n00, n31, n30, q, z1, decide_true, decide_false, bin_eql, Bool.not_true, Bool.not_false, ↓bD, bU, forall_const, bS, implies_true, isNx, eq_self, ↓wp_cond, ↓wp_loop, ↓reduceIte, reduceCtorEq, Nat.reduceEqDiff, Nat.reduceLT, Nat.reduceAdd, Nat.reduceMul, bT, ↓sg_bsl, ↓st_callf, bX, ar_b2s, bin_mulE, ap_mkfn, ↓wi_seq, ↓wi_base, ↓wi_block, ↓wi_cond, ↓wi_loop, ↓wi_rf, ↓wy_seq, ↓wy_base, ↓wy_block, ↓wy_cond, ↓wy_loop, ↓wy_yld, q_known, ↓sg_callf3, ↓st_appf]
    all_goals first | exact hK1 | skip
  have z1 := eq_false hm
  by_cases hlong : ((l.length - k * z : Nat) : Int) < m
  rotate_left
  · refine absurd ?_ he
    unfold rdP
    rw [if_neg hm, if_neg ha, hkn, if_neg hlong]
  have z2 := eq_true hlong
  have hr : (rdP (l.length / z) z l (k : Int) m).2 = 3 := by unfold rdP; rw [if_neg hm, if_neg ha, hkn, if_pos hlong]
  rw [hr]
  simp (config := {contextual := true, maxDischargeDepth := 12}) only [tb_at, h0, h1, h2, hlen, n01, n00, n31, n30, q, z1, z2, hLx, decide_true, decide_false, bin_eql, Bool.not_true, Bool.not_false, ↓bD, bU, forall_const, bS, implies_true, isNx, eq_self, ↓wp_cond, ↓wp_loop, ↓reduceIte, reduceCtorEq, Nat.reduceEqDiff, Nat.reduceLT, Nat.reduceAdd, Nat.reduceMul, bT, ↓sg_bsl, ↓st_callf, bX, ar_b2s, bin_mulE, ap_mkfn, ↓wi_seq, ↓wi_base, ↓wi_block, ↓wi_cond, ↓wi_loop, ↓wi_rf, ↓wy_seq, ↓wy_base, ↓wy_block, ↓wy_cond, ↓wy_loop, ↓wy_yld, q_known, ↓sg_callf3, ↓st_appf]
  all_goals first | exact hK1 | skip
theorem q_Read2_e (cl : Bool) {s : St} {id j z : Nat} {cap : Option Nat} {l : List UInt8} (hd : DkR s id j cap z l) {a m : Int} (he : (rdP (l.length / z) z l a m).2 ≠ 0) : acall R_Read2 cl [.ptr id 0, .int .i64 a, .int .i64 m] s = some (.tup [.nils, .int .i64 (rdP (l.length / z) z l a m).2], s) := run_same n_Read2 (by simp [a19]) rfl (w_Read2_e (s := lowd s) hd.low he)

theorem rdP_e {n z : Nat} {l : List UInt8} {a m : Int} (h : (rdP n z l a m).2 ≠ 0) : (rdP n z l a m).1 = [] := by
  unfold rdP at h ⊢
  repeat' split
  all_goals first | rfl | skip
  rename_i h1 h2 h3
  rw [if_neg h1, if_neg h2, if_neg h3] at h
  exact absurd rfl h
theorem q_ReadA {s : St} {id j z : Nat} {cap : Option Nat} {l : List UInt8} (hd : DkR s id j cap z l) (a m : Int) : ∃ w t, acall R_Read2 false [.ptr id 0, .int .i64 a, .int .i64 m] s = some (.tup [w, .int .i64 (rdP (l.length / z) z l a m).2], t) ∧ NewB s t w (rdP (l.length / z) z l a m).1 ∧ Keep s t := by
  by_cases he : (rdP (l.length / z) z l a m).2 = 0
  · have h := he
    unfold rdP at h
    split at h
    · cases h
    · rename_i hm
      split at h
      · cases h
      · rename_i ha
        split at h
        · cases h
        · rename_i hl
          obtain ⟨k, rfl⟩ : ∃ k : Nat, a = (k : Int) := ⟨a.toNat, by omega⟩
          obtain ⟨n, rfl⟩ : ∃ n : Nat, m = (n : Int) := ⟨m.toNat, by omega⟩
          have hkn : (k : Int).toNat = k := rfl
          have hmn : (n : Int).toNat = n := rfl
          rw [hkn] at hl
          have hk : k < l.length / z := by omega
          have hkz : k * z ≤ l.length := by
            have h1 : k * z ≤ (l.length / z) * z := Nat.mul_le_mul_right z (Nat.le_of_lt hk)
            have h2 : (l.length / z) * z ≤ l.length := Nat.div_mul_le_self _ _
            omega
          obtain ⟨w, t, q, hN, hK⟩ := q_Read3 hd hk (m := n) (by omega)
          refine ⟨w, t, by rw [he]; exact q, ?_, hK⟩
          have e : (rdP (l.length / z) z l (k : Int) (n : Int)).1 = (l.drop (k * z)).take n := by
            unfold rdP
            rw [if_neg hm, if_neg ha, hkn, if_neg hl]
            rfl
          rw [e]
          exact hN
  · exact ⟨.nils, s, q_Read2_e false hd he, by rw [rdP_e he]; exact .inl ⟨rfl, rfl⟩, .refl s⟩
theorem w_reads2A {s : St} {id j z : Nat} {cap : Option Nat} {l : List UInt8} (hd : DkR s id j cap z l) (a m : Int) {wv : AV} {W : List UInt8} (hw : AM.read byC s wv = some W) (c : Int) : ∀ env : Env, elen env = a15.ntmps → (∀ i x_, [.ptr id 0, .int .i64 a, .int .i64 m, wv, .int .i64 c][i]? = some x_ → E env i = x_) → awp (tb [(19, R_Read2)]) a15.body (fun x e t => (∀ i, x ≠ .exit i) ∧ aresults e t a15.results = some (.bool (decide ((rdP (l.length / z) z l a m).1 = W) && decide ((rdP (l.length / z) z l a m).2 = c))) ∧ Keep s t) env s := by
  intro env hlen ha
  have h0 : E env 0 = _ := ha 0 _ rfl
  have h1 : E env 1 = _ := ha 1 _ rfl
  have h2 : E env 2 = _ := ha 2 _ rfl
  have h3 : E env 3 = _ := ha 3 _ rfl
  have h4 : E env 4 = _ := ha 4 _ rfl
  have hlen : elen env = _ := hlen
  simp only [a15] at hlen
  unfold a15
  try dsimp only [oO, oG]
  obtain ⟨v, t1, q, hN1, hK1⟩ := q_ReadA hd a m
  have hb1 := b2s_read hN1.read
  have hb2 := b2s_read (hK1.read hw)
  have he := bin_eqs (rdP (l.length / z) z l a m).1 W
  simp (config := {contextual := true, maxDischargeDepth := 12}) only [tb_at, h0, h1, h2, h3, h4, hlen, q, hb1, hb2, he, bin_eql, ↓bD, bU, forall_const, bS, implies_true, isNx, eq_self, ↓wp_cond, ↓wp_loop, ↓reduceIte, reduceCtorEq, Nat.reduceEqDiff, Nat.reduceLT, Nat.reduceAdd, Nat.reduceMul, bT, ↓sg_bsl, ↓st_callf, bX, ar_b2s, bin_mulE, ap_mkfn, ↓wi_seq, ↓wi_base, ↓wi_block, ↓wi_cond, ↓wi_loop, ↓wi_rf, ↓wy_seq, ↓wy_base, ↓wy_block, ↓wy_cond, ↓wy_loop, ↓wy_yld, q_known, ↓sg_callf3, ↓st_appf]
  all_goals first | exact hK1 | skip
theorem q_reads2A (cl : Bool) {s : St} {id j z : Nat} {cap : Option Nat} {l : List UInt8} (hd : DkR s id j cap z l) (a m : Int) {wv : AV} {W : List UInt8} (hw : AM.read byC s wv = some W) (c : Int) : acall R_reads2 cl [.ptr id 0, .int .i64 a, .int .i64 m, wv, .int .i64 c] s = some (.bool (decide ((rdP (l.length / z) z l a m).1 = W) && decide ((rdP (l.length / z) z l a m).2 = c)), s) := run_same n_reads2 (by simp [a15]) rfl (w_reads2A (s := lowd s) hd.low a m (hRL hw) c)

end Go.AM
end
/-
  The reference's Split; Split at any numbers; splits. Own work of this project; in part printed by a program of it.
-/
section
set_option maxRecDepth 100000
set_option maxHeartbeats 8000000
namespace Go.AM
open Go Go.Proofs

variable {s t u : St}

theorem slc_loc {st : AV} {l : List UInt8} (hr : AM.read byC s st = some l) (hc : CapB st) {m : Nat} (hm : m ≤ l.length) : ∃ v', slcV 1 st (some (.int .i64 (m : Int))) none = some v' ∧ (∀ t, Keep s t → AM.read byC t v' = some (l.drop m)) ∧ CapB v' := by
  obtain ⟨v', h1, h2⟩ := slc_lo (C := byC) hr (k := .i64) (i := (m : Int)) rfl hm
  have h1 : slcV 1 st (some (.int .i64 (m : Int))) none = some v' := h1
  refine ⟨v', h1, h2, ?_⟩
  cases st with
  | nils =>
    simp only [slcV, optNat, asNatIn] at h1
    split at h1
    · injection h1 with h1; subst h1; exact CapB.nils
    · cases h1
  | sl id off n cap z =>
    obtain ⟨rfl, rfl, _⟩ := read_sl hr
    have a1 := asNat_ok hm
    cases cap with
    | none =>
      simp only [slcV, optNat, a1, byC_sz, if_true] at h1
      injection h1 with h1; subst h1
      intro _ _ _ _ _ e
      injection e with _ _ _ e _
      cases e
    | some c =>
      have hcl := hc _ _ _ _ _ rfl
      simp only [slcV, optNat, a1, byC_sz, if_true] at h1
      injection h1 with h1; subst h1
      intro _ _ _ _ _ e
      injection e with _ _ e1 e2 _
      injection e2 with e2
      omega
  | _ => simp [AM.read] at hr
/-- Split's error. -/
def spE (n z len : Nat) (a : Int) (d : List UInt8) : Int := if a < 0 ∨ (n : Int) ≤ a then 3 else if len - a.toNat * z < d.length then 3 else 0
def spL (n z len : Nat) (a : Int) (d : List UInt8) : List (Int × List UInt8) := if spE n z len a d = 0 then chL a.toNat z d else []
theorem take_minz (d : List UInt8) (z : Nat) : d.take (min z d.length) = d.take z := by
  by_cases h : z ≤ d.length
  · rw [Nat.min_eq_left h]
  · rw [Nat.min_eq_right (by omega), List.take_length, List.take_of_length_le (by omega)]
theorem drop_minz (d : List UInt8) (z : Nat) : d.drop (min z d.length) = d.drop z := by
  by_cases h : z ≤ d.length
  · rw [Nat.min_eq_left h]
  · rw [Nat.min_eq_right (by omega), List.drop_length, List.drop_eq_nil_of_le (by omega)]
noncomputable def R_RSplit : Con := runFn (tb [(30, R_RFrom)]) a24
theorem s_RSplit : SoundAt Try.prog 24 R_RSplit := run_sound (tb_sound (l := [(30, R_RFrom)]) (by simpa using s_RFrom)) mixed Try.func24 k24 c24
theorem n_RSplit : noNxtC a24.body = true := by kernel_rfl
theorem w_RSplit_e {s : St} {s0 : St} {ix jx z : Nat} {qs : List Nat} {ls : List (List UInt8)} (hx : XkR s0 s ix jx qs z ls) (hn : ls.length ≤ 5000) (hb : ls.flatten.length ≤ 4000000) {v : AV} {d : List UInt8} (hv : AM.read byC s v = some d) (hcb : CapB v) (hd : d.length ≤ 4000000) {a : Int} (he : spE ls.length z ls.flatten.length a d ≠ 0) : ∀ env : Env, elen env = a24.ntmps → (∀ i x_, [.ptr ix 0, .int .i64 a, v][i]? = some x_ → E env i = x_) → awp (tb [(30, R_RFrom)]) a24.body (fun x e t => (∀ i, x ≠ .exit i) ∧ aresults e t a24.results = some (.tup [.nils, .int .i64 3]) ∧ Keep s t) env s := by
  intro env hlen ha
  have h0 : E env 0 = _ := ha 0 _ rfl
  have h1 : E env 1 = _ := ha 1 _ rfl
  have h2 : E env 2 = _ := ha 2 _ rfl
  have hlen : elen env = _ := hlen
  simp only [a24] at hlen
  unfold a24
  try dsimp only [oO, oG]
  have hrk := hx.rkr
  obtain ⟨b0, b1, blt⟩ := row2_lod hx.box
  have hLq : lenV (.sl jx 0 qs.length none 1) = some (.int .i64 (ls.length : Int)) := by rw [hx.len]; rfl
  have hLd := lenV_read hv
  by_cases ha0 : a < 0
  · have z2 := eq_true ha0
    simp (config := {contextual := true, maxDischargeDepth := 12}) only [tb_at, h0, h1, h2, hlen, z2, ↓bD, bU, forall_const, bS, implies_true, isNx, eq_self, ↓wp_cond, ↓wp_loop, ↓reduceIte, reduceCtorEq, Nat.reduceEqDiff, Nat.reduceLT, Nat.reduceAdd, Nat.reduceMul, bT, ↓sg_bsl, ↓st_callf, bX, ar_b2s, bin_mulE, ap_mkfn, ↓wi_seq, ↓wi_base, ↓wi_block, ↓wi_cond, ↓wi_loop, ↓wi_rf, ↓wy_seq, ↓wy_base, ↓wy_block, ↓wy_cond, ↓wy_loop, ↓wy_yld, q_known, ↓sg_callf3, ↓st_appf]
    all_goals first | exact .refl s | skip
  have z2 := eq_false ha0
  by_cases ha1 : (ls.length : Int) ≤ a
  · have z3 := eq_true ha1
    simp (config := {contextual := true, maxDischargeDepth := 12}) only [tb_at, h0, h1, h2, hlen, z2, z3, b0, b1, blt, nchkV_ptr, hLq, ↓bD, bU, forall_const, bS, implies_true, isNx, eq_self, ↓wp_cond, ↓wp_loop, ↓reduceIte, reduceCtorEq, Nat.reduceEqDiff, Nat.reduceLT, Nat.reduceAdd, Nat.reduceMul, bT, ↓sg_bsl, ↓st_callf, bX, ar_b2s, bin_mulE, ap_mkfn, ↓wi_seq, ↓wi_base, ↓wi_block, ↓wi_cond, ↓wi_loop, ↓wi_rf, ↓wy_seq, ↓wy_base, ↓wy_block, ↓wy_cond, ↓wy_loop, ↓wy_yld, q_known, ↓sg_callf3, ↓st_appf]
    all_goals first | exact .refl s | skip
  have z3 := eq_false ha1
  obtain ⟨k, rfl⟩ : ∃ k : Nat, a = (k : Int) := ⟨a.toNat, by omega⟩
  obtain ⟨w, t1, q1, hO1, hK1⟩ := q_RFromK hrk hn hb (k := k) (by omega)
  rw [flat_drop k hx.rows] at hO1
  have hLw := lenV_read hO1.read
  rw [List.length_drop] at hLw
  have hkn : (k : Int).toNat = k := rfl
  have hlong : ((ls.flatten.length - k * z : Nat) : Int) < (d.length : Int) := by
    unfold spE at he
    rw [if_neg (by omega), hkn] at he
    split at he
    · omega
    · exact absurd rfl he
  have z4 := eq_true hlong
  simp (config := {contextual := true, maxDischargeDepth := 12}) only [tb_at, h0, h1, h2, hlen, z2, z3, z4, b0, b1, blt, nchkV_ptr, hLq, hLd, q1, hLw, ↓bD, bU, forall_const, bS, implies_true, isNx, eq_self, ↓wp_cond, ↓wp_loop, ↓reduceIte, reduceCtorEq, Nat.reduceEqDiff, Nat.reduceLT, Nat.reduceAdd, Nat.reduceMul, bT, ↓sg_bsl, ↓st_callf, bX, ar_b2s, bin_mulE, ap_mkfn, ↓wi_seq, ↓wi_base, ↓wi_block, ↓wi_cond, ↓wi_loop, ↓wi_rf, ↓wy_seq, ↓wy_base, ↓wy_block, ↓wy_cond, ↓wy_loop, ↓wy_yld, q_known, ↓sg_callf3, ↓st_appf]
  all_goals first | exact hK1 | skip
theorem q_RSplit_e (cl : Bool) {s : St} {s0 : St} {ix jx z : Nat} {qs : List Nat} {ls : List (List UInt8)} (hx : XkR s0 s ix jx qs z ls) (hn : ls.length ≤ 5000) (hb : ls.flatten.length ≤ 4000000) {v : AV} {d : List UInt8} (hv : AM.read byC s v = some d) (hcb : CapB v) (hd : d.length ≤ 4000000) {a : Int} (he : spE ls.length z ls.flatten.length a d ≠ 0) : acall R_RSplit cl [.ptr ix 0, .int .i64 a, v] s = some (.tup [.nils, .int .i64 3], s) := run_same n_RSplit (by simp [a24]) rfl (w_RSplit_e (s := lowd s) hx.low hn hb (hRL hv) hcb hd he)
theorem w_RSplit {s : St} {s0 : St} {ix jx z : Nat} {qs : List Nat} {ls : List (List UInt8)} (hx : XkR s0 s ix jx qs z ls) (hn : ls.length ≤ 5000) (hb : ls.flatten.length ≤ 4000000) {v : AV} {d : List UInt8} (hv : AM.read byC s v = some d) (hcb : CapB v) (hd : d.length ≤ 4000000) {k : Nat} (hk : k < ls.length) (hfit : k * z + d.length ≤ ls.flatten.length) : ∀ env : Env, elen env = a24.ntmps → (∀ i x_, [.ptr ix 0, .int .i64 (k : Int), v][i]? = some x_ → E env i = x_) → awp (tb [(30, R_RFrom)]) a24.body (fun x e t => (∀ i, x ≠ .exit i) ∧ ∃ r, aresults e t a24.results = some r ∧ (∃ lv sts, r = .tup [lv, .int .i64 0] ∧ OwB s t lv (chL k z d) sts) ∧ Keep s t) env s := by
  intro env hlen ha
  have h0 : E env 0 = _ := ha 0 _ rfl
  have h1 : E env 1 = _ := ha 1 _ rfl
  have h2 : E env 2 = _ := ha 2 _ rfl
  have hlen : elen env = _ := hlen
  simp only [a24] at hlen
  unfold a24
  try dsimp only [oO, oG]
  have hrk := hx.rkr
  obtain ⟨b0, b1, blt⟩ := row2_lod hx.box
  have hLq : lenV (.sl jx 0 qs.length none 1) = some (.int .i64 (ls.length : Int)) := by rw [hx.len]; rfl
  have hLd := lenV_read hv
  have hz := hx.pos
  have hz4 := hx.z4
  have z2 := eq_false (show ¬ (k : Int) < 0 by omega)
  have z3 := eq_false (show ¬ (ls.length : Int) ≤ (k : Int) by omega)
  obtain ⟨w, t1, q1, hO1, hK1⟩ := q_RFromK hrk hn hb (k := k) (by omega)
  rw [flat_drop k hx.rows] at hO1
  have hLw := lenV_read hO1.read
  rw [List.length_drop] at hLw
  have z4 := eq_false (show ¬ ((ls.flatten.length - k * z : Nat) : Int) < (d.length : Int) by omega)
  simp (config := {contextual := true, maxDischargeDepth := 12}) only [tb_at, h0, h1, h2, hlen, z2, z3, z4, b0, b1, blt, nchkV_ptr, hLq, hLd, q1, hLw, ↓bD, bU, forall_const, bS, implies_true, isNx, eq_self, ↓wp_cond, ↓wp_loop, ↓reduceIte, reduceCtorEq, Nat.reduceEqDiff, Nat.reduceLT, Nat.reduceAdd, Nat.reduceMul, bT, ↓sg_bsl, ↓st_callf, bX, ar_b2s, bin_mulE, ap_mkfn, ↓wi_seq, ↓wi_base, ↓wi_block, ↓wi_cond, ↓wi_loop, ↓wi_rf, ↓wy_seq, ↓wy_base, ↓wy_block, ↓wy_cond, ↓wy_loop, ↓wy_yld, q_known, ↓sg_callf3, ↓st_appf]
  obtain ⟨I, hI⟩ : ∃ I : Nat → Env → St → Prop, ∀ n e t, I n e t = (Keep s t ∧ ∃ (i : Nat) (dv : AV) (vo : AV) (sts : List AV), n + i = chunksN z d.length ∧ elen e = 55 ∧ E e 0 = .ptr ix 0 ∧ E e 1 = .int .i64 ((k + i : Nat) : Int) ∧ E e 2 = dv ∧ E e 8 = vo ∧ (∀ u, Keep s u → AM.read byC u dv = some (d.drop (i * z))) ∧ CapB dv ∧ OwB s t vo ((chL k z d).take i) sts) := ⟨fun n e t => (Keep s t ∧ ∃ (i : Nat) (dv : AV) (vo : AV) (sts : List AV), n + i = chunksN z d.length ∧ elen e = 55 ∧ E e 0 = .ptr ix 0 ∧ E e 1 = .int .i64 ((k + i : Nat) : Int) ∧ E e 2 = dv ∧ E e 8 = vo ∧ (∀ u, Keep s u → AM.read byC u dv = some (d.drop (i * z))) ∧ CapB dv ∧ OwB s t vo ((chL k z d).take i) sts), fun _ _ _ => rfl⟩
  refine lwp_inv I (n := chunksN z d.length) ?_ ?_
  · rw [hI]
    exact ⟨hK1, 0, _, .nils, [], by omega, (by simp only [bE, Nat.reduceEqDiff, bN, Nat.reduceLT, hlen]; try rfl), (by simp only [bE, Nat.reduceEqDiff, bN, Nat.reduceLT, hlen, h0]; try rfl), (by simp only [bE, Nat.reduceEqDiff, bN, Nat.reduceLT, hlen, h1, Nat.add_zero]; try rfl), (by simp only [bE, Nat.reduceEqDiff, bN, Nat.reduceLT, hlen, h2]; try rfl), (by simp only [bE, Nat.reduceEqDiff, bN, Nat.reduceLT, hlen]; try rfl), fun u hu => by rw [Nat.zero_mul, List.drop_zero]; exact hu.read hv, hcb, OwB.nil⟩
  clear h0 h1 h2 hlen q1
  intro n e t hi
  rw [hI] at hi
  obtain ⟨hK, i, dv, vo, sts, hni, he, e0, e1, e2, e8, hdv, hcd, hO⟩ := hi
  have hcn := chL_len k z d
  by_cases hlt : i < chunksN z d.length
  · have hiz := (chunks_lt hz).1 hlt
    have hrt := hdv t hK
    have hLt := lenV_read hrt
    rw [List.length_drop] at hLt
    have y1 := eq_true (show (0 : Int) < ((d.length - i * z : Nat) : Int) by omega)
    obtain ⟨c0, c1, clt⟩ := row2_lod (hK.blk hx.box)
    have hmn : min (z : Int) ((d.length - i * z : Nat) : Int) = ((min z (d.length - i * z) : Nat) : Int) := by omega
    obtain ⟨w1, sl1, hw1, _⟩ := slc_cap hrt hcd (m := min z (d.length - i * z)) (by rw [List.length_drop]; omega)
    have hr1 := hw1 t (.refl _)
    have hdl : (d.drop (i * z)).length = d.length - i * z := List.length_drop
    rw [← hdl, take_minz] at hr1
    obtain ⟨u1, t2, ap, hK2, hO2⟩ := appV_list (C := byC) (Keep.refl t) (Own.nil byC _ _) hr1 1 (by unfold roomBytes; simp; omega)
    rw [List.nil_append] at hO2
    have ap : appV t 1 1 .nils w1 = some (u1, t2) := ap
    have hu := read_oneB hO2.read
    have f0 := fstep_bw0 (x := .int .i64 ((k + i : Nat) : Int)) ⟨rfl, rfl⟩ (.int .i64 0) .nils
    have f1 := fstep_bw1 (x := u1) hu (.int .i64 ((k + i : Nat) : Int)) .nils
    have hbs := bsl_bw (b := ((k + i : Nat) : Int)) hu
    obtain ⟨t3, ht3⟩ : ∃ t3, t3 = t2.push (.row [.int .i64 ((k + i : Nat) : Int), u1] true) := ⟨_, rfl⟩
    have hK23 : Keep t2 t3 := by rw [ht3]; exact (Keep.refl t2).push _
    have hg3 : t3.get t2.next = some (.row [.int .i64 ((k + i : Nat) : Int), u1] true) := by rw [ht3]; exact St.get_push_new _ _
    have hO3 : Own byC s t3 u1 ((d.drop (i * z)).take z) := (hO2.from (s0 := s) hK.next).mono fun id b hb => hK23.blk hb
    have hK3 := (hK.trans hK2).trans hK23
    have hchl : chunksN z d.length ≤ d.length + z := by
      unfold chunksN
      have := Nat.div_le_self (d.length + z - 1) z
      omega
    obtain ⟨v', t4, ap2, hO4, hK4⟩ := (hO.mono fun id b hb => (hK2.trans hK23).blk hb).app hg3 hO3 hK3 (by have := Nat.le_mul_of_pos_right i hz; rw [List.length_take]; omega)
    have hti : (chL k z d).take i ++ [(((k + i : Nat) : Int), (d.drop (i * z)).take z)] = (chL k z d).take (i + 1) := by rw [List.take_add_one, chL_at hlt]; rfl
    rw [hti] at hO4
    rw [ht3] at ap2
    have hw2 := wrap_add1 (n := k + i) (by have := hx.len; omega)
    rw [Nat.add_assoc] at hw2
    obtain ⟨dv', sl2, hdv', hcd'⟩ := slc_loc (hdv s (.refl s)) hcd (m := min z (d.length - i * z)) (by rw [List.length_drop]; omega)
    have hdv2 : ∀ u, Keep s u → AM.read byC u dv' = some (d.drop ((i + 1) * z)) := fun u hu => by
      have := hdv' u hu
      rw [← hdl, drop_minz, List.drop_drop] at this
      rw [Nat.succ_mul]
      exact this
    simp (config := {contextual := true, maxDischargeDepth := 12}) only [tb_at, he, e0, e1, e2, e8, hLt, y1, c0, c1, clt, nchkV_ptr, hmn, mmV_min, sl1, ap, ap_build, fillP_nil, fillP_cons, f0, f1, aa_bsl1, hbs, ap2, hw2, sl2, reserve0, ↓bD, bU, forall_const, bS, implies_true, isNx, eq_self, ↓wp_cond, ↓wp_loop, ↓reduceIte, reduceCtorEq, Nat.reduceEqDiff, Nat.reduceLT, Nat.reduceAdd, Nat.reduceMul, bT, ↓sg_bsl, ↓st_callf, bX, ar_b2s, bin_mulE, ap_mkfn, ↓wi_seq, ↓wi_base, ↓wi_block, ↓wi_cond, ↓wi_loop, ↓wi_rf, ↓wy_seq, ↓wy_base, ↓wy_block, ↓wy_cond, ↓wy_loop, ↓wy_yld, q_known, ↓sg_callf3, ↓st_appf]
    refine ⟨n - 1, by omega, ?_⟩
    rw [hI]
    exact ⟨hK4, i + 1, dv', v', _, by omega, (by simp only [bE, Nat.reduceEqDiff, bN, Nat.reduceLT, he, e0, e1, e2, e8]; try rfl), (by simp only [bE, Nat.reduceEqDiff, bN, Nat.reduceLT, he, e0, e1, e2, e8]; try rfl), (by simp only [bE, Nat.reduceEqDiff, bN, Nat.reduceLT, he, e0, e1, e2, e8]; try rfl), (by simp only [bE, Nat.reduceEqDiff, bN, Nat.reduceLT, he, e0, e1, e2, e8]; try rfl), (by simp only [bE, Nat.reduceEqDiff, bN, Nat.reduceLT, he, e0, e1, e2, e8]; try rfl), hdv2, hcd', hO4⟩
  · obtain rfl : i = chunksN z d.length := by omega
    have hrt := hdv t hK
    have hLt := lenV_read hrt
    have hge := chunk_all (n := d.length) hz
    rw [List.length_drop, Nat.sub_eq_zero_of_le hge] at hLt
    have y1 := eq_false (show ¬ (0 : Int) < ((0 : Nat) : Int) by omega)
    rw [← hcn, List.take_length] at hO
    simp (config := {contextual := true, maxDischargeDepth := 12}) only [tb_at, he, e0, e1, e2, e8, hLt, y1, ↓bD, bU, forall_const, bS, implies_true, isNx, eq_self, ↓wp_cond, ↓wp_loop, ↓reduceIte, reduceCtorEq, Nat.reduceEqDiff, Nat.reduceLT, Nat.reduceAdd, Nat.reduceMul, bT, ↓sg_bsl, ↓st_callf, bX, ar_b2s, bin_mulE, ap_mkfn, ↓wi_seq, ↓wi_base, ↓wi_block, ↓wi_cond, ↓wi_loop, ↓wi_rf, ↓wy_seq, ↓wy_base, ↓wy_block, ↓wy_cond, ↓wy_loop, ↓wy_yld, q_known, ↓sg_callf3, ↓st_appf]
    first | exact ⟨_, rfl, ⟨_, _, rfl, hO⟩, hK⟩ | exact ⟨⟨_, _, rfl, hO⟩, hK⟩
theorem OwB.ground {v : AV} {L : List (Int × List UInt8)} {sts : List AV} (h : OwB s t v L sts) (hg : v.ground = true) : OwB s u v L sts := by
  rcases h.2.1 with ⟨rfl, e⟩ | ⟨j, rfl, _⟩
  · have := congrArg List.length e
    rw [List.length_map, List.length_zip, h.1] at this
    simp at this
    subst this
    have h0 := h.1
    obtain rfl : sts = [] := by simpa using h0
    exact OwB.nil
  · simp [AV.ground, AV.plain] at hg
theorem q_RSplit {s : St} {s0 : St} {ix jx z : Nat} {qs : List Nat} {ls : List (List UInt8)} (hx : XkR s0 s ix jx qs z ls) (hn : ls.length ≤ 5000) (hb : ls.flatten.length ≤ 4000000) {v : AV} {d : List UInt8} (hv : AM.read byC s v = some d) (hcb : CapB v) (hd : d.length ≤ 4000000) {k : Nat} (hk : k < ls.length) (hfit : k * z + d.length ≤ ls.flatten.length) : ∃ lv sts t, acall R_RSplit false [.ptr ix 0, .int .i64 (k : Int), v] s = some (.tup [lv, .int .i64 0], t) ∧ OwB s t lv (chL k z d) sts ∧ Keep s t := by
  obtain ⟨r, t, h1, ⟨lv, sts, rfl, h2⟩, h3⟩ := run_any (s := s) n_RSplit (args := [.ptr ix 0, .int .i64 (k : Int), v]) (Q := fun r t => ∃ lv sts, r = .tup [lv, .int .i64 0] ∧ OwB s t lv (chL k z d) sts) (by simp [a24]) (fun r t t' hg hn ⟨lv, sts, e, h⟩ => ⟨lv, sts, e, h.mono fun id b hb => by rw [hg]; exact hb⟩) (fun r t hgr hk ⟨lv, sts, e, h⟩ => ⟨lv, sts, e, by
    rw [e] at hgr
    rcases h.2.1 with ⟨rfl, _⟩ | ⟨j, rfl, _⟩
    · exact h.ground rfl
    · simp [AV.ground, AV.plains, AV.plain] at hgr⟩) (w_RSplit (s := lowd s) hx.low hn hb (hRL hv) hcb hd hk hfit)
  exact ⟨lv, sts, t, h1, h2, h3⟩

/-- The reference's Split at any numbers. -/
theorem q_RSplitA {s : St} {s0 : St} {ix jx z : Nat} {qs : List Nat} {ls : List (List UInt8)} (hx : XkR s0 s ix jx qs z ls) (hn : ls.length ≤ 5000) (hb : ls.flatten.length ≤ 4000000) {v : AV} {d : List UInt8} (hv : AM.read byC s v = some d) (hcb : CapB v) (hd : d.length ≤ 4000000) (a : Int) : ∃ lv sts t, acall R_RSplit false [.ptr ix 0, .int .i64 a, v] s = some (.tup [lv, .int .i64 (spE ls.length z ls.flatten.length a d)], t) ∧ OwB s t lv (spL ls.length z ls.flatten.length a d) sts ∧ Keep s t := by
  by_cases he : spE ls.length z ls.flatten.length a d = 0
  · have h := he
    unfold spE at h
    split at h
    · cases h
    · rename_i ha
      split at h
      · cases h
      · rename_i hl
        obtain ⟨k, rfl⟩ : ∃ k : Nat, a = (k : Int) := ⟨a.toNat, by omega⟩
        have hkn : (k : Int).toNat = k := rfl
        rw [hkn] at hl
        have hfl := flat_len hx.rows
        have hkz : k * z ≤ ls.length * z := Nat.mul_le_mul_right z (by omega)
        obtain ⟨lv, sts, t, q, hO, hK⟩ := q_RSplit hx hn hb hv hcb hd (k := k) (by omega) (by omega)
        refine ⟨lv, sts, t, by rw [he]; exact q, ?_, hK⟩
        unfold spL
        rw [if_pos he, hkn]
        exact hO
  · have e3 : spE ls.length z ls.flatten.length a d = 3 := by
      unfold spE at he ⊢
      split
      · rfl
      · rename_i h
        rw [if_neg h] at he
        split
        · rfl
        · rename_i h2
          rw [if_neg h2] at he
          exact absurd rfl he
    refine ⟨.nils, [], s, by rw [e3]; exact q_RSplit_e false hx hn hb hv hcb hd he, ?_, .refl s⟩
    unfold spL
    rw [if_neg he]
    exact OwB.nil

theorem q_SplitE {s : St} {id j z : Nat} {cap : Option Nat} {l : List UInt8} (hd : DkR s id j cap z l) {v : AV} {d : List UInt8} (hv : AM.read byC s v = some d) (hdl : d.length ≤ 4000000) {a : Int} (he : spE (l.length / z) z l.length a d ≠ 0) : acall cSplit false [.ptr id 0, .int .i64 a, v] s = some (.tup [.nils, .int .i64 3], s) := by
  by_cases ha : a < 0 ∨ ((l.length / z : Nat) : Int) ≤ a
  · have hz := hd.pos
    have hb := hd.box
    have hr := hd.rd
    have hll := hd.len
    have hz0 : ¬ (z : Int) = 0 := by omega
    have hc : cSplit [.ptr id 0, .int .i64 a, v] (lowd s) = some (.tup [.nils, .int .i64 3], (lowd s).lowed) := by
      simp only [cSplit]
      rw [show (lowd s).get id = some (.row [.int .i64 (z : Int), .sl j 0 l.length cap 1] true) from hb]
      simp only
      rw [if_neg hz0, show AM.read byC (lowd s) (.sl j 0 l.length cap 1) = some l from hRL hr, show AM.read byC (lowd s) v = some d from hRL hv]
      simp only
      rw [if_pos ⟨by omega, hll, hdl⟩, if_pos (by simpa using ha)]
    exact acall_same hc (by exact (Keep.refl _).lowed) rfl
  · obtain ⟨k, rfl⟩ : ∃ k : Nat, a = (k : Int) := ⟨a.toNat, by omega⟩
    have hkn : (k : Int).toNat = k := rfl
    unfold spE at he
    rw [if_neg ha, hkn] at he
    split at he
    · rename_i hl
      exact q_Split_long hd (k := k) (by omega) hv hdl (by omega)
    · exact absurd rfl he
theorem w_splitsA {s : St} {id j z : Nat} {cap : Option Nat} {l : List UInt8} (hd : DkR s id j cap z l) (hl0 : l.length ≤ 4000000) {v : AV} {d : List UInt8} (hv : AM.read byC s v = some d) (hdl : d.length ≤ 4000000) (a : Int) {wv : AV} {W : List (Int × List UInt8)} (hw : BwM [] s wv W) (c : Int) : ∀ env : Env, elen env = a25.ntmps → (∀ i x_, [.ptr id 0, .int .i64 a, v, wv, .int .i64 c][i]? = some x_ → E env i = x_) → awp (tb [(20, cSplit), (26, R_Same)]) a25.body (fun x e t => (∀ i, x ≠ .exit i) ∧ aresults e t a25.results = some (.bool (decide (spL (l.length / z) z l.length a d = W) && decide (spE (l.length / z) z l.length a d = c))) ∧ Keep s t) env s := by
  intro env hlen ha
  have h0 : E env 0 = _ := ha 0 _ rfl
  have h1 : E env 1 = _ := ha 1 _ rfl
  have h2 : E env 2 = _ := ha 2 _ rfl
  have h3 : E env 3 = _ := ha 3 _ rfl
  have h4 : E env 4 = _ := ha 4 _ rfl
  have hlen : elen env = _ := hlen
  simp only [a25] at hlen
  unfold a25
  try dsimp only [oO, oG]
  by_cases he : spE (l.length / z) z l.length a d = 0
  rotate_left
  · have q := q_SplitE hd hv hdl he
    have e3 : spE (l.length / z) z l.length a d = 3 := by
      unfold spE at he ⊢
      split
      · rfl
      · rename_i h
        rw [if_neg h] at he
        split
        · rfl
        · rename_i h2
          rw [if_neg h2] at he
          exact absurd rfl he
    have eL : spL (l.length / z) z l.length a d = [] := by unfold spL; rw [if_neg he]
    have hn0 : BwM [] s .nils [] := .inl ⟨rfl, rfl⟩
    have qs := q_Same2 false hn0 hw (by simp)
    rw [eL, e3]
    simp (config := {contextual := true, maxDischargeDepth := 12}) only [tb_at, h0, h1, h2, h3, h4, hlen, q, qs, bin_eql, ↓bD, bU, forall_const, bS, implies_true, isNx, eq_self, ↓wp_cond, ↓wp_loop, ↓reduceIte, reduceCtorEq, Nat.reduceEqDiff, Nat.reduceLT, Nat.reduceAdd, Nat.reduceMul, bT, ↓sg_bsl, ↓st_callf, bX, ar_b2s, bin_mulE, ap_mkfn, ↓wi_seq, ↓wi_base, ↓wi_block, ↓wi_cond, ↓wi_loop, ↓wi_rf, ↓wy_seq, ↓wy_base, ↓wy_block, ↓wy_cond, ↓wy_loop, ↓wy_yld, q_known, ↓sg_callf3, ↓st_appf]
    all_goals first | exact .refl s | skip
  have h := he
  unfold spE at h
  split at h
  · cases h
  rename_i ha
  split at h
  · cases h
  rename_i hl
  obtain ⟨k, rfl⟩ : ∃ k : Nat, a = (k : Int) := ⟨a.toNat, by omega⟩
  have hkn : (k : Int).toNat = k := rfl
  rw [hkn] at hl
  have hz := hd.pos
  have hk : k < l.length / z := by omega
  have hkz : k * z ≤ l.length := by
    have g1 : k * z ≤ (l.length / z) * z := Nat.mul_le_mul_right z (Nat.le_of_lt hk)
    have g2 : (l.length / z) * z ≤ l.length := Nat.div_mul_le_self _ _
    omega
  obtain ⟨lv, t1, q, hS, hK⟩ := q_SplitD hd hk hv (by omega)
  have hB : BwM [] t1 lv (chL k z d) := BwM.mono (M := [t1.next]) (M' := []) (hS.bwj2 hz hS (.inr (Nat.le_refl _))) (by simp)
  have hcl : (chL k z d).length ≤ 4000000 * 2 := by
    rw [chL_len]
    unfold chunksN
    have := Nat.div_le_self (d.length + z - 1) z
    have hzl : z ≤ l.length := by
      by_cases q : z ≤ l.length
      · exact q
      · rw [Nat.div_eq_of_lt (by omega)] at hk
        omega
    omega
  have hcl4 : (chL k z d).length ≤ 4000000 := by
    rw [chL_len]
    by_cases hd0 : d.length = 0
    · rw [hd0]
      unfold chunksN
      rw [Nat.div_eq_of_lt (by omega)]
      omega
    · have hle : chunksN z d.length ≤ d.length := by
        by_cases q : chunksN z d.length ≤ d.length
        · exact q
        · have h1 := (chunks_lt (n := d.length) hz (i := d.length)).1 (by omega)
          have h2 : d.length * 1 ≤ d.length * z := Nat.mul_le_mul_left _ hz
          omega
      omega
  have hwt : BwM [] t1 wv W := hw.chg (hK.chg _)
  have qs := q_Same2 false hB hwt hcl4
  have eL : spL (l.length / z) z l.length (k : Int) d = chL k z d := by unfold spL; rw [if_pos he, hkn]
  rw [eL, he]
  simp (config := {contextual := true, maxDischargeDepth := 12}) only [tb_at, h0, h1, h2, h3, h4, hlen, q, qs, bin_eql, ↓bD, bU, forall_const, bS, implies_true, isNx, eq_self, ↓wp_cond, ↓wp_loop, ↓reduceIte, reduceCtorEq, Nat.reduceEqDiff, Nat.reduceLT, Nat.reduceAdd, Nat.reduceMul, bT, ↓sg_bsl, ↓st_callf, bX, ar_b2s, bin_mulE, ap_mkfn, ↓wi_seq, ↓wi_base, ↓wi_block, ↓wi_cond, ↓wi_loop, ↓wi_rf, ↓wy_seq, ↓wy_base, ↓wy_block, ↓wy_cond, ↓wy_loop, ↓wy_yld, q_known, ↓sg_callf3, ↓st_appf]
  all_goals first | exact hK | skip
theorem q_splitsA (cl : Bool) {s : St} {id j z : Nat} {cap : Option Nat} {l : List UInt8} (hd : DkR s id j cap z l) (hl0 : l.length ≤ 4000000) {v : AV} {d : List UInt8} (hv : AM.read byC s v = some d) (hdl : d.length ≤ 4000000) (a : Int) {wv : AV} {W : List (Int × List UInt8)} (hw : BwM [] s wv W) (c : Int) : acall R_splits cl [.ptr id 0, .int .i64 a, v, wv, .int .i64 c] s = some (.bool (decide (spL (l.length / z) z l.length a d = W) && decide (spE (l.length / z) z l.length a d = c)), s) := run_same n_splits (by simp [a25]) rfl (w_splitsA (s := lowd s) hd.low hl0 (hRL hv) hdl a hw.low c)

end Go.AM
end
/-
  Plain laws of disks by blocks and by bytes; calls as arguments; frames. Own work of this project; in part printed by a program of it.
-/
section
set_option maxRecDepth 100000
set_option maxHeartbeats 8000000
namespace Go.AM
open Go Go.Proofs

variable {s t u : St}

theorem set_flat {z : Nat} : ∀ {ls : List (List UInt8)} {b : Nat} {l d : List UInt8}, ls[b]? = some l → (∀ l ∈ ls, l.length = z) → d.length ≤ z → (ls.set b (d ++ l.drop d.length)).flatten = putD ls.flatten (b * z) d
  | [], _, _, _, h, _, _ => by simp at h
  | y :: r, 0, l, d, h, hz, hd => by
    simp at h
    subst h
    have hl := hz y (by simp)
    rw [List.set_cons_zero, List.flatten_cons, List.flatten_cons, putD, Nat.zero_mul, List.take_zero, List.nil_append, Nat.zero_add, List.drop_append_of_le_length (by omega), List.append_assoc]
  | y :: r, b + 1, l, d, h, hz, hd => by
    have hl := hz y (by simp)
    have ih := set_flat (z := z) (ls := r) (b := b) (l := l) (d := d) (by simpa using h) (fun x hx => hz x (by simp [hx])) hd
    rw [List.set_cons_succ, List.flatten_cons, ih, List.flatten_cons]
    unfold putD
    have e1 : (b + 1) * z = y.length + b * z := by rw [Nat.succ_mul, hl]; omega
    rw [e1, List.take_length_add_append, show y.length + b * z + d.length = y.length + (b * z + d.length) by omega, List.drop_length_add_append]
    simp only [List.append_assoc]
theorem putR_flat {z m : Nat} {ls : List (List UInt8)} {x : Int × List UInt8} (h0 : 0 ≤ x.1) (h1 : x.1 < (ls.length : Int)) (hz : ∀ l ∈ ls, l.length = z) (hm : m ≤ x.2.length) (hd : x.2.length ≤ z) : (putR ls x m).flatten = putD ls.flatten (x.1.toNat * z) (x.2.take m) := by
  obtain ⟨l, hl⟩ := getsome (show x.1.toNat < ls.length by omega)
  have hml : (x.2.take m).length = m := by rw [List.length_take]; omega
  have := set_flat (d := x.2.take m) hl hz (by omega)
  rw [hml] at this
  unfold putR
  rw [hl]
  exact this
theorem putR_rows {z m : Nat} {ls : List (List UInt8)} {x : Int × List UInt8} (h0 : 0 ≤ x.1) (h1 : x.1 < (ls.length : Int)) (hz : ∀ l ∈ ls, l.length = z) (hm : m ≤ x.2.length) (hd : x.2.length ≤ z) : ∀ l ∈ putR ls x m, l.length = z := by
  obtain ⟨l, hl⟩ := getsome (show x.1.toNat < ls.length by omega)
  intro y hy
  unfold putR at hy
  rw [hl] at hy
  rcases List.mem_or_eq_of_mem_set hy with h | rfl
  · exact hz y h
  · have := hz l (List.mem_of_getElem? hl)
    simp only [Option.getD_some, List.length_append, List.length_take, List.length_drop]
    omega
theorem wrR_rows {z : Nat} : ∀ {L : List (Int × List UInt8)} {ls : List (List UInt8)}, (∀ l ∈ ls, l.length = z) → Fits ls.length z L → ∀ l ∈ wrR ls L, l.length = z
  | [], ls, hz, _ => hz
  | x :: r, ls, hz, hf => by
    obtain ⟨f1, f2, f3⟩ := hf x (by simp)
    have h1 := putR_rows f1 f2 hz (Nat.le_refl _) f3
    exact wrR_rows (L := r) (ls := putR ls x x.2.length) h1 (by rw [putR_len]; exact fun y hy => hf y (by simp [hy]))
theorem wrR_flat {z : Nat} : ∀ {L : List (Int × List UInt8)} {ls : List (List UInt8)}, (∀ l ∈ ls, l.length = z) → Fits ls.length z L → (wrR ls L).flatten = wrL z ls.flatten L
  | [], ls, _, _ => rfl
  | x :: r, ls, hz, hf => by
    obtain ⟨f1, f2, f3⟩ := hf x (by simp)
    have h1 := putR_rows f1 f2 hz (Nat.le_refl _) f3
    have h2 := putR_flat f1 f2 hz (Nat.le_refl _) f3
    rw [List.take_length] at h2
    have := wrR_flat (L := r) (ls := putR ls x x.2.length) h1 (by rw [putR_len]; exact fun y hy => hf y (by simp [hy]))
    rw [h2] at this
    exact this
theorem crR_flat {z w m : Nat} {L : List (Int × List UInt8)} {ls : List (List UInt8)} (hz : ∀ l ∈ ls, l.length = z) (hf : Fits ls.length z L) (hw : w ≤ L.length) (hm : m ≤ (nxt L w).2.length) : (crR ls L w m).flatten = wrL z ls.flatten (crL L w m) := by
  have h1 := wrR_flat (L := L.take w) hz hf.take
  have e : wrL z ls.flatten (crL L w m) = putD (wrL z ls.flatten (L.take w)) ((nxt L w).1.toNat * z) ((nxt L w).2.take m) := by
    unfold wrL crL
    rw [List.foldl_append]
    rfl
  rw [e]
  unfold crR
  by_cases h : w < L.length
  · rw [if_pos h]
    obtain ⟨x, hx⟩ := getsome h
    rw [nxt_at hx] at hm ⊢
    obtain ⟨f1, f2, f3⟩ := hf x (List.mem_of_getElem? hx)
    rw [putR_flat f1 (by rw [wrR_len]; exact f2) (wrR_rows hz hf.take) hm f3, h1]
  · rw [if_neg h, h1, nxt_end (by omega)]
    simp only [List.take_nil]
    rw [putD_nil]
theorem wrS_flat {z : Nat} {L : List (Int × List UInt8)} {ls : List (List UInt8)} (hz0 : 0 < z) (hz : ∀ l ∈ ls, l.length = z) : (wrRS z ls L).flatten = wrS z ls.flatten L := by
  have hd : ls.flatten.length / z = ls.length := by rw [flat_len hz]; exact Nat.mul_div_cancel _ hz0
  unfold wrRS wrS
  rw [hd]
  split
  · rename_i h
    exact wrR_flat hz (checkP_fits h)
  · rfl
theorem crE_ok {n z : Nat} {L : List (Int × List UInt8)} {w m : Int} (h : crE n z L w m = 0) : checkP n z L = 0 ∧ ∃ w' m' : Nat, w = (w' : Int) ∧ m = (m' : Int) ∧ w' ≤ L.length ∧ m' ≤ (nxt L w').2.length := by
  unfold crE at h
  split at h
  · rename_i hc; exact absurd h hc
  · rename_i hc
    split at h
    · cases h
    · rename_i hh
      refine ⟨by simpa using hc, w.toNat, m.toNat, by omega, by omega, by omega, ?_⟩
      omega
/-! ### Numbers -/
theorem conv_rem {A : Int} {n : Nat} (hn : 0 < n) (hn2 : n ≤ 1000000) : ∃ k : Nat, k < n ∧ binOp .rem .no (.int .u64 (IntKind.u64.wrap A)) (.int .u64 (IntKind.u64.wrap (n : Int))) = some (.int .u64 (k : Int)) ∧ IntKind.i64.wrap (k : Int) = (k : Int) := by
  have h1 : 0 ≤ IntKind.u64.wrap A ∧ IntKind.u64.wrap A < 18446744073709551616 := by
    simp only [IntKind.wrap, IntKind.signed, IntKind.bits]
    simp
    constructor
    · exact Int.emod_nonneg _ (by decide)
    · exact Int.emod_lt_of_pos _ (by decide)
  have h2 : IntKind.u64.wrap (n : Int) = (n : Int) := by
    simp only [IntKind.wrap, IntKind.signed, IntKind.bits]
    simp
    omega
  obtain ⟨a, ha⟩ : ∃ a : Nat, IntKind.u64.wrap A = (a : Int) := ⟨(IntKind.u64.wrap A).toNat, by omega⟩
  refine ⟨a % n, Nat.mod_lt _ hn, ?_, ?_⟩
  · rw [ha, h2]
    have hn0 : ¬ (n : Int) = 0 := by omega
    have e : Int.tmod (a : Int) (n : Int) = ((a % n : Nat) : Int) := rfl
    show (if (n : Int) = 0 then none else some (AV.int .u64 ((a : Int).tmod (n : Int)))) = _
    rw [if_neg hn0, e]
  · have hlt : a % n < n := Nat.mod_lt _ hn
    exact wrapI (by omega) (by omega)
theorem u8_wrap (n : Int) : ∃ b : UInt8, IntKind.u8.wrap n = (b.toNat : Int) := by
  have h1 : 0 ≤ IntKind.u8.wrap n ∧ IntKind.u8.wrap n < 256 := by
    simp only [IntKind.wrap, IntKind.signed, IntKind.bits]
    simp
    constructor
    · exact Int.emod_nonneg _ (by decide)
    · exact Int.emod_lt_of_pos _ (by decide)
  refine ⟨UInt8.ofNat (IntKind.u8.wrap n).toNat, ?_⟩
  rw [UInt8.toNat_ofNat']
  omega
/-! ### Calls as arguments -/
theorem ac_under : Try.prog.underlying 47 = some (.slice 49) := by kernel_rfl
theorem ac_fields : fieldsT Try.prog 49 = some [3, 3, 3, 32] := by kernel_rfl
theorem ac_cells : Try.prog.cellsOf 49 = 4 := by kernel_rfl
theorem rd_bwa {d : Nat} {vs : List AV} (h : RdT Try.prog s (d + 4) 32 vs) : ∃ v L, vs = [v] ∧ BwA s v L := by
  rcases rd_slice bw_under h with rfl | ⟨id, n, cap, rows, rfl, h1, _, h3, h4, h5⟩
  · exact ⟨_, [], rfl, .inl ⟨rfl, rfl⟩⟩
  · rw [bw_cells]
    obtain ⟨L, hL1, hL2⟩ := list_ex (α := Int × List UInt8) (p := fun i x => ∃ st, CapB st ∧ (∀ t, Keep s t → lod t 2 (.ptr id (i * 2)) = some (.agg [.int .i64 x.1, st]) ∧ lod1 t (.ptr id (i * 2)) = some (.int .i64 x.1) ∧ lod1 t (.ptr id (i * 2 + 1)) = some st ∧ ltN id t) ∧ AM.read byC s st = some x.2) n fun i hi => by
      obtain ⟨r, hr⟩ := getsome (show i < rows.length by omega)
      obtain ⟨r1, x1, rfl, k1, r2, x2, rfl, k2, rfl⟩ := rd_struct bw_fields (h5 r (List.mem_of_getElem? hr)).1
      obtain ⟨a, rfl, _⟩ := rd_int i64_under k1
      obtain ⟨st, l, rfl, hl, hcb⟩ := rd_bytes2 k2
      obtain ⟨g1, g2⟩ := rows_at2 (fun x hx => by have := (h5 x hx).2; rw [bw_cells] at this; exact this) hr
      refine ⟨(a, l), st, hcb, fun t hK => ?_, hl⟩
      have hg := hK.blk h4
      have c0 : rows.flatten[i * 2]? = some (.int .i64 a) := by
        have := congrArg (fun l => l[0]?) g1
        simpa [List.getElem?_take, List.getElem?_drop] using this
      have c1 : rows.flatten[i * 2 + 1]? = some st := by
        have := congrArg (fun l => l[1]?) g1
        simpa [List.getElem?_take, List.getElem?_drop] using this
      refine ⟨?_, by simp only [lod1, hg, c0], by simp only [lod1, hg, c1], St.get_lt hg⟩
      simp only [lod, hg]
      rw [if_pos g2, g1]
      rfl
    exact ⟨_, L, rfl, .inr ⟨id, cap, by rw [hL1], by omega, hL2⟩⟩
theorem rows_atN {k : Nat} : ∀ {rows : List (List AV)} {i : Nat} {r : List AV}, (∀ x ∈ rows, x.length = k) → rows[i]? = some r → (rows.flatten.drop (i * k)).take k = r ∧ i * k + k ≤ rows.flatten.length
  | [], i, r, _, h => by simp at h
  | x :: rows, 0, r, h, hi => by
    simp at hi
    subst hi
    have := h x (by simp)
    rw [List.flatten_cons, Nat.zero_mul, List.drop_zero, ← this, List.take_left']
    · exact ⟨rfl, by simp⟩
    · rfl
  | x :: rows, i + 1, r, h, hi => by
    have hx := h x (by simp)
    obtain ⟨h1, h2⟩ := rows_atN (rows := rows) (i := i) (r := r) (fun y hy => h y (by simp [hy])) (by simpa using hi)
    rw [List.flatten_cons, Nat.succ_mul]
    refine ⟨?_, by rw [List.length_append]; omega⟩
    rw [List.drop_append, List.drop_eq_nil_of_le (by omega), List.nil_append, hx, Nat.add_sub_cancel]
    exact h1
theorem rda_acts {v : AV} (h : RdA Try.prog s 8 47 v) : ∃ n : Nat, lenV v = some (.int .i64 (n : Int)) ∧ ∀ i, i < n → ∃ w a b st L p, iadV 4 v (.int .i64 (i : Int)) = some p ∧ (∀ t, Keep s t → lod t 4 p = some (.agg [.int .i64 w, .int .i64 a, .int .i64 b, st])) ∧ BwA s st L := by
  obtain ⟨vs, h1, rfl⟩ := h
  rcases rd_slice ac_under h1 with rfl | ⟨id, n, cap, rows, rfl, h1, _, h3, h4, h5⟩
  · exact ⟨0, by simp [argAV, ac_under]; rfl, fun i hi => by omega⟩
  · refine ⟨n, by simp [argAV, ac_under]; rfl, fun i hi => ?_⟩
    obtain ⟨r, hr⟩ := getsome (show i < rows.length by omega)
    obtain ⟨r1, x1, rfl, k1, r2, x2, rfl, k2, r3, x3, rfl, k3, r4, x4, rfl, k4, rfl⟩ := rd_struct ac_fields (h5 r (List.mem_of_getElem? hr)).1
    obtain ⟨w, rfl, _⟩ := rd_int i64_under k1
    obtain ⟨a, rfl, _⟩ := rd_int i64_under k2
    obtain ⟨b, rfl, _⟩ := rd_int i64_under k3
    obtain ⟨st, L, rfl, hL⟩ := rd_bwa k4
    obtain ⟨g1, g2⟩ := rows_atN (k := 4) (fun x hx => by have := (h5 x hx).2; rw [ac_cells] at this; exact this) hr
    refine ⟨w, a, b, st, L, .ptr id (i * 4), ?_, fun t hK => ?_, hL⟩
    · simp only [argAV, ac_under, List.headD_cons, ac_cells]
      rw [iadV_nat hi, Nat.zero_add]
    · simp only [lod, hK.blk h4]
      rw [if_pos g2, g1]
      rfl
theorem row4_lod {id : Nat} {a b c d : AV} {own : Bool} (h : t.get id = some (.row [a, b, c, d] own)) : lod1 t (.ptr id 0) = some a ∧ lod1 t (.ptr id 1) = some b ∧ lod1 t (.ptr id 2) = some c ∧ lod1 t (.ptr id 3) = some d ∧ ltN id t := by
  refine ⟨?_, ?_, ?_, ?_, St.get_lt h⟩ <;> simp [lod1, h]
theorem BwA.one {v : AV} {L : List (Int × List UInt8)} (h : BwA s v L) : v.cells = [v] ∧ v.one = true := by
  rcases h with ⟨rfl, _⟩ | ⟨id, cap, rfl, _⟩ <;> exact ⟨rfl, rfl⟩
theorem sto4 {t : St} {w a b : Int} {st : AV} (h : st.cells = [st] ∧ st.one = true) : sto (t.push (.row [.int .i64 0, .int .i64 0, .int .i64 0, .nils] true)) 4 (.ptr t.next 0) (.agg [.int .i64 w, .int .i64 a, .int .i64 b, st]) = some (.und, t.lowed.push (.row [.int .i64 w, .int .i64 a, .int .i64 b, st] true)) := by
  have h1 : ∀ n : Int, (AV.int .i64 n).one = true := fun _ => rfl
  simp only [sto, St.get_push_new, push_put]
  rw [if_pos ⟨rfl, by simp only [AV.cells, List.all_cons, h1, h.2, List.all_nil, Bool.and_self], by simp⟩]
  rfl
/-! ### Frames -/
theorem DkR.chgM {id j z : Nat} {cap : Option Nat} {l : List UInt8} {M : List Nat} (h : DkR t id j cap z l) (q : Chg M t u) (h1 : id ∉ M) (h2 : j ∉ M) : DkR u id j cap z l := ⟨q.blk h.box h1, q.blk h.dat h2, h.hcap, h.pos, h.len⟩
theorem hd_ne {a c : Nat} {b : Int} {x : AV} {r r' : List AV} {o o' : Bool} (h1 : t.get a = some (.row (AV.int .u8 b :: r) o)) (h2 : t.get c = some (.row (x :: r') o')) (h : ∀ b, x ≠ .int .u8 b) : c ≠ a := by
  rintro rfl
  rw [h1] at h2
  injection h2 with h2
  injection h2 with h2 _
  injection h2 with h2 _
  exact h b h2.symm
/-- A disk and the reference's, with the same bytes. -/
structure Plr (s t : St) (id j : Nat) (cap : Option Nat) (ix jx : Nat) (qs : List Nat) (z : Nat) (ls : List (List UInt8)) : Prop where
  dk : DkR t id j cap z ls.flatten
  xk : XkR s t ix jx qs z ls
  hid : s.next ≤ id
  hj : s.next ≤ j
  nj : j ∉ qs
  l0 : 0 < ls.length
theorem Plr.len {id j ix jx z : Nat} {cap : Option Nat} {qs : List Nat} {ls : List (List UInt8)} (h : Plr s t id j cap ix jx qs z ls) : ls.flatten.length = ls.length * z ∧ 0 < ls.flatten.length ∧ ls.flatten.length / z = ls.length := by
  have h1 := flat_len h.xk.rows
  have h2 := Nat.mul_pos h.l0 h.xk.pos
  exact ⟨h1, by omega, by rw [h1]; exact Nat.mul_div_cancel _ h.xk.pos⟩
theorem Plr.apart {id j ix jx z : Nat} {cap : Option Nat} {qs : List Nat} {ls : List (List UInt8)} (h : Plr s t id j cap ix jx qs z ls) : ix ≠ j ∧ jx ≠ j ∧ id ∉ qs ∧ id ≠ j := by
  obtain ⟨b, r, e⟩ := cells_hd (l := ls.flatten) rfl h.len.2.1
  have hj := h.dk.dat
  rw [e] at hj
  refine ⟨hd_ne hj h.xk.box (fun b e => by cases e), ?_, fun hq => ?_, hd_ne hj h.dk.box (fun b e => by cases e)⟩
  · have hl := h.xk.lst
    cases hqs : qs with
    | nil => have := h.xk.len; rw [hqs] at this; have := h.l0; simp at *; omega
    | cons a r =>
      rw [hqs] at hl
      exact hd_ne hj hl fun b e => by cases e
  · obtain ⟨b, r, e⟩ := h.xk.mem hq
    have := hd_ne e h.dk.box fun b e => by cases e
    exact this rfl
theorem Plr.keep {id j ix jx z : Nat} {cap : Option Nat} {qs : List Nat} {ls : List (List UInt8)} (h : Plr s t id j cap ix jx qs z ls) (hK : Keep t u) : Plr s u id j cap ix jx qs z ls := ⟨h.dk.keep hK, h.xk.keep hK, h.hid, h.hj, h.nj, h.l0⟩
theorem Plr.chg {id j ix jx z : Nat} {cap : Option Nat} {qs : List Nat} {ls : List (List UInt8)} {M : List Nat} (h : Plr s t id j cap ix jx qs z ls) (hC : Chg M t u) (h1 : id ∉ M) (h2 : j ∉ M) (h3 : ix ∉ M) (h4 : jx ∉ M) (h5 : ∀ q ∈ qs, q ∉ M) : Plr s u id j cap ix jx qs z ls := ⟨h.dk.chgM hC h1 h2, h.xk.chg hC h3 h4 h5, h.hid, h.hj, h.nj, h.l0⟩
/-! ### The own list, of which bytes are changed -/
def OwQ (s t : St) (v : AV) (L : List (Int × List UInt8)) (sts : List AV) : Prop := sts.length = L.length ∧ Raw2 s t v ((L.zip sts).map fun y => (.int .i64 y.1.1, y.2)) ∧ ∀ (i : Nat) (x : Int × List UInt8) (st : AV), L[i]? = some x → sts[i]? = some st → ∃ d, d.length = x.2.length ∧ Own byC s t st d
theorem OwB.owq {v : AV} {L : List (Int × List UInt8)} {sts : List AV} (h : OwB s t v L sts) : OwQ s t v L sts := ⟨h.1, h.2.1, fun i x st h1 h2 => ⟨_, rfl, h.2.2 i x st h1 h2⟩⟩
def StsIn (lo hi : Nat) (sts : List AV) : Prop := ∀ st ∈ sts, st = .nils ∨ ∃ q n, st = .sl q 0 n none 1 ∧ lo ≤ q ∧ q < hi
theorem OwB.ins {v : AV} {L : List (Int × List UInt8)} {sts : List AV} (h : OwB s t v L sts) : StsIn s.next t.next sts := fun st hst => by
  obtain ⟨i, hi⟩ := List.mem_iff_getElem?.1 hst
  obtain ⟨x, hx⟩ := getsome (show i < L.length by rw [← h.1]; exact getlt hi)
  rcases h.2.2 i x st hx hi with ⟨e, _⟩ | ⟨q, e, _, g1, g2⟩
  · exact .inl e
  · exact .inr ⟨q, _, e, g1, St.get_lt g2⟩
theorem OwQ.row {v : AV} {L : List (Int × List UInt8)} {sts : List AV} (h : OwQ s t v L sts) {i : Nat} {x : Int × List UInt8} {st : AV} (hx : L[i]? = some x) (hst : sts[i]? = some st) : ∃ j, iadV 2 v (.int .i64 (i : Int)) = some (.ptr j (i * 2)) ∧ lod1 t (.ptr j (i * 2 + 1)) = some st ∧ ltN j t := by
  have hi := getlt hx
  have hzl : ((L.zip sts).map fun y => (AV.int .i64 y.1.1, y.2)).length = L.length := by rw [List.length_map, List.length_zip, h.1, Nat.min_self]
  rcases h.2.1 with ⟨_, e⟩ | ⟨j, rfl, _, g1, g2⟩
  · rw [e] at hzl; simp at hzl; omega
  · have hz : ((L.zip sts).map fun y => (AV.int .i64 y.1.1, y.2))[i]? = some (.int .i64 x.1, st) := by
      rw [List.getElem?_map, show (L.zip sts)[i]? = some (x, st) by rw [List.getElem?_zip_eq_some]; exact ⟨hx, hst⟩]
      rfl
    obtain ⟨c0, c1⟩ := flat2_at hz
    have hia : iadV 2 (.sl j 0 ((L.zip sts).map fun y => (AV.int .i64 y.1.1, y.2)).length none 2) (.int .i64 (i : Int)) = some (.ptr j (0 + i * 2)) := iadV_nat (by omega)
    rw [Nat.zero_add] at hia
    exact ⟨j, hia, by simp only [lod1, g2, c1], St.get_lt g2⟩
theorem OwQ.len {v : AV} {L : List (Int × List UInt8)} {sts : List AV} (h : OwQ s t v L sts) : lenV v = some (.int .i64 (L.length : Int)) := by
  rcases h.2.1 with ⟨rfl, e⟩ | ⟨j, rfl, _⟩
  · have := congrArg List.length e
    rw [List.length_map, List.length_zip, h.1] at this
    simp at this
    rw [this]
    rfl
  · show some (AV.int .i64 _) = _
    rw [List.length_map, List.length_zip, h.1, Nat.min_self]
theorem OwQ.put {v : AV} {L : List (Int × List UInt8)} {sts : List AV} (h : OwQ s t v L sts) {q k : Nat} {d : List UInt8} (hg : t.get q = some (.row (byC.cells d) true)) (hk : k < d.length) (b : UInt8) : OwQ s (t.put q (.row (byC.cells (d.set k b)) true)) v L sts := by
  have hlt := St.get_lt hg
  refine ⟨h.1, ?_, fun i x st h1 h2 => ?_⟩
  · rcases h.2.1 with e | ⟨j, e, h0, g1, g2⟩
    · exact .inl e
    · refine .inr ⟨j, e, h0, g1, ?_⟩
      rw [St.get_put_ne _ _ hlt]
      · exact g2
      · rintro rfl
        rw [hg] at g2
        obtain ⟨b', r', e'⟩ := cells_hd (l := d) rfl (by omega)
        injection g2 with g2
        injection g2 with g2 _
        cases hz : L.zip sts with
        | nil => rw [hz] at h0; exact h0 rfl
        | cons y r =>
          rw [hz, List.map_cons, List.flatMap_cons, e'] at g2
          injection g2 with g2 _
          cases g2
  · obtain ⟨d', hd', hO⟩ := h.2.2 i x st h1 h2
    rcases hO with ⟨rfl, rfl⟩ | ⟨q', rfl, g0, g1, g2⟩
    · exact ⟨[], hd', .nil _ _ _⟩
    · by_cases hq : q' = q
      · subst hq
        rw [hg] at g2
        injection g2 with g2
        injection g2 with g2 _
        have hl := congrArg List.length g2
        rw [cells_len, cells_len, byC_sz, Nat.mul_one, Nat.mul_one] at hl
        refine ⟨d.set k b, by rw [List.length_set]; omega, .inr ⟨q', ?_, ?_, g1, St.get_put_same hg⟩⟩
        · rw [List.length_set, hl]
        · intro e
          have := congrArg List.length e
          rw [List.length_set] at this
          simp at this
          subst this
          simp at hk
      · exact ⟨d', hd', .inr ⟨q', rfl, g0, g1, by rw [St.get_put_ne _ _ hlt hq]; exact g2⟩⟩
/-! ### New bytes, of which some are changed -/
def NbQ (s t : St) (v : AV) (n : Nat) : Prop := (v = .nils ∧ n = 0) ∨ ∃ q cap d, v = .sl q 0 n cap 1 ∧ d.length = n ∧ s.next ≤ q ∧ t.get q = some (.row (byC.cells d) true)
theorem NewB.nbq {v : AV} {l : List UInt8} (h : NewB s t v l) : NbQ s t v l.length := by
  rcases h with ⟨e, rfl⟩ | ⟨q, cap, e, g1, g2, _⟩
  · exact .inl ⟨e, rfl⟩
  · exact .inr ⟨q, cap, l, e, rfl, g1, g2⟩
theorem NbQ.len {v : AV} {n : Nat} (h : NbQ s t v n) : lenV v = some (.int .i64 (n : Int)) := by
  rcases h with ⟨rfl, rfl⟩ | ⟨q, cap, d, rfl, _⟩ <;> rfl
/-- A byte of them is read and written. -/
theorem NbQ.bump {v : AV} {n k : Nat} (h : NbQ s t v n) (hk : k < n) : ∃ q b, iadV 1 v (.int .i64 (k : Int)) = some (.ptr q k) ∧ lod1 t (.ptr q k) = some (.int .u8 b) ∧ ltN q t ∧ s.next ≤ q ∧ ∀ b' : UInt8, ∃ bl, sto t 1 (.ptr q k) (.int .u8 (b'.toNat : Int)) = some (.und, t.put q bl) ∧ NbQ s (t.put q bl) v n := by
  rcases h with ⟨_, rfl⟩ | ⟨q, cap, d, rfl, hd, g1, g2⟩
  · omega
  · have hia : iadV 1 (.sl q 0 n cap 1) (.int .i64 (k : Int)) = some (.ptr q (0 + k * 1)) := iadV_nat hk
    rw [Nat.zero_add, Nat.mul_one] at hia
    obtain ⟨x, hx⟩ := getsome (show k < d.length by omega)
    refine ⟨q, (x.toNat : Int), hia, ?_, St.get_lt g2, g1, fun b' => ⟨_, sto_by g2 (by omega) b', .inr ⟨q, cap, _, rfl, by rw [List.length_set]; exact hd, g1, St.get_put_same g2⟩⟩⟩
    simp only [lod1, g2, byC_map, List.getElem?_map, hx]
    rfl
/-- The pieces of a split: a byte of one is read and written. -/
theorem SpL.bump {b k z : Nat} {lv : AV} {d : List UInt8} (h : SpL t b lv k z d) (hz : 0 < z) {i : Nat} (hi : i < chunksN z d.length) : ∃ j st x, iadV 2 lv (.int .i64 (i : Int)) = some (.ptr j (i * 2)) ∧ lod1 t (.ptr j (i * 2 + 1)) = some st ∧ ltN j t ∧ lenV st = some (.int .i64 ((min z (d.length - i * z) : Nat) : Int)) ∧ iadV 1 st (.int .i64 0) = some (.ptr b (i * z)) ∧ lod1 t (.ptr b (i * z)) = some (.int .u8 x) ∧ ltN b t ∧ ∀ b' : UInt8, ∃ bl d', sto t 1 (.ptr b (i * z)) (.int .u8 (b'.toNat : Int)) = some (.und, t.put b bl) ∧ d'.length = d.length ∧ SpL (t.put b bl) b lv k z d' := by
  have hiz := (chunks_lt hz).1 hi
  rcases h with ⟨rfl, _⟩ | ⟨hd, rfl, g1, g2⟩
  · simp at hiz
  · obtain ⟨c0, c1⟩ := bwL_at (b := (k : Int)) (z := z) (n := d.length) (j := b) hi
    have hia : iadV 2 (.sl (b + 1) 0 (chunksN z d.length) none 2) (.int .i64 (i : Int)) = some (.ptr (b + 1) (0 + i * 2)) := iadV_nat hi
    rw [Nat.zero_add] at hia
    have hi0 : iadV 1 (.sl b (i * z) (min z (d.length - i * z)) (some (min z (d.length - i * z))) 1) (.int .i64 ((0 : Nat) : Int)) = some (.ptr b (i * z + 0 * 1)) := iadV_nat (by omega)
    rw [Nat.zero_mul, Nat.add_zero] at hi0
    obtain ⟨x, hx⟩ := getsome hiz
    have hlt := St.get_lt g1
    refine ⟨b + 1, _, (x.toNat : Int), hia, by simp only [lod1, g2, c1], St.get_lt g2, rfl, hi0, ?_, hlt, fun b' => ⟨_, d.set (i * z) b', sto_by g1 hiz b', List.length_set, .inr ⟨?_, by rw [List.length_set], St.get_put_same g1, ?_⟩⟩⟩
    · simp only [lod1, g1, byC_map, List.getElem?_map, hx]
      rfl
    · intro e
      have := congrArg List.length e
      rw [List.length_set] at this
      exact hd (by simpa using this)
    · rw [List.length_set, St.get_put_ne _ _ hlt (by omega)]
      exact g2
/-- Pieces of a split, or none. -/
def SpQ (b : Nat) (t : St) (lv : AV) (k z m cnt : Nat) : Prop := (lv = .nils ∧ cnt = 0) ∨ ∃ d, d.length = m ∧ SpL t b lv k z d ∧ cnt = chunksN z m
theorem SpL.spq {b k z : Nat} {lv : AV} {d : List UInt8} (h : SpL t b lv k z d) : SpQ b t lv k z d.length (chunksN z d.length) := .inr ⟨d, rfl, h, rfl⟩
theorem SpQ.len {b k z m cnt : Nat} {lv : AV} (hz : 0 < z) (h : SpQ b t lv k z m cnt) : lenV lv = some (.int .i64 (cnt : Int)) := by
  rcases h with ⟨rfl, rfl⟩ | ⟨d, hd, h, rfl⟩
  · rfl
  · rcases h with ⟨rfl, rfl⟩ | ⟨_, rfl, _⟩
    · have : chunksN z m = 0 := by
        rw [← hd]
        unfold chunksN
        exact Nat.div_eq_of_lt (by simp; omega)
      rw [this]
      rfl
    · rw [hd]; rfl
theorem SpQ.bump {b k z m cnt : Nat} {lv : AV} (h : SpQ b t lv k z m cnt) (hz : 0 < z) {i : Nat} (hi : i < cnt) : ∃ j st x, iadV 2 lv (.int .i64 (i : Int)) = some (.ptr j (i * 2)) ∧ lod1 t (.ptr j (i * 2 + 1)) = some st ∧ ltN j t ∧ lenV st = some (.int .i64 ((min z (m - i * z) : Nat) : Int)) ∧ 0 < min z (m - i * z) ∧ iadV 1 st (.int .i64 0) = some (.ptr b (i * z)) ∧ lod1 t (.ptr b (i * z)) = some (.int .u8 x) ∧ ltN b t ∧ ∀ b' : UInt8, ∃ bl, sto t 1 (.ptr b (i * z)) (.int .u8 (b'.toNat : Int)) = some (.und, t.put b bl) ∧ SpQ b (t.put b bl) lv k z m cnt := by
  rcases h with ⟨rfl, rfl⟩ | ⟨d, hd, h, rfl⟩
  · omega
  · subst hd
    obtain ⟨j, st, x, h1, h2, h3, h4, h5, h6, h7, h8⟩ := h.bump hz hi
    have hiz := (chunks_lt hz).1 hi
    refine ⟨j, st, x, h1, h2, h3, h4, by omega, h5, h6, h7, fun b' => ?_⟩
    obtain ⟨bl, d', k1, k2, k3⟩ := h8 b'
    exact ⟨bl, k1, .inr ⟨d', k2, k3, rfl⟩⟩
theorem awp_blockM {call : Nat → List AV → St → Option (AV × St)} {c : AC} {i : Nat} {M : Env → St → Prop} {env : Env} {s : St} (h : awp call c (fun x e t => x = .nor ∧ M e t) env s) : awp call (.block i c) (fun x e t => x = .nor ∧ M e t) env s := by
  rw [wp_block]
  refine awp_mono _ (fun x e t q => ?_) h
  obtain ⟨rfl, q⟩ := q
  exact ⟨rfl, q⟩

end Go.AM
end
