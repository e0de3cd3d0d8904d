/-
  The helpers of the statements; JoinWithins and JoinJoins in the abstract machine. Own work of this project; in part printed by a program of it.
-/
import Derived.Test.YtihjheckdjocoaaP4
section
set_option linter.unusedVariables false
set_option linter.unusedSimpArgs false
set_option maxRecDepth 100000
set_option maxHeartbeats 8000000
namespace Go.AM
open Go Go.Proofs

theorem tb_at (g : Nat) (c : Con) (r : List (Nat × Con)) (f : Nat) : tb ((g, c) :: r) f = if f = g then c else tb r f := nrfl rfl
def agreeP (l m : List Nd) : Bool × Int := if storeL l = true ∧ storeL m = true then (if agreeL l m = true then (true, 0) else (false, 0)) else (false, 2)
def withinP (l m : List Nd) : Bool × Int := if storeL l = true ∧ storeL m = true then (if agreeL l m = true then (decide (refJ l m = m), 0) else (false, 15)) else (false, 2)
def joinsP (l m : List Nd) : List Nd × Int := if storeL l = true ∧ storeL m = true then (if agreeL l m = true then (refJ l m, 0) else ([], 15)) else ([], 2)
theorem gJoin_P (l m : List Nd) : gJoin l m = some ((joinsP l m).1, some (.int .i64 (joinsP l m).2)) := by
  unfold gJoin joinsP
  by_cases h : storeL l = true ∧ storeL m = true
  · rw [if_pos h, if_pos h, store_join h.1 h.2]
    by_cases ha : agreeL l m = true
    · simp [ha]
    · simp [ha]
  · rw [if_neg h, if_neg h]
theorem agreeV_P (l m : List Nd) : agreeV l m = .tup [.bool (agreeP l m).1, .int .i64 (agreeP l m).2] := by
  unfold agreeV agreeP
  rw [gJoin_P]
  unfold joinsP
  by_cases h : storeL l = true ∧ storeL m = true
  · rw [if_pos h, if_pos h]
    by_cases ha : agreeL l m = true
    · rw [if_pos ha, if_pos ha]; rfl
    · rw [if_neg ha, if_neg ha]; rfl
  · rw [if_neg h, if_neg h]; rfl
theorem withinV_P (l m : List Nd) : withinV l m = .tup [.bool (withinP l m).1, .int .i64 (withinP l m).2] := by
  unfold withinV withinP
  rw [gJoin_P]
  unfold joinsP
  by_cases h : storeL l = true ∧ storeL m = true
  · rw [if_pos h, if_pos h]
    by_cases ha : agreeL l m = true
    · rw [if_pos ha, if_pos ha]; rfl
    · rw [if_neg ha, if_neg ha]; rfl
  · rw [if_neg h, if_neg h]; rfl
def conH (f : List Nd → List Nd → Bool × Int) : Con := fun xs s => match xs with
  | [v, w, .bool b, .int .i64 e] => match read ndC s v, read ndC s w with
    | some l, some m => if l.length ≤ 100000 ∧ m.length ≤ 100000 then some (.bool (((f l m).1 == b) && decide ((f l m).2 = e)), s.lowed) else none
    | _, _ => none
  | _ => none
theorem conH_some {f : List Nd → List Nd → Bool × Int} {xs : List AV} {s : St} {r : AV} {s' : St} (h : conH f xs s = some (r, s')) : ∃ v w b e l m, xs = [v, w, .bool b, .int .i64 e] ∧ read ndC s v = some l ∧ read ndC s w = some m ∧ l.length ≤ 100000 ∧ m.length ≤ 100000 ∧ r = .bool (((f l m).1 == b) && decide ((f l m).2 = e)) ∧ s' = s.lowed := by
  unfold conH at h
  split at h
  · split at h
    · split at h
      · rename_i v w b e _ _ l m hr hw hl
        injection h with h
        obtain ⟨rfl, rfl⟩ := Prod.mk.inj h
        exact ⟨v, w, b, e, l, m, rfl, hr, hw, hl.1, hl.2, rfl, rfl⟩
      · cases h
    · cases h
  · cases h
theorem conH_call (f : List Nd → List Nd → Bool × Int) {s : St} {v w : AV} {l m : List Nd} (h : read ndC s v = some l) (k : read ndC s w = some m) (hl : l.length ≤ 100000) (hm : m.length ≤ 100000) (cl b : Bool) (e : Int) : acall (conH f) cl [v, w, .bool b, .int .i64 e] s = some (.bool (((f l m).1 == b) && decide ((f l m).2 = e)), s) :=
  acall_rol (by simp only [conH, read_low, h, k, hl, hm, and_self, if_true]) rfl
def conJ : Con := fun xs s => match xs with
  | [v, w, u, .int .i64 e] => match read ndC s v, read ndC s w, read ndC s u with
    | some l, some m, some n => if l.length ≤ 100000 ∧ m.length ≤ 100000 ∧ n.length ≤ lim then some (.bool (decide ((joinsP l m).1 = n) && decide ((joinsP l m).2 = e)), s.lowed) else none
    | _, _, _ => none
  | _ => none
theorem conJ_some {xs : List AV} {s : St} {r : AV} {s' : St} (h : conJ xs s = some (r, s')) : ∃ v w u e l m n, xs = [v, w, u, .int .i64 e] ∧ read ndC s v = some l ∧ read ndC s w = some m ∧ read ndC s u = some n ∧ l.length ≤ 100000 ∧ m.length ≤ 100000 ∧ n.length ≤ lim ∧ r = .bool (decide ((joinsP l m).1 = n) && decide ((joinsP l m).2 = e)) ∧ s' = s.lowed := by
  unfold conJ at h
  split at h
  · split at h
    · split at h
      · rename_i v w u e _ _ _ l m n hr hw hu hl
        injection h with h
        obtain ⟨rfl, rfl⟩ := Prod.mk.inj h
        exact ⟨v, w, u, e, l, m, n, rfl, hr, hw, hu, hl.1, hl.2.1, hl.2.2, rfl, rfl⟩
      · cases h
    · cases h
  · cases h
theorem conJ_call {s : St} {v w u : AV} {l m n : List Nd} (h : read ndC s v = some l) (k : read ndC s w = some m) (j : read ndC s u = some n) (hl : l.length ≤ 100000) (hm : m.length ≤ 100000) (hn : n.length ≤ lim) (cl : Bool) (e : Int) : acall conJ cl [v, w, u, .int .i64 e] s = some (.bool (decide ((joinsP l m).1 = n) && decide ((joinsP l m).2 = e)), s) :=
  acall_rol (by simp only [conJ, read_low, h, k, j, hl, hm, hn, and_self, if_true]) rfl
theorem joinsP_len (l m : List Nd) : (joinsP l m).1.length ≤ l.length + m.length := by
  rcases gJoin_cases l m with ⟨j, _, _, hj, hg⟩ | ⟨_, _, _, hg⟩ | ⟨_, hg⟩ <;> (rw [gJoin_P] at hg; injection hg with hg; have hg := (Prod.mk.inj hg).1; rw [hg])
  · exact joinL_len _ _ _ hj
  · simp
  · simp
theorem beq_eq_dec (a b : Bool) : (a == b) = decide (a = b) := by cases a <;> cases b <;> rfl
theorem s_hagree : SoundAt Try.prog 10 (conH agreeP) :=
  con_keep (tb_sound (l := [(23, conLLs agreeV)]) (by simpa using s_Agree)) mixed Try.func10 k10 c10 fun args s r s' h => by
    obtain ⟨v, w, b, e, l, m, rfl, hr, hw, hls, hms, rfl, rfl⟩ := conH_some h
    refine ⟨rfl, rfl, by simp [a10], fun env hlen ha => ?_⟩
    have h0 : E env 0 = _ := ha 0 _ rfl
    have h1 : E env 1 = _ := ha 1 _ rfl
    have h2 : E env 2 = _ := ha 2 _ rfl
    have h3 : E env 3 = _ := ha 3 _ rfl
    have hlen : elen env = _ := hlen
    simp only [a10] at hlen
    unfold a10
    have hq := q_Agree false hr hw hls hms
    rw [agreeV_P] at hq
    simp (config := {contextual := true, maxDischargeDepth := 12}) only [tb, h0, h1, h2, h3, hlen, hq, ↓bD0, ↓bD1, ↓bD2, ↓bD3, ↓bD4, ↓bD5, ↓bD6, bU0, bU1, bU2, bU3, bU4, bU5, bU6, bU7, bU8, bU9, bU10, bU11, bU12, bU13, forall_const, List.all_cons, List.all_nil, Option.map_some, List.map_cons, List.map_nil, ne_eq, implies_true, isNx, cs_dec, cs_not, cs_and, cs_or, cs_valid, eq_self, ↓wp_cond, ↓wp_loop, ↓reduceIte, reduceCtorEq, Nat.reduceEqDiff, Nat.reduceLT, Nat.reduceAdd, Nat.reduceMul, Int.ofNat_lt, Int.ofNat_le, exists_const, ae_app, ap_slc, Option.map_none, mkR_none, mkR_some, ar_look, ae_mset, ae_rng, ae_mkmap0, ar_ent, lookV_push, lookV_lowed, msetV_push, msetV_lowed, lt_put, same_put, sto_over, sto_lowed, cs_dead, Option.map_some, beq_self_eq_true, decide_true, cs_true, cs_false]
theorem s_hwithin : SoundAt Try.prog 19 (conH withinP) :=
  con_keep (tb_sound (l := [(21, conLLs withinV)]) (by simpa using s_Within)) mixed Try.func19 k19 c19 fun args s r s' h => by
    obtain ⟨v, w, b, e, l, m, rfl, hr, hw, hls, hms, rfl, rfl⟩ := conH_some h
    refine ⟨rfl, rfl, by simp [a19], fun env hlen ha => ?_⟩
    have h0 : E env 0 = _ := ha 0 _ rfl
    have h1 : E env 1 = _ := ha 1 _ rfl
    have h2 : E env 2 = _ := ha 2 _ rfl
    have h3 : E env 3 = _ := ha 3 _ rfl
    have hlen : elen env = _ := hlen
    simp only [a19] at hlen
    unfold a19
    have hq := q_Within false hr hw hls hms
    rw [withinV_P] at hq
    simp (config := {contextual := true, maxDischargeDepth := 12}) only [tb, h0, h1, h2, h3, hlen, hq, ↓bD0, ↓bD1, ↓bD2, ↓bD3, ↓bD4, ↓bD5, ↓bD6, bU0, bU1, bU2, bU3, bU4, bU5, bU6, bU7, bU8, bU9, bU10, bU11, bU12, bU13, forall_const, List.all_cons, List.all_nil, Option.map_some, List.map_cons, List.map_nil, ne_eq, implies_true, isNx, cs_dec, cs_not, cs_and, cs_or, cs_valid, eq_self, ↓wp_cond, ↓wp_loop, ↓reduceIte, reduceCtorEq, Nat.reduceEqDiff, Nat.reduceLT, Nat.reduceAdd, Nat.reduceMul, Int.ofNat_lt, Int.ofNat_le, exists_const, ae_app, ap_slc, Option.map_none, mkR_none, mkR_some, ar_look, ae_mset, ae_rng, ae_mkmap0, ar_ent, lookV_push, lookV_lowed, msetV_push, msetV_lowed, lt_put, same_put, sto_over, sto_lowed, cs_dead, Option.map_some, beq_self_eq_true, decide_true, cs_true, cs_false]
theorem s_hjoins : SoundAt Try.prog 11 (conJ) :=
  con_keep (tb_sound (l := [(14, conF ndC (pLL ndC ndC gJoin)), (15, conLL ndC ndC fSame)]) (by simpa using ⟨s_Join, s_Same⟩)) mixed Try.func11 k11 c11 fun args s r s' h => by
    obtain ⟨v, w, u, e, l, m, n, rfl, hr, hw, hu, hls, hms, hns, rfl, rfl⟩ := conJ_some h
    refine ⟨rfl, rfl, by simp [a11], fun env hlen ha => ?_⟩
    have h0 : E env 0 = _ := ha 0 _ rfl
    have h1 : E env 1 = _ := ha 1 _ rfl
    have h2 : E env 2 = _ := ha 2 _ rfl
    have h3 : E env 3 = _ := ha 3 _ rfl
    have hlen : elen env = _ := hlen
    simp only [a11] at hlen
    unfold a11
    have hl : l.length ≤ lim := by unfold lim; omega
    have hm : m.length ≤ lim := by unfold lim; omega
    obtain ⟨x, t, hc, hK, hO⟩ := fresh_LL (D := ndC) (f := gJoin) hr hw hl hm (gJoin_P l m) (gJoin_plain (gJoin_P l m))
    rw [mkR_some] at hc
    have qs := q_Same false hO.read (hK.read hu) (by have := joinsP_len l m; unfold lim; omega) hns
    simp (config := {contextual := true, maxDischargeDepth := 12}) only [tb, h0, h1, h2, h3, hlen, hc, qs, ↓bD0, ↓bD1, ↓bD2, ↓bD3, ↓bD4, ↓bD5, ↓bD6, bU0, bU1, bU2, bU3, bU4, bU5, bU6, bU7, bU8, bU9, bU10, bU11, bU12, bU13, forall_const, List.all_cons, List.all_nil, Option.map_some, List.map_cons, List.map_nil, ne_eq, implies_true, isNx, cs_dec, cs_not, cs_and, cs_or, cs_valid, eq_self, ↓wp_cond, ↓wp_loop, ↓reduceIte, reduceCtorEq, Nat.reduceEqDiff, Nat.reduceLT, Nat.reduceAdd, Nat.reduceMul, Int.ofNat_lt, Int.ofNat_le, exists_const, ae_app, ap_slc, Option.map_none, mkR_none, mkR_some, ar_look, ae_mset, ae_rng, ae_mkmap0, ar_ent, lookV_push, lookV_lowed, msetV_push, msetV_lowed, lt_put, same_put, sto_over, sto_lowed, cs_dead, Option.map_some, beq_self_eq_true, decide_true, cs_true, cs_false]
    exact hK
theorem s_JoinWithins : SoundAt Try.prog 5 (law2) :=
  con_keep (tb_sound (l := [(8, closed [] (.bool true)), (9, conL ndC fStore), (12, conLL ndC ndC fAgree), (16, conF ndC (pLL ndC ndC gRJoin)), (15, conLL ndC ndC fSame), (19, conH withinP)]) (by simpa using ⟨s_known, s_Store, s_RAgree, s_RJoin, s_Same, s_hwithin⟩)) mixed Try.func5 k5 c5 fun args s r s' h => by
    obtain ⟨v, w, l, m, rfl, hr, hw, rfl, rfl⟩ := law2_some h
    refine ⟨rfl, rfl, by simp [a5], fun env hlen ha => ?_⟩
    have h0 : E env 0 = _ := ha 0 _ rfl
    have h1 : E env 1 = _ := ha 1 _ rfl
    have hlen : elen env = _ := hlen
    simp only [a5] at hlen
    unfold a5
    have hL := lenV_read hr
    have hM := lenV_read hw
    by_cases h1l : (60 : Int) < (l.length : Int)
    · have hz1 := eq_true h1l
      simp (config := {contextual := true, maxDischargeDepth := 12}) only [tb_at, q_known, h0, h1, hlen, hL, hM, hz1, ↓bD0, ↓bD1, ↓bD2, ↓bD3, ↓bD4, ↓bD5, ↓bD6, bU0, bU1, bU2, bU3, bU4, bU5, bU6, bU7, bU8, bU9, bU10, bU11, bU12, bU13, forall_const, List.all_cons, List.all_nil, Option.map_some, List.map_cons, List.map_nil, ne_eq, implies_true, isNx, cs_dec, cs_not, cs_and, cs_or, cs_valid, eq_self, ↓wp_cond, ↓wp_loop, ↓reduceIte, reduceCtorEq, Nat.reduceEqDiff, Nat.reduceLT, Nat.reduceAdd, Nat.reduceMul, Int.ofNat_lt, Int.ofNat_le, exists_const, ae_app, ap_slc, Option.map_none, mkR_none, mkR_some, ar_look, ae_mset, ae_rng, ae_mkmap0, ar_ent, lookV_push, lookV_lowed, msetV_push, msetV_lowed, lt_put, same_put, sto_over, sto_lowed, cs_dead, Option.map_some, beq_self_eq_true, decide_true, cs_true, cs_false]
    · have hz1 := eq_false h1l
      by_cases h2l : (60 : Int) < (m.length : Int)
      · have hz2 := eq_true h2l
        simp (config := {contextual := true, maxDischargeDepth := 12}) only [tb_at, q_known, h0, h1, hlen, hL, hM, hz1, hz2, ↓bD0, ↓bD1, ↓bD2, ↓bD3, ↓bD4, ↓bD5, ↓bD6, bU0, bU1, bU2, bU3, bU4, bU5, bU6, bU7, bU8, bU9, bU10, bU11, bU12, bU13, forall_const, List.all_cons, List.all_nil, Option.map_some, List.map_cons, List.map_nil, ne_eq, implies_true, isNx, cs_dec, cs_not, cs_and, cs_or, cs_valid, eq_self, ↓wp_cond, ↓wp_loop, ↓reduceIte, reduceCtorEq, Nat.reduceEqDiff, Nat.reduceLT, Nat.reduceAdd, Nat.reduceMul, Int.ofNat_lt, Int.ofNat_le, exists_const, ae_app, ap_slc, Option.map_none, mkR_none, mkR_some, ar_look, ae_mset, ae_rng, ae_mkmap0, ar_ent, lookV_push, lookV_lowed, msetV_push, msetV_lowed, lt_put, same_put, sto_over, sto_lowed, cs_dead, Option.map_some, beq_self_eq_true, decide_true, cs_true, cs_false]
      · have hz2 := eq_false h2l
        have hl : l.length ≤ lim := by unfold lim; omega
        have hm : m.length ≤ lim := by unfold lim; omega
        have hls : l.length ≤ 100000 := by omega
        have hms : m.length ≤ 100000 := by omega
        have q1 := q_Store false hr hl
        have q2 := q_Store false hw hm
        have qw := conH_call withinP hr hw hls hms false
        by_cases hv : storeL l = true ∧ storeL m = true
        rotate_left
        · have hP : withinP l m = (false, 2) := by unfold withinP; rw [if_neg hv]
          rw [hP] at qw
          have hv' : (!storeL l || !storeL m) = true := by
            cases x1 : storeL l <;> cases x2 : storeL m <;> simp_all
          simp (config := {contextual := true, maxDischargeDepth := 12}) only [tb_at, q_known, h0, h1, hlen, hL, hM, hz1, hz2, q1, q2, qw, hv', ↓bD0, ↓bD1, ↓bD2, ↓bD3, ↓bD4, ↓bD5, ↓bD6, bU0, bU1, bU2, bU3, bU4, bU5, bU6, bU7, bU8, bU9, bU10, bU11, bU12, bU13, forall_const, List.all_cons, List.all_nil, Option.map_some, List.map_cons, List.map_nil, ne_eq, implies_true, isNx, cs_dec, cs_not, cs_and, cs_or, cs_valid, eq_self, ↓wp_cond, ↓wp_loop, ↓reduceIte, reduceCtorEq, Nat.reduceEqDiff, Nat.reduceLT, Nat.reduceAdd, Nat.reduceMul, Int.ofNat_lt, Int.ofNat_le, exists_const, ae_app, ap_slc, Option.map_none, mkR_none, mkR_some, ar_look, ae_mset, ae_rng, ae_mkmap0, ar_ent, lookV_push, lookV_lowed, msetV_push, msetV_lowed, lt_put, same_put, sto_over, sto_lowed, cs_dead, Option.map_some, beq_self_eq_true, decide_true, cs_true, cs_false]
        · have qa := q_RAgree false hr hw hl hm
          rw [hv.1] at q1
          rw [hv.2] at q2
          cases ha : agreeL l m
          · have hP : withinP l m = (false, 15) := by unfold withinP; rw [if_pos hv, if_neg (by simp [ha])]
            rw [hP] at qw
            rw [ha] at qa
            simp (config := {contextual := true, maxDischargeDepth := 12}) only [tb_at, q_known, h0, h1, hlen, hL, hM, hz1, hz2, q1, q2, qw, qa, ↓bD0, ↓bD1, ↓bD2, ↓bD3, ↓bD4, ↓bD5, ↓bD6, bU0, bU1, bU2, bU3, bU4, bU5, bU6, bU7, bU8, bU9, bU10, bU11, bU12, bU13, forall_const, List.all_cons, List.all_nil, Option.map_some, List.map_cons, List.map_nil, ne_eq, implies_true, isNx, cs_dec, cs_not, cs_and, cs_or, cs_valid, eq_self, ↓wp_cond, ↓wp_loop, ↓reduceIte, reduceCtorEq, Nat.reduceEqDiff, Nat.reduceLT, Nat.reduceAdd, Nat.reduceMul, Int.ofNat_lt, Int.ofNat_le, exists_const, ae_app, ap_slc, Option.map_none, mkR_none, mkR_some, ar_look, ae_mset, ae_rng, ae_mkmap0, ar_ent, lookV_push, lookV_lowed, msetV_push, msetV_lowed, lt_put, same_put, sto_over, sto_lowed, cs_dead, Option.map_some, beq_self_eq_true, decide_true, cs_true, cs_false]
          · have hP : withinP l m = (decide (refJ l m = m), 0) := by unfold withinP; rw [if_pos hv, if_pos ha]
            rw [ha] at qa
            obtain ⟨u, t, hc, hK, hO⟩ := fresh_LL (D := ndC) (f := gRJoin) hr hw hl hm (by unfold gRJoin; rw [if_pos ⟨by omega, by omega⟩]) (by simp)
            rw [mkR_none] at hc
            have qs := q_Same false hO.read (hK.read hw) (by have := joinsP_len l m; unfold joinsP at this; rw [if_pos hv, if_pos ha] at this; simp at this; unfold lim; omega) hm
            have qw := conH_call withinP (hK.read hr) (hK.read hw) hls hms false
            rw [hP] at qw
            simp (config := {contextual := true, maxDischargeDepth := 12}) only [tb_at, q_known, h0, h1, hlen, hL, hM, hz1, hz2, q1, q2, qw, qa, hc, qs, ↓bD0, ↓bD1, ↓bD2, ↓bD3, ↓bD4, ↓bD5, ↓bD6, bU0, bU1, bU2, bU3, bU4, bU5, bU6, bU7, bU8, bU9, bU10, bU11, bU12, bU13, forall_const, List.all_cons, List.all_nil, Option.map_some, List.map_cons, List.map_nil, ne_eq, implies_true, isNx, cs_dec, cs_not, cs_and, cs_or, cs_valid, eq_self, ↓wp_cond, ↓wp_loop, ↓reduceIte, reduceCtorEq, Nat.reduceEqDiff, Nat.reduceLT, Nat.reduceAdd, Nat.reduceMul, Int.ofNat_lt, Int.ofNat_le, exists_const, ae_app, ap_slc, Option.map_none, mkR_none, mkR_some, ar_look, ae_mset, ae_rng, ae_mkmap0, ar_ent, lookV_push, lookV_lowed, msetV_push, msetV_lowed, lt_put, same_put, sto_over, sto_lowed, cs_dead, Option.map_some, beq_self_eq_true, decide_true, cs_true, cs_false]
            exact hK

theorem stain_own {s t : St} {v : AV} {l : List Nd} (hK : Keep s t) (hO : Own ndC s t v l) (hl : l.length ≤ lim) : ∃ t3, acall stainC false [v] t = some (.tup [], t3) ∧ Keep s t3 := by
  rcases hO with ⟨rfl, rfl⟩ | ⟨j, rfl, h0, h1, hg⟩
  · exact ⟨t, acall_rol rfl rfl, hK⟩
  · have hcl : (ndC.cells l).length = l.length * 6 := cells_len ndC l
    have hd : decL ndC l.length (ndC.cells l) = some l := by
      have := decL_cells ndC l []
      rwa [List.append_nil] at this
    have hlt := St.get_lt hg
    have hn : l.length ≠ 0 := by simpa using h0
    refine ⟨t.put j (.row (ndC.cells (l.map stainN)) true), ?_, hK.put _ h1 hlt⟩
    have hcs : stainC [.sl j 0 l.length none 6] { heap := t.heap, next := t.next, low := t.next } = some (.tup [], ({ heap := t.heap, next := t.next, low := t.next } : St).put j (.row (ndC.cells (l.map stainN)) true)) := by
      have hg' : ({ heap := t.heap, next := t.next, low := t.next } : St).get j = some (.row (ndC.cells l) true) := hg
      simp only [stainC, if_neg hn, hg', hd, hcl, hl, and_self, if_true]
    show acall stainC false [.sl j 0 l.length none 6] t = _
    simp only [acall, hcs]
    have e : (AV.tup []).ground = true := rfl
    have e3 : decide (t.next ≤ (({ heap := t.heap, next := t.next, low := t.next } : St).put j (.row (ndC.cells (l.map stainN)) true)).low) = false := decide_eq_false (by simp only [St.low_put]; omega)
    rw [e, e3]
    simp only [Bool.and_false, Bool.false_eq_true, if_false, St.put]
    congr 3
    omega
theorem s_JoinJoins : SoundAt Try.prog 3 (law2) :=
  con_keep (tb_sound (l := [(8, closed [] (.bool true)), (9, conL ndC fStore), (10, conH agreeP), (11, conJ), (12, conLL ndC ndC fAgree), (13, conF ndC (pL ndC gCopy)), (14, conF ndC (pLL ndC ndC gJoin)), (15, conLL ndC ndC fSame), (16, conF ndC (pLL ndC ndC gRJoin)), (17, stainC)]) (by simpa using ⟨s_known, s_Store, s_hagree, s_hjoins, s_RAgree, s_RCopy, s_Join, s_Same, s_RJoin, s_stain⟩)) mixed Try.func3 k3 c3 fun args s r s' h => by
    obtain ⟨v, w, l, m, rfl, hr, hw, rfl, rfl⟩ := law2_some h
    refine ⟨rfl, rfl, by simp [a3], fun env hlen ha => ?_⟩
    have h0 : E env 0 = _ := ha 0 _ rfl
    have h1 : E env 1 = _ := ha 1 _ rfl
    have hlen : elen env = _ := hlen
    simp only [a3] at hlen
    unfold a3
    have hL := lenV_read hr
    have hM := lenV_read hw
    by_cases h1l : (60 : Int) < (l.length : Int)
    · have hz1 := eq_true h1l
      simp (config := {contextual := true, maxDischargeDepth := 12}) only [tb_at, q_known, h0, h1, hlen, hL, hM, hz1, ↓bD0, ↓bD1, ↓bD2, ↓bD3, ↓bD4, ↓bD5, ↓bD6, bU0, bU1, bU2, bU3, bU4, bU5, bU6, bU7, bU8, bU9, bU10, bU11, bU12, bU13, forall_const, List.all_cons, List.all_nil, Option.map_some, List.map_cons, List.map_nil, ne_eq, implies_true, isNx, cs_dec, cs_not, cs_and, cs_or, cs_valid, eq_self, ↓wp_cond, ↓wp_loop, ↓reduceIte, reduceCtorEq, Nat.reduceEqDiff, Nat.reduceLT, Nat.reduceAdd, Nat.reduceMul, Int.ofNat_lt, Int.ofNat_le, exists_const, ae_app, ap_slc, Option.map_none, mkR_none, mkR_some, ar_look, ae_mset, ae_rng, ae_mkmap0, ar_ent, lookV_push, lookV_lowed, msetV_push, msetV_lowed, lt_put, same_put, sto_over, sto_lowed, cs_dead, Option.map_some, beq_self_eq_true, decide_true, cs_true, cs_false]
    · have hz1 := eq_false h1l
      by_cases h2l : (60 : Int) < (m.length : Int)
      · have hz2 := eq_true h2l
        simp (config := {contextual := true, maxDischargeDepth := 12}) only [tb_at, q_known, h0, h1, hlen, hL, hM, hz1, hz2, ↓bD0, ↓bD1, ↓bD2, ↓bD3, ↓bD4, ↓bD5, ↓bD6, bU0, bU1, bU2, bU3, bU4, bU5, bU6, bU7, bU8, bU9, bU10, bU11, bU12, bU13, forall_const, List.all_cons, List.all_nil, Option.map_some, List.map_cons, List.map_nil, ne_eq, implies_true, isNx, cs_dec, cs_not, cs_and, cs_or, cs_valid, eq_self, ↓wp_cond, ↓wp_loop, ↓reduceIte, reduceCtorEq, Nat.reduceEqDiff, Nat.reduceLT, Nat.reduceAdd, Nat.reduceMul, Int.ofNat_lt, Int.ofNat_le, exists_const, ae_app, ap_slc, Option.map_none, mkR_none, mkR_some, ar_look, ae_mset, ae_rng, ae_mkmap0, ar_ent, lookV_push, lookV_lowed, msetV_push, msetV_lowed, lt_put, same_put, sto_over, sto_lowed, cs_dead, Option.map_some, beq_self_eq_true, decide_true, cs_true, cs_false]
      · have hz2 := eq_false h2l
        have hl : l.length ≤ lim := by unfold lim; omega
        have hm : m.length ≤ lim := by unfold lim; omega
        have hls : l.length ≤ 100000 := by omega
        have hms : m.length ≤ 100000 := by omega
        have q1 := q_Store false hr hl
        have q2 := q_Store false hw hm
        have qg := conH_call agreeP hr hw hls hms false
        have qj := conJ_call hr hw (read_nils ndC s) hls hms (by simp) false
        by_cases hv : storeL l = true ∧ storeL m = true
        rotate_left
        · have hP : agreeP l m = (false, 2) := by unfold agreeP; rw [if_neg hv]
          have hJ : joinsP l m = ([], 2) := by unfold joinsP; rw [if_neg hv]
          rw [hP] at qg
          rw [hJ] at qj
          have hv' : (!storeL l || !storeL m) = true := by
            cases x1 : storeL l <;> cases x2 : storeL m <;> simp_all
          simp (config := {contextual := true, maxDischargeDepth := 12}) only [tb_at, q_known, h0, h1, hlen, hL, hM, hz1, hz2, q1, q2, qg, qj, hv', ↓bD0, ↓bD1, ↓bD2, ↓bD3, ↓bD4, ↓bD5, ↓bD6, bU0, bU1, bU2, bU3, bU4, bU5, bU6, bU7, bU8, bU9, bU10, bU11, bU12, bU13, forall_const, List.all_cons, List.all_nil, Option.map_some, List.map_cons, List.map_nil, ne_eq, implies_true, isNx, cs_dec, cs_not, cs_and, cs_or, cs_valid, eq_self, ↓wp_cond, ↓wp_loop, ↓reduceIte, reduceCtorEq, Nat.reduceEqDiff, Nat.reduceLT, Nat.reduceAdd, Nat.reduceMul, Int.ofNat_lt, Int.ofNat_le, exists_const, ae_app, ap_slc, Option.map_none, mkR_none, mkR_some, ar_look, ae_mset, ae_rng, ae_mkmap0, ar_ent, lookV_push, lookV_lowed, msetV_push, msetV_lowed, lt_put, same_put, sto_over, sto_lowed, cs_dead, Option.map_some, beq_self_eq_true, decide_true, cs_true, cs_false]
        · have qa := q_RAgree false hr hw hl hm
          rw [hv.1] at q1
          rw [hv.2] at q2
          cases ha : agreeL l m
          · have hP : agreeP l m = (false, 0) := by unfold agreeP; rw [if_pos hv, if_neg (by simp [ha])]
            have hJ : joinsP l m = ([], 15) := by unfold joinsP; rw [if_pos hv, if_neg (by simp [ha])]
            rw [hP] at qg
            rw [hJ] at qj
            rw [ha] at qa
            simp (config := {contextual := true, maxDischargeDepth := 12}) only [tb_at, q_known, h0, h1, hlen, hL, hM, hz1, hz2, q1, q2, qg, qj, qa, ↓bD0, ↓bD1, ↓bD2, ↓bD3, ↓bD4, ↓bD5, ↓bD6, bU0, bU1, bU2, bU3, bU4, bU5, bU6, bU7, bU8, bU9, bU10, bU11, bU12, bU13, forall_const, List.all_cons, List.all_nil, Option.map_some, List.map_cons, List.map_nil, ne_eq, implies_true, isNx, cs_dec, cs_not, cs_and, cs_or, cs_valid, eq_self, ↓wp_cond, ↓wp_loop, ↓reduceIte, reduceCtorEq, Nat.reduceEqDiff, Nat.reduceLT, Nat.reduceAdd, Nat.reduceMul, Int.ofNat_lt, Int.ofNat_le, exists_const, ae_app, ap_slc, Option.map_none, mkR_none, mkR_some, ar_look, ae_mset, ae_rng, ae_mkmap0, ar_ent, lookV_push, lookV_lowed, msetV_push, msetV_lowed, lt_put, same_put, sto_over, sto_lowed, cs_dead, Option.map_some, beq_self_eq_true, decide_true, cs_true, cs_false]
          · have hP : agreeP l m = (true, 0) := by unfold agreeP; rw [if_pos hv, if_pos ha]
            have hJ : joinsP l m = (refJ l m, 0) := by unfold joinsP; rw [if_pos hv, if_pos ha]
            have hJl := joinsP_len l m
            rw [hJ] at hJl
            rw [ha] at qa
            obtain ⟨x, t1, hc1, hK1, hO1⟩ := fresh_L (D := ndC) (f := gCopy) hr hl rfl (by simp)
            rw [mkR_none] at hc1
            obtain ⟨y, t2, hc2, hK2, hO2⟩ := fresh_L (D := ndC) (f := gCopy) (hK1.read hw) hm rfl (by simp)
            rw [mkR_none] at hc2
            have hx2 := hK2.read hO1.read
            have hg := gJoin_P l m
            rw [hJ] at hg
            obtain ⟨z, t3, hc3, hK3, hO3⟩ := fresh_LL (D := ndC) (f := gJoin) hx2 hO2.read hl hm hg (gJoin_plain hg)
            rw [mkR_some] at hc3
            have hr3 := hK3.read (hK2.read (hK1.read hr))
            have hw3 := hK3.read (hK2.read (hK1.read hw))
            have qg := conH_call agreeP hr3 hw3 hls hms false
            rw [hP] at qg
            obtain ⟨u, t4, hc4, hK4, hO4⟩ := fresh_LL (D := ndC) (f := gRJoin) hr3 hw3 hl hm (by unfold gRJoin; rw [if_pos ⟨by omega, by omega⟩]) (by simp)
            rw [mkR_none] at hc4
            have hlr : (refJ l m).length ≤ lim := by simp at hJl; unfold lim; omega
            have qs := q_Same false (hK4.read hO3.read) hO4.read hlr hlr
            have hK24 := hK3.trans hK4
            have hO34 : Own ndC t2 t4 z (refJ l m) := hO3.mono fun _ _ => hK4.blk
            obtain ⟨t5, hc5, hK5⟩ := stain_own hK24 hO34 hlr
            have hK05 := hK1.trans (hK2.trans hK5)
            have qx := q_Same false (hK5.read hx2) (hK05.read hr) hl hl
            have qy := q_Same false (hK5.read hO2.read) (hK05.read hw) hm hm
            have ez : ((0 : Int) = 0) = True := eq_self 0
            simp (config := {contextual := true, maxDischargeDepth := 12}) only [tb_at, q_known, h0, h1, hlen, hL, hM, hz1, hz2, q1, q2, qa, hc1, hc2, hc3, qg, hc4, qs, hc5, qx, qy, ↓bD0, ↓bD1, ↓bD2, ↓bD3, ↓bD4, ↓bD5, ↓bD6, bU0, bU1, bU2, bU3, bU4, bU5, bU6, bU7, bU8, bU9, bU10, bU11, bU12, bU13, forall_const, List.all_cons, List.all_nil, Option.map_some, List.map_cons, List.map_nil, ne_eq, implies_true, isNx, cs_dec, cs_not, cs_and, cs_or, cs_valid, eq_self, ↓wp_cond, ↓wp_loop, ↓reduceIte, reduceCtorEq, Nat.reduceEqDiff, Nat.reduceLT, Nat.reduceAdd, Nat.reduceMul, Int.ofNat_lt, Int.ofNat_le, exists_const, ae_app, ap_slc, Option.map_none, mkR_none, mkR_some, ar_look, ae_mset, ae_rng, ae_mkmap0, ar_ent, lookV_push, lookV_lowed, msetV_push, msetV_lowed, lt_put, same_put, sto_over, sto_lowed, cs_dead, Option.map_some, beq_self_eq_true, decide_true, cs_true, cs_false]
            exact hK05

end Go.AM
end
/-
  Plain laws: the join of what does not clash is determined by what is in it. Own work of this project.
-/
section
set_option linter.unusedVariables false
set_option linter.unusedSimpArgs false
namespace Go.AM
open Go Go.Proofs

/-- No two of them clash. -/
def NC (S : Nd → Prop) : Prop := ∀ x y, S x → S y → x.d = y.d → x.clash y = false
theorem NC.sub {S T : Nd → Prop} (h : NC S) (k : ∀ x, T x → S x) : NC T := fun x y hx hy e => h x y (k x hx) (k y hy) e
/-- All dots of S, each once, in order; dead where one is dead. -/
structure Res (S : Nd → Prop) (j : List Nd) : Prop where
  sorted : j.Pairwise ltP
  sub : ∀ y ∈ j, S y
  dead : ∀ y ∈ j, ∀ z, S z → z.d = y.d → z.x = 0 → y.x = 0
  cover : ∀ z, S z → ∃ y ∈ j, y.d = z.d
theorem nd_eq {x y : Nd} (hc : x.clash y = false) (h0 : x.x = 0 ↔ y.x = 0) : x = y := by
  rw [Nd.clash_false] at hc
  obtain ⟨⟨_, _⟩, ⟨_, _⟩, _, _⟩ := x
  obtain ⟨⟨_, _⟩, ⟨_, _⟩, _, _⟩ := y
  simp only at *
  grind
theorem Res.mem {S : Nd → Prop} (hS : NC S) {j k : List Nd} (h : Res S j) (g : Res S k) {y : Nd} (hy : y ∈ j) : y ∈ k := by
  obtain ⟨y', h1, h2⟩ := g.cover y (h.sub y hy)
  have hc := hS y y' (h.sub y hy) (g.sub y' h1) h2.symm
  have : y = y' := nd_eq hc ⟨fun e => g.dead y' h1 y (h.sub y hy) h2.symm e, fun e => h.dead y hy y' (g.sub y' h1) h2 e⟩
  rw [this]
  exact h1
theorem Res.uniq {S : Nd → Prop} (hS : NC S) {j k : List Nd} (h : Res S j) (g : Res S k) : j = k :=
  sorted_unique j k ((List.perm_ext_iff_of_nodup (nodup_of h.sorted) (nodup_of g.sorted)).2 fun x => ⟨fun hx => h.mem hS g hx, fun hx => g.mem hS h hx⟩) h.sorted g.sorted
theorem Res.congr {S T : Nd → Prop} {j : List Nd} (h : Res S j) (e : ∀ x, S x ↔ T x) : Res T j :=
  ⟨h.sorted, fun y hy => (e y).1 (h.sub y hy), fun y hy z hz => h.dead y hy z ((e z).2 hz), fun z hz => h.cover z ((e z).2 hz)⟩
def M2 (l m : List Nd) (x : Nd) : Prop := x ∈ l ∨ x ∈ m
/-- The join of a join. -/
theorem Res.step {S T : Nd → Prop} {j k : List Nd} (h : Res S j) (g : Res (fun x => x ∈ j ∨ T x) k) : Res (fun x => S x ∨ T x) k := by
  refine ⟨g.sorted, fun y hy => ?_, fun y hy z hz e z0 => ?_, fun z hz => ?_⟩
  · rcases g.sub y hy with q | q
    · exact .inl (h.sub y q)
    · exact .inr q
  · rcases hz with q | q
    · obtain ⟨y', h1, h2⟩ := h.cover z q
      exact g.dead y hy y' (.inl h1) (h2.trans e) (h.dead y' h1 z q h2.symm z0)
    · exact g.dead y hy z (.inr q) e z0
  · rcases hz with q | q
    · obtain ⟨y', h1, h2⟩ := h.cover z q
      obtain ⟨y, h3, h4⟩ := g.cover y' (.inl h1)
      exact ⟨y, h3, h4.trans h2⟩
    · exact g.cover z (.inr q)
theorem sorted_dot {l : List Nd} (hl : l.Pairwise ltP) {x y : Nd} (hx : x ∈ l) (hy : y ∈ l) (e : x.d = y.d) : x = y := by
  have h1 := getN_mem hl hx
  have h2 := getN_mem hl hy
  rw [e, h2] at h1
  injection h1 with h1
  exact h1.symm
theorem nc_agree {l m : List Nd} (hl : l.Pairwise ltP) (hm : m.Pairwise ltP) : agreeL l m = true ↔ NC (M2 l m) := by
  rw [agree_iff hl]
  constructor
  · intro h x y hx hy e
    rcases hx with hx | hx <;> rcases hy with hy | hy
    · rw [sorted_dot hl hx hy e]; exact clash_self y
    · exact h x.d x y (getN_mem hl hx) (by rw [e]; exact getN_mem hm hy)
    · rw [clash_symm]
      exact h y.d y x (getN_mem hl hy) (by rw [← e]; exact getN_mem hm hx)
    · rw [sorted_dot hm hx hy e]; exact clash_self y
  · intro h d x y hx hy
    obtain ⟨h1, h2⟩ := getN_some hx
    obtain ⟨h3, h4⟩ := getN_some hy
    exact h x y (.inl h1) (.inr h3) (h2.trans h4.symm)
theorem res_join {l m : List Nd} (hl : l.Pairwise ltP) (hm : m.Pairwise ltP) (ha : agreeL l m = true) : Res (M2 l m) (refJ l m) := by
  have hj := join_ref l m hl hm
  rw [if_pos ha] at hj
  obtain ⟨hs, hg⟩ := joinL_spec l m _ hl hm hj
  have key : ∀ y ∈ refJ l m, comb (getN l y.d) (getN m y.d) = some y := fun y hy => by rw [← hg]; exact getN_mem hs hy
  refine ⟨hs, fun y hy => ?_, fun y hy z hz e z0 => ?_, fun z hz => ?_⟩
  · have hk := key y hy
    cases h1 : getN l y.d with
    | none =>
      cases h2 : getN m y.d with
      | none => rw [h1, h2] at hk; cases hk
      | some v => rw [h1, h2] at hk; simp [comb] at hk; subst hk; exact .inr (getN_some h2).1
    | some u =>
      cases h2 : getN m y.d with
      | none => rw [h1, h2] at hk; simp [comb] at hk; subst hk; exact .inl (getN_some h1).1
      | some v =>
        rw [h1, h2] at hk
        simp only [comb, Option.some.injEq] at hk
        unfold Nd.merge at hk
        split at hk
        · rw [← hk]; exact .inr (getN_some h2).1
        · rw [← hk]; exact .inl (getN_some h1).1
  · have hk := key y hy
    rcases hz with hz | hz
    · have h1 := getN_mem hl hz
      rw [e] at h1
      rw [h1] at hk
      cases h2 : getN m y.d with
      | none => rw [h2] at hk; simp [comb] at hk; rw [← hk]; exact z0
      | some v =>
        rw [h2] at hk
        simp only [comb, Option.some.injEq] at hk
        rw [← hk]
        exact merge_dead z0
    · have h1 := getN_mem hm hz
      rw [e] at h1
      rw [h1] at hk
      cases h2 : getN l y.d with
      | none => rw [h2] at hk; simp [comb] at hk; rw [← hk]; exact z0
      | some v =>
        rw [h2] at hk
        simp only [comb, Option.some.injEq] at hk
        rw [← hk]
        unfold Nd.merge
        rw [if_pos z0]
        exact z0
  · have : (getN (refJ l m) z.d).isSome = true := by
      rw [hg]
      rcases hz with hz | hz
      · rw [getN_mem hl hz]
        cases getN m z.d <;> rfl
      · rw [getN_mem hm hz]
        cases getN l z.d <;> rfl
    obtain ⟨y, hy⟩ := Option.isSome_iff_exists.1 this
    obtain ⟨h1, h2⟩ := getN_some hy
    exact ⟨y, h1, h2⟩

/-! ### store.Of: one list with all -/
theorem updN_mem' {l : List Nd} {x y : Nd} (hn : (l.map Nd.d).Nodup) (h : y ∈ updN l x) : y = x ∨ (y ∈ l ∧ y.d ≠ x.d) := by
  unfold updN at h
  split at h
  · rename_i j old hj
    obtain ⟨h1, h2⟩ := lookN_some hj
    obtain ⟨i, hi⟩ := List.getElem?_of_mem h
    by_cases hij : j = i
    · subst hij
      rw [List.getElem?_set_self (getlt h1)] at hi
      injection hi with hi
      exact .inl hi.symm
    · rw [List.getElem?_set_ne hij] at hi
      refine .inr ⟨List.mem_of_getElem? hi, fun e => hij ?_⟩
      have hlt : j < (l.map Nd.d).length := by simpa using getlt h1
      have he : (l.map Nd.d)[j]? = (l.map Nd.d)[i]? := by
        rw [List.getElem?_map, List.getElem?_map, h1, hi]
        simp [h2, e]
      exact (List.getElem?_inj hlt hn).1 he
  · rename_i hj
    rcases List.mem_append.1 h with h | h
    · exact .inr ⟨h, lookN_none hj y h⟩
    · exact .inl (by simpa using h)
theorem updN_self (l : List Nd) (x : Nd) : x ∈ updN l x := by
  unfold updN
  split
  · rename_i j old hj
    obtain ⟨h1, _⟩ := lookN_some hj
    exact List.mem_of_getElem? (List.getElem?_set_self (getlt h1))
  · simp
theorem updN_old {l : List Nd} {x z : Nd} (h : z ∈ l) (e : z.d ≠ x.d) : z ∈ updN l x := by
  unfold updN
  split
  · rename_i j old hj
    obtain ⟨h1, h2⟩ := lookN_some hj
    obtain ⟨i, hi⟩ := List.getElem?_of_mem h
    have hij : j ≠ i := by
      rintro rfl
      rw [h1] at hi
      injection hi with hi
      subst hi
      exact e h2
    exact List.mem_of_getElem? (by rw [List.getElem?_set_ne hij]; exact hi)
  · exact List.mem_append.2 (.inl h)
theorem updN_cov {l : List Nd} {x z : Nd} (h : z ∈ l) : ∃ y ∈ updN l x, y.d = z.d := by
  by_cases e : z.d = x.d
  · exact ⟨x, updN_self l x, e.symm⟩
  · exact ⟨z, updN_old h e, rfl⟩
def clA (A : List Nd) (n : Nd) : Bool := match lookN A n.d with
  | some (_, x) => x.clash n
  | none => false
theorem ofStep_eq (M A : List Nd) (n : Nd) : ofStep M A n = if clA A n = true then none else match lookN M n.d with
    | some (_, old) => if old.clash n = true then none else some (updN M (old.merge n), if n.x = 0 then A else updN A n)
    | none => some (updN M n, if n.x = 0 then A else updN A n) := rfl
structure OInv (p M A : List Nd) : Prop where
  nc : NC (· ∈ p)
  nd : (M.map Nd.d).Nodup
  sub : ∀ y ∈ M, y ∈ p
  dead : ∀ y ∈ M, ∀ z ∈ p, z.d = y.d → z.x = 0 → y.x = 0
  cover : ∀ z ∈ p, ∃ y ∈ M, y.d = z.d
  asub : ∀ y ∈ A, y ∈ p ∧ y.x ≠ 0
  acov : ∀ z ∈ p, z.x ≠ 0 → ∃ y ∈ A, y.d = z.d
theorem OInv.nil : OInv [] [] [] := ⟨fun x y h => by simp at h, by simp, by simp, by simp, by simp, by simp, by simp⟩
theorem look_in {l : List Nd} {d : Dot} (h : ∃ y ∈ l, y.d = d) : ∃ j y, lookN l d = some (j, y) := by
  obtain ⟨y, h1, h2⟩ := h
  cases hk : lookN l d with
  | none => exact absurd h2 (lookN_none hk y h1)
  | some p => exact ⟨p.1, p.2, rfl⟩
theorem OInv.step {p M A : List Nd} (h : OInv p M A) (n : Nd) : match ofStep M A n with
    | some (M', A') => OInv (p ++ [n]) M' A'
    | none => ∃ x ∈ p, x.d = n.d ∧ x.clash n = true := by
  have hA : ∀ z ∈ p, z.x ≠ 0 → z.d = n.d → clA A n = false → z.clash n = false := by
    intro z hz z0 hd hc
    obtain ⟨j, y, hj⟩ := look_in (h.acov z hz z0)
    rw [hd] at hj
    obtain ⟨h1, h2⟩ := lookN_some hj
    obtain ⟨y1, y2⟩ := h.asub y (List.mem_of_getElem? h1)
    unfold clA at hc
    rw [hj] at hc
    simp only at hc
    have : z = y := nd_eq (h.nc z y hz y1 (hd.trans h2.symm)) ⟨fun e => absurd e z0, fun e => absurd e y2⟩
    rw [this]
    exact hc
  have mk : ∀ m : Nd, m.d = n.d → (m = n ∨ m ∈ M) → (n.x = 0 → m.x = 0) → (∀ z ∈ p, z.d = n.d → z.x = 0 → m.x = 0) → (∀ z ∈ p, z.d = n.d → z.clash n = false) → OInv (p ++ [n]) (updN M m) (if n.x = 0 then A else updN A n) := by
    intro m md hm m0 mp hnc
    have hmem : ∀ x, x ∈ p ++ [n] ↔ x ∈ p ∨ x = n := by simp
    refine ⟨fun x y hx hy e => ?_, updN_nodup h.nd, fun y hy => ?_, fun y hy z hz e z0 => ?_, fun z hz => ?_, fun y hy => ?_, fun z hz z0 => ?_⟩
    · rcases (hmem x).1 hx with kx | kx <;> rcases (hmem y).1 hy with ky | ky
      · exact h.nc x y kx ky e
      · rw [ky]; exact hnc x kx (by rw [e, ky])
      · rw [clash_symm, kx]; exact hnc y ky (by rw [← e, kx])
      · rw [kx, ky]; exact clash_self _
    · rw [hmem]
      rcases updN_mem hy with rfl | hy
      · rcases hm with rfl | hm
        · exact .inr rfl
        · exact .inl (h.sub _ hm)
      · exact .inl (h.sub y hy)
    · rw [hmem] at hz
      rcases updN_mem' h.nd hy with rfl | ⟨hy, hyd⟩
      · rcases hz with hz | rfl
        · exact mp z hz (e.trans md) z0
        · exact m0 z0
      · rcases hz with hz | rfl
        · exact h.dead y hy z hz e z0
        · exact absurd (e.symm.trans md.symm) hyd
    · rw [hmem] at hz
      rcases hz with hz | rfl
      · obtain ⟨y, h1, h2⟩ := h.cover z hz
        obtain ⟨y', h3, h4⟩ := updN_cov (x := m) h1
        exact ⟨y', h3, h4.trans h2⟩
      · exact ⟨m, updN_self M m, md⟩
    · split at hy
      · exact ⟨(hmem y).2 (.inl (h.asub y hy).1), (h.asub y hy).2⟩
      · rename_i hn0
        rcases updN_mem hy with rfl | hy
        · exact ⟨(hmem _).2 (.inr rfl), hn0⟩
        · exact ⟨(hmem y).2 (.inl (h.asub y hy).1), (h.asub y hy).2⟩
    · rw [hmem] at hz
      rcases hz with hz | rfl
      · obtain ⟨y, h1, h2⟩ := h.acov z hz z0
        split
        · exact ⟨y, h1, h2⟩
        · obtain ⟨y', h3, h4⟩ := updN_cov (x := n) h1
          exact ⟨y', h3, h4.trans h2⟩
      · rw [if_neg z0]
        exact ⟨z, updN_self A z, rfl⟩
  rw [ofStep_eq]
  by_cases hc : clA A n = true
  · rw [if_pos hc]
    unfold clA at hc
    cases hk : lookN A n.d with
    | none => rw [hk] at hc; cases hc
    | some q =>
      obtain ⟨j, y⟩ := q
      rw [hk] at hc
      obtain ⟨h1, h2⟩ := lookN_some hk
      exact ⟨y, (h.asub y (List.mem_of_getElem? h1)).1, h2, hc⟩
  · rw [if_neg hc]
    have hc' : clA A n = false := by simpa using hc
    cases hm : lookN M n.d with
    | none =>
      have hno : ∀ z ∈ p, z.d ≠ n.d := fun z hz e => by
        obtain ⟨y, h1, h2⟩ := h.cover z hz
        exact lookN_none hm y h1 (h2.trans e)
      exact mk n rfl (.inl rfl) (fun e => e) (fun z hz e => absurd e (hno z hz)) fun z hz e => absurd e (hno z hz)
    | some q =>
      obtain ⟨j, old⟩ := q
      obtain ⟨h1, h2⟩ := lookN_some hm
      have ho := List.mem_of_getElem? h1
      simp only
      by_cases hco : old.clash n = true
      · rw [if_pos hco]
        exact ⟨old, h.sub old ho, h2, hco⟩
      · rw [if_neg hco]
        have hco' : old.clash n = false := by simpa using hco
        refine mk (old.merge n) (merge_d h2) ?_ (fun e => ?_) (fun z hz e z0 => ?_) fun z hz e => ?_
        · unfold Nd.merge
          split
          · exact .inl rfl
          · exact .inr ho
        · unfold Nd.merge
          rw [if_pos e]
          exact e
        · exact merge_dead (h.dead old ho z hz (e.trans h2.symm) z0)
        · by_cases z0 : z.x = 0
          · have hzo := h.nc z old hz (h.sub old ho) (e.trans h2.symm)
            rw [Nd.clash_false] at hzo hco' ⊢
            grind
          · exact hA z hz z0 e hc'
theorem of_fold : ∀ (r p M A : List Nd), OInv p M A → match ofFold r M A with
    | some M' => ∃ A', OInv (p ++ r) M' A'
    | none => ¬ NC (· ∈ p ++ r)
  | [], p, M, A, h => by
    rw [List.append_nil]
    exact ⟨A, h⟩
  | n :: r, p, M, A, h => by
    have hs := h.step n
    rw [ofFold]
    cases hk : ofStep M A n with
    | none =>
      rw [hk] at hs
      obtain ⟨x, h1, h2, h3⟩ := hs
      intro hn
      have := hn x n (List.mem_append.2 (.inl h1)) (by simp) h2
      rw [this] at h3
      cases h3
    | some q =>
      obtain ⟨M', A'⟩ := q
      rw [hk] at hs
      have := of_fold r (p ++ [n]) M' A' hs
      rw [List.append_assoc, List.singleton_append] at this
      exact this
theorem gof_res {l : List Nd} (hv : l.all Nd.valid = true) : (NC (· ∈ l) ∧ ∃ j, gOf l = some (j, some (.int .i64 0)) ∧ Res (· ∈ l) j) ∨ (¬ NC (· ∈ l) ∧ gOf l = some ([], some (.int .i64 15))) := by
  have h := of_fold l [] [] [] .nil
  rw [List.nil_append] at h
  unfold gOf
  rw [if_pos hv]
  cases hk : ofFold l [] [] with
  | none =>
    rw [hk] at h
    exact .inr ⟨h, rfl⟩
  | some M =>
    rw [hk] at h
    obtain ⟨A, h⟩ := h
    have hp := sortN_perm M
    refine .inl ⟨h.nc, sortN M, rfl, sortN_sorted M h.nd, fun y hy => h.sub y (hp.mem_iff.1 hy), fun y hy z hz e z0 => h.dead y (hp.mem_iff.1 hy) z hz e z0, fun z hz => ?_⟩
    obtain ⟨y, h1, h2⟩ := h.cover z hz
    exact ⟨y, hp.mem_iff.2 h1, h2⟩

/-! ### join.All -/
def ofP (l : List Nd) : List Nd × Int := match gOf l with
  | some (j, some (.int _ e)) => (j, e)
  | _ => ([], 2)
def allP (ls : List (List Nd)) : List Nd × Int := if ls.all storeL = true then ofP ls.flatten else ([], 2)
theorem gOf_P (l : List Nd) : gOf l = some ((ofP l).1, some (.int .i64 (ofP l).2)) := by
  unfold ofP gOf
  split
  · split <;> rfl
  · rfl
theorem store_valid {l : List Nd} (h : storeL l = true) : l.all Nd.valid = true := by
  simp only [storeL, Bool.and_eq_true] at h
  exact h.1
theorem flat_valid {ls : List (List Nd)} (h : ls.all storeL = true) : ls.flatten.all Nd.valid = true := by
  rw [List.all_eq_true] at h ⊢
  intro x hx
  obtain ⟨l, h1, h2⟩ := List.mem_flatten.1 hx
  exact List.all_eq_true.1 (store_valid (h l h1)) x h2
theorem allP_res {ls : List (List Nd)} {S : Nd → Prop} {j : List Nd} (hs : ls.all storeL = true) (e : ∀ x, S x ↔ x ∈ ls.flatten) (hn : NC S) (h : Res S j) : allP ls = (j, 0) := by
  unfold allP ofP
  rw [if_pos hs]
  rcases gof_res (flat_valid hs) with ⟨h1, k, h2, h3⟩ | ⟨h1, _⟩
  · rw [h2, h3.uniq h1 (h.congr e)]
  · exact absurd (hn.sub fun x hx => (e x).2 hx) h1
theorem allP_clash {ls : List (List Nd)} {S : Nd → Prop} (hs : ls.all storeL = true) (e : ∀ x, S x ↔ x ∈ ls.flatten) (hn : ¬ NC S) : allP ls = ([], 15) := by
  unfold allP ofP
  rw [if_pos hs]
  rcases gof_res (flat_valid hs) with ⟨h1, _⟩ | ⟨_, h2⟩
  · exact absurd (h1.sub fun x hx => (e x).1 hx) hn
  · rw [h2]

/-! ### What JoinHolds asks -/
theorem store_of_res {S : Nd → Prop} {j : List Nd} (h : Res S j) (hv : ∀ x, S x → x.valid = true) : storeL j = true := by
  simp only [storeL, Bool.and_eq_true]
  exact ⟨List.all_eq_true.2 fun x hx => hv x (h.sub x hx), pairwise_chain h.sorted⟩
theorem store_mem {l : List Nd} (h : storeL l = true) {x : Nd} (hx : x ∈ l) : x.valid = true := List.all_eq_true.1 (store_valid h) x hx
theorem res_self {l : List Nd} (hl : l.Pairwise ltP) : Res (M2 l l) l :=
  ⟨hl, fun y hy => .inl hy, fun y hy z hz e z0 => by
    have hz : z ∈ l := by rcases hz with hz | hz <;> exact hz
    rw [← sorted_dot hl hz hy e]
    exact z0, fun z hz => ⟨z, by rcases hz with hz | hz <;> exact hz, rfl⟩⟩
theorem agree_self {l : List Nd} (hl : l.Pairwise ltP) : agreeL l l = true := (nc_agree hl hl).2 fun x y hx hy e => by
  have hx : x ∈ l := by rcases hx with h | h <;> exact h
  have hy : y ∈ l := by rcases hy with h | h <;> exact h
  rw [sorted_dot hl hx hy e]
  exact clash_self y
theorem M2_symm (l m : List Nd) (x : Nd) : M2 l m x ↔ M2 m l x := Or.comm
theorem agree_symm {l m : List Nd} (hl : l.Pairwise ltP) (hm : m.Pairwise ltP) : agreeL l m = agreeL m l := by
  rw [Bool.eq_iff_iff, nc_agree hl hm, nc_agree hm hl]
  exact ⟨fun h => h.sub fun x hx => (M2_symm _ _ x).1 hx, fun h => h.sub fun x hx => (M2_symm _ _ x).1 hx⟩
theorem refJ_uniq {S : Nd → Prop} (hS : NC S) {l m j : List Nd} (hl : l.Pairwise ltP) (hm : m.Pairwise ltP) (h : Res S j) (e : ∀ x, S x ↔ M2 l m x) : agreeL l m = true ∧ refJ l m = j := by
  have ha : agreeL l m = true := (nc_agree hl hm).2 (hS.sub fun x hx => (e x).2 hx)
  exact ⟨ha, ((res_join hl hm ha).congr fun x => (e x).symm).uniq hS h⟩
theorem refJ_self {l : List Nd} (hl : l.Pairwise ltP) : refJ l l = l :=
  (refJ_uniq ((nc_agree hl hl).1 (agree_self hl)) hl hl (res_self hl) fun x => Iff.rfl).2
theorem refJ_symm {l m : List Nd} (hl : l.Pairwise ltP) (hm : m.Pairwise ltP) (ha : agreeL l m = true) : refJ m l = refJ l m :=
  (refJ_uniq ((nc_agree hl hm).1 ha) hm hl (res_join hl hm ha) fun x => M2_symm _ _ x).2
/-- What is in a join already changes nothing. -/
theorem refJ_in {S : Nd → Prop} {l j : List Nd} (hS : NC S) (hl : l.Pairwise ltP) (h : Res S j) (hin : ∀ x ∈ l, S x) : agreeL l j = true ∧ refJ l j = j ∧ agreeL j l = true ∧ refJ j l = j := by
  have hR : Res (M2 l j) j := ⟨h.sorted, fun y hy => .inr hy, fun y hy z hz e z0 => h.dead y hy z (by
    rcases hz with hz | hz
    · exact hin z hz
    · exact h.sub z hz) e z0, fun z hz => h.cover z (by
    rcases hz with hz | hz
    · exact hin z hz
    · exact h.sub z hz)⟩
  have hN : NC (M2 l j) := hS.sub fun x hx => by
    rcases hx with hx | hx
    · exact hin x hx
    · exact h.sub x hx
  obtain ⟨a1, a2⟩ := refJ_uniq hN hl h.sorted hR fun x => Iff.rfl
  obtain ⟨a3, a4⟩ := refJ_uniq hN h.sorted hl hR fun x => M2_symm _ _ x
  exact ⟨a1, a2, a3, a4⟩
theorem joinsP_ok {l m j : List Nd} (hl : storeL l = true) (hm : storeL m = true) (ha : agreeL l m = true) (hj : refJ l m = j) : joinsP l m = (j, 0) := by
  unfold joinsP
  rw [if_pos ⟨hl, hm⟩, if_pos ha, hj]
theorem joinsP_clash {l m : List Nd} (hl : storeL l = true) (hm : storeL m = true) (ha : agreeL l m = false) : joinsP l m = ([], 15) := by
  unfold joinsP
  rw [if_pos ⟨hl, hm⟩, if_neg (by simp [ha])]
theorem withinP_ok {l m : List Nd} (hl : storeL l = true) (hm : storeL m = true) (ha : agreeL l m = true) : withinP l m = (decide (refJ l m = m), 0) := by
  unfold withinP
  rw [if_pos ⟨hl, hm⟩, if_pos ha]
theorem agreeP_ok {l m : List Nd} (hl : storeL l = true) (hm : storeL m = true) : agreeP l m = (agreeL l m, 0) := by
  unfold agreeP
  rw [if_pos ⟨hl, hm⟩]
  cases agreeL l m <;> rfl
def M3 (a b c : List Nd) (x : Nd) : Prop := x ∈ a ∨ x ∈ b ∨ x ∈ c
theorem nc3 {a b c : List Nd} (ha : a.Pairwise ltP) (hb : b.Pairwise ltP) (hc : c.Pairwise ltP) (h1 : agreeL a b = true) (h2 : agreeL a c = true) (h3 : agreeL b c = true) : NC (M3 a b c) := by
  have n1 := (nc_agree ha hb).1 h1
  have n2 := (nc_agree ha hc).1 h2
  have n3 := (nc_agree hb hc).1 h3
  intro x y hx hy e
  rcases hx with hx | hx | hx <;> rcases hy with hy | hy | hy
  · exact n1 x y (.inl hx) (.inl hy) e
  · exact n1 x y (.inl hx) (.inr hy) e
  · exact n2 x y (.inl hx) (.inr hy) e
  · exact n1 x y (.inr hx) (.inl hy) e
  · exact n1 x y (.inr hx) (.inr hy) e
  · exact n3 x y (.inl hx) (.inr hy) e
  · exact n2 x y (.inr hx) (.inl hy) e
  · exact n3 x y (.inr hx) (.inl hy) e
  · exact n3 x y (.inr hx) (.inr hy) e
structure Holds3 (a b c : List Nd) (bc all : List Nd) : Prop where
  s : storeL bc = true
  j1 : joinsP b c = (bc, 0)
  j2 : joinsP a bc = (all, 0)
  j3 : joinsP (refJ a b) c = (all, 0)
  a1 : allP [a, b, c] = (all, 0)
  a2 : allP [c, b, b, a, c] = (all, 0)
theorem holds_ab {a b : List Nd} (sa : storeL a = true) (sb : storeL b = true) (h : agreeL a b = true) : storeL (refJ a b) = true ∧ withinP a (refJ a b) = (true, 0) ∧ withinP b (refJ a b) = (true, 0) ∧ joinsP (refJ a b) a = (refJ a b, 0) ∧
    joinsP b a = (refJ a b, 0) ∧ withinP a b = (decide (refJ a b = b), 0) ∧ withinP b a = (decide (refJ a b = a), 0) ∧ ∀ n, M2 a b n → ∃ k y, lookN (refJ a b) n.d = some (k, y) ∧ (n.x = 0 → y.x = 0) := by
  have ha := store_sorted sa
  have hb := store_sorted sb
  have hN := (nc_agree ha hb).1 h
  have hR := res_join ha hb h
  have hs : storeL (refJ a b) = true := store_of_res hR fun x hx => by
    rcases hx with hx | hx
    · exact store_mem sa hx
    · exact store_mem sb hx
  obtain ⟨p1, p2, p3, p4⟩ := refJ_in hN ha hR fun x hx => .inl hx
  obtain ⟨q1, q2, _, _⟩ := refJ_in hN hb hR fun x hx => .inr hx
  have hba : agreeL b a = true := by rw [← agree_symm ha hb]; exact h
  refine ⟨hs, ?_, ?_, joinsP_ok hs sa p3 p4, joinsP_ok sb sa hba (refJ_symm ha hb h), withinP_ok sa sb h, ?_, fun n hn => ?_⟩
  · rw [withinP_ok sa hs p1, p2]; simp
  · rw [withinP_ok sb hs q1, q2]; simp
  · rw [withinP_ok sb sa hba, refJ_symm ha hb h]
  · obtain ⟨y, h1, h2⟩ := hR.cover n hn
    have h3 := getN_mem hR.sorted h1
    unfold getN at h3
    rw [h2] at h3
    cases hk : lookN (refJ a b) n.d with
    | none => rw [hk] at h3; cases h3
    | some q =>
      obtain ⟨k, z⟩ := q
      rw [hk] at h3
      simp at h3
      subst h3
      exact ⟨k, z, rfl, fun e => hR.dead z h1 n hn h2.symm e⟩
theorem holds_self {a : List Nd} (sa : storeL a = true) : joinsP a a = (a, 0) ∧ withinP a a = (true, 0) := by
  have ha := store_sorted sa
  refine ⟨joinsP_ok sa sa (agree_self ha) (refJ_self ha), ?_⟩
  rw [withinP_ok sa sa (agree_self ha), refJ_self ha]
  simp
theorem holds_3 {a b c : List Nd} (sa : storeL a = true) (sb : storeL b = true) (sc : storeL c = true) (h1 : agreeL a b = true) (h2 : agreeL a c = true) (h3 : agreeL b c = true) : ∃ bc all, Holds3 a b c bc all := by
  have ha := store_sorted sa
  have hb := store_sorted sb
  have hc := store_sorted sc
  have hN := nc3 ha hb hc h1 h2 h3
  have hab := res_join ha hb h1
  have hbc := res_join hb hc h3
  have sbc : storeL (refJ b c) = true := store_of_res hbc fun x hx => by
    rcases hx with hx | hx
    · exact store_mem sb hx
    · exact store_mem sc hx
  have sab : storeL (refJ a b) = true := (holds_ab sa sb h1).1
  have aabc : agreeL a (refJ b c) = true := (nc_agree ha hbc.sorted).2 (hN.sub fun x hx => by
    rcases hx with hx | hx
    · exact .inl hx
    · rcases hbc.sub x hx with hx | hx
      · exact .inr (.inl hx)
      · exact .inr (.inr hx))
  have hall : Res (M3 a b c) (refJ a (refJ b c)) := by
    have := (res_join ha hbc.sorted aabc).congr (fun x => M2_symm _ _ x)
    have := Res.step (T := (· ∈ a)) hbc this
    exact this.congr fun x => by unfold M2 M3; grind
  have aabc2 : agreeL (refJ a b) c = true := (nc_agree hab.sorted hc).2 (hN.sub fun x hx => by
    rcases hx with hx | hx
    · rcases hab.sub x hx with hx | hx
      · exact .inl hx
      · exact .inr (.inl hx)
    · exact .inr (.inr hx))
  have hall2 : Res (M3 a b c) (refJ (refJ a b) c) := by
    have := Res.step (T := (· ∈ c)) hab (res_join hab.sorted hc aabc2)
    exact this.congr fun x => by unfold M2 M3; grind
  have hst : ∀ l ∈ [a, b, c], storeL l = true := by
    intro l hl
    simp at hl
    rcases hl with rfl | rfl | rfl <;> assumption
  exact ⟨refJ b c, refJ a (refJ b c), sbc, joinsP_ok sb sc h3 rfl, joinsP_ok sa sbc aabc rfl, joinsP_ok sab sc aabc2 (hall2.uniq hN hall), allP_res (by simp [sa, sb, sc]) (fun x => by unfold M3; simp) hN hall, allP_res (by simp [sa, sb, sc]) (fun x => by unfold M3; simp; grind) hN hall⟩
theorem clash_3 {a b c : List Nd} (sa : storeL a = true) (sb : storeL b = true) (sc : storeL c = true) (h : ¬ (agreeL a c = true ∧ agreeL b c = true)) : allP [a, b, c] = ([], 15) := by
  have ha := store_sorted sa
  have hb := store_sorted sb
  have hc := store_sorted sc
  refine allP_clash (S := M3 a b c) (by simp [sa, sb, sc]) (fun x => by unfold M3; simp) fun hn => h ⟨(nc_agree ha hc).2 (hn.sub fun x hx => ?_), (nc_agree hb hc).2 (hn.sub fun x hx => ?_)⟩
  · rcases hx with hx | hx
    · exact .inl hx
    · exact .inr (.inr hx)
  · rcases hx with hx | hx
    · exact .inr (.inl hx)
    · exact .inr (.inr hx)
end Go.AM
end
/-
  join.All, and JoinHolds in the abstract machine. Own work of this project; in part printed by a program of it.
-/
section
set_option linter.unusedVariables false
set_option linter.unusedSimpArgs false
set_option maxRecDepth 100000
set_option maxHeartbeats 8000000
namespace Go.AM
open Go Go.Proofs

variable {s t : St}
/-! ### Lists of lists -/
def shownV (s : St) : AV → Option (List AV)
  | .nils => some []
  | .sl id off n _ z => if z = 1 then match s.get id with
      | some (.row cs _) => if off + n ≤ cs.length then some ((cs.drop off).take n) else none
      | _ => none
    else none
  | _ => none
def readA (s : St) : List AV → Option (List (List Nd))
  | [] => some []
  | v :: r => match read ndC s v, readA s r with
    | some l, some ls => some (l :: ls)
    | _, _ => none
def rdLL (s : St) (v : AV) : Option (List (List Nd)) := match shownV s v with
  | some vs => readA s vs
  | none => none
theorem readA_low (s : St) (n : Nat) : ∀ vs : List AV, readA { heap := s.heap, next := s.next, low := n } vs = readA s vs
  | [] => rfl
  | v :: r => by simp only [readA, read_low, readA_low s n r]
theorem shownV_low (s : St) (n : Nat) (v : AV) : shownV { heap := s.heap, next := s.next, low := n } v = shownV s v := by cases v <;> rfl
theorem rdLL_low (s : St) (n : Nat) (v : AV) : rdLL { heap := s.heap, next := s.next, low := n } v = rdLL s v := by
  unfold rdLL
  rw [shownV_low]
  cases shownV s v with
  | none => rfl
  | some vs => exact readA_low s n vs
theorem readA_len : ∀ {vs : List AV} {ls : List (List Nd)}, readA s vs = some ls → vs.length = ls.length
  | [], ls, h => by simp [readA] at h; subst h; rfl
  | v :: r, ls, h => by
    simp only [readA] at h
    split at h
    · rename_i l ls' h1 h2
      injection h with h
      subst h
      simp [readA_len h2]
    · cases h
theorem readA_at : ∀ {vs : List AV} {ls : List (List Nd)}, readA s vs = some ls → ∀ {i : Nat} {l : List Nd}, ls[i]? = some l → ∃ x, vs[i]? = some x ∧ read ndC s x = some l
  | [], ls, h, i, l, hi => by simp [readA] at h; subst h; simp at hi
  | v :: r, ls, h, i, l, hi => by
    simp only [readA] at h
    split at h
    · rename_i l0 ls' h1 h2
      injection h with h
      subst h
      cases i with
      | zero => simp at hi; subst hi; exact ⟨v, by simp, h1⟩
      | succ i => exact readA_at h2 (by simpa using hi)
    · cases h
theorem readA_keep (hK : Keep s t) : ∀ {vs : List AV} {ls : List (List Nd)}, readA s vs = some ls → readA t vs = some ls
  | [], ls, h => h
  | v :: r, ls, h => by
    simp only [readA] at h ⊢
    split at h
    · rename_i l0 ls' h1 h2
      rw [hK.read h1, readA_keep hK h2]
      exact h
    · cases h
theorem rdLL_keep (hK : Keep s t) {v : AV} {ls : List (List Nd)} (h : rdLL s v = some ls) : rdLL t v = some ls := by
  unfold rdLL at h ⊢
  cases v with
  | nils => exact h
  | sl id off n cap z =>
    split at h
    · rename_i vs hv
      simp only [shownV] at hv ⊢
      split at hv
      · rename_i hz
        split at hv
        · rename_i cs own hg
          rw [if_pos hz, hK.blk hg]
          simp only
          rw [hv]
          exact readA_keep hK h
        · cases hv
      · cases hv
    · cases h
  | _ => simp [shownV] at h
theorem rdLL_at {v : AV} {ls : List (List Nd)} (h : rdLL s v = some ls) {i : Nat} {l : List Nd} (hi : ls[i]? = some l) : ∃ x, iadV 1 v (.int .i64 (i : Int)) = some (.ptr (bid v) (boff v + i)) ∧ (∀ t, Keep s t → lod1 t (.ptr (bid v) (boff v + i)) = some x ∧ ltN (bid v) t) ∧ read ndC s x = some l := by
  unfold rdLL at h
  cases v with
  | nils => simp [shownV, readA] at h; subst h; simp at hi
  | sl id off n cap z =>
    split at h
    · rename_i vs hv
      simp only [shownV] at hv
      split at hv
      · rename_i hz
        subst hz
        split at hv
        · rename_i cs own hg
          split at hv
          · rename_i hle
            injection hv with hv
            subst hv
            obtain ⟨x, hx, hr⟩ := readA_at h hi
            have hn := (List.getElem?_eq_some_iff.1 hx).1
            simp only [List.length_take, List.length_drop] at hn
            refine ⟨x, ?_, fun t hK => ⟨?_, ?_⟩, hr⟩
            · simp only [iadV, bid, boff]
              rw [if_pos ⟨trivial, by omega, by omega⟩]
              simp
            · rw [List.getElem?_take_of_lt (by omega), List.getElem?_drop] at hx
              simp only [lod1, bid, boff, hK.blk hg]
              exact hx
            · exact St.get_lt (hK.blk hg)
          · cases hv
        · cases hv
      · cases hv
    · cases h
  | _ => simp [shownV] at h
theorem rdLL_len {v : AV} {ls : List (List Nd)} (h : rdLL s v = some ls) : lenV v = some (.int .i64 (ls.length : Int)) := by
  unfold rdLL at h
  cases v with
  | nils => simp [shownV, readA] at h; subst h; rfl
  | sl id off n cap z =>
    split at h
    · rename_i vs hv
      have hl := readA_len h
      simp only [shownV] at hv
      split at hv
      · split at hv
        · split at hv
          · injection hv with hv
            subst hv
            rw [List.length_take, List.length_drop] at hl
            simp only [lenV]
            congr 3
            omega
          · cases hv
        · cases hv
      · cases hv
    · cases h
  | _ => simp [shownV] at h
theorem rdLL_new {s : St} {vs : List AV} {ls : List (List Nd)} (h : readA s vs = some ls) (n : Nat) (hn : n = vs.length) : rdLL (s.push (.row vs true)) (.sl s.next 0 n (some n) 1) = some ls := by
  subst hn
  have hs : shownV (s.push (.row vs true)) (.sl s.next 0 vs.length (some vs.length) 1) = some vs := by
    simp [shownV, St.get_push_new]
  unfold rdLL
  rw [hs]
  exact readA_keep ((Keep.refl s).push _) h
def bslV (z : List AV) (len sz : Nat) (ps : List (Nat × AV)) : Option ((Nat → AV) × AB) := (fillP [] z (ps.map fun p => (p.1 * sz, sz, .c p.2))).map fun cs => (fun id => .sl id 0 len (some len) sz, .row cs true)
theorem fillP_aev (env : Env) : ∀ (ps : List (Nat × Nat × AO)) (z : List AV), fillP env z ps = fillP [] z (ps.map fun p => (p.1, p.2.1, .c (aev env p.2.2)))
  | [], z => rfl
  | (a, b, x) :: r, z => by
    simp only [fillP, List.map_cons]
    show (if _ then _ else _) = (if _ then _ else _)
    rw [fillP_aev env r]
    rfl
theorem aa_bsl {env : Env} (z : List AV) (len sz : Nat) (ps : List (Nat × AO)) : aalloc env (.bsl z len sz ps) = bslV z len sz (ps.map fun p => (p.1, aev env p.2)) := by
  simp only [aalloc, bslV]
  rw [fillP_aev]
  simp only [List.map_map, Function.comp_def]
theorem sg_bsl {call : Nat → List AV → St → Option (AV × St)} {base : Nat} {d : Option Nat} {r : Option Nat} {fr : Bool} {rest : List AOper} {Q : Env → St → Prop} {env : Env} (z : List AV) (l n : Nat) (ps : List (Nat × AO)) (t : Nat) (w : Bool) :
    awops call base (⟨d, .bsl z l n ps, some (t, w), r, fr⟩ :: rest) Q env s = gstep (E env t) w (awops call base (⟨d, .bsl z l n ps, none, r, fr⟩ :: rest) Q env s) (awops call base rest Q (pE env d .und) s) := st_guard _ _ _
theorem read_one {v : AV} {l : List Nd} (h : read ndC s v = some l) : v.cells = [v] ∧ v.one = true := by
  cases v <;> first | exact ⟨rfl, rfl⟩ | simp [read] at h
theorem fill1 {v : AV} {l : List Nd} (h : read ndC s v = some l) (cs : List AV) (i : Nat) (hi : i + 1 ≤ cs.length) (r : List (Nat × Nat × AO)) : fillP [] cs ((i * 1, 1, .c v) :: r) = fillP [] (setAt cs i [v]) r := by
  obtain ⟨h1, h2⟩ := read_one h
  simp only [fillP, aev, h1, Nat.mul_one]
  rw [if_pos ⟨rfl, by simp [h2], by simpa using hi⟩]
theorem bsl2 {a b : AV} {la lb : List Nd} (ha : read ndC s a = some la) (hb : read ndC s b = some lb) : bslV [.nils, .nils] 2 1 [(0, a), (1, b)] = some (fun id => .sl id 0 2 (some 2) 1, .row [a, b] true) := by
  simp only [bslV, List.map_cons, List.map_nil]
  rw [fill1 ha _ _ (by simp), fill1 hb _ _ (by simp [setAt])]
  rfl
theorem bsl3 {a b c : AV} {la lb lc : List Nd} (ha : read ndC s a = some la) (hb : read ndC s b = some lb) (hc : read ndC s c = some lc) : bslV [.nils, .nils, .nils] 3 1 [(0, a), (1, b), (2, c)] = some (fun id => .sl id 0 3 (some 3) 1, .row [a, b, c] true) := by
  simp only [bslV, List.map_cons, List.map_nil]
  rw [fill1 ha _ _ (by simp), fill1 hb _ _ (by simp [setAt]), fill1 hc _ _ (by simp [setAt])]
  rfl
theorem bsl5 {a b c d e : AV} {la lb lc ld le : List Nd} (ha : read ndC s a = some la) (hb : read ndC s b = some lb) (hc : read ndC s c = some lc) (hd : read ndC s d = some ld) (he : read ndC s e = some le) : bslV [.nils, .nils, .nils, .nils, .nils] 5 1 [(0, a), (1, b), (2, c), (3, d), (4, e)] = some (fun id => .sl id 0 5 (some 5) 1, .row [a, b, c, d, e] true) := by
  simp only [bslV, List.map_cons, List.map_nil]
  rw [fill1 ha _ _ (by simp), fill1 hb _ _ (by simp [setAt]), fill1 hc _ _ (by simp [setAt]), fill1 hd _ _ (by simp [setAt]), fill1 he _ _ (by simp [setAt])]
  rfl

/-! ### join.All -/
def pAll : List AV → St → Option (List Nd × Option AV) := fun xs s => match xs with
  | [v] => match rdLL s v with
    | some ls => if ls.flatten.length ≤ 100000 ∧ ls.length ≤ 100000 then some ((allP ls).1, some (.int .i64 (allP ls).2)) else none
    | none => none
  | _ => none
theorem pAll_some {xs : List AV} {s : St} {l : List Nd} {e : Option AV} (h : pAll xs s = some (l, e)) : ∃ v ls, xs = [v] ∧ rdLL s v = some ls ∧ ls.flatten.length ≤ 100000 ∧ ls.length ≤ 100000 ∧ l = (allP ls).1 ∧ e = some (.int .i64 (allP ls).2) := by
  unfold pAll at h
  split at h
  · split at h
    · split at h
      · rename_i v _ ls hr hl
        injection h with h
        obtain ⟨rfl, rfl⟩ := Prod.mk.inj h
        exact ⟨v, ls, rfl, hr, hl.1, hl.2, rfl, rfl⟩
      · cases h
    · cases h
  · cases h
theorem flat_step {ls : List (List Nd)} {i : Nat} {l : List Nd} (h : ls[i]? = some l) : (ls.take (i + 1)).flatten = (ls.take i).flatten ++ l := by
  have hlt := (List.getElem?_eq_some_iff.1 h).1
  have e : ls.take (i + 1) = ls.take i ++ [l] := by
    rw [List.take_add_one, h]
    rfl
  rw [e, List.flatten_append]
  simp
theorem flat_take (ls : List (List Nd)) (i : Nat) : (ls.take i).flatten.length ≤ ls.flatten.length := by
  conv => rhs; rw [← List.take_append_drop i ls, List.flatten_append, List.length_append]
  omega
theorem all_step {ls : List (List Nd)} {i : Nat} {l : List Nd} (h : ls[i]? = some l) (h1 : (ls.take i).all storeL = true) (h2 : storeL l = true) : (ls.take (i + 1)).all storeL = true := by
  rw [List.take_add_one, h]
  simp only [List.all_append, h1, Bool.true_and]
  simp [h2]
theorem s_All : SoundAt Try.prog 33 (conF ndC pAll) :=
  con_fresh (tb_sound (l := [(20, conL ndC fValid), (44, conF ndC (pL ndC gOf))]) (by simpa using ⟨s_JValid, s_Of⟩)) mixed Try.func33 k33 c33 fun args s r ee h => by
    obtain ⟨v, ls, rfl, hr, hfl, hll, rfl, rfl⟩ := pAll_some h
    refine ⟨fun x hx => by injection hx with hx; subst hx; rfl, by simp [a33], fun env hlen ha => ?_⟩
    have h0 : E env 0 = _ := ha 0 _ rfl
    have hlen : elen env = _ := hlen
    simp only [a33] at hlen
    unfold a33
    have hL := rdLL_len hr
    simp (config := {contextual := true, maxDischargeDepth := 12}) only [tb_at, q_known, h0, hlen, hL, ↓bD0, ↓bD1, ↓bD2, ↓bD3, ↓bD4, ↓bD5, ↓bD6, bU0, bU1, bU2, bU3, bU4, bU5, bU6, bU7, bU8, bU9, bU10, bU11, bU12, bU13, forall_const, List.all_cons, List.all_nil, Option.map_some, List.map_cons, List.map_nil, ne_eq, implies_true, isNx, cs_dec, cs_not, cs_and, cs_or, cs_valid, eq_self, ↓wp_cond, ↓wp_loop, ↓reduceIte, reduceCtorEq, Nat.reduceEqDiff, Nat.reduceLT, Nat.reduceAdd, Nat.reduceMul, Int.ofNat_lt, Int.ofNat_le, exists_const, ae_app, ap_slc, Option.map_none, mkR_none, mkR_some, ar_look, ae_mset, ae_rng, ae_mkmap0, ar_ent, lookV_push, lookV_lowed, msetV_push, msetV_lowed, lt_put, same_put, sto_over, sto_lowed, cs_dead, Option.map_some, beq_self_eq_true, decide_true, cs_true, cs_false, aa_bsl, ↓sg_bsl]
    obtain ⟨I, hI⟩ : ∃ I : Nat → Env → St → Prop, ∀ n e t, I n e t = (Keep s t ∧ ∃ i : Nat, n + i = ls.length ∧ elen e = 24 ∧ E e 7 = v ∧ E e 8 = .int .i64 (ls.length : Int) ∧ E e 9 = .int .i64 (i : Int) ∧ Own ndC s t (E e 4) (ls.take i).flatten ∧ (ls.take i).all storeL = true) := ⟨fun n e t => (Keep s t ∧ ∃ i : Nat, n + i = ls.length ∧ elen e = 24 ∧ E e 7 = v ∧ E e 8 = .int .i64 (ls.length : Int) ∧ E e 9 = .int .i64 (i : Int) ∧ Own ndC s t (E e 4) (ls.take i).flatten ∧ (ls.take i).all storeL = true), fun _ _ _ => rfl⟩
    refine lwp_inv I (n := ls.length) ?_ ?_
    · rw [hI]
      exact ⟨.refl s, 0, by omega, by simp only [E_pne, E_psame, elen_put, Nat.reduceEqDiff, ne_eq, not_false_eq_true, Nat.reduceLT, hlen], by simp only [E_pne, E_psame, elen_put, Nat.reduceEqDiff, ne_eq, not_false_eq_true, Nat.reduceLT, h0, hlen], by simp only [E_pne, E_psame, elen_put, Nat.reduceEqDiff, ne_eq, not_false_eq_true, Nat.reduceLT, hlen], by simp only [E_pne, E_psame, elen_put, Nat.reduceEqDiff, ne_eq, not_false_eq_true, Nat.reduceLT, hlen]; rfl, by simp only [E_pne, E_psame, elen_put, Nat.reduceEqDiff, ne_eq, not_false_eq_true, Nat.reduceLT, hlen]; exact .nil _ _ _, rfl⟩
    intro n e t hi
    rw [hI] at hi
    obtain ⟨hK, i, hn, he, e7, e8, e9, hO, hst⟩ := hi
    by_cases hlt : i < ls.length
    · obtain ⟨l, hl⟩ := getsome hlt
      have hw2 := wrap_add1 (n := i) (by omega)
      obtain ⟨x, i1, hx, hxr⟩ := rdLL_at hr hl
      obtain ⟨a1, al⟩ := hx t hK
      have hfs := flat_step hl
      have hft := flat_take ls (i + 1)
      rw [hfs, List.length_append] at hft
      have q1 := q_StValid false (hK.read hxr) (by unfold lim; omega)
      cases hv : storeL l
      · rw [hv] at q1
        have hres : allP ls = ([], 2) := by
          unfold allP
          rw [if_neg]
          intro ha
          have := List.all_eq_true.1 ha l (List.mem_of_getElem? hl)
          rw [hv] at this
          cases this
        rw [hres]
        simp (config := {contextual := true, maxDischargeDepth := 12}) only [tb_at, q_known, e7, e8, e9, he, hlt, i1, a1, al, q1, ↓bD0, ↓bD1, ↓bD2, ↓bD3, ↓bD4, ↓bD5, ↓bD6, bU0, bU1, bU2, bU3, bU4, bU5, bU6, bU7, bU8, bU9, bU10, bU11, bU12, bU13, forall_const, List.all_cons, List.all_nil, Option.map_some, List.map_cons, List.map_nil, ne_eq, implies_true, isNx, cs_dec, cs_not, cs_and, cs_or, cs_valid, eq_self, ↓wp_cond, ↓wp_loop, ↓reduceIte, reduceCtorEq, Nat.reduceEqDiff, Nat.reduceLT, Nat.reduceAdd, Nat.reduceMul, Int.ofNat_lt, Int.ofNat_le, exists_const, ae_app, ap_slc, Option.map_none, mkR_none, mkR_some, ar_look, ae_mset, ae_rng, ae_mkmap0, ar_ent, lookV_push, lookV_lowed, msetV_push, msetV_lowed, lt_put, same_put, sto_over, sto_lowed, cs_dead, Option.map_some, beq_self_eq_true, decide_true, cs_true, cs_false, aa_bsl, ↓sg_bsl]
        exact ⟨hK, _, rfl, .nil _ _ _⟩
      · rw [hv] at q1
        obtain ⟨u, t2, hap, hK2, hO2⟩ := appV_list hK hO (hK.read hxr) 48 (by unfold roomBytes; omega)
        have hap : appV t 6 48 (E e 4) x = some (u, t2) := hap
        simp (config := {contextual := true, maxDischargeDepth := 12}) only [tb_at, q_known, e7, e8, e9, he, hlt, i1, a1, al, q1, hap, hw2, ↓bD0, ↓bD1, ↓bD2, ↓bD3, ↓bD4, ↓bD5, ↓bD6, bU0, bU1, bU2, bU3, bU4, bU5, bU6, bU7, bU8, bU9, bU10, bU11, bU12, bU13, forall_const, List.all_cons, List.all_nil, Option.map_some, List.map_cons, List.map_nil, ne_eq, implies_true, isNx, cs_dec, cs_not, cs_and, cs_or, cs_valid, eq_self, ↓wp_cond, ↓wp_loop, ↓reduceIte, reduceCtorEq, Nat.reduceEqDiff, Nat.reduceLT, Nat.reduceAdd, Nat.reduceMul, Int.ofNat_lt, Int.ofNat_le, exists_const, ae_app, ap_slc, Option.map_none, mkR_none, mkR_some, ar_look, ae_mset, ae_rng, ae_mkmap0, ar_ent, lookV_push, lookV_lowed, msetV_push, msetV_lowed, lt_put, same_put, sto_over, sto_lowed, cs_dead, Option.map_some, beq_self_eq_true, decide_true, cs_true, cs_false, aa_bsl, ↓sg_bsl]
        refine ⟨n - 1, by omega, ?_⟩
        rw [hI]
        refine ⟨hK2, i + 1, by omega, by simp only [E_pne, E_psame, elen_put, Nat.reduceEqDiff, ne_eq, not_false_eq_true, Nat.reduceLT, he], by simp only [E_pne, E_psame, elen_put, Nat.reduceEqDiff, ne_eq, not_false_eq_true, Nat.reduceLT, e7], by simp only [E_pne, E_psame, elen_put, Nat.reduceEqDiff, ne_eq, not_false_eq_true, Nat.reduceLT, e8], by simp only [E_pne, E_psame, elen_put, Nat.reduceEqDiff, ne_eq, not_false_eq_true, Nat.reduceLT, he], ?_, all_step hl hst hv⟩
        rw [hfs]
        simp only [E_pne, E_psame, elen_put, Nat.reduceEqDiff, ne_eq, not_false_eq_true, Nat.reduceLT, he]
        exact hO2
    · obtain rfl : i = ls.length := by omega
      rw [List.take_length] at hO hst
      have hres : allP ls = ofP ls.flatten := by
        unfold allP
        rw [if_pos hst]
      have hg := gOf_P ls.flatten
      obtain ⟨u, t2, hc, hK2, hO2⟩ := fresh_L (D := ndC) (f := gOf) hO.read (by unfold lim; omega) hg (gOf_plain hg)
      rw [mkR_some] at hc
      rw [hres]
      simp (config := {contextual := true, maxDischargeDepth := 12}) only [tb_at, q_known, e7, e8, e9, he, hlt, hc, ↓bD0, ↓bD1, ↓bD2, ↓bD3, ↓bD4, ↓bD5, ↓bD6, bU0, bU1, bU2, bU3, bU4, bU5, bU6, bU7, bU8, bU9, bU10, bU11, bU12, bU13, forall_const, List.all_cons, List.all_nil, Option.map_some, List.map_cons, List.map_nil, ne_eq, implies_true, isNx, cs_dec, cs_not, cs_and, cs_or, cs_valid, eq_self, ↓wp_cond, ↓wp_loop, ↓reduceIte, reduceCtorEq, Nat.reduceEqDiff, Nat.reduceLT, Nat.reduceAdd, Nat.reduceMul, Int.ofNat_lt, Int.ofNat_le, exists_const, ae_app, ap_slc, Option.map_none, mkR_none, mkR_some, ar_look, ae_mset, ae_rng, ae_mkmap0, ar_ent, lookV_push, lookV_lowed, msetV_push, msetV_lowed, lt_put, same_put, sto_over, sto_lowed, cs_dead, Option.map_some, beq_self_eq_true, decide_true, cs_true, cs_false, aa_bsl, ↓sg_bsl]
      exact ⟨hK.trans hK2, _, rfl, hO2.from hK.next⟩

def conA : Con := fun xs s => match xs with
  | [v, u, .int .i64 e] => match rdLL s v, read ndC s u with
    | some ls, some n => if ls.flatten.length ≤ 100000 ∧ ls.length ≤ 100000 ∧ n.length ≤ lim then some (.bool (decide ((allP ls).1 = n) && decide ((allP ls).2 = e)), s.lowed) else none
    | _, _ => none
  | _ => none
theorem conA_some {xs : List AV} {s : St} {r : AV} {s' : St} (h : conA xs s = some (r, s')) : ∃ v u e ls n, xs = [v, u, .int .i64 e] ∧ rdLL s v = some ls ∧ read ndC s u = some n ∧ ls.flatten.length ≤ 100000 ∧ ls.length ≤ 100000 ∧ n.length ≤ lim ∧ r = .bool (decide ((allP ls).1 = n) && decide ((allP ls).2 = e)) ∧ s' = s.lowed := by
  unfold conA at h
  split at h
  · split at h
    · split at h
      · rename_i v u e _ _ ls n hr hu hl
        injection h with h
        obtain ⟨rfl, rfl⟩ := Prod.mk.inj h
        exact ⟨v, u, e, ls, n, rfl, hr, hu, hl.1, hl.2.1, hl.2.2, rfl, rfl⟩
      · cases h
    · cases h
  · cases h
theorem conA_call {s : St} {v u : AV} {ls : List (List Nd)} {n : List Nd} (h : rdLL s v = some ls) (k : read ndC s u = some n) (hl : ls.flatten.length ≤ 100000) (hl2 : ls.length ≤ 100000) (hn : n.length ≤ lim) (cl : Bool) (e : Int) : acall conA cl [v, u, .int .i64 e] s = some (.bool (decide ((allP ls).1 = n) && decide ((allP ls).2 = e)), s) :=
  acall_rol (by simp only [conA, read_low, rdLL_low, h, k, hl, hl2, hn, and_self, if_true]) rfl
theorem ofFold_len : ∀ (r M A M' : List Nd), ofFold r M A = some M' → M'.length ≤ M.length + r.length
  | [], M, A, M', h => by simp [ofFold] at h; subst h; simp
  | n :: r, M, A, M', h => by
    rw [ofFold, ofStep_eq] at h
    split at h
    · rename_i M2 A2 hs
      have ih := ofFold_len r M2 A2 M' h
      have : M2.length ≤ M.length + 1 := by
        repeat' split at hs
        all_goals first | cases hs | skip
        all_goals exact updN_len _ _
      simp
      omega
    · cases h
theorem ofP_len (l : List Nd) : (ofP l).1.length ≤ l.length := by
  have h := gOf_P l
  unfold gOf at h
  split at h
  · split at h
    · rename_i M hM
      injection h with h
      rw [← (Prod.mk.inj h).1, sortN_len]
      simpa using ofFold_len _ _ _ _ hM
    · injection h with h
      rw [← (Prod.mk.inj h).1]
      simp
  · injection h with h
    rw [← (Prod.mk.inj h).1]
    simp
theorem allP_len (ls : List (List Nd)) : (allP ls).1.length ≤ ls.flatten.length := by
  unfold allP
  split
  · exact ofP_len _
  · simp
theorem s_halls : SoundAt Try.prog 18 (conA) :=
  con_keep (tb_sound (l := [(33, conF ndC pAll), (15, conLL ndC ndC fSame)]) (by simpa using ⟨s_All, s_Same⟩)) mixed Try.func18 k18 c18 fun args s r s' h => by
    obtain ⟨v, u, e, ls, n, rfl, hr, hu, hfl, hll, hns, rfl, rfl⟩ := conA_some h
    refine ⟨rfl, rfl, by simp [a18], fun env hlen ha => ?_⟩
    have h0 : E env 0 = _ := ha 0 _ rfl
    have h1 : E env 1 = _ := ha 1 _ rfl
    have h2 : E env 2 = _ := ha 2 _ rfl
    have hlen : elen env = _ := hlen
    simp only [a18] at hlen
    unfold a18
    obtain ⟨x, t, hc, hK, hO⟩ := acall_fresh (D := ndC) (p := pAll) (xs := [v]) (s := s) (l := (allP ls).1) (e := some (.int .i64 (allP ls).2)) (by simp only [pAll, rdLL_low, hr, hfl, hll, and_self, if_true]) (fun x hx => by injection hx with hx; subst hx; rfl)
    rw [mkR_some] at hc
    have qs := q_Same false hO.read (hK.read hu) (by have := allP_len ls; unfold lim; omega) hns
    simp (config := {contextual := true, maxDischargeDepth := 12}) only [tb_at, q_known, h0, h1, h2, hlen, hc, qs, ↓bD0, ↓bD1, ↓bD2, ↓bD3, ↓bD4, ↓bD5, ↓bD6, bU0, bU1, bU2, bU3, bU4, bU5, bU6, bU7, bU8, bU9, bU10, bU11, bU12, bU13, forall_const, List.all_cons, List.all_nil, Option.map_some, List.map_cons, List.map_nil, ne_eq, implies_true, isNx, cs_dec, cs_not, cs_and, cs_or, cs_valid, eq_self, ↓wp_cond, ↓wp_loop, ↓reduceIte, reduceCtorEq, Nat.reduceEqDiff, Nat.reduceLT, Nat.reduceAdd, Nat.reduceMul, Int.ofNat_lt, Int.ofNat_le, exists_const, ae_app, ap_slc, Option.map_none, mkR_none, mkR_some, ar_look, ae_mset, ae_rng, ae_mkmap0, ar_ent, lookV_push, lookV_lowed, msetV_push, msetV_lowed, lt_put, same_put, sto_over, sto_lowed, cs_dead, Option.map_some, beq_self_eq_true, decide_true, cs_true, cs_false, aa_bsl, ↓sg_bsl]
    exact hK

end Go.AM
end
/-
  JoinHolds in the abstract machine. Own work of this project; in part printed by a program of it.
-/
section
set_option linter.unusedVariables false
set_option linter.unusedSimpArgs false
set_option maxRecDepth 100000
set_option maxHeartbeats 16000000
namespace Go.AM
open Go Go.Proofs

/-- A statement of three lists: true. -/
def law3 : Con := fun xs s => match xs with
  | [v, w, z] => match read ndC s v, read ndC s w, read ndC s z with
    | some _, some _, some _ => some (.bool true, s.lowed)
    | _, _, _ => none
  | _ => none
theorem law3_some {xs : List AV} {s : St} {r : AV} {s' : St} (h : law3 xs s = some (r, s')) : ∃ v w z l m n, xs = [v, w, z] ∧ read ndC s v = some l ∧ read ndC s w = some m ∧ read ndC s z = some n ∧ r = .bool true ∧ s' = s.lowed := by
  unfold law3 at h
  split at h
  · split at h
    · rename_i v w z _ _ _ l m n hr hw hz
      injection h with h
      obtain ⟨rfl, rfl⟩ := Prod.mk.inj h
      exact ⟨v, w, z, l, m, n, rfl, hr, hw, hz, rfl, rfl⟩
    · cases h
  · cases h
theorem readA_2 {s : St} {v w : AV} {l m : List Nd} (h1 : read ndC s v = some l) (h2 : read ndC s w = some m) : readA s [v, w] = some [l, m] := by
  simp only [readA, h1, h2]
theorem readA_3 {s : St} {v w z : AV} {l m n : List Nd} (h1 : read ndC s v = some l) (h2 : read ndC s w = some m) (h3 : read ndC s z = some n) : readA s [v, w, z] = some [l, m, n] := by
  simp only [readA, h1, h2, h3]
theorem readA_5 {s : St} {v w z : AV} {l m n : List Nd} (h1 : read ndC s v = some l) (h2 : read ndC s w = some m) (h3 : read ndC s z = some n) : readA s [z, w, w, v, z] = some [n, m, m, l, n] := by
  simp only [readA, h1, h2, h3]
theorem s_JoinHolds : SoundAt Try.prog 6 (law3) :=
  con_keep (tb_sound (l := [(8, closed [] (.bool true)), (20, conL ndC fValid), (11, conJ), (19, conH withinP), (14, conF ndC (pLL ndC ndC gJoin)), (21, conLLs withinV), (15, conLL ndC ndC fSame), (22, conLD ndC fFind), (23, conLLs agreeV), (18, conA)]) (by simpa using ⟨s_known, s_JValid, s_hjoins, s_hwithin, s_Join, s_Within, s_Same, s_Find, s_Agree, s_halls⟩)) mixed Try.func6 k6 c6 fun args s r s' h => by
    obtain ⟨va, vb, vc, a, b, c, rfl, hra, hrb, hrc, rfl, rfl⟩ := law3_some h
    refine ⟨rfl, rfl, by simp [a6], fun env hlen ha => ?_⟩
    have h0 : E env 0 = _ := ha 0 _ rfl
    have h1 : E env 1 = _ := ha 1 _ rfl
    have h2 : E env 2 = _ := ha 2 _ rfl
    have hlen : elen env = _ := hlen
    simp only [a6] at hlen
    unfold a6
    have hLa := lenV_read hra
    have hLb := lenV_read hrb
    have hLc := lenV_read hrc
    by_cases hza : (40 : Int) < (a.length : Int)
    · have hz1 := eq_true hza
      simp (config := {contextual := true, maxDischargeDepth := 12}) only [tb_at, q_known, h0, h1, h2, hlen, hLa, hLb, hLc, hz1, ↓bD0, ↓bD1, ↓bD2, ↓bD3, ↓bD4, ↓bD5, ↓bD6, bU0, bU1, bU2, bU3, bU4, bU5, bU6, bU7, bU8, bU9, bU10, bU11, bU12, bU13, forall_const, List.all_cons, List.all_nil, Option.map_some, List.map_cons, List.map_nil, ne_eq, implies_true, isNx, cs_dec, cs_not, cs_and, cs_or, cs_valid, eq_self, ↓wp_cond, ↓wp_loop, ↓reduceIte, reduceCtorEq, Nat.reduceEqDiff, Nat.reduceLT, Nat.reduceAdd, Nat.reduceMul, Int.ofNat_lt, Int.ofNat_le, exists_const, ae_app, ap_slc, Option.map_none, mkR_none, mkR_some, ar_look, ae_mset, ae_rng, ae_mkmap0, ar_ent, lookV_push, lookV_lowed, msetV_push, msetV_lowed, lt_put, same_put, sto_over, sto_lowed, cs_dead, Option.map_some, beq_self_eq_true, decide_true, cs_true, cs_false, aa_bsl, ↓sg_bsl]
    have hz1 := eq_false hza
    by_cases hzb : (40 : Int) < (b.length : Int)
    · have hz2 := eq_true hzb
      simp (config := {contextual := true, maxDischargeDepth := 12}) only [tb_at, q_known, h0, h1, h2, hlen, hLa, hLb, hLc, hz1, hz2, ↓bD0, ↓bD1, ↓bD2, ↓bD3, ↓bD4, ↓bD5, ↓bD6, bU0, bU1, bU2, bU3, bU4, bU5, bU6, bU7, bU8, bU9, bU10, bU11, bU12, bU13, forall_const, List.all_cons, List.all_nil, Option.map_some, List.map_cons, List.map_nil, ne_eq, implies_true, isNx, cs_dec, cs_not, cs_and, cs_or, cs_valid, eq_self, ↓wp_cond, ↓wp_loop, ↓reduceIte, reduceCtorEq, Nat.reduceEqDiff, Nat.reduceLT, Nat.reduceAdd, Nat.reduceMul, Int.ofNat_lt, Int.ofNat_le, exists_const, ae_app, ap_slc, Option.map_none, mkR_none, mkR_some, ar_look, ae_mset, ae_rng, ae_mkmap0, ar_ent, lookV_push, lookV_lowed, msetV_push, msetV_lowed, lt_put, same_put, sto_over, sto_lowed, cs_dead, Option.map_some, beq_self_eq_true, decide_true, cs_true, cs_false, aa_bsl, ↓sg_bsl]
    have hz2 := eq_false hzb
    by_cases hzc : (40 : Int) < (c.length : Int)
    · have hz3 := eq_true hzc
      simp (config := {contextual := true, maxDischargeDepth := 12}) only [tb_at, q_known, h0, h1, h2, hlen, hLa, hLb, hLc, hz1, hz2, hz3, ↓bD0, ↓bD1, ↓bD2, ↓bD3, ↓bD4, ↓bD5, ↓bD6, bU0, bU1, bU2, bU3, bU4, bU5, bU6, bU7, bU8, bU9, bU10, bU11, bU12, bU13, forall_const, List.all_cons, List.all_nil, Option.map_some, List.map_cons, List.map_nil, ne_eq, implies_true, isNx, cs_dec, cs_not, cs_and, cs_or, cs_valid, eq_self, ↓wp_cond, ↓wp_loop, ↓reduceIte, reduceCtorEq, Nat.reduceEqDiff, Nat.reduceLT, Nat.reduceAdd, Nat.reduceMul, Int.ofNat_lt, Int.ofNat_le, exists_const, ae_app, ap_slc, Option.map_none, mkR_none, mkR_some, ar_look, ae_mset, ae_rng, ae_mkmap0, ar_ent, lookV_push, lookV_lowed, msetV_push, msetV_lowed, lt_put, same_put, sto_over, sto_lowed, cs_dead, Option.map_some, beq_self_eq_true, decide_true, cs_true, cs_false, aa_bsl, ↓sg_bsl]
    have hz3 := eq_false hzc
    have la : a.length ≤ lim := by unfold lim; omega
    have lb : b.length ≤ lim := by unfold lim; omega
    have lc : c.length ≤ lim := by unfold lim; omega
    have las : a.length ≤ 100000 := by omega
    have lbs : b.length ≤ 100000 := by omega
    have lcs : c.length ≤ 100000 := by omega
    have qva := q_StValid false hra la
    have qvb := q_StValid false hrb lb
    have qvc := q_StValid false hrc lc
    by_cases hv : storeL a = true ∧ storeL b = true ∧ storeL c = true
    rotate_left
    · have hv' : ((!storeL a || !storeL b) || !storeL c) = true := by
        cases x1 : storeL a <;> cases x2 : storeL b <;> cases x3 : storeL c <;> simp_all
      simp (config := {contextual := true, maxDischargeDepth := 12}) only [tb_at, q_known, h0, h1, h2, hlen, hLa, hLb, hLc, hz1, hz2, hz3, qva, qvb, qvc, hv', ↓bD0, ↓bD1, ↓bD2, ↓bD3, ↓bD4, ↓bD5, ↓bD6, bU0, bU1, bU2, bU3, bU4, bU5, bU6, bU7, bU8, bU9, bU10, bU11, bU12, bU13, forall_const, List.all_cons, List.all_nil, Option.map_some, List.map_cons, List.map_nil, ne_eq, implies_true, isNx, cs_dec, cs_not, cs_and, cs_or, cs_valid, eq_self, ↓wp_cond, ↓wp_loop, ↓reduceIte, reduceCtorEq, Nat.reduceEqDiff, Nat.reduceLT, Nat.reduceAdd, Nat.reduceMul, Int.ofNat_lt, Int.ofNat_le, exists_const, ae_app, ap_slc, Option.map_none, mkR_none, mkR_some, ar_look, ae_mset, ae_rng, ae_mkmap0, ar_ent, lookV_push, lookV_lowed, msetV_push, msetV_lowed, lt_put, same_put, sto_over, sto_lowed, cs_dead, Option.map_some, beq_self_eq_true, decide_true, cs_true, cs_false, aa_bsl, ↓sg_bsl]
    obtain ⟨sa, sb, sc⟩ := hv
    rw [sa] at qva
    rw [sb] at qvb
    rw [sc] at qvc
    obtain ⟨hj0, hw0⟩ := holds_self sa
    have qj0 := conJ_call hra hra hra las las la false 0
    have qw0 := conH_call withinP hra hra las las false true 0
    rw [hj0] at qj0
    rw [hw0] at qw0
    cases hab : agreeL a b
    · -- they clash
      have hP : joinsP a b = ([], 15) := joinsP_clash sa sb hab
      have hg := gJoin_P a b
      rw [hP] at hg
      obtain ⟨u, t1, hc1, hK1, hO1⟩ := fresh_LL (D := ndC) (f := gJoin) hra hrb la lb hg (gJoin_plain hg)
      rw [mkR_some] at hc1
      have hP2 : joinsP b a = ([], 15) := joinsP_clash sb sa (by rw [← agree_symm (store_sorted sa) (store_sorted sb)]; exact hab)
      have qj1 := conJ_call (hK1.read hrb) (hK1.read hra) hO1.read lbs las (by simp) false 15
      rw [hP2] at qj1
      have hLu := lenV_read hO1.read
      have hz15 : ((15 : Int) = 0) = False := by decide
      simp (config := {contextual := true, maxDischargeDepth := 12}) only [tb_at, q_known, h0, h1, h2, hlen, hLa, hLb, hLc, hz1, hz2, hz3, qva, qvb, qvc, qj0, qw0, hc1, qj1, hLu, hz15, List.length_nil, Int.natCast_zero, Int.ofNat_zero, ↓bD0, ↓bD1, ↓bD2, ↓bD3, ↓bD4, ↓bD5, ↓bD6, bU0, bU1, bU2, bU3, bU4, bU5, bU6, bU7, bU8, bU9, bU10, bU11, bU12, bU13, forall_const, List.all_cons, List.all_nil, Option.map_some, List.map_cons, List.map_nil, ne_eq, implies_true, isNx, cs_dec, cs_not, cs_and, cs_or, cs_valid, eq_self, ↓wp_cond, ↓wp_loop, ↓reduceIte, reduceCtorEq, Nat.reduceEqDiff, Nat.reduceLT, Nat.reduceAdd, Nat.reduceMul, Int.ofNat_lt, Int.ofNat_le, exists_const, ae_app, ap_slc, Option.map_none, mkR_none, mkR_some, ar_look, ae_mset, ae_rng, ae_mkmap0, ar_ent, lookV_push, lookV_lowed, msetV_push, msetV_lowed, lt_put, same_put, sto_over, sto_lowed, cs_dead, Option.map_some, beq_self_eq_true, decide_true, cs_true, cs_false, aa_bsl, ↓sg_bsl]
      exact hK1
    obtain ⟨sab, w1, w2, j1, j2, w3, w4, hcov⟩ := holds_ab sa sb hab
    have hP : joinsP a b = (refJ a b, 0) := joinsP_ok sa sb hab rfl
    have hg := gJoin_P a b
    rw [hP] at hg
    obtain ⟨u, t1, hc1, hK1, hO1⟩ := fresh_LL (D := ndC) (f := gJoin) hra hrb la lb hg (gJoin_plain hg)
    rw [mkR_some] at hc1
    have labs : (refJ a b).length ≤ 100000 := by
      have := joinsP_len a b
      rw [hP] at this
      simp only at this
      omega
    have lab : (refJ a b).length ≤ lim := by unfold lim; omega
    have ra1 := hK1.read hra
    have rb1 := hK1.read hrb
    have rc1' := hK1.read hrc
    have ru1 : read ndC t1 u = some (refJ a b) := hO1.read
    have qj1 := conJ_call rb1 ra1 ru1 lbs las lab false 0
    rw [j2] at qj1
    have qv1 := q_StValid false ru1 lab
    rw [sab] at qv1
    have qw1 := conH_call withinP ra1 ru1 las labs false true 0
    rw [w1] at qw1
    have qw2 := conH_call withinP rb1 ru1 lbs labs false true 0
    rw [w2] at qw2
    have qj2 := conJ_call ru1 ra1 ru1 labs las lab false 0
    rw [j1] at qj2
    have qw3 := q_Within false ra1 rb1 las lbs
    rw [withinV_P, w3] at qw3
    have qw4 := q_Within false rb1 ra1 lbs las
    rw [withinV_P, w4] at qw4
    have qs1 := q_Same false ra1 rb1 la lb
    have hsame : ((decide (refJ a b = b) && decide (refJ a b = a)) && !decide (a = b)) = false := by
      by_cases e1 : refJ a b = b
      · by_cases e2 : refJ a b = a
        · have : a = b := e2.symm.trans e1
          simp [this]
        · simp [e2]
      · simp [e1]
    have hb2 := bsl2 ra1 rb1
    obtain ⟨t2, ht2⟩ : ∃ t2, t2 = t1.push (.row [va, vb] true) := ⟨_, rfl⟩
    obtain ⟨j0, hj0'⟩ : ∃ j0, j0 = t1.next := ⟨_, rfl⟩
    simp (config := {contextual := true, maxDischargeDepth := 12}) only [tb_at, q_known, h0, h1, h2, hlen, hLa, hLb, hLc, hz1, hz2, hz3, qva, qvb, qvc, qj0, qw0, hc1, qj1, qv1, qw1, qw2, qj2, qw3, qw4, qs1, hb2, hsame, ↓bD0, ↓bD1, ↓bD2, ↓bD3, ↓bD4, ↓bD5, ↓bD6, bU0, bU1, bU2, bU3, bU4, bU5, bU6, bU7, bU8, bU9, bU10, bU11, bU12, bU13, forall_const, List.all_cons, List.all_nil, Option.map_some, List.map_cons, List.map_nil, ne_eq, implies_true, isNx, cs_dec, cs_not, cs_and, cs_or, cs_valid, eq_self, ↓wp_cond, ↓wp_loop, ↓reduceIte, reduceCtorEq, Nat.reduceEqDiff, Nat.reduceLT, Nat.reduceAdd, Nat.reduceMul, Int.ofNat_lt, Int.ofNat_le, exists_const, ae_app, ap_slc, Option.map_none, mkR_none, mkR_some, ar_look, ae_mset, ae_rng, ae_mkmap0, ar_ent, lookV_push, lookV_lowed, msetV_push, msetV_lowed, lt_put, same_put, sto_over, sto_lowed, cs_dead, Option.map_some, beq_self_eq_true, decide_true, cs_true, cs_false, aa_bsl, ↓sg_bsl]
    obtain ⟨I, hI⟩ : ∃ I : Nat → Env → St → Prop, ∀ n e t, I n e t = (t = t2 ∧ ∃ i : Nat, n + i = 2 ∧ elen e = 253 ∧ E e 0 = va ∧ E e 1 = vb ∧ E e 2 = vc ∧ E e 7 = u ∧ E e 138 = .sl t1.next 0 2 (some 2) 1 ∧ E e 139 = .int .i64 2 ∧ E e 140 = .int .i64 (i : Int)) := ⟨fun n e t => (t = t2 ∧ ∃ i : Nat, n + i = 2 ∧ elen e = 253 ∧ E e 0 = va ∧ E e 1 = vb ∧ E e 2 = vc ∧ E e 7 = u ∧ E e 138 = .sl t1.next 0 2 (some 2) 1 ∧ E e 139 = .int .i64 2 ∧ E e 140 = .int .i64 (i : Int)), fun _ _ _ => rfl⟩
    have hK2 : Keep t1 t2 := by rw [ht2]; exact (Keep.refl t1).push _
    have hLL : rdLL t2 (.sl t1.next 0 2 (some 2) 1) = some [a, b] := by rw [ht2]; exact rdLL_new (readA_2 ra1 rb1) 2 rfl
    have ru2 := hK2.read ru1
    have hLu := lenV_read ru2
    refine lwp_inv I (n := 2) ?_ ?_
    · rw [hI]
      exact ⟨ht2.symm, 0, by omega, by simp only [E_pne, E_psame, elen_put, Nat.reduceEqDiff, ne_eq, not_false_eq_true, Nat.reduceLT, hlen], by simp only [E_pne, E_psame, elen_put, Nat.reduceEqDiff, ne_eq, not_false_eq_true, Nat.reduceLT, h0], by simp only [E_pne, E_psame, elen_put, Nat.reduceEqDiff, ne_eq, not_false_eq_true, Nat.reduceLT, h1], by simp only [E_pne, E_psame, elen_put, Nat.reduceEqDiff, ne_eq, not_false_eq_true, Nat.reduceLT, h2], by simp only [E_pne, E_psame, elen_put, Nat.reduceEqDiff, ne_eq, not_false_eq_true, Nat.reduceLT, hlen], by simp only [E_pne, E_psame, elen_put, Nat.reduceEqDiff, ne_eq, not_false_eq_true, Nat.reduceLT, hlen], by simp only [E_pne, E_psame, elen_put, Nat.reduceEqDiff, ne_eq, not_false_eq_true, Nat.reduceLT, hlen]; rfl, by simp only [E_pne, E_psame, elen_put, Nat.reduceEqDiff, ne_eq, not_false_eq_true, Nat.reduceLT, hlen]; rfl⟩
    clear hz1 hz2 hz3 qva qvb qvc qj0 qw0 hc1 qj1 qv1 qw1 qw2 qj2 qw3 qw4 qs1 hb2 hsame h0 h1 h2 hlen ha
    intro n e t hi
    rw [hI] at hi
    obtain ⟨rfl, i, hn, he, e0, e1, e2, e7, e138, e139, e140⟩ := hi
    by_cases hlt : i < 2
    · have hw2 := wrap_add1 (n := i) (by omega)
      obtain ⟨l, hl, hM, hll⟩ : ∃ l, [a, b][i]? = some l ∧ (∀ x ∈ l, M2 a b x) ∧ l.length ≤ 100000 := by
        have : i = 0 ∨ i = 1 := by omega
        rcases this with rfl | rfl
        · exact ⟨a, rfl, fun x hx => .inl hx, las⟩
        · exact ⟨b, rfl, fun x hx => .inr hx, lbs⟩
      obtain ⟨w, i1, hx, hrw⟩ := rdLL_at hLL hl
      obtain ⟨a1, al⟩ := hx t (.refl t)
      have hLw := lenV_read hrw
      have hlt2 : ((i : Int) < 2) = True := eq_true (by omega)
      simp (config := {contextual := true, maxDischargeDepth := 12}) only [tb_at, q_known, he, e0, e1, e2, e7, e138, e139, e140, hlt2, i1, a1, al, hLw, ↓bD0, ↓bD1, ↓bD2, ↓bD3, ↓bD4, ↓bD5, ↓bD6, bU0, bU1, bU2, bU3, bU4, bU5, bU6, bU7, bU8, bU9, bU10, bU11, bU12, bU13, forall_const, List.all_cons, List.all_nil, Option.map_some, List.map_cons, List.map_nil, ne_eq, implies_true, isNx, cs_dec, cs_not, cs_and, cs_or, cs_valid, eq_self, ↓wp_cond, ↓wp_loop, ↓reduceIte, reduceCtorEq, Nat.reduceEqDiff, Nat.reduceLT, Nat.reduceAdd, Nat.reduceMul, Int.ofNat_lt, Int.ofNat_le, exists_const, ae_app, ap_slc, Option.map_none, mkR_none, mkR_some, ar_look, ae_mset, ae_rng, ae_mkmap0, ar_ent, lookV_push, lookV_lowed, msetV_push, msetV_lowed, lt_put, same_put, sto_over, sto_lowed, cs_dead, Option.map_some, beq_self_eq_true, decide_true, cs_true, cs_false, aa_bsl, ↓sg_bsl]
      obtain ⟨J, hJ⟩ : ∃ J : Nat → Env → St → Prop, ∀ n e t0, J n e t0 = (t0 = t ∧ ∃ k : Nat, n + k = l.length ∧ elen e = 253 ∧ E e 0 = va ∧ E e 1 = vb ∧ E e 2 = vc ∧ E e 7 = u ∧ E e 138 = .sl t1.next 0 2 (some 2) 1 ∧ E e 139 = .int .i64 2 ∧ E e 140 = .int .i64 (i : Int) ∧ E e 13 = w ∧ E e 14 = .int .i64 (k : Int)) := ⟨fun n e t0 => (t0 = t ∧ ∃ k : Nat, n + k = l.length ∧ elen e = 253 ∧ E e 0 = va ∧ E e 1 = vb ∧ E e 2 = vc ∧ E e 7 = u ∧ E e 138 = .sl t1.next 0 2 (some 2) 1 ∧ E e 139 = .int .i64 2 ∧ E e 140 = .int .i64 (i : Int) ∧ E e 13 = w ∧ E e 14 = .int .i64 (k : Int)), fun _ _ _ => rfl⟩
      refine lwp_inv J (n := l.length) ?_ ?_
      · rw [hJ]
        exact ⟨rfl, 0, by omega, by simp only [E_pne, E_psame, elen_put, Nat.reduceEqDiff, ne_eq, not_false_eq_true, Nat.reduceLT, he], by simp only [E_pne, E_psame, elen_put, Nat.reduceEqDiff, ne_eq, not_false_eq_true, Nat.reduceLT, e0], by simp only [E_pne, E_psame, elen_put, Nat.reduceEqDiff, ne_eq, not_false_eq_true, Nat.reduceLT, e1], by simp only [E_pne, E_psame, elen_put, Nat.reduceEqDiff, ne_eq, not_false_eq_true, Nat.reduceLT, e2], by simp only [E_pne, E_psame, elen_put, Nat.reduceEqDiff, ne_eq, not_false_eq_true, Nat.reduceLT, e7], by simp only [E_pne, E_psame, elen_put, Nat.reduceEqDiff, ne_eq, not_false_eq_true, Nat.reduceLT, e138], by simp only [E_pne, E_psame, elen_put, Nat.reduceEqDiff, ne_eq, not_false_eq_true, Nat.reduceLT, e139], by simp only [E_pne, E_psame, elen_put, Nat.reduceEqDiff, ne_eq, not_false_eq_true, Nat.reduceLT, e140], by simp only [E_pne, E_psame, elen_put, Nat.reduceEqDiff, ne_eq, not_false_eq_true, Nat.reduceLT, he], by simp only [E_pne, E_psame, elen_put, Nat.reduceEqDiff, ne_eq, not_false_eq_true, Nat.reduceLT, he]; rfl⟩
      clear he e0 e1 e2 e7 e138 e139 e140
      intro n2 e t0 hi
      rw [hJ] at hi
      obtain ⟨rfl, k, hn2, he, e0, e1, e2, e7, e138, e139, e140, e13, e14⟩ := hi
      by_cases hkt : k < l.length
      · obtain ⟨x, hxk⟩ := getsome hkt
        have hw3 := wrap_add1 (n := k) (by omega)
        obtain ⟨kk, y, hky, hdead⟩ := hcov x (hM x (List.mem_of_getElem? hxk))
        obtain ⟨hy, hyd⟩ := lookN_some hky
        obtain ⟨b1, b2, _, _, b5, bl⟩ := nd_lods hrw (.refl t0) hxk
        have i2 := nd_idx hrw hxk .i64
        obtain ⟨_, _, _, _, c5, cl⟩ := nd_lods ru2 (.refl t0) hy
        have i3 := nd_idx ru2 hy .i64
        have qf := q_Find false ru2 lab x.d
        rw [findL_look, hky] at qf
        simp only at qf
        have hz : ((kk : Int) < 0) = False := eq_false (by omega)
        have hcond : (decide (x.x = 0) && !decide (y.x = 0)) = false := by
          by_cases h0 : x.x = 0
          · simp [h0, hdead h0]
          · simp [h0]
        simp (config := {contextual := true, maxDischargeDepth := 12}) only [tb_at, q_known, he, e0, e1, e2, e7, e138, e139, e140, e13, e14, hkt, hLw, b1, b2, b5, bl, i2, c5, cl, i3, qf, hz, hcond, hw3, ↓bD0, ↓bD1, ↓bD2, ↓bD3, ↓bD4, ↓bD5, ↓bD6, bU0, bU1, bU2, bU3, bU4, bU5, bU6, bU7, bU8, bU9, bU10, bU11, bU12, bU13, forall_const, List.all_cons, List.all_nil, Option.map_some, List.map_cons, List.map_nil, ne_eq, implies_true, isNx, cs_dec, cs_not, cs_and, cs_or, cs_valid, eq_self, ↓wp_cond, ↓wp_loop, ↓reduceIte, reduceCtorEq, Nat.reduceEqDiff, Nat.reduceLT, Nat.reduceAdd, Nat.reduceMul, Int.ofNat_lt, Int.ofNat_le, exists_const, ae_app, ap_slc, Option.map_none, mkR_none, mkR_some, ar_look, ae_mset, ae_rng, ae_mkmap0, ar_ent, lookV_push, lookV_lowed, msetV_push, msetV_lowed, lt_put, same_put, sto_over, sto_lowed, cs_dead, Option.map_some, beq_self_eq_true, decide_true, cs_true, cs_false, aa_bsl, ↓sg_bsl]
        refine ⟨n2 - 1, by omega, ?_⟩
        rw [hJ]
        exact ⟨rfl, k + 1, by omega, by simp only [E_pne, E_psame, elen_put, Nat.reduceEqDiff, ne_eq, not_false_eq_true, Nat.reduceLT, he], by simp only [E_pne, E_psame, elen_put, Nat.reduceEqDiff, ne_eq, not_false_eq_true, Nat.reduceLT, e0], by simp only [E_pne, E_psame, elen_put, Nat.reduceEqDiff, ne_eq, not_false_eq_true, Nat.reduceLT, e1], by simp only [E_pne, E_psame, elen_put, Nat.reduceEqDiff, ne_eq, not_false_eq_true, Nat.reduceLT, e2], by simp only [E_pne, E_psame, elen_put, Nat.reduceEqDiff, ne_eq, not_false_eq_true, Nat.reduceLT, e7], by simp only [E_pne, E_psame, elen_put, Nat.reduceEqDiff, ne_eq, not_false_eq_true, Nat.reduceLT, e138], by simp only [E_pne, E_psame, elen_put, Nat.reduceEqDiff, ne_eq, not_false_eq_true, Nat.reduceLT, e139], by simp only [E_pne, E_psame, elen_put, Nat.reduceEqDiff, ne_eq, not_false_eq_true, Nat.reduceLT, e140], by simp only [E_pne, E_psame, elen_put, Nat.reduceEqDiff, ne_eq, not_false_eq_true, Nat.reduceLT, e13], by simp only [E_pne, E_psame, elen_put, Nat.reduceEqDiff, ne_eq, not_false_eq_true, Nat.reduceLT, he]⟩
      · simp (config := {contextual := true, maxDischargeDepth := 12}) only [tb_at, q_known, he, e0, e1, e2, e7, e138, e139, e140, e13, e14, hkt, hLw, hw2, ↓bD0, ↓bD1, ↓bD2, ↓bD3, ↓bD4, ↓bD5, ↓bD6, bU0, bU1, bU2, bU3, bU4, bU5, bU6, bU7, bU8, bU9, bU10, bU11, bU12, bU13, forall_const, List.all_cons, List.all_nil, Option.map_some, List.map_cons, List.map_nil, ne_eq, implies_true, isNx, cs_dec, cs_not, cs_and, cs_or, cs_valid, eq_self, ↓wp_cond, ↓wp_loop, ↓reduceIte, reduceCtorEq, Nat.reduceEqDiff, Nat.reduceLT, Nat.reduceAdd, Nat.reduceMul, Int.ofNat_lt, Int.ofNat_le, exists_const, ae_app, ap_slc, Option.map_none, mkR_none, mkR_some, ar_look, ae_mset, ae_rng, ae_mkmap0, ar_ent, lookV_push, lookV_lowed, msetV_push, msetV_lowed, lt_put, same_put, sto_over, sto_lowed, cs_dead, Option.map_some, beq_self_eq_true, decide_true, cs_true, cs_false, aa_bsl, ↓sg_bsl]
        refine ⟨n - 1, by omega, ?_⟩
        rw [hI]
        exact ⟨rfl, i + 1, by omega, by simp only [E_pne, E_psame, elen_put, Nat.reduceEqDiff, ne_eq, not_false_eq_true, Nat.reduceLT, he], by simp only [E_pne, E_psame, elen_put, Nat.reduceEqDiff, ne_eq, not_false_eq_true, Nat.reduceLT, e0], by simp only [E_pne, E_psame, elen_put, Nat.reduceEqDiff, ne_eq, not_false_eq_true, Nat.reduceLT, e1], by simp only [E_pne, E_psame, elen_put, Nat.reduceEqDiff, ne_eq, not_false_eq_true, Nat.reduceLT, e2], by simp only [E_pne, E_psame, elen_put, Nat.reduceEqDiff, ne_eq, not_false_eq_true, Nat.reduceLT, e7], by simp only [E_pne, E_psame, elen_put, Nat.reduceEqDiff, ne_eq, not_false_eq_true, Nat.reduceLT, e138], by simp only [E_pne, E_psame, elen_put, Nat.reduceEqDiff, ne_eq, not_false_eq_true, Nat.reduceLT, e139], by simp only [E_pne, E_psame, elen_put, Nat.reduceEqDiff, ne_eq, not_false_eq_true, Nat.reduceLT, he]⟩
    · have hlt2 : ((i : Int) < 2) = False := eq_false (by omega)
      have ra2 := hK2.read ra1
      have rb2 := hK2.read rb1
      have rc2 := hK2.read rc1'
      have hK02 := hK1.trans hK2
      have qa1 := conLLs_call agreeV_ground ra2 rc2 las lcs false
      rw [agreeV_P, agreeP_ok sa sc] at qa1
      have qa2 := conLLs_call agreeV_ground rb2 rc2 lbs lcs false
      rw [agreeV_P, agreeP_ok sb sc] at qa2
      have hb3 := bsl3 ra2 rb2 rc2
      have hb5 := bsl5 rc2 rb2 rb2 ra2 rc2
      by_cases hag : agreeL a c = true ∧ agreeL b c = true
      rotate_left
      · have hP3 := clash_3 sa sb sc hag
        have hflat : ([a, b, c] : List (List Nd)).flatten.length ≤ 100000 := by
          simp only [List.flatten_cons, List.flatten_nil, List.length_append, List.length_nil]
          omega
        obtain ⟨t3, ht3⟩ : ∃ t3, t3 = t.push (.row [va, vb, vc] true) := ⟨_, rfl⟩
        have hK3 : Keep t t3 := by rw [ht3]; exact (Keep.refl t).push _
        have hLL3 : rdLL t3 (.sl t.next 0 3 (some 3) 1) = some [a, b, c] := by rw [ht3]; exact rdLL_new (readA_3 ra2 rb2 rc2) 3 rfl
        have qA := conA_call hLL3 (read_nils ndC t3) hflat (by simp) (by simp) false 15
        rw [hP3, ht3] at qA
        cases g1 : agreeL a c
        · rw [g1] at qa1
          cases g2 : agreeL b c
          · rw [g2] at qa2
            simp (config := {contextual := true, maxDischargeDepth := 12}) only [tb_at, q_known, he, e0, e1, e2, e7, e138, e139, e140, hlt2, qa1, qa2, hb3, qA, ↓bD0, ↓bD1, ↓bD2, ↓bD3, ↓bD4, ↓bD5, ↓bD6, bU0, bU1, bU2, bU3, bU4, bU5, bU6, bU7, bU8, bU9, bU10, bU11, bU12, bU13, forall_const, List.all_cons, List.all_nil, Option.map_some, List.map_cons, List.map_nil, ne_eq, implies_true, isNx, cs_dec, cs_not, cs_and, cs_or, cs_valid, eq_self, ↓wp_cond, ↓wp_loop, ↓reduceIte, reduceCtorEq, Nat.reduceEqDiff, Nat.reduceLT, Nat.reduceAdd, Nat.reduceMul, Int.ofNat_lt, Int.ofNat_le, exists_const, ae_app, ap_slc, Option.map_none, mkR_none, mkR_some, ar_look, ae_mset, ae_rng, ae_mkmap0, ar_ent, lookV_push, lookV_lowed, msetV_push, msetV_lowed, lt_put, same_put, sto_over, sto_lowed, cs_dead, Option.map_some, beq_self_eq_true, decide_true, cs_true, cs_false, aa_bsl, ↓sg_bsl]
            exact hK02.push _
          · rw [g2] at qa2
            simp (config := {contextual := true, maxDischargeDepth := 12}) only [tb_at, q_known, he, e0, e1, e2, e7, e138, e139, e140, hlt2, qa1, qa2, hb3, qA, ↓bD0, ↓bD1, ↓bD2, ↓bD3, ↓bD4, ↓bD5, ↓bD6, bU0, bU1, bU2, bU3, bU4, bU5, bU6, bU7, bU8, bU9, bU10, bU11, bU12, bU13, forall_const, List.all_cons, List.all_nil, Option.map_some, List.map_cons, List.map_nil, ne_eq, implies_true, isNx, cs_dec, cs_not, cs_and, cs_or, cs_valid, eq_self, ↓wp_cond, ↓wp_loop, ↓reduceIte, reduceCtorEq, Nat.reduceEqDiff, Nat.reduceLT, Nat.reduceAdd, Nat.reduceMul, Int.ofNat_lt, Int.ofNat_le, exists_const, ae_app, ap_slc, Option.map_none, mkR_none, mkR_some, ar_look, ae_mset, ae_rng, ae_mkmap0, ar_ent, lookV_push, lookV_lowed, msetV_push, msetV_lowed, lt_put, same_put, sto_over, sto_lowed, cs_dead, Option.map_some, beq_self_eq_true, decide_true, cs_true, cs_false, aa_bsl, ↓sg_bsl]
            exact hK02.push _
        · rw [g1] at qa1
          have g2 : agreeL b c = false := by
            cases x : agreeL b c
            · rfl
            · exact absurd ⟨g1, x⟩ hag
          rw [g2] at qa2
          simp (config := {contextual := true, maxDischargeDepth := 12}) only [tb_at, q_known, he, e0, e1, e2, e7, e138, e139, e140, hlt2, qa1, qa2, hb3, qA, ↓bD0, ↓bD1, ↓bD2, ↓bD3, ↓bD4, ↓bD5, ↓bD6, bU0, bU1, bU2, bU3, bU4, bU5, bU6, bU7, bU8, bU9, bU10, bU11, bU12, bU13, forall_const, List.all_cons, List.all_nil, Option.map_some, List.map_cons, List.map_nil, ne_eq, implies_true, isNx, cs_dec, cs_not, cs_and, cs_or, cs_valid, eq_self, ↓wp_cond, ↓wp_loop, ↓reduceIte, reduceCtorEq, Nat.reduceEqDiff, Nat.reduceLT, Nat.reduceAdd, Nat.reduceMul, Int.ofNat_lt, Int.ofNat_le, exists_const, ae_app, ap_slc, Option.map_none, mkR_none, mkR_some, ar_look, ae_mset, ae_rng, ae_mkmap0, ar_ent, lookV_push, lookV_lowed, msetV_push, msetV_lowed, lt_put, same_put, sto_over, sto_lowed, cs_dead, Option.map_some, beq_self_eq_true, decide_true, cs_true, cs_false, aa_bsl, ↓sg_bsl]
          exact hK02.push _
      rw [hag.1] at qa1
      rw [hag.2] at qa2
      obtain ⟨bc, all, sbc, k1, k2, k3, k4, k5⟩ := holds_3 sa sb sc hab hag.1 hag.2
      have hg1 := gJoin_P b c
      rw [k1] at hg1
      obtain ⟨u1, t3, hc3, hK3, hO3⟩ := fresh_LL (D := ndC) (f := gJoin) rb2 rc2 lb lc hg1 (gJoin_plain hg1)
      rw [mkR_some] at hc3
      have lbc := joinsP_len b c
      rw [k1] at lbc
      simp only at lbc
      have hg2 := gJoin_P a bc
      rw [k2] at hg2
      have rbc3 : read ndC t3 u1 = some bc := hO3.read
      obtain ⟨u2, t4, hc4, hK4, hO4⟩ := fresh_LL (D := ndC) (f := gJoin) (hK3.read ra2) rbc3 la (by unfold lim; omega) hg2 (gJoin_plain hg2)
      rw [mkR_some] at hc4
      have lall := joinsP_len a bc
      rw [k2] at lall
      simp only at lall
      have lall' : all.length ≤ lim := by unfold lim; omega
      have rall4 : read ndC t4 u2 = some all := hO4.read
      have hK24 := hK3.trans hK4
      have ra4 := hK24.read ra2
      have rb4 := hK24.read rb2
      have rc4 := hK24.read rc2
      have qj5 := conJ_call (hK24.read ru2) rc4 rall4 labs lcs lall' false 0
      rw [k3] at qj5
      obtain ⟨t5, ht5⟩ : ∃ t5, t5 = t4.push (.row [va, vb, vc] true) := ⟨_, rfl⟩
      have hK5 : Keep t4 t5 := by rw [ht5]; exact (Keep.refl t4).push _
      have hLL5 : rdLL t5 (.sl t4.next 0 3 (some 3) 1) = some [a, b, c] := by rw [ht5]; exact rdLL_new (readA_3 ra4 rb4 rc4) 3 rfl
      have qA := conA_call hLL5 (hK5.read rall4) (by
        simp only [List.flatten_cons, List.flatten_nil, List.length_append, List.length_nil]
        omega) (by simp) lall' false 0
      rw [k4] at qA
      obtain ⟨t6, ht6⟩ : ∃ t6, t6 = t5.push (.row [vc, vb, vb, va, vc] true) := ⟨_, rfl⟩
      have hK6 : Keep t5 t6 := by rw [ht6]; exact (Keep.refl t5).push _
      have hLL6 : rdLL t6 (.sl t5.next 0 5 (some 5) 1) = some [c, b, b, a, c] := by rw [ht6]; exact rdLL_new (readA_5 (hK5.read ra4) (hK5.read rb4) (hK5.read rc4)) 5 rfl
      have qB := conA_call hLL6 (hK6.read (hK5.read rall4)) (by
        simp only [List.flatten_cons, List.flatten_nil, List.length_append, List.length_nil]
        omega) (by simp) lall' false 0
      rw [k5] at qB
      rw [ht6, ht5] at qB
      rw [ht5] at qA
      have hK06 := hK02.trans (hK24.trans (hK5.trans hK6))
      rw [ht6, ht5] at hK06
      simp (config := {contextual := true, maxDischargeDepth := 12}) only [tb_at, q_known, he, e0, e1, e2, e7, e138, e139, e140, hlt2, qa1, qa2, hb3, hb5, hc3, hc4, qj5, qA, qB, ↓bD0, ↓bD1, ↓bD2, ↓bD3, ↓bD4, ↓bD5, ↓bD6, bU0, bU1, bU2, bU3, bU4, bU5, bU6, bU7, bU8, bU9, bU10, bU11, bU12, bU13, forall_const, List.all_cons, List.all_nil, Option.map_some, List.map_cons, List.map_nil, ne_eq, implies_true, isNx, cs_dec, cs_not, cs_and, cs_or, cs_valid, eq_self, ↓wp_cond, ↓wp_loop, ↓reduceIte, reduceCtorEq, Nat.reduceEqDiff, Nat.reduceLT, Nat.reduceAdd, Nat.reduceMul, Int.ofNat_lt, Int.ofNat_le, exists_const, ae_app, ap_slc, Option.map_none, mkR_none, mkR_some, ar_look, ae_mset, ae_rng, ae_mkmap0, ar_ent, lookV_push, lookV_lowed, msetV_push, msetV_lowed, lt_put, same_put, sto_over, sto_lowed, cs_dead, Option.map_some, beq_self_eq_true, decide_true, cs_true, cs_false, aa_bsl, ↓sg_bsl]
      exact hK06

end Go.AM
end
/-
  Three arguments. Own work of this project.
-/
section
set_option linter.unusedVariables false
set_option linter.unusedSimpArgs false
set_option maxRecDepth 100000
namespace Go.AM
open Go Go.Proofs Go.ChangeShapes Go.WideShapes Go.ChangeAt Go.RowKit Go.Deep

theorem three_args {W : World} {v0 v1 v2 : Value} (a0 : Arg W 0 v0) (a1 : Arg W 1 v1) (a2 : Arg W 2 v2) {f : Nat} (hs : SoundAt Try.prog f law3) : Calls Try.prog f #[v0, v1, v2] W fun e W' => e = .returned (.bool true) ∧ Clean W W' := by
  have g0 : (⟨[a2.blk, a1.blk, a0.blk], 3, 0⟩ : St).get 0 = some a0.blk := rfl
  have g1 : (⟨[a2.blk, a1.blk, a0.blk], 3, 0⟩ : St).get 1 = some a1.blk := rfl
  have g2 : (⟨[a2.blk, a1.blk, a0.blk], 3, 0⟩ : St).get 2 = some a2.blk := rfl
  have hg : ∀ id b, (⟨[a2.blk, a1.blk, a0.blk], 3, 0⟩ : St).get id = some b → (id = 0 ∧ b = a0.blk) ∨ (id = 1 ∧ b = a1.blk) ∨ (id = 2 ∧ b = a2.blk) := by
    intro id b h
    have := St.get_lt h
    have : id = 0 ∨ id = 1 ∨ id = 2 := by
      have : id < 3 := this
      omega
    rcases this with rfl | rfl | rfl
    · rw [g0] at h; injection h with h; exact .inl ⟨rfl, h.symm⟩
    · rw [g1] at h; injection h with h; exact .inr (.inl ⟨rfl, h.symm⟩)
    · rw [g2] at h; injection h with h; exact .inr (.inr ⟨rfl, h.symm⟩)
  have hown : ∀ id b, (⟨[a2.blk, a1.blk, a0.blk], 3, 0⟩ : St).get id = some b → b.owned = false := by
    intro id b h
    rcases hg id b h with ⟨_, rfl⟩ | ⟨_, rfl⟩ | ⟨_, rfl⟩
    · exact a0.own
    · exact a1.own
    · exact a2.own
  have hR : R ⟨[a2.blk, a1.blk, a0.blk], 3, 0⟩ (fun i => if i = 0 then some a0.loc else if i = 1 then some a1.loc else if i = 2 then some a2.loc else none) W := by
    refine ⟨fun id L h => ?_, fun id b L h1 h2 => ?_, fun i j L M bi bj _ _ _ e3 _ e5 _ => ?_⟩
    · split at h
      · injection h with h; subst h; exact a0.lt
      · split at h
        · injection h with h; subst h; exact a1.lt
        · split at h
          · injection h with h; subst h; exact a2.lt
          · cases h
    · rcases hg id b h1 with ⟨rfl, rfl⟩ | ⟨rfl, rfl⟩ | ⟨rfl, rfl⟩
      · simp at h2; subst h2; exact a0.ok _
      · simp at h2; subst h2; exact a1.ok _
      · simp at h2; subst h2; exact a2.ok _
    · rw [hown i bi e3] at e5; cases e5
  obtain ⟨_, _, h⟩ := hs [a0.av, a1.av, a2.av] ⟨[a2.blk, a1.blk, a0.blk], 3, 0⟩ (.bool true) (St.lowed ⟨[a2.blk, a1.blk, a0.blk], 3, 0⟩) (by
    simp only [law3, a0.rd _ g0, a1.rd _ g1, a2.rd _ g2])
  have := h _ W [v0, v1, v2] (fun id hid => by
    have : 3 ≤ id := hid
    simp [show id ≠ 0 by omega, show id ≠ 1 by omega, show id ≠ 2 by omega]) hR (VRs_cons.2 ⟨a0.vr _ rfl, VRs_cons.2 ⟨a1.vr _ rfl, VRs_cons.2 ⟨a2.vr _ rfl, VRs_nil⟩⟩⟩)
  refine Calls.mono (by simpa using this) fun e W' hp => ?_
  obtain ⟨ρ', v, rfl, hv, hst, _⟩ := hp
  simp only [VR] at hv
  subst hv
  exact ⟨rfl, hst.size, hst.os, hst.tape, hst.output, hst.drawn, fun b hb => hst.frame b hb fun id L blk _ _ h1 h2 => by rw [hown id blk h1] at h2; cases h2⟩
end Go.AM
end
