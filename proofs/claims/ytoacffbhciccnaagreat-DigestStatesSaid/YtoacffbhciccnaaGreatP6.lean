/-
  The union and the merge of the reference of layer 16. Own work of this project; in part printed by a program of it.
-/
import Derived.Test.YtoacffbhciccnaaGreatP5
set_option linter.unusedVariables false
set_option linter.unusedSimpArgs false
section
set_option maxRecDepth 100000
set_option maxHeartbeats 8000000
namespace Go.AM
open Go Go.Proofs

variable {s t u : St}

def gapN (p : Nat → Bool) : Nat → Nat → Nat
  | 0, n => n
  | k + 1, n => if p (n + 1) = true then gapN p k (n + 1) else n
theorem gapN_ge (p : Nat → Bool) : ∀ k n, n ≤ gapN p k n
  | 0, n => Nat.le_refl _
  | k + 1, n => by
    unfold gapN
    split
    · have := gapN_ge p k (n + 1)
      omega
    · exact Nat.le_refl _
theorem gapN_fill (p : Nat → Bool) : ∀ k n j, n < j → j ≤ gapN p k n → p j = true
  | 0, n, j, h1, h2 => by unfold gapN at h2; omega
  | k + 1, n, j, h1, h2 => by
    unfold gapN at h2
    split at h2
    · rename_i hp
      by_cases h : j = n + 1
      · rw [h]; exact hp
      · exact gapN_fill p k (n + 1) j (by omega) h2
    · omega
theorem gapN_stop {p : Nat → Bool} {B : Nat} (h : ∀ j, 1 ≤ j → p j = true → j ≤ B) : ∀ k n, B ≤ n + k → p (gapN p k n + 1) = false
  | 0, n, hb => by
    unfold gapN
    cases hp : p (n + 1)
    · rfl
    · have := h _ (by omega) hp
      omega
  | k + 1, n, hb => by
    unfold gapN
    split
    · exact gapN_stop h k (n + 1) (by omega)
    · rename_i hp
      exact Bool.eq_false_iff.2 hp
theorem jhas_le {x : DCx} (hx : isC x = true) {r : Int} {j : Nat} (h : jhas x ⟨r, (j : Int)⟩ = true) : j ≤ 4294967295 := by
  obtain ⟨h3, _⟩ := (isC_iff x).1 hx
  obtain ⟨h4, _, h5⟩ := (cvalid_iff x).1 h3
  unfold jhas at h
  rw [Bool.or_eq_true, decide_eq_true_eq, decide_eq_true_eq] at h
  rcases h with h | h
  · have := vget_nn h4 r
    have h : (j : Int) ≤ vget x.v r := h
    omega
  · have := (valid_iff _).1 (h5 _ h)
    have h6 : (j : Int) ≤ 4294967295 := this.2.2.2
    omega
def unN (a b : DCx) (k : Nat) : Nat := (max (vget a.v (k : Int)) (vget b.v (k : Int))).toNat
def unJ (a b : DCx) (k j : Nat) : Bool := jhas a ⟨(k : Int), (j : Int)⟩ || jhas b ⟨(k : Int), (j : Int)⟩
def unF (a b : DCx) (k : Nat) : Nat := gapN (unJ a b k) 4294967296 (unN a b k)
theorem unN_max {a b : DCx} (ha : isC a = true) (hb : isC b = true) (k : Nat) : max (vget a.v (k : Int)) (vget b.v (k : Int)) = (unN a b k : Int) := by
  have := vget_nn ((cvalid_iff a).1 ((isC_iff a).1 ha).1).1 k
  have := vget_nn ((cvalid_iff b).1 ((isC_iff b).1 hb).1).1 k
  unfold unN
  omega
theorem unF_ge (a b : DCx) (k : Nat) : unN a b k ≤ unF a b k := gapN_ge _ _ _
theorem unF_fill (a b : DCx) (k j : Nat) (h1 : unN a b k < j) (h2 : j ≤ unF a b k) : unJ a b k j = true := gapN_fill _ _ _ j h1 h2
theorem unJ_le {a b : DCx} (ha : isC a = true) (hb : isC b = true) {k j : Nat} (h : unJ a b k j = true) : j ≤ 4294967295 := by
  unfold unJ at h
  rw [Bool.or_eq_true] at h
  exact h.elim (jhas_le ha) (jhas_le hb)
theorem unF_stop {a b : DCx} (ha : isC a = true) (hb : isC b = true) (k : Nat) : unJ a b k (unF a b k + 1) = false := gapN_stop (fun j _ h => unJ_le ha hb h) _ _ (by omega)
attribute [irreducible] unF
theorem unF_uni {a b : DCx} (ha : isC a = true) (hb : isC b = true) : UniV a b (unF a b) := by
  have va := fun k : Nat => vget_nn ((cvalid_iff a).1 ((isC_iff a).1 ha).1).1 k
  have vb := fun k : Nat => vget_nn ((cvalid_iff b).1 ((isC_iff b).1 hb).1).1 k
  have hfill : ∀ k j : Nat, 1 ≤ j → j ≤ unF a b k → unJ a b k j = true := fun k j h1 h2 => by
    by_cases h : unN a b k < j
    · exact unF_fill a b k j h h2
    · have hm := unN_max ha hb k
      have h3 : (j : Int) ≤ vget a.v (k : Int) ∨ (j : Int) ≤ vget b.v (k : Int) := by omega
      unfold unJ jhas
      rcases h3 with h3 | h3
      · rw [decide_eq_true h3]; simp
      · rw [decide_eq_true h3]; simp
  refine ⟨fun k _ _ => ?_, fun k j _ _ h1 h2 => ?_, fun k _ _ => ?_, fun k => ?_⟩
  · have hm := unN_max ha hb k
    have hg := unF_ge a b k
    constructor <;> omega
  · have := hfill k j h1 h2
    unfold unJ at this
    rwa [Bool.or_eq_true] at this
  · have := unF_stop ha hb k
    unfold unJ at this
    rwa [Bool.or_eq_false_iff] at this
  · by_cases h : unF a b k = 0
    · omega
    · exact unJ_le ha hb (hfill k _ (by omega) (Nat.le_refl _))
def unC (V a b : List Dot) : Nat → List Dot
  | 0 => []
  | 1 => a.foldl (cloudS V) []
  | _ => b.foldl (cloudS V) (a.foldl (cloudS V) [])
theorem unC_uni {a b : DCx} (ha : isC a = true) (hb : isC b = true) : (⟨vecL (unF a b) 64, unC (vecL (unF a b) 64) a.c b.c 2⟩ : DCx) = uniC a b := by
  rw [← uniP_eq ha hb (unF_uni ha hb)]
  unfold uniP
  congr 1
  show b.c.foldl _ (a.c.foldl _ []) = _
  rw [← List.foldl_append, cloud_fold]
  rfl
theorem cloudS_len (V C : List Dot) (d : Dot) : (cloudS V C d).length ≤ C.length + 1 := by
  unfold cloudS
  split
  · omega
  · rw [insD_len]; omega
theorem fcloud_len (V : List Dot) : ∀ (l C : List Dot), (l.foldl (cloudS V) C).length ≤ C.length + l.length
  | [], C => by simp
  | d :: l, C => by
    have h1 := fcloud_len V l (cloudS V C d)
    have h2 := cloudS_len V C d
    simp only [List.foldl_cons, List.length_cons]
    omega
theorem unC_len (V a b : List Dot) (i : Nat) : (unC V a b i).length ≤ a.length + b.length := by
  match i with
  | 0 => simp [unC]
  | 1 => have := fcloud_len V a []; simp only [unC, List.length_nil] at *; omega
  | i + 2 =>
    have h1 := fcloud_len V a []
    have h2 := fcloud_len V b (a.foldl (cloudS V) [])
    simp only [unC, List.length_nil] at *
    omega
theorem app_lit {x : Dot} {m : List Dot} {v2 : AV} (hr : read dotC (t.push (.row (Dot.av x) true)) v2 = some m) (hm : m.length ≤ 4000000) : ∃ u2 t2, appV (t.push (.row (Dot.av x) true)) 2 16 (.sl t.next 0 1 (some 1) 2) v2 = some (u2, t2) ∧ Keep (t.push (.row (Dot.av x) true)) t2 ∧ read dotC t2 u2 = some (x :: m) := by
  have hg : (t.push (.row (Dot.av x) true)).get t.next = some (.row (Dot.av x) true) := St.get_push_new _ _
  have hs1 : shown (t.push (.row (Dot.av x) true)) 2 v2 = some (dotC.cells m) := read_shown hr
  have hs2 : lenOf v2 = some m.length := read_len hr
  have hcs : ((Dot.av x).drop 0).take (1 * 2) ++ dotC.cells m = dotC.cells (x :: m) := by rw [cells_cons]; rfl
  have hla : (Dot.av x).length = 2 := rfl
  simp only [appV, hs1, hs2, aappend, hg, if_true]
  by_cases h0 : m.length = 0
  · rw [if_pos h0]
    have hm0 : m = [] := by simpa using h0
    subst hm0
    refine ⟨_, _, rfl, Keep.refl _, ?_⟩
    refine read_of (C := dotC) (n := 1) rfl hg (by simp [Dot.av, dotC]) ?_
    rw [cells_one]
    rfl
  · rw [if_neg h0, if_pos ⟨by omega, by unfold roomBytes; omega⟩, if_neg (by omega), hcs]
    refine ⟨_, _, rfl, (Keep.refl _).push _, ?_⟩
    have hO : Own dotC (t.push (.row (Dot.av x) true)) ((t.push (.row (Dot.av x) true)).push (.row (dotC.cells (x :: m)) true)) (.sl (t.push (.row (Dot.av x) true)).next 0 (x :: m).length none dotC.sz) (x :: m) := .inr ⟨_, rfl, by simp, Nat.le_refl _, St.get_push_new _ _⟩
    have e : 1 + m.length = (x :: m).length := by rw [List.length_cons, Nat.add_comm]
    rw [e]
    exact hO.read
theorem CB.push {s t : St} {rb b : Nat} {vv cc : AV} {V C : List Dot} (h : CB s t rb b vv cc V C) (x : List AV) : CB s (t.push (.row x true)) rb b vv cc V C :=
  ⟨h.keep.push _, get_push_some _ h.rbox, get_push_some _ h.obox, h.vec.mono fun _ _ k => get_push_some _ k, h.cld.mono fun _ _ k => get_push_some _ k, h.vdis, h.cdis, h.rge, h.bge, h.ne⟩
noncomputable def R_RgUnion : Con := runFn (tb [(55, R_JLast), (40, R_JHas), (33, conDD fBefore)]) a45
theorem s_RgUnion : SoundAt Tryz.prog 45 R_RgUnion := run_sound (tb_sound (l := [(55, R_JLast), (40, R_JHas), (33, conDD fBefore)]) (by simpa using ⟨s_JLast, s_JHas, s_Before⟩)) mixed Tryz.func45 k45 c45
theorem n_RgUnion : noNxtC a45.body = true := by kernel_rfl
theorem w_RgUnion {s : St} {v w : AV} {X : DCx} (hv : read dotC s v = some X.v) (hw : read dotC s w = some X.c) (hlv : X.v.length ≤ 1000) (hlw : X.c.length ≤ 1000) {v' w' : AV} {Y : DCx} (kv : read dotC s v' = some Y.v) (kw : read dotC s w' = some Y.c) (klv : Y.v.length ≤ 1000) (klw : Y.c.length ≤ 1000) (hcx : isC X = true) (hcy : isC Y = true) : ∀ env : Env, elen env = a45.ntmps → (∀ i x_, [.agg [v, w], .agg [v', w']][i]? = some x_ → E env i = x_) → awp (tb [(55, R_JLast), (40, R_JHas), (33, conDD fBefore)]) a45.body (fun x e t => (∀ i, x ≠ .exit i) ∧ ∃ r, aresults e t a45.results = some r ∧ (∃ vv cc, r = .agg [vv, cc] ∧ CR t vv cc (uniC X Y)) ∧ Keep s t) env s := by
  intro env hlen ha
  have h0 : E env 0 = _ := ha 0 _ rfl
  have h1 : E env 1 = _ := ha 1 _ rfl
  have hlen : elen env = _ := hlen
  simp only [a45] at hlen
  unfold a45
  try dsimp only [oO, oG]
  have hbx := boxV_2 (read_oneD hv).2 (read_oneD hw).2
  have hby := boxV_2 (read_oneD kv).2 (read_oneD kw).2
  have hK2 : Keep s ((s.push (.row [v, w] true)).push (.row [v', w'] true)) := ((Keep.refl s).push _).push _
  have hK12 : Keep (s.push (.row [v, w] true)) ((s.push (.row [v, w] true)).push (.row [v', w'] true)) := (Keep.refl _).push _
  have hU := unF_uni hcx hcy
  have hV64 : ∀ n, (vecL (unF X Y) n).length ≤ n := vecL_len _
  simp (config := {contextual := true, maxDischargeDepth := 12}) only [tb_at, h0, h1, hlen, hbx, hby, ↓bD, bU, forall_const, bS, implies_true, isNx, eq_self, ↓wp_cond, ↓wp_loop, ↓reduceIte, reduceCtorEq, Nat.reduceEqDiff, Nat.reduceLT, Nat.reduceAdd, Nat.reduceMul, bT, ↓sg_bsl, ↓st_callf, bX, List.cons_append, List.nil_append, ↓st_appf, bY, slcV_nils0N, slcV_sl0N, bslV_0N, bin_shr1, bsl_nd, q_known]
  obtain ⟨I, hI⟩ : ∃ I : Nat → Env → St → Prop, ∀ n e t, I n e t = (True ∧ ∃ (i : Nat) (vv : AV), n + i = 64 ∧ elen e = 113 ∧ E e 2 = .ptr s.next 0 ∧ E e 3 = .ptr (s.push (.row [v, w] true)).next 0 ∧ E e 4 = .ptr ((s.push (.row [v, w] true)).push (.row [v', w'] true)).next 0 ∧ E e 5 = .ptr (((s.push (.row [v, w] true)).push (.row [v', w'] true)).next + 1) 0 ∧ E e 6 = .int .i64 ((i + 1 : Nat) : Int) ∧ CB ((s.push (.row [v, w] true)).push (.row [v', w'] true)) t ((s.push (.row [v, w] true)).push (.row [v', w'] true)).next (((s.push (.row [v, w] true)).push (.row [v', w'] true)).next + 1) vv .nils (vecL (unF X Y) i) []) := ⟨fun n e t => (True ∧ ∃ (i : Nat) (vv : AV), n + i = 64 ∧ elen e = 113 ∧ E e 2 = .ptr s.next 0 ∧ E e 3 = .ptr (s.push (.row [v, w] true)).next 0 ∧ E e 4 = .ptr ((s.push (.row [v, w] true)).push (.row [v', w'] true)).next 0 ∧ E e 5 = .ptr (((s.push (.row [v, w] true)).push (.row [v', w'] true)).next + 1) 0 ∧ E e 6 = .int .i64 ((i + 1 : Nat) : Int) ∧ CB ((s.push (.row [v, w] true)).push (.row [v', w'] true)) t ((s.push (.row [v, w] true)).push (.row [v', w'] true)).next (((s.push (.row [v, w] true)).push (.row [v', w'] true)).next + 1) vv .nils (vecL (unF X Y) i) []), fun _ _ _ => rfl⟩
  refine lwp_inv I (n := 64) ?_ ?_
  · rw [hI]
    exact ⟨trivial, 0, .nils, by omega, (by simp only [bE, Nat.reduceEqDiff, bN, Nat.reduceLT, hlen]; try rfl), (by simp only [bE, Nat.reduceEqDiff, bN, Nat.reduceLT, hlen]; try rfl), (by simp only [bE, Nat.reduceEqDiff, bN, Nat.reduceLT, hlen]; try rfl), (by simp only [bE, Nat.reduceEqDiff, bN, Nat.reduceLT, hlen]; try rfl), (by simp only [bE, Nat.reduceEqDiff, bN, Nat.reduceLT, hlen]; try rfl), (by simp only [bE, Nat.reduceEqDiff, bN, Nat.reduceLT, hlen]; try rfl), CB.start ((s.push (.row [v, w] true)).push (.row [v', w'] true))⟩
  clear h0 h1 hlen
  intro n e t0 hi
  rw [hI] at hi
  obtain ⟨hK, i0, vv, hni, he, e2, e3, e4, e5, e6, hJ⟩ := hi
  obtain ⟨c1, c2, c3, c4⟩ := box_ctx s v w (hK12.trans hJ.keep)
  obtain ⟨d1, d2, d3, d4⟩ := box_ctx (s.push (.row [v, w] true)) v' w' hJ.keep
  by_cases hlt : i0 < 64
  · have hle := eq_true (show ((i0 + 1 : Nat) : Int) ≤ 64 by omega)
    have hw4 := wrap_add1 (n := i0 + 1) (by omega)
    have hKt := hK2.trans hJ.keep
    have qa := q_JLast true (hKt.read hv) (lim_1000 hlv) ((i0 + 1 : Nat) : Int)
    have qb := q_JLast false (hKt.read kv) (lim_1000 klv) ((i0 + 1 : Nat) : Int)
    have hmx := unN_max hcx hcy (i0 + 1)
    have hnf := unF_ge X Y (i0 + 1)
    have hhi := hU.high (i0 + 1)
    simp (config := {contextual := true, maxDischargeDepth := 12}) only [tb_at, he, e2, e3, e4, e5, e6, hle, qa, qb, mmV_max, hmx, reserve0, c1, c2, c3, c4, d1, d2, d3, d4, ↓bD, bU, forall_const, bS, implies_true, isNx, eq_self, ↓wp_cond, ↓wp_loop, ↓reduceIte, reduceCtorEq, Nat.reduceEqDiff, Nat.reduceLT, Nat.reduceAdd, Nat.reduceMul, bT, ↓sg_bsl, ↓st_callf, bX, List.cons_append, List.nil_append, ↓st_appf, bY, slcV_nils0N, slcV_sl0N, bslV_0N, bin_shr1, bsl_nd, q_known]
    obtain ⟨t1, ht1⟩ : ∃ t1, t1 = t0 := ⟨_, rfl⟩
    obtain ⟨I2, hI2⟩ : ∃ I : Nat → Env → St → Prop, ∀ n e t, I n e t = (t = t0 ∧ ∃ i : Nat, n + i = unF X Y (i0 + 1) ∧ elen e = 113 ∧ E e 2 = .ptr s.next 0 ∧ E e 3 = .ptr (s.push (.row [v, w] true)).next 0 ∧ E e 4 = .ptr ((s.push (.row [v, w] true)).push (.row [v', w'] true)).next 0 ∧ E e 5 = .ptr (((s.push (.row [v, w] true)).push (.row [v', w'] true)).next + 1) 0 ∧ E e 6 = .int .i64 ((i0 + 1 : Nat) : Int) ∧ E e 7 = .int .i64 (i : Int) ∧ unN X Y (i0 + 1) ≤ i) := ⟨fun n e t => (t = t0 ∧ ∃ i : Nat, n + i = unF X Y (i0 + 1) ∧ elen e = 113 ∧ E e 2 = .ptr s.next 0 ∧ E e 3 = .ptr (s.push (.row [v, w] true)).next 0 ∧ E e 4 = .ptr ((s.push (.row [v, w] true)).push (.row [v', w'] true)).next 0 ∧ E e 5 = .ptr (((s.push (.row [v, w] true)).push (.row [v', w'] true)).next + 1) 0 ∧ E e 6 = .int .i64 ((i0 + 1 : Nat) : Int) ∧ E e 7 = .int .i64 (i : Int) ∧ unN X Y (i0 + 1) ≤ i), fun _ _ _ => rfl⟩
    refine lwp_inv I2 (n := (unF X Y (i0 + 1) - unN X Y (i0 + 1))) ?_ ?_
    · rw [hI2]
      exact ⟨rfl, unN X Y (i0 + 1), by omega, (by simp only [bE, Nat.reduceEqDiff, bN, Nat.reduceLT, he]; try rfl), (by simp only [bE, Nat.reduceEqDiff, bN, Nat.reduceLT, he, e2]; try rfl), (by simp only [bE, Nat.reduceEqDiff, bN, Nat.reduceLT, he, e3]; try rfl), (by simp only [bE, Nat.reduceEqDiff, bN, Nat.reduceLT, he, e4]; try rfl), (by simp only [bE, Nat.reduceEqDiff, bN, Nat.reduceLT, he, e5]; try rfl), (by simp only [bE, Nat.reduceEqDiff, bN, Nat.reduceLT, he, e6]; try rfl), (by simp only [bE, Nat.reduceEqDiff, bN, Nat.reduceLT, he]; try rfl), Nat.le_refl _⟩
    clear he e2 e3 e4 e5 e6
    intro n2 e t hi
    rw [hI2] at hi
    obtain ⟨hKe, i, hni2, he, e2, e3, e4, e5, e6, e7, hnl⟩ := hi
    subst hKe
    by_cases hlt2 : i < unF X Y (i0 + 1)
    · have hp := unF_fill X Y (i0 + 1) (i + 1) (by omega) (by omega)
      have hw5 := wrap_add1 (n := i) (by omega)
      have q1 := q_JHas false (hKt.read hv) (hKt.read hw) (lim_1000 hlv) (lim_1000 hlw) ⟨((i0 + 1 : Nat) : Int), ((i + 1 : Nat) : Int)⟩
      have q2 := q_JHas false (hKt.read kv) (hKt.read kw) (lim_1000 klv) (lim_1000 klw) ⟨((i0 + 1 : Nat) : Int), ((i + 1 : Nat) : Int)⟩
      unfold unJ at hp
      cases hj : jhas X ⟨((i0 + 1 : Nat) : Int), ((i + 1 : Nat) : Int)⟩
      · rw [hj] at q1
        rw [hj, Bool.false_or] at hp
        rw [hp] at q2
        simp (config := {contextual := true, maxDischargeDepth := 12}) only [tb_at, he, e2, e3, e4, e5, e6, e7, hw5, q1, q2, ap_build, fillP_nil, fillP_cons, c1, c2, c3, c4, d1, d2, d3, d4, ↓bD, bU, forall_const, bS, implies_true, isNx, eq_self, ↓wp_cond, ↓wp_loop, ↓reduceIte, reduceCtorEq, Nat.reduceEqDiff, Nat.reduceLT, Nat.reduceAdd, Nat.reduceMul, bT, ↓sg_bsl, ↓st_callf, bX, List.cons_append, List.nil_append, ↓st_appf, bY, slcV_nils0N, slcV_sl0N, bslV_0N, bin_shr1, bsl_nd, q_known]
        refine ⟨n2 - 1, by omega, ?_⟩
        rw [hI2]
        exact ⟨rfl, i + 1, by omega, (by simp only [bE, Nat.reduceEqDiff, bN, Nat.reduceLT, he, e2, e3, e4, e5, e6, e7]; try rfl), (by simp only [bE, Nat.reduceEqDiff, bN, Nat.reduceLT, he, e2, e3, e4, e5, e6, e7]; try rfl), (by simp only [bE, Nat.reduceEqDiff, bN, Nat.reduceLT, he, e2, e3, e4, e5, e6, e7]; try rfl), (by simp only [bE, Nat.reduceEqDiff, bN, Nat.reduceLT, he, e2, e3, e4, e5, e6, e7]; try rfl), (by simp only [bE, Nat.reduceEqDiff, bN, Nat.reduceLT, he, e2, e3, e4, e5, e6, e7]; try rfl), (by simp only [bE, Nat.reduceEqDiff, bN, Nat.reduceLT, he, e2, e3, e4, e5, e6, e7]; try rfl), (by simp only [bE, Nat.reduceEqDiff, bN, Nat.reduceLT, he, e2, e3, e4, e5, e6, e7]; try rfl), by omega⟩
      · rw [hj] at q1
        simp (config := {contextual := true, maxDischargeDepth := 12}) only [tb_at, he, e2, e3, e4, e5, e6, e7, hw5, q1, ap_build, fillP_nil, fillP_cons, c1, c2, c3, c4, d1, d2, d3, d4, ↓bD, bU, forall_const, bS, implies_true, isNx, eq_self, ↓wp_cond, ↓wp_loop, ↓reduceIte, reduceCtorEq, Nat.reduceEqDiff, Nat.reduceLT, Nat.reduceAdd, Nat.reduceMul, bT, ↓sg_bsl, ↓st_callf, bX, List.cons_append, List.nil_append, ↓st_appf, bY, slcV_nils0N, slcV_sl0N, bslV_0N, bin_shr1, bsl_nd, q_known]
        refine ⟨n2 - 1, by omega, ?_⟩
        rw [hI2]
        exact ⟨rfl, i + 1, by omega, (by simp only [bE, Nat.reduceEqDiff, bN, Nat.reduceLT, he, e2, e3, e4, e5, e6, e7]; try rfl), (by simp only [bE, Nat.reduceEqDiff, bN, Nat.reduceLT, he, e2, e3, e4, e5, e6, e7]; try rfl), (by simp only [bE, Nat.reduceEqDiff, bN, Nat.reduceLT, he, e2, e3, e4, e5, e6, e7]; try rfl), (by simp only [bE, Nat.reduceEqDiff, bN, Nat.reduceLT, he, e2, e3, e4, e5, e6, e7]; try rfl), (by simp only [bE, Nat.reduceEqDiff, bN, Nat.reduceLT, he, e2, e3, e4, e5, e6, e7]; try rfl), (by simp only [bE, Nat.reduceEqDiff, bN, Nat.reduceLT, he, e2, e3, e4, e5, e6, e7]; try rfl), (by simp only [bE, Nat.reduceEqDiff, bN, Nat.reduceLT, he, e2, e3, e4, e5, e6, e7]; try rfl), by omega⟩
    · obtain rfl : i = unF X Y (i0 + 1) := by omega
      have hp := unF_stop hcx hcy (i0 + 1)
      have hw5 := wrap_add1 (n := unF X Y (i0 + 1)) (by omega)
      have q1 := q_JHas false (hKt.read hv) (hKt.read hw) (lim_1000 hlv) (lim_1000 hlw) ⟨((i0 + 1 : Nat) : Int), ((unF X Y (i0 + 1) + 1 : Nat) : Int)⟩
      have q2 := q_JHas false (hKt.read kv) (hKt.read kw) (lim_1000 klv) (lim_1000 klw) ⟨((i0 + 1 : Nat) : Int), ((unF X Y (i0 + 1) + 1 : Nat) : Int)⟩
      unfold unJ at hp
      rw [Bool.or_eq_false_iff] at hp
      rw [hp.1] at q1
      rw [hp.2] at q2
      have hv1 := vecL_succ (unF X Y) i0
      have hvl := hV64 i0
      by_cases hpos : 0 < unF X Y (i0 + 1)
      · have z1 := eq_true (show (0 : Int) < ((unF X Y (i0 + 1) : Nat) : Int) by omega)
        rw [if_pos hpos] at hv1
        obtain ⟨o0, o1, olt⟩ := row2_lod hJ.obox
        obtain ⟨vv', t', hap, hsto, hbt, hJ'⟩ := hJ.appv ⟨((i0 + 1 : Nat) : Int), ((unF X Y (i0 + 1) : Nat) : Int)⟩ (by omega)
        rw [← hv1] at hJ'
        simp (config := {contextual := true, maxDischargeDepth := 12}) only [tb_at, he, e2, e3, e4, e5, e6, e7, hw5, q1, q2, ap_build, fillP_nil, fillP_cons, z1, o0, o1, olt, hap, hsto, hbt, hw4, c1, c2, c3, c4, d1, d2, d3, d4, ↓bD, bU, forall_const, bS, implies_true, isNx, eq_self, ↓wp_cond, ↓wp_loop, ↓reduceIte, reduceCtorEq, Nat.reduceEqDiff, Nat.reduceLT, Nat.reduceAdd, Nat.reduceMul, bT, ↓sg_bsl, ↓st_callf, bX, List.cons_append, List.nil_append, ↓st_appf, bY, slcV_nils0N, slcV_sl0N, bslV_0N, bin_shr1, bsl_nd, q_known]
        refine ⟨n - 1, by omega, ?_⟩
        rw [hI]
        exact ⟨trivial, i0 + 1, vv', by omega, (by simp only [bE, Nat.reduceEqDiff, bN, Nat.reduceLT, he, e2, e3, e4, e5, e6]; try rfl), (by simp only [bE, Nat.reduceEqDiff, bN, Nat.reduceLT, he, e2, e3, e4, e5, e6]; try rfl), (by simp only [bE, Nat.reduceEqDiff, bN, Nat.reduceLT, he, e2, e3, e4, e5, e6]; try rfl), (by simp only [bE, Nat.reduceEqDiff, bN, Nat.reduceLT, he, e2, e3, e4, e5, e6]; try rfl), (by simp only [bE, Nat.reduceEqDiff, bN, Nat.reduceLT, he, e2, e3, e4, e5, e6]; try rfl), (by simp only [bE, Nat.reduceEqDiff, bN, Nat.reduceLT, he, e2, e3, e4, e5, e6]; try rfl), hJ'⟩
      · have z1 := eq_false (show ¬ (0 : Int) < ((unF X Y (i0 + 1) : Nat) : Int) by omega)
        rw [if_neg hpos, List.append_nil] at hv1
        rw [← hv1] at hJ
        simp (config := {contextual := true, maxDischargeDepth := 12}) only [tb_at, he, e2, e3, e4, e5, e6, e7, hw5, q1, q2, ap_build, fillP_nil, fillP_cons, z1, hw4, c1, c2, c3, c4, d1, d2, d3, d4, ↓bD, bU, forall_const, bS, implies_true, isNx, eq_self, ↓wp_cond, ↓wp_loop, ↓reduceIte, reduceCtorEq, Nat.reduceEqDiff, Nat.reduceLT, Nat.reduceAdd, Nat.reduceMul, bT, ↓sg_bsl, ↓st_callf, bX, List.cons_append, List.nil_append, ↓st_appf, bY, slcV_nils0N, slcV_sl0N, bslV_0N, bin_shr1, bsl_nd, q_known]
        refine ⟨n - 1, by omega, ?_⟩
        rw [hI]
        exact ⟨trivial, i0 + 1, vv, by omega, (by simp only [bE, Nat.reduceEqDiff, bN, Nat.reduceLT, he, e2, e3, e4, e5, e6]; try rfl), (by simp only [bE, Nat.reduceEqDiff, bN, Nat.reduceLT, he, e2, e3, e4, e5, e6]; try rfl), (by simp only [bE, Nat.reduceEqDiff, bN, Nat.reduceLT, he, e2, e3, e4, e5, e6]; try rfl), (by simp only [bE, Nat.reduceEqDiff, bN, Nat.reduceLT, he, e2, e3, e4, e5, e6]; try rfl), (by simp only [bE, Nat.reduceEqDiff, bN, Nat.reduceLT, he, e2, e3, e4, e5, e6]; try rfl), (by simp only [bE, Nat.reduceEqDiff, bN, Nat.reduceLT, he, e2, e3, e4, e5, e6]; try rfl), hJ⟩
  · obtain rfl : i0 = 64 := by omega
    have hle := eq_false (show ¬ ((64 + 1 : Nat) : Int) ≤ 64 by omega)
    have hbs : bslV [.nils, .nils] 2 1 [(0, w), (1, w')] = some (fun id => .sl id 0 2 (some 2) 1, .row [w, w'] true) := by
      have hc1 : aev [] (.c w) = w := rfl
      have hc2 : aev [] (.c w') = w' := rfl
      simp [bslV, fillP, hc1, hc2, (read_oneD hw).1, (read_oneD kw).1, (read_oneD hw).2, (read_oneD kw).2, setAt]
    obtain ⟨j0, hj0⟩ : ∃ j0, j0 = t0.next := ⟨_, rfl⟩
    have hbj : ((s.push (.row [v, w] true)).push (.row [v', w'] true)).next + 1 < j0 := by rw [hj0]; exact St.get_lt hJ.obox
    have hJw := hJ.push [w, w']
    have hbw : (t0.push (.row [w, w'] true)).get j0 = some (.row [w, w'] true) := by rw [hj0]; exact St.get_push_new _ _
    have hl2 : lenV (.sl j0 0 2 (some 2) 1) = some (.int .i64 2) := rfl
    simp (config := {contextual := true, maxDischargeDepth := 12}) only [tb_at, he, e2, e3, e4, e5, e6, hle, hbs, ← hj0, hl2, c1, c2, c3, c4, d1, d2, d3, d4, ↓bD, bU, forall_const, bS, implies_true, isNx, eq_self, ↓wp_cond, ↓wp_loop, ↓reduceIte, reduceCtorEq, Nat.reduceEqDiff, Nat.reduceLT, Nat.reduceAdd, Nat.reduceMul, bT, ↓sg_bsl, ↓st_callf, bX, List.cons_append, List.nil_append, ↓st_appf, bY, slcV_nils0N, slcV_sl0N, bslV_0N, bin_shr1, bsl_nd, q_known]
    obtain ⟨I3, hI3⟩ : ∃ I : Nat → Env → St → Prop, ∀ n e t, I n e t = (True ∧ ∃ (i : Nat) (cc : AV), n + i = 2 ∧ elen e = 113 ∧ E e 2 = .ptr s.next 0 ∧ E e 3 = .ptr (s.push (.row [v, w] true)).next 0 ∧ E e 4 = .ptr ((s.push (.row [v, w] true)).push (.row [v', w'] true)).next 0 ∧ E e 5 = .ptr (((s.push (.row [v, w] true)).push (.row [v', w'] true)).next + 1) 0 ∧ E e 56 = .sl j0 0 2 (some 2) 1 ∧ E e 57 = .int .i64 2 ∧ E e 58 = .int .i64 (i : Int) ∧ CB ((s.push (.row [v, w] true)).push (.row [v', w'] true)) t ((s.push (.row [v, w] true)).push (.row [v', w'] true)).next (((s.push (.row [v, w] true)).push (.row [v', w'] true)).next + 1) vv cc (vecL (unF X Y) 64) (unC (vecL (unF X Y) 64) X.c Y.c i) ∧ t.get j0 = some (.row [w, w'] true)) := ⟨fun n e t => (True ∧ ∃ (i : Nat) (cc : AV), n + i = 2 ∧ elen e = 113 ∧ E e 2 = .ptr s.next 0 ∧ E e 3 = .ptr (s.push (.row [v, w] true)).next 0 ∧ E e 4 = .ptr ((s.push (.row [v, w] true)).push (.row [v', w'] true)).next 0 ∧ E e 5 = .ptr (((s.push (.row [v, w] true)).push (.row [v', w'] true)).next + 1) 0 ∧ E e 56 = .sl j0 0 2 (some 2) 1 ∧ E e 57 = .int .i64 2 ∧ E e 58 = .int .i64 (i : Int) ∧ CB ((s.push (.row [v, w] true)).push (.row [v', w'] true)) t ((s.push (.row [v, w] true)).push (.row [v', w'] true)).next (((s.push (.row [v, w] true)).push (.row [v', w'] true)).next + 1) vv cc (vecL (unF X Y) 64) (unC (vecL (unF X Y) 64) X.c Y.c i) ∧ t.get j0 = some (.row [w, w'] true)), fun _ _ _ => rfl⟩
    refine lwp_inv I3 (n := 2) ?_ ?_
    · rw [hI3]
      exact ⟨trivial, 0, .nils, by omega, (by simp only [bE, Nat.reduceEqDiff, bN, Nat.reduceLT, he]; try rfl), (by simp only [bE, Nat.reduceEqDiff, bN, Nat.reduceLT, he, e2]; try rfl), (by simp only [bE, Nat.reduceEqDiff, bN, Nat.reduceLT, he, e3]; try rfl), (by simp only [bE, Nat.reduceEqDiff, bN, Nat.reduceLT, he, e4]; try rfl), (by simp only [bE, Nat.reduceEqDiff, bN, Nat.reduceLT, he, e5]; try rfl), (by simp only [bE, Nat.reduceEqDiff, bN, Nat.reduceLT, he]; try rfl), (by simp only [bE, Nat.reduceEqDiff, bN, Nat.reduceLT, he]; try rfl), (by simp only [bE, Nat.reduceEqDiff, bN, Nat.reduceLT, he]; try rfl), hJw, hbw⟩
    clear hni he e2 e3 e4 e5 e6
    clear hJ hJw hbw c1 c2 c3 c4 d1 d2 d3 d4
    intro n e t hi
    rw [hI3] at hi
    obtain ⟨hK, p, cc, hni, he, e2, e3, e4, e5, e56, e57, e58, hJ, hbw⟩ := hi
    obtain ⟨c1, c2, c3, c4⟩ := box_ctx s v w (hK12.trans hJ.keep)
    obtain ⟨d1, d2, d3, d4⟩ := box_ctx (s.push (.row [v, w] true)) v' w' hJ.keep
    by_cases hlt : p < 2
    · obtain ⟨wv, l, hld, hrd, hll, hCC⟩ : ∃ wv l, lod1 t (.ptr j0 p) = some wv ∧ read dotC s wv = some l ∧ l.length ≤ 1000 ∧ unC (vecL (unF X Y) 64) X.c Y.c (p + 1) = l.foldl (cloudS (vecL (unF X Y) 64)) (unC (vecL (unF X Y) 64) X.c Y.c p) := by
        rcases (by omega : p = 0 ∨ p = 1) with rfl | rfl
        · exact ⟨w, X.c, by simp [lod1, hbw], hw, hlw, rfl⟩
        · exact ⟨w', Y.c, by simp [lod1, hbw], kw, klw, rfl⟩
      have hlt2 := St.get_lt hbw
      have hz := eq_true (show (p : Int) < 2 by omega)
      have hw4 := wrap_add1 (n := p) (by omega)
      have i1 : iadV 1 (.sl j0 0 2 (some 2) 1) (.int .i64 (p : Int)) = some (.ptr j0 p) := by
        have := iadV_nat (sz := 1) (id := j0) (off := 0) (cap := some 2) (k := .i64) hlt
        rwa [Nat.zero_add, Nat.mul_one] at this
      have hLl := lenV_read hrd
      simp (config := {contextual := true, maxDischargeDepth := 12}) only [tb_at, he, e2, e3, e4, e5, e56, e57, e58, hz, hld, hlt2, i1, c1, c2, c3, c4, d1, d2, d3, d4, ↓bD, bU, forall_const, bS, implies_true, isNx, eq_self, ↓wp_cond, ↓wp_loop, ↓reduceIte, reduceCtorEq, Nat.reduceEqDiff, Nat.reduceLT, Nat.reduceAdd, Nat.reduceMul, bT, ↓sg_bsl, ↓st_callf, bX, List.cons_append, List.nil_append, ↓st_appf, bY, slcV_nils0N, slcV_sl0N, bslV_0N, bin_shr1, bsl_nd, q_known]
      obtain ⟨I4, hI4⟩ : ∃ I : Nat → Env → St → Prop, ∀ n e t, I n e t = (True ∧ ∃ (i : Nat) (cc : AV), n + i = l.length ∧ elen e = 113 ∧ E e 2 = .ptr s.next 0 ∧ E e 3 = .ptr (s.push (.row [v, w] true)).next 0 ∧ E e 4 = .ptr ((s.push (.row [v, w] true)).push (.row [v', w'] true)).next 0 ∧ E e 5 = .ptr (((s.push (.row [v, w] true)).push (.row [v', w'] true)).next + 1) 0 ∧ E e 9 = wv ∧ E e 10 = .int .i64 (i : Int) ∧ E e 56 = .sl j0 0 2 (some 2) 1 ∧ E e 57 = .int .i64 2 ∧ E e 58 = .int .i64 (p : Int) ∧ CB ((s.push (.row [v, w] true)).push (.row [v', w'] true)) t ((s.push (.row [v, w] true)).push (.row [v', w'] true)).next (((s.push (.row [v, w] true)).push (.row [v', w'] true)).next + 1) vv cc (vecL (unF X Y) 64) ((l.take i).foldl (cloudS (vecL (unF X Y) 64)) (unC (vecL (unF X Y) 64) X.c Y.c p)) ∧ t.get j0 = some (.row [w, w'] true)) := ⟨fun n e t => (True ∧ ∃ (i : Nat) (cc : AV), n + i = l.length ∧ elen e = 113 ∧ E e 2 = .ptr s.next 0 ∧ E e 3 = .ptr (s.push (.row [v, w] true)).next 0 ∧ E e 4 = .ptr ((s.push (.row [v, w] true)).push (.row [v', w'] true)).next 0 ∧ E e 5 = .ptr (((s.push (.row [v, w] true)).push (.row [v', w'] true)).next + 1) 0 ∧ E e 9 = wv ∧ E e 10 = .int .i64 (i : Int) ∧ E e 56 = .sl j0 0 2 (some 2) 1 ∧ E e 57 = .int .i64 2 ∧ E e 58 = .int .i64 (p : Int) ∧ CB ((s.push (.row [v, w] true)).push (.row [v', w'] true)) t ((s.push (.row [v, w] true)).push (.row [v', w'] true)).next (((s.push (.row [v, w] true)).push (.row [v', w'] true)).next + 1) vv cc (vecL (unF X Y) 64) ((l.take i).foldl (cloudS (vecL (unF X Y) 64)) (unC (vecL (unF X Y) 64) X.c Y.c p)) ∧ t.get j0 = some (.row [w, w'] true)), fun _ _ _ => rfl⟩
      refine lwp_inv I4 (n := l.length) ?_ ?_
      · rw [hI4]
        exact ⟨trivial, 0, cc, by omega, (by simp only [bE, Nat.reduceEqDiff, bN, Nat.reduceLT, he]; try rfl), (by simp only [bE, Nat.reduceEqDiff, bN, Nat.reduceLT, he, e2]; try rfl), (by simp only [bE, Nat.reduceEqDiff, bN, Nat.reduceLT, he, e3]; try rfl), (by simp only [bE, Nat.reduceEqDiff, bN, Nat.reduceLT, he, e4]; try rfl), (by simp only [bE, Nat.reduceEqDiff, bN, Nat.reduceLT, he, e5]; try rfl), (by simp only [bE, Nat.reduceEqDiff, bN, Nat.reduceLT, he]; try rfl), (by simp only [bE, Nat.reduceEqDiff, bN, Nat.reduceLT, he]; try rfl), (by simp only [bE, Nat.reduceEqDiff, bN, Nat.reduceLT, he, e56]; try rfl), (by simp only [bE, Nat.reduceEqDiff, bN, Nat.reduceLT, he, e57]; try rfl), (by simp only [bE, Nat.reduceEqDiff, bN, Nat.reduceLT, he, e58]; try rfl), by rw [List.take_zero]; exact hJ, hbw⟩
      clear he e2 e3 e4 e5 e56 e57 e58
      clear hJ hbw hld hlt2 c1 c2 c3 c4 d1 d2 d3 d4
      intro n4 e t1 hi
      rw [hI4] at hi
      obtain ⟨hK, q, cc, hni4, he, e2, e3, e4, e5, e9, e10, e56, e57, e58, hJ, hbw⟩ := hi
      by_cases hlq : q < l.length
      · obtain ⟨x, hx⟩ := getsome hlq
        have hw6 := wrap_add1 (n := q) (by omega)
        have hKt := hK2.trans hJ.keep
        obtain ⟨a1, a2, a3, a4⟩ := dot_lods hrd hKt hx
        have i2 := dot_idx hrd hx .i64
        have hCl := fcloud_len (vecL (unF X Y) 64) (l.take q) (unC (vecL (unF X Y) 64) X.c Y.c p)
        have hCl2 := unC_len (vecL (unF X Y) 64) X.c Y.c p
        rw [List.length_take] at hCl
        have hsn : (l.take (q + 1)).foldl (cloudS (vecL (unF X Y) 64)) (unC (vecL (unF X Y) 64) X.c Y.c p) = cloudS (vecL (unF X Y) 64) ((l.take q).foldl (cloudS (vecL (unF X Y) 64)) (unC (vecL (unF X Y) 64) X.c Y.c p)) x := by rw [take_snoc hx, List.foldl_append]; rfl
        obtain ⟨C, hC⟩ : ∃ C, C = (l.take q).foldl (cloudS (vecL (unF X Y) 64)) (unC (vecL (unF X Y) 64) X.c Y.c p) := ⟨_, rfl⟩
        rw [← hC] at hJ hsn hCl
        have hVl := hV64 64
        obtain ⟨f1, _⟩ := hJ.done
        obtain ⟨o0, o1, olt⟩ := row2_lod hJ.obox
        have q1 := q_JHas false (X := ⟨(vecL (unF X Y) 64), C⟩) hJ.vec.read hJ.cld.read (by show List.length (vecL (unF X Y) 64) ≤ lim; unfold lim; omega) (by show List.length C ≤ lim; unfold lim; omega) x
        cases hj : jhas ⟨(vecL (unF X Y) 64), C⟩ x
        rotate_left
        · rw [hj] at q1
          rw [cloudS, if_pos hj] at hsn
          simp (config := {contextual := true, maxDischargeDepth := 12}) only [tb_at, he, e2, e3, e4, e5, e9, e10, e56, e57, e58, hLl, hlq, hw6, a1, a4, i2, f1, olt, q1, reserve0, ↓bD, bU, forall_const, bS, implies_true, isNx, eq_self, ↓wp_cond, ↓wp_loop, ↓reduceIte, reduceCtorEq, Nat.reduceEqDiff, Nat.reduceLT, Nat.reduceAdd, Nat.reduceMul, bT, ↓sg_bsl, ↓st_callf, bX, List.cons_append, List.nil_append, ↓st_appf, bY, slcV_nils0N, slcV_sl0N, bslV_0N, bin_shr1, bsl_nd, q_known]
          refine ⟨n4 - 1, by omega, ?_⟩
          rw [hI4]
          exact ⟨trivial, q + 1, cc, by omega, (by simp only [bE, Nat.reduceEqDiff, bN, Nat.reduceLT, he, e2, e3, e4, e5, e9, e10, e56, e57, e58]; try rfl), (by simp only [bE, Nat.reduceEqDiff, bN, Nat.reduceLT, he, e2, e3, e4, e5, e9, e10, e56, e57, e58]; try rfl), (by simp only [bE, Nat.reduceEqDiff, bN, Nat.reduceLT, he, e2, e3, e4, e5, e9, e10, e56, e57, e58]; try rfl), (by simp only [bE, Nat.reduceEqDiff, bN, Nat.reduceLT, he, e2, e3, e4, e5, e9, e10, e56, e57, e58]; try rfl), (by simp only [bE, Nat.reduceEqDiff, bN, Nat.reduceLT, he, e2, e3, e4, e5, e9, e10, e56, e57, e58]; try rfl), (by simp only [bE, Nat.reduceEqDiff, bN, Nat.reduceLT, he, e2, e3, e4, e5, e9, e10, e56, e57, e58]; try rfl), (by simp only [bE, Nat.reduceEqDiff, bN, Nat.reduceLT, he, e2, e3, e4, e5, e9, e10, e56, e57, e58]; try rfl), (by simp only [bE, Nat.reduceEqDiff, bN, Nat.reduceLT, he, e2, e3, e4, e5, e9, e10, e56, e57, e58]; try rfl), (by simp only [bE, Nat.reduceEqDiff, bN, Nat.reduceLT, he, e2, e3, e4, e5, e9, e10, e56, e57, e58]; try rfl), (by simp only [bE, Nat.reduceEqDiff, bN, Nat.reduceLT, he, e2, e3, e4, e5, e9, e10, e56, e57, e58]; try rfl), by rw [hsn]; exact hJ, hbw⟩
        · rw [hj] at q1
          rw [cloudS, if_neg (by rw [hj]; simp)] at hsn
          simp (config := {contextual := true, maxDischargeDepth := 12}) only [tb_at, he, e2, e3, e4, e5, e9, e10, e56, e57, e58, hLl, hlq, a1, a4, i2, f1, olt, q1, reserve0, ↓bD, bU, forall_const, bS, implies_true, isNx, eq_self, ↓wp_cond, ↓wp_loop, ↓reduceIte, reduceCtorEq, Nat.reduceEqDiff, Nat.reduceLT, Nat.reduceAdd, Nat.reduceMul, bT, ↓sg_bsl, ↓st_callf, bX, List.cons_append, List.nil_append, ↓st_appf, bY, slcV_nils0N, slcV_sl0N, bslV_0N, bin_shr1, bsl_nd, q_known]
          obtain ⟨I5, hI5⟩ : ∃ I : Nat → Env → St → Prop, ∀ n e t, I n e t = (t = t1 ∧ ∃ i : Nat, n + i = C.length ∧ elen e = 113 ∧ E e 2 = .ptr s.next 0 ∧ E e 3 = .ptr (s.push (.row [v, w] true)).next 0 ∧ E e 4 = .ptr ((s.push (.row [v, w] true)).push (.row [v', w'] true)).next 0 ∧ E e 5 = .ptr (((s.push (.row [v, w] true)).push (.row [v', w'] true)).next + 1) 0 ∧ E e 9 = wv ∧ E e 10 = .int .i64 (q : Int) ∧ E e 11 = .int .i64 (i : Int) ∧ E e 56 = .sl j0 0 2 (some 2) 1 ∧ E e 57 = .int .i64 2 ∧ E e 58 = .int .i64 (p : Int) ∧ i ≤ C.length ∧ ∀ k y, k < i → C[k]? = some y → y.before x = true) := ⟨fun n e t => (t = t1 ∧ ∃ i : Nat, n + i = C.length ∧ elen e = 113 ∧ E e 2 = .ptr s.next 0 ∧ E e 3 = .ptr (s.push (.row [v, w] true)).next 0 ∧ E e 4 = .ptr ((s.push (.row [v, w] true)).push (.row [v', w'] true)).next 0 ∧ E e 5 = .ptr (((s.push (.row [v, w] true)).push (.row [v', w'] true)).next + 1) 0 ∧ E e 9 = wv ∧ E e 10 = .int .i64 (q : Int) ∧ E e 11 = .int .i64 (i : Int) ∧ E e 56 = .sl j0 0 2 (some 2) 1 ∧ E e 57 = .int .i64 2 ∧ E e 58 = .int .i64 (p : Int) ∧ i ≤ C.length ∧ ∀ k y, k < i → C[k]? = some y → y.before x = true), fun _ _ _ => rfl⟩
          refine lwp_inv I5 (n := C.length) ?_ ?_
          · rw [hI5]
            exact ⟨rfl, 0, by omega, (by simp only [bE, Nat.reduceEqDiff, bN, Nat.reduceLT, he]; try rfl), (by simp only [bE, Nat.reduceEqDiff, bN, Nat.reduceLT, he, e2]; try rfl), (by simp only [bE, Nat.reduceEqDiff, bN, Nat.reduceLT, he, e3]; try rfl), (by simp only [bE, Nat.reduceEqDiff, bN, Nat.reduceLT, he, e4]; try rfl), (by simp only [bE, Nat.reduceEqDiff, bN, Nat.reduceLT, he, e5]; try rfl), (by simp only [bE, Nat.reduceEqDiff, bN, Nat.reduceLT, he, e9]; try rfl), (by simp only [bE, Nat.reduceEqDiff, bN, Nat.reduceLT, he, e10]; try rfl), (by simp only [bE, Nat.reduceEqDiff, bN, Nat.reduceLT, he]; try rfl), (by simp only [bE, Nat.reduceEqDiff, bN, Nat.reduceLT, he, e56]; try rfl), (by simp only [bE, Nat.reduceEqDiff, bN, Nat.reduceLT, he, e57]; try rfl), (by simp only [bE, Nat.reduceEqDiff, bN, Nat.reduceLT, he, e58]; try rfl), by omega, fun k y hk => by omega⟩
          clear he e2 e3 e4 e5 e9 e10 e56 e57 e58
          intro n5 e t hi
          rw [hI5] at hi
          obtain ⟨hKe, i, hni5, he, e2, e3, e4, e5, e9, e10, e11, e56, e57, e58, hil, hpre⟩ := hi
          subst hKe
          have hLc := lenV_read hJ.cld.read
          by_cases hlk : i < C.length
          · obtain ⟨y, hy⟩ := getsome hlk
            have hw7 := wrap_add1 (n := i) (by omega)
            obtain ⟨g1, g2, g3, g4⟩ := dot_lods hJ.cld.read (Keep.refl t) hy
            have i3 := dot_idx hJ.cld.read hy .i64
            have q2 := q_Before false y x t
            cases hb : y.before x
            · rw [hb] at q2
              have hstop : ∀ y, C[i]? = some y → y.before x = false := fun z hz => by
                rw [hy] at hz
                injection hz with hz
                rw [← hz]; exact hb
              obtain ⟨v1, sl1, rd1⟩ := slc_hi (C := dotC) hJ.cld.read (fun _ _ _ _ _ h => hJ.cld.capOK _ _ _ _ _ h) (k := .i64) (i := (i : Int)) rfl hil
              obtain ⟨v2, sl2, rd2⟩ := slc_lo (C := dotC) hJ.cld.read (k := .i64) (i := (i : Int)) rfl hil
              have sl1 : slcV 2 cc none (some (.int .i64 (i : Int))) = some v1 := sl1
              have sl2 : slcV 2 cc (some (.int .i64 (i : Int))) none = some v2 := sl2
              have hKp : Keep t (t.push (.row (Dot.av x) true)) := (Keep.refl t).push _
              obtain ⟨r1, r2, r3, r4⟩ := dot_lods hrd (hKt.trans (keep_reserve t 1)) hx
              obtain ⟨p0, p1, plt⟩ := row2_lod (hKp.blk hJ.obox)
              obtain ⟨u2, t2, ap2, hKa, hr2⟩ := app_lit (x := x) (rd2 _ hKp) (by rw [List.length_drop]; omega)
              obtain ⟨m0, m1, mlt⟩ := row2_lod ((hKp.trans hKa).blk hJ.obox)
              obtain ⟨u3, t3, ap3, hKb, hO3⟩ := appV_list (C := dotC) (Keep.refl t2) (.nil dotC t2 t2) (rd1 _ (hKp.trans hKa)) 16 (by rw [List.length_take]; simp; unfold roomBytes; omega)
              rw [List.nil_append] at hO3
              obtain ⟨u4, t4, ap4, hKc, hO4⟩ := appV_list (C := dotC) hKb hO3 (hKb.read hr2) 16 (by rw [List.length_take, List.length_cons, List.length_drop]; unfold roomBytes; omega)
              have ap3 : appV t2 2 16 .nils v1 = some (u3, t3) := ap3
              have ap4 : appV t3 2 16 u3 u2 = some (u4, t4) := ap4
              have hKall := (hKp.trans hKa).trans hKc
              obtain ⟨hsto, hbt, hJ'⟩ := hJ.setc (Own.from (s0 := t) hO4 (hKp.trans hKa).next) hKall
              have hbw' : (t4.put (((s.push (.row [v, w] true)).push (.row [v', w'] true)).next + 1) (.row [vv, u4] true)).get j0 = some (.row [w, w'] true) := by
                rw [St.get_put_ne _ _ hbt (by omega)]
                exact hKall.blk hbw
              have hsn2 := hsn.trans (insD_split x C i hil hpre hstop)
              simp (config := {contextual := true, maxDischargeDepth := 12}) only [tb_at, he, e2, e3, e4, e5, e9, e10, e11, e56, e57, e58, hLl, hLc, o0, o1, olt, r1, r4, p0, p1, plt, m0, m1, mlt, i2, sl1, sl2, ap2, ap3, ap4, hsto, hbt, hw6, bsl_dot, reserve0, hlk, g1, g4, i3, a1, a4, q2, ↓bD, bU, forall_const, bS, implies_true, isNx, eq_self, ↓wp_cond, ↓wp_loop, ↓reduceIte, reduceCtorEq, Nat.reduceEqDiff, Nat.reduceLT, Nat.reduceAdd, Nat.reduceMul, bT, ↓sg_bsl, ↓st_callf, bX, List.cons_append, List.nil_append, ↓st_appf, bY, slcV_nils0N, slcV_sl0N, bslV_0N, bin_shr1, bsl_nd, q_known]
              refine ⟨n4 - 1, by omega, ?_⟩
              rw [hI4]
              exact ⟨trivial, q + 1, u4, by omega, (by simp only [bE, Nat.reduceEqDiff, bN, Nat.reduceLT, he, e2, e3, e4, e5, e9, e10, e56, e57, e58]; try rfl), (by simp only [bE, Nat.reduceEqDiff, bN, Nat.reduceLT, he, e2, e3, e4, e5, e9, e10, e56, e57, e58]; try rfl), (by simp only [bE, Nat.reduceEqDiff, bN, Nat.reduceLT, he, e2, e3, e4, e5, e9, e10, e56, e57, e58]; try rfl), (by simp only [bE, Nat.reduceEqDiff, bN, Nat.reduceLT, he, e2, e3, e4, e5, e9, e10, e56, e57, e58]; try rfl), (by simp only [bE, Nat.reduceEqDiff, bN, Nat.reduceLT, he, e2, e3, e4, e5, e9, e10, e56, e57, e58]; try rfl), (by simp only [bE, Nat.reduceEqDiff, bN, Nat.reduceLT, he, e2, e3, e4, e5, e9, e10, e56, e57, e58]; try rfl), (by simp only [bE, Nat.reduceEqDiff, bN, Nat.reduceLT, he, e2, e3, e4, e5, e9, e10, e56, e57, e58]; try rfl), (by simp only [bE, Nat.reduceEqDiff, bN, Nat.reduceLT, he, e2, e3, e4, e5, e9, e10, e56, e57, e58]; try rfl), (by simp only [bE, Nat.reduceEqDiff, bN, Nat.reduceLT, he, e2, e3, e4, e5, e9, e10, e56, e57, e58]; try rfl), (by simp only [bE, Nat.reduceEqDiff, bN, Nat.reduceLT, he, e2, e3, e4, e5, e9, e10, e56, e57, e58]; try rfl), by rw [hsn2]; exact hJ', hbw'⟩
            · rw [hb] at q2
              simp (config := {contextual := true, maxDischargeDepth := 12}) only [tb_at, he, e2, e3, e4, e5, e9, e10, e11, e56, e57, e58, hLl, hLc, hlk, hw7, o0, o1, olt, g1, g4, i3, a1, a4, i2, q2, reserve0, ↓bD, bU, forall_const, bS, implies_true, isNx, eq_self, ↓wp_cond, ↓wp_loop, ↓reduceIte, reduceCtorEq, Nat.reduceEqDiff, Nat.reduceLT, Nat.reduceAdd, Nat.reduceMul, bT, ↓sg_bsl, ↓st_callf, bX, List.cons_append, List.nil_append, ↓st_appf, bY, slcV_nils0N, slcV_sl0N, bslV_0N, bin_shr1, bsl_nd, q_known]
              refine ⟨n5 - 1, by omega, ?_⟩
              rw [hI5]
              exact ⟨rfl, i + 1, by omega, (by simp only [bE, Nat.reduceEqDiff, bN, Nat.reduceLT, he, e2, e3, e4, e5, e9, e10, e11, e56, e57, e58]; try rfl), (by simp only [bE, Nat.reduceEqDiff, bN, Nat.reduceLT, he, e2, e3, e4, e5, e9, e10, e11, e56, e57, e58]; try rfl), (by simp only [bE, Nat.reduceEqDiff, bN, Nat.reduceLT, he, e2, e3, e4, e5, e9, e10, e11, e56, e57, e58]; try rfl), (by simp only [bE, Nat.reduceEqDiff, bN, Nat.reduceLT, he, e2, e3, e4, e5, e9, e10, e11, e56, e57, e58]; try rfl), (by simp only [bE, Nat.reduceEqDiff, bN, Nat.reduceLT, he, e2, e3, e4, e5, e9, e10, e11, e56, e57, e58]; try rfl), (by simp only [bE, Nat.reduceEqDiff, bN, Nat.reduceLT, he, e2, e3, e4, e5, e9, e10, e11, e56, e57, e58]; try rfl), (by simp only [bE, Nat.reduceEqDiff, bN, Nat.reduceLT, he, e2, e3, e4, e5, e9, e10, e11, e56, e57, e58]; try rfl), (by simp only [bE, Nat.reduceEqDiff, bN, Nat.reduceLT, he, e2, e3, e4, e5, e9, e10, e11, e56, e57, e58]; try rfl), (by simp only [bE, Nat.reduceEqDiff, bN, Nat.reduceLT, he, e2, e3, e4, e5, e9, e10, e11, e56, e57, e58]; try rfl), (by simp only [bE, Nat.reduceEqDiff, bN, Nat.reduceLT, he, e2, e3, e4, e5, e9, e10, e11, e56, e57, e58]; try rfl), (by simp only [bE, Nat.reduceEqDiff, bN, Nat.reduceLT, he, e2, e3, e4, e5, e9, e10, e11, e56, e57, e58]; try rfl), by omega, pre_next (P := fun k y => y.before x = true) hy hpre hb⟩
          · have hstop : ∀ y, C[i]? = some y → y.before x = false := fun y hy => absurd (getlt hy) hlk
            obtain ⟨v1, sl1, rd1⟩ := slc_hi (C := dotC) hJ.cld.read (fun _ _ _ _ _ h => hJ.cld.capOK _ _ _ _ _ h) (k := .i64) (i := (i : Int)) rfl hil
            obtain ⟨v2, sl2, rd2⟩ := slc_lo (C := dotC) hJ.cld.read (k := .i64) (i := (i : Int)) rfl hil
            have sl1 : slcV 2 cc none (some (.int .i64 (i : Int))) = some v1 := sl1
            have sl2 : slcV 2 cc (some (.int .i64 (i : Int))) none = some v2 := sl2
            have hKp : Keep t (t.push (.row (Dot.av x) true)) := (Keep.refl t).push _
            obtain ⟨r1, r2, r3, r4⟩ := dot_lods hrd (hKt.trans (keep_reserve t 1)) hx
            obtain ⟨p0, p1, plt⟩ := row2_lod (hKp.blk hJ.obox)
            obtain ⟨u2, t2, ap2, hKa, hr2⟩ := app_lit (x := x) (rd2 _ hKp) (by rw [List.length_drop]; omega)
            obtain ⟨m0, m1, mlt⟩ := row2_lod ((hKp.trans hKa).blk hJ.obox)
            obtain ⟨u3, t3, ap3, hKb, hO3⟩ := appV_list (C := dotC) (Keep.refl t2) (.nil dotC t2 t2) (rd1 _ (hKp.trans hKa)) 16 (by rw [List.length_take]; simp; unfold roomBytes; omega)
            rw [List.nil_append] at hO3
            obtain ⟨u4, t4, ap4, hKc, hO4⟩ := appV_list (C := dotC) hKb hO3 (hKb.read hr2) 16 (by rw [List.length_take, List.length_cons, List.length_drop]; unfold roomBytes; omega)
            have ap3 : appV t2 2 16 .nils v1 = some (u3, t3) := ap3
            have ap4 : appV t3 2 16 u3 u2 = some (u4, t4) := ap4
            have hKall := (hKp.trans hKa).trans hKc
            obtain ⟨hsto, hbt, hJ'⟩ := hJ.setc (Own.from (s0 := t) hO4 (hKp.trans hKa).next) hKall
            have hbw' : (t4.put (((s.push (.row [v, w] true)).push (.row [v', w'] true)).next + 1) (.row [vv, u4] true)).get j0 = some (.row [w, w'] true) := by
              rw [St.get_put_ne _ _ hbt (by omega)]
              exact hKall.blk hbw
            have hsn2 := hsn.trans (insD_split x C i hil hpre hstop)
            simp (config := {contextual := true, maxDischargeDepth := 12}) only [tb_at, he, e2, e3, e4, e5, e9, e10, e11, e56, e57, e58, hLl, hLc, o0, o1, olt, r1, r4, p0, p1, plt, m0, m1, mlt, i2, sl1, sl2, ap2, ap3, ap4, hsto, hbt, hw6, bsl_dot, reserve0, hlk, ↓bD, bU, forall_const, bS, implies_true, isNx, eq_self, ↓wp_cond, ↓wp_loop, ↓reduceIte, reduceCtorEq, Nat.reduceEqDiff, Nat.reduceLT, Nat.reduceAdd, Nat.reduceMul, bT, ↓sg_bsl, ↓st_callf, bX, List.cons_append, List.nil_append, ↓st_appf, bY, slcV_nils0N, slcV_sl0N, bslV_0N, bin_shr1, bsl_nd, q_known]
            refine ⟨n4 - 1, by omega, ?_⟩
            rw [hI4]
            exact ⟨trivial, q + 1, u4, by omega, (by simp only [bE, Nat.reduceEqDiff, bN, Nat.reduceLT, he, e2, e3, e4, e5, e9, e10, e56, e57, e58]; try rfl), (by simp only [bE, Nat.reduceEqDiff, bN, Nat.reduceLT, he, e2, e3, e4, e5, e9, e10, e56, e57, e58]; try rfl), (by simp only [bE, Nat.reduceEqDiff, bN, Nat.reduceLT, he, e2, e3, e4, e5, e9, e10, e56, e57, e58]; try rfl), (by simp only [bE, Nat.reduceEqDiff, bN, Nat.reduceLT, he, e2, e3, e4, e5, e9, e10, e56, e57, e58]; try rfl), (by simp only [bE, Nat.reduceEqDiff, bN, Nat.reduceLT, he, e2, e3, e4, e5, e9, e10, e56, e57, e58]; try rfl), (by simp only [bE, Nat.reduceEqDiff, bN, Nat.reduceLT, he, e2, e3, e4, e5, e9, e10, e56, e57, e58]; try rfl), (by simp only [bE, Nat.reduceEqDiff, bN, Nat.reduceLT, he, e2, e3, e4, e5, e9, e10, e56, e57, e58]; try rfl), (by simp only [bE, Nat.reduceEqDiff, bN, Nat.reduceLT, he, e2, e3, e4, e5, e9, e10, e56, e57, e58]; try rfl), (by simp only [bE, Nat.reduceEqDiff, bN, Nat.reduceLT, he, e2, e3, e4, e5, e9, e10, e56, e57, e58]; try rfl), (by simp only [bE, Nat.reduceEqDiff, bN, Nat.reduceLT, he, e2, e3, e4, e5, e9, e10, e56, e57, e58]; try rfl), by rw [hsn2]; exact hJ', hbw'⟩
      · obtain rfl : q = l.length := by omega
        rw [List.take_length, ← hCC] at hJ
        simp (config := {contextual := true, maxDischargeDepth := 12}) only [tb_at, he, e2, e3, e4, e5, e9, e10, e56, e57, e58, hLl, hlq, hw4, ↓bD, bU, forall_const, bS, implies_true, isNx, eq_self, ↓wp_cond, ↓wp_loop, ↓reduceIte, reduceCtorEq, Nat.reduceEqDiff, Nat.reduceLT, Nat.reduceAdd, Nat.reduceMul, bT, ↓sg_bsl, ↓st_callf, bX, List.cons_append, List.nil_append, ↓st_appf, bY, slcV_nils0N, slcV_sl0N, bslV_0N, bin_shr1, bsl_nd, q_known]
        refine ⟨n - 1, by omega, ?_⟩
        rw [hI3]
        exact ⟨trivial, p + 1, cc, by omega, (by simp only [bE, Nat.reduceEqDiff, bN, Nat.reduceLT, he, e2, e3, e4, e5, e56, e57, e58]; try rfl), (by simp only [bE, Nat.reduceEqDiff, bN, Nat.reduceLT, he, e2, e3, e4, e5, e56, e57, e58]; try rfl), (by simp only [bE, Nat.reduceEqDiff, bN, Nat.reduceLT, he, e2, e3, e4, e5, e56, e57, e58]; try rfl), (by simp only [bE, Nat.reduceEqDiff, bN, Nat.reduceLT, he, e2, e3, e4, e5, e56, e57, e58]; try rfl), (by simp only [bE, Nat.reduceEqDiff, bN, Nat.reduceLT, he, e2, e3, e4, e5, e56, e57, e58]; try rfl), (by simp only [bE, Nat.reduceEqDiff, bN, Nat.reduceLT, he, e2, e3, e4, e5, e56, e57, e58]; try rfl), (by simp only [bE, Nat.reduceEqDiff, bN, Nat.reduceLT, he, e2, e3, e4, e5, e56, e57, e58]; try rfl), (by simp only [bE, Nat.reduceEqDiff, bN, Nat.reduceLT, he, e2, e3, e4, e5, e56, e57, e58]; try rfl), hJ, hbw⟩
    · obtain rfl : p = 2 := by omega
      have hz := eq_false (show ¬ ((2 : Nat) : Int) < 2 by omega)
      rw [← unC_uni hcx hcy]
      obtain ⟨f1, f2, f3, f4, f5, f6⟩ := hJ.done
      obtain ⟨o0, o1, olt⟩ := row2_lod hJ.obox
      simp (config := {contextual := true, maxDischargeDepth := 12}) only [tb_at, he, e2, e3, e4, e5, e56, e57, e58, hz, f1, f2, f3, f4, olt, rc1, ↓bD, bU, forall_const, bS, implies_true, isNx, eq_self, ↓wp_cond, ↓wp_loop, ↓reduceIte, reduceCtorEq, Nat.reduceEqDiff, Nat.reduceLT, Nat.reduceAdd, Nat.reduceMul, bT, ↓sg_bsl, ↓st_callf, bX, List.cons_append, List.nil_append, ↓st_appf, bY, slcV_nils0N, slcV_sl0N, bslV_0N, bin_shr1, bsl_nd, q_known]
      exact ⟨_, rfl, ⟨vv, cc, rfl, f5⟩, hK2.trans f6⟩
theorem q_RgUnion {s : St} {v w : AV} {X : DCx} (hv : read dotC s v = some X.v) (hw : read dotC s w = some X.c) (hlv : X.v.length ≤ 1000) (hlw : X.c.length ≤ 1000) {v' w' : AV} {Y : DCx} (kv : read dotC s v' = some Y.v) (kw : read dotC s w' = some Y.c) (klv : Y.v.length ≤ 1000) (klw : Y.c.length ≤ 1000) (hcx : isC X = true) (hcy : isC Y = true) : ∃ vv cc t, acall R_RgUnion false [.agg [v, w], .agg [v', w']] s = some (.agg [vv, cc], t) ∧ CR t vv cc (uniC X Y) ∧ Keep s t := by
  obtain ⟨r, t, h1, ⟨vv, cc, rfl, h2⟩, h3⟩ := run_any n_RgUnion (args := [.agg [v, w], .agg [v', w']]) (Q := fun r t => ∃ vv cc, r = .agg [vv, cc] ∧ CR t vv cc (uniC X Y)) (by simp [a45]) (fun r t t' hg hn ⟨vv, cc, e, h⟩ => ⟨vv, cc, e, h.mono fun id b hb => by rw [hg]; exact hb⟩) (fun r t hgr hk ⟨vv, cc, e, h⟩ => ⟨vv, cc, e, by
    rw [e] at hgr
    exact h.ground (plain_ground (ground_agg hgr).1) (plain_ground (ground_agg hgr).2)⟩) (w_RgUnion (s := lowd s) (read_low' hv) (read_low' hw) hlv hlw (read_low' kv) (read_low' kw) klv klw hcx hcy)
  exact ⟨vv, cc, t, h1, h2, h3⟩

end Go.AM
end
/-
  What arguments show: digests. Own work of this project.
-/
section
set_option maxRecDepth 100000
namespace Go.AM
open Go Go.Proofs

variable {s : St}
end Go.AM
end
/-
  DigestOf, DigestDiffs, DigestHolds in the abstract machine. Own work of this project; in part printed by a program of it.
-/
section
set_option maxRecDepth 100000
set_option maxHeartbeats 8000000
namespace Go.AM
open Go Go.Proofs

variable {s t u : St}

theorem q_RgDiffF {s : St} {vl : AV} {l : List Nd} (hr : read ndC s vl = some l) (hl : l.length ≤ 1000) {a1 b1 c1 d1 : AV} {D : DDg} (hD : DgR s a1 b1 c1 d1 D) (hDl : DgL D 1000) : ∃ w t, acallF R_RgDiff [vl, .agg [a1, b1, c1, d1]] s = some (w, t) ∧ read ndC t w = some (diffD l D) ∧ Keep s t := by
  obtain ⟨w3, t, h1, h2, h3⟩ := q_RgDiff (s := lowd s) (read_low' hr) hl hD.low hDl
  obtain ⟨t', g1, g2, g3, g4⟩ := acallF_keep h1 h3
  exact ⟨w3, t', g1, read_mono h2.read fun id b hb => by rw [g2]; exact hb, g4⟩
theorem dgOf_len80 {l : List Nd} (h : l.length ≤ 100) : DgL (dgOf l) 250 := by
  have h1 := add_len ⟨[], []⟩ (l.map Nd.d)
  have h2 := add_len ⟨[], []⟩ ((deadN l).map Nd.d)
  have h3 : (deadN l).length ≤ l.length := List.length_filter_le _ _
  simp only [List.length_nil, Nat.zero_add, List.length_map] at h1 h2
  refine ⟨?_, ?_, ?_, ?_⟩ <;> simp only [dgOf] <;> omega
end Go.AM
end
/-
  The merge of the reference of layer 16; DigestStates, DigestLooks. Own work of this project; in part printed by a program of it.
-/
section
set_option maxRecDepth 100000
set_option maxHeartbeats 8000000
namespace Go.AM
open Go Go.Proofs

variable {s t u : St}

theorem sg_callf2 {call : Nat → List AV → St → Option (AV × St)} {base : Nat} {d : Option Nat} {r : Option Nat} {rest : List AOper} {Q : Env → St → Prop} {env : Env} {s : St} (f : Nat) (l : List AO) (t : Nat) (w : Bool) : awops call base (⟨d, .call f false l, some (t, w), r, true⟩ :: rest) Q env s = gcall s (E env t) w (acallF (call f) (l.map (aev env)) s) fun v t => awops call base rest Q (pE env d v) t := by
  rw [st_guard, st_callf]
  rfl
theorem q_RgUnionF {s : St} {v w : AV} {X : DCx} (hv : read dotC s v = some X.v) (hw : read dotC s w = some X.c) (hlv : X.v.length ≤ 1000) (hlw : X.c.length ≤ 1000) {v' w' : AV} {Y : DCx} (kv : read dotC s v' = some Y.v) (kw : read dotC s w' = some Y.c) (klv : Y.v.length ≤ 1000) (klw : Y.c.length ≤ 1000) (hcx : isC X = true) (hcy : isC Y = true) : ∃ vv cc t, acallF R_RgUnion [.agg [v, w], .agg [v', w']] s = some (.agg [vv, cc], t) ∧ CR t vv cc (uniC X Y) ∧ Keep s t := by
  obtain ⟨vv, cc, t, h1, h2, h3⟩ := q_RgUnion (s := lowd s) (read_low' hv) (read_low' hw) hlv hlw (read_low' kv) (read_low' kw) klv klw hcx hcy
  obtain ⟨t', g1, g2, g3, g4⟩ := acallF_keep h1 h3
  exact ⟨vv, cc, t', g1, h2.mono fun id b hb => by rw [g2]; exact hb, g4⟩
noncomputable def R_RgMerge : Con := runFn (tb [(45, R_RgUnion)]) a24
theorem s_RgMerge : SoundAt Tryz.prog 24 R_RgMerge := run_sound (tb_sound (l := [(45, R_RgUnion)]) (by simpa using s_RgUnion)) mixed Tryz.func24 k24 c24
theorem n_RgMerge : noNxtC a24.body = true := by kernel_rfl
theorem w_RgMerge {s : St} {a1 b1 c1 d1 : AV} {D : DDg} (hD : DgR s a1 b1 c1 d1 D) (hDl : DgL D 1000) {a2 b2 c2 d2 : AV} {G : DDg} (hG : DgR s a2 b2 c2 d2 G) (hGl : DgL G 1000) (hvD : dgV D = true) (hvG : dgV G = true) : ∀ env : Env, elen env = a24.ntmps → (∀ i x_, [.agg [a1, b1, c1, d1], .agg [a2, b2, c2, d2]][i]? = some x_ → E env i = x_) → awp (tb [(45, R_RgUnion)]) a24.body (fun x e t => (∀ i, x ≠ .exit i) ∧ ∃ r, aresults e t a24.results = some r ∧ (∃ x1 x2 x3 x4, r = .agg [x1, x2, x3, x4] ∧ DgR t x1 x2 x3 x4 (dgMerge D G)) ∧ Keep s t) env s := by
  intro env hlen ha
  have h0 : E env 0 = _ := ha 0 _ rfl
  have h1 : E env 1 = _ := ha 1 _ rfl
  have hlen : elen env = _ := hlen
  simp only [a24] at hlen
  unfold a24
  try dsimp only [oO, oG]
  have hbx := hD.box
  have hby := hG.box
  have hK2 : Keep s (((s.push (.row [a1, b1, c1, d1] true)).push (.row [a2, b2, c2, d2] true)).push (.row [.nils, .nils, .nils, .nils] true)) := (((Keep.refl s).push _).push _).push _
  have hK12 : Keep (s.push (.row [a1, b1, c1, d1] true)) (((s.push (.row [a1, b1, c1, d1] true)).push (.row [a2, b2, c2, d2] true)).push (.row [.nils, .nils, .nils, .nils] true)) := ((Keep.refl _).push _).push _
  have hK22 : Keep ((s.push (.row [a1, b1, c1, d1] true)).push (.row [a2, b2, c2, d2] true)) (((s.push (.row [a1, b1, c1, d1] true)).push (.row [a2, b2, c2, d2] true)).push (.row [.nils, .nils, .nils, .nils] true)) := (Keep.refl _).push _
  obtain ⟨p1, p2, p3, p4, p5, p6, p7, p8⟩ := box_dg s a1 b1 c1 d1 hK12
  obtain ⟨r1, r2, r3, r4, r5, r6, r7, r8⟩ := box_dg (s.push (.row [a1, b1, c1, d1] true)) a2 b2 c2 d2 hK22
  have hb3 := St.get_push_new ((s.push (.row [a1, b1, c1, d1] true)).push (.row [a2, b2, c2, d2] true)) (.row [.nils, .nils, .nils, .nils] true)
  obtain ⟨z1, z2, _⟩ := dgV_parts hvD
  obtain ⟨y1, y2, _⟩ := dgV_parts hvG
  obtain ⟨x1, x2, t1, q1, hC1, hKa⟩ := q_RgUnionF (hK2.read hD.r1) (hK2.read hD.r2) hDl.l1 hDl.l2 (hK2.read hG.r1) (hK2.read hG.r2) hGl.l1 hGl.l2 z1 y1
  have hKb := hK2.trans hKa
  obtain ⟨P1, P2, P3, P4, P5, P6, P7, P8⟩ := box_dg s a1 b1 c1 d1 (hK12.trans hKa)
  obtain ⟨R1, R2, R3, R4, R5, R6, R7, R8⟩ := box_dg (s.push (.row [a1, b1, c1, d1] true)) a2 b2 c2 d2 (hK22.trans hKa)
  obtain ⟨x3, x4, t2, q2, hC2, hKc⟩ := q_RgUnion (hKb.read hD.r3) (hKb.read hD.r4) hDl.l3 hDl.l4 (hKb.read hG.r3) (hKb.read hG.r4) hGl.l3 hGl.l4 z2 y2
  have hC1' := hC1.keep hKc
  have hR : DgR t2 x1 x2 x3 x4 (dgMerge D G) := ⟨hC1'.1, hC1'.2, hC2.1, hC2.2⟩
  have hKr : Keep (((s.push (.row [a1, b1, c1, d1] true)).push (.row [a2, b2, c2, d2] true)).push (.row [.nils, .nils, .nils, .nils] true)) t2 := hKa.trans hKc
  have hbx4 := hKr.blk hb3
  have f0 := fstep_q0 (read_oneD hR.r1).2 (read_oneD hR.r2).2 .nils .nils .nils .nils
  have f2 := fstep_q2 (read_oneD hR.r3).2 (read_oneD hR.r4).2 x1 x2 .nils .nils
  have st4 := sto_row4 hbx4 hR
  have hlt := St.get_lt hbx4
  obtain ⟨s1_, s2_, s3_, s4_, s5_, s6_, s7_, s8_⟩ := row4_lods (St.get_put_same (b := .row [x1, x2, x3, x4] true) hbx4)
  simp (config := {contextual := true, maxDischargeDepth := 12}) only [tb_at, h0, h1, hlen, q1, q2, P1, P2, P3, P8, R1, R2, R3, R8, ap_build, fillP_nil, fillP_cons, f0, f2, st4, hlt, s1_, s8_, rc1, reserve0, hbx, hby, p1, p2, p3, p4, p5, p6, p7, p8, r1, r2, r3, r4, r5, r6, r7, r8, ↓bD, bU, forall_const, bS, implies_true, isNx, eq_self, ↓wp_cond, ↓wp_loop, ↓reduceIte, reduceCtorEq, Nat.reduceEqDiff, Nat.reduceLT, Nat.reduceAdd, Nat.reduceMul, bT, ↓sg_bsl, ↓st_callf, bX, List.cons_append, List.nil_append, ↓st_appf, bY, slcV_nils0N, slcV_sl0N, bslV_0N, bin_shr1, bsl_nd, q_known]
  exact ⟨_, rfl, ⟨x1, x2, x3, x4, rfl, dgr_put hbx4 hR⟩, (hK2.trans hKr).put _ (by simp; omega) hlt⟩
theorem q_RgMerge {s : St} {a1 b1 c1 d1 : AV} {D : DDg} (hD : DgR s a1 b1 c1 d1 D) (hDl : DgL D 1000) {a2 b2 c2 d2 : AV} {G : DDg} (hG : DgR s a2 b2 c2 d2 G) (hGl : DgL G 1000) (hvD : dgV D = true) (hvG : dgV G = true) : ∃ x1 x2 x3 x4 t, acall R_RgMerge false [.agg [a1, b1, c1, d1], .agg [a2, b2, c2, d2]] s = some (.agg [x1, x2, x3, x4], t) ∧ DgR t x1 x2 x3 x4 (dgMerge D G) ∧ Keep s t := by
  obtain ⟨r, t, h1, ⟨x1, x2, x3, x4, rfl, h2⟩, h3⟩ := run_any n_RgMerge (args := [.agg [a1, b1, c1, d1], .agg [a2, b2, c2, d2]]) (Q := fun r t => ∃ x1 x2 x3 x4, r = .agg [x1, x2, x3, x4] ∧ DgR t x1 x2 x3 x4 (dgMerge D G)) (by simp [a24]) (fun r t t' hg hn ⟨x1, x2, x3, x4, e, h⟩ => ⟨x1, x2, x3, x4, e, h.mono fun id b hb => by rw [hg]; exact hb⟩) (fun r t hgr hk ⟨x1, x2, x3, x4, e, h⟩ => ⟨x1, x2, x3, x4, e, by
    rw [e] at hgr
    obtain ⟨g1, g2, g3, g4⟩ := ground4 hgr
    exact h.ground (plain_ground g1) (plain_ground g2) (plain_ground g3) (plain_ground g4)⟩) (w_RgMerge (s := lowd s) hD.low hDl hG.low hGl hvD hvG)
  exact ⟨x1, x2, x3, x4, t, h1, h2, h3⟩

theorem q_RgMergeF {s : St} {a1 b1 c1 d1 : AV} {D : DDg} (hD : DgR s a1 b1 c1 d1 D) (hDl : DgL D 1000) {a2 b2 c2 d2 : AV} {G : DDg} (hG : DgR s a2 b2 c2 d2 G) (hGl : DgL G 1000) (hvD : dgV D = true) (hvG : dgV G = true) : ∃ x1 x2 x3 x4 t, acallF R_RgMerge [.agg [a1, b1, c1, d1], .agg [a2, b2, c2, d2]] s = some (.agg [x1, x2, x3, x4], t) ∧ DgR t x1 x2 x3 x4 (dgMerge D G) ∧ Keep s t := by
  obtain ⟨x1, x2, x3, x4, t, h1, h2, h3⟩ := q_RgMerge (s := lowd s) hD.low hDl hG.low hGl hvD hvG
  obtain ⟨t', g1, g2, g3, g4⟩ := acallF_keep h1 h3
  exact ⟨x1, x2, x3, x4, t', g1, h2.mono fun id b hb => by rw [g2]; exact hb, g4⟩
theorem s_DigestStates : SoundAt Tryz.prog 5 (lawC Tryz.prog 8 [23, 23]) :=
  con_keep (tb_sound (l := [(8, closed [] (.bool true)), (9, conL ndC fStore), (11, R_RgOf), (15, R_diffs), (17, R_RgDiff), (21, R_dwithin), (22, R_RgWithin), (23, R_merges), (24, R_RgMerge)]) (by simpa using ⟨s_known, s_Store, s_RgOf, s_diffs, s_RgDiff, s_dwithin, s_RgWithin, s_merges, s_RgMerge⟩)) mixed Tryz.func5 k5 c5 fun args s r s' h => by
    obtain ⟨hh, rfl, rfl⟩ := lawC_some h
    obtain ⟨v0, w0, rfl, hv0, hw0⟩ := rdas_2 hh
    obtain ⟨vl, hvl⟩ : ∃ vl, vl = v0 := ⟨_, rfl⟩
    obtain ⟨vm, hvm⟩ : ∃ vm, vm = w0 := ⟨_, rfl⟩
    subst hvl
    subst hvm
    obtain ⟨l, hr⟩ := rda_state nd_cks7 hv0
    obtain ⟨m, hrm⟩ := rda_state nd_cks7 hw0
    refine ⟨rfl, rfl, by simp [a5], fun env hlen ha => ?_⟩
    have h0 : E env 0 = _ := ha 0 _ rfl
    have h1 : E env 1 = _ := ha 1 _ rfl
    have hlen : elen env = _ := hlen
    simp only [a5] at hlen
    unfold a5
    try dsimp only [oO, oG]
    have hL := lenV_read hr
    have hM := lenV_read hrm
    by_cases hlz : 40 < l.length
    · have hz := eq_true (show (40 : Int) < (l.length : Int) by omega)
      simp (config := {contextual := true, maxDischargeDepth := 12}) only [tb_at, h0, h1, hlen, hL, hM, hz, notV_bool, Bool.not_true, Bool.not_false, pickV_t, pickV_f, bin_eqE, bin_eqb, gcall_tt, reserve0, ↓bD, bU, forall_const, bS, implies_true, isNx, eq_self, ↓wp_cond, ↓wp_loop, ↓reduceIte, reduceCtorEq, Nat.reduceEqDiff, Nat.reduceLT, Nat.reduceAdd, Nat.reduceMul, bT, ↓sg_bsl, ↓st_callf, bX, List.cons_append, List.nil_append, ↓st_appf, bY, slcV_nils0N, slcV_sl0N, bslV_0N, bin_shr1, bsl_nd, q_known, ↓sg_callf2]
      all_goals first | exact .refl _ | skip
    have hz := eq_false (show ¬ (40 : Int) < (l.length : Int) by omega)
    by_cases hmz : 40 < m.length
    · have hz2 := eq_true (show (40 : Int) < (m.length : Int) by omega)
      simp (config := {contextual := true, maxDischargeDepth := 12}) only [tb_at, h0, h1, hlen, hL, hM, hz, hz2, notV_bool, Bool.not_true, Bool.not_false, pickV_t, pickV_f, bin_eqE, bin_eqb, gcall_tt, reserve0, ↓bD, bU, forall_const, bS, implies_true, isNx, eq_self, ↓wp_cond, ↓wp_loop, ↓reduceIte, reduceCtorEq, Nat.reduceEqDiff, Nat.reduceLT, Nat.reduceAdd, Nat.reduceMul, bT, ↓sg_bsl, ↓st_callf, bX, List.cons_append, List.nil_append, ↓st_appf, bY, slcV_nils0N, slcV_sl0N, bslV_0N, bin_shr1, bsl_nd, q_known, ↓sg_callf2]
      all_goals first | exact .refl _ | skip
    have hz2 := eq_false (show ¬ (40 : Int) < (m.length : Int) by omega)
    have qs1 := q_Store false hr (by unfold lim; omega)
    have qs2 := q_Store false hrm (by unfold lim; omega)
    cases sl : storeL l
    · rw [sl] at qs1
      simp (config := {contextual := true, maxDischargeDepth := 12}) only [tb_at, h0, h1, hlen, hL, hM, hz, hz2, qs1, notV_bool, Bool.not_true, Bool.not_false, pickV_t, pickV_f, bin_eqE, bin_eqb, gcall_tt, reserve0, ↓bD, bU, forall_const, bS, implies_true, isNx, eq_self, ↓wp_cond, ↓wp_loop, ↓reduceIte, reduceCtorEq, Nat.reduceEqDiff, Nat.reduceLT, Nat.reduceAdd, Nat.reduceMul, bT, ↓sg_bsl, ↓st_callf, bX, List.cons_append, List.nil_append, ↓st_appf, bY, slcV_nils0N, slcV_sl0N, bslV_0N, bin_shr1, bsl_nd, q_known, ↓sg_callf2]
      all_goals first | exact .refl _ | skip
    rw [sl] at qs1
    cases sm : storeL m
    · rw [sm] at qs2
      simp (config := {contextual := true, maxDischargeDepth := 12}) only [tb_at, h0, h1, hlen, hL, hM, hz, hz2, qs1, qs2, notV_bool, Bool.not_true, Bool.not_false, pickV_t, pickV_f, bin_eqE, bin_eqb, gcall_tt, reserve0, ↓bD, bU, forall_const, bS, implies_true, isNx, eq_self, ↓wp_cond, ↓wp_loop, ↓reduceIte, reduceCtorEq, Nat.reduceEqDiff, Nat.reduceLT, Nat.reduceAdd, Nat.reduceMul, bT, ↓sg_bsl, ↓st_callf, bX, List.cons_append, List.nil_append, ↓st_appf, bY, slcV_nils0N, slcV_sl0N, bslV_0N, bin_shr1, bsl_nd, q_known, ↓sg_callf2]
      all_goals first | exact .refl _ | skip
    rw [sm] at qs2
    obtain ⟨x1, x2, x3, x4, t1, q1, hR1, hK1⟩ := q_RgOf hr (by omega) sl
    obtain ⟨y1, y2, y3, y4, t2, q2, hR2, hK2⟩ := q_RgOf (hK1.read hrm) (by omega) sm
    have hKp : Keep t2 ((t2.push (.row [.nils, .nils, .nils, .nils] true)).push (.row [.nils, .nils, .nils, .nils] true)) := ((Keep.refl _).push _).push _
    have hg1 : ((t2.push (.row [.nils, .nils, .nils, .nils] true)).push (.row [.nils, .nils, .nils, .nils] true)).get t2.next = some (.row [.nils, .nils, .nils, .nils] true) := get_push_some _ (St.get_push_new _ _)
    have hg2 : ((t2.push (.row [.nils, .nils, .nils, .nils] true)).push (.row [.nils, .nils, .nils, .nils] true)).get (t2.push (.row [.nils, .nils, .nils, .nils] true)).next = some (.row [.nils, .nils, .nils, .nils] true) := St.get_push_new _ _
    have hx1 := hR1.keep (hK2.trans hKp)
    have hy1 := hR2.keep hKp
    have st1 := sto_row4 hg1 hx1
    have lt1 := St.get_lt hg1
    have hx2 := dgr_put hg1 hx1 (n1 := x1) (n2 := x2) (n3 := x3) (n4 := x4)
    have hy2 := dgr_put hg1 hy1 (n1 := x1) (n2 := x2) (n3 := x3) (n4 := x4)
    have hg2' : (((t2.push (.row [.nils, .nils, .nils, .nils] true)).push (.row [.nils, .nils, .nils, .nils] true)).put t2.next (.row [x1, x2, x3, x4] true)).get (t2.push (.row [.nils, .nils, .nils, .nils] true)).next = some (.row [.nils, .nils, .nils, .nils] true) := by
      rw [St.get_put_ne _ _ lt1 (by simp)]; exact hg2
    have hg1' := St.get_put_same (b := .row [x1, x2, x3, x4] true) hg1
    have st2 := sto_row4 hg2' hy2
    have lt2 := St.get_lt hg2'
    have hx3 := dgr_put hg2' hx2 (n1 := y1) (n2 := y2) (n3 := y3) (n4 := y4)
    have hy3 := dgr_put hg2' hy2 (n1 := y1) (n2 := y2) (n3 := y3) (n4 := y4)
    obtain ⟨tD, htD⟩ : ∃ tD, tD = (((t2.push (.row [.nils, .nils, .nils, .nils] true)).push (.row [.nils, .nils, .nils, .nils] true)).put t2.next (.row [x1, x2, x3, x4] true)).put (t2.push (.row [.nils, .nils, .nils, .nils] true)).next (.row [y1, y2, y3, y4] true) := ⟨_, rfl⟩
    have hgy : tD.get (t2.push (.row [.nils, .nils, .nils, .nils] true)).next = some (.row [y1, y2, y3, y4] true) := by rw [htD]; exact St.get_put_same hg2'
    have hgx : tD.get t2.next = some (.row [x1, x2, x3, x4] true) := by
      rw [htD, St.get_put_ne _ _ lt2 (by simp)]; exact hg1'
    have KD : Keep s tD := by
      rw [htD]
      have h1 := (hK1.trans hK2).next
      have h2 := ((hK1.trans hK2).trans hKp).put (.row [x1, x2, x3, x4] true) h1 lt1
      exact h2.put _ (by simp; omega) lt2
    rw [← htD] at st2 hx3 hy3
    obtain ⟨b1, b2, b3, b4, b5, b6, b7, b8⟩ := row4_lods (hgx)
    obtain ⟨c1, c2, c3, c4, c5, c6, c7, c8⟩ := row4_lods (hgy)
    have l1 := dgOf_len80 (l := l) (by omega)
    have l2 := dgOf_len80 (l := m) (by omega)
    have l1m := l1.le (m := 1000) (by omega)
    have l2m := l2.le (m := 1000) (by omega)
    have vx := dgOf_valid sl
    have vy := dgOf_valid sm
    obtain ⟨w3, t3, q3, hr3, hK3⟩ := q_RgDiffF (KD.read hr) (by omega) hy3 l2m
    have K3 := KD.trans hK3
    have ld1 := diff_len l (dgOf m)
    have ld2 := diff_len m (dgOf l)
    have q4 := q_diffs false (K3.read hr) (by omega) (hy3.keep hK3) l2m hr3 (by omega) 0
    rw [diffP_ok sl vy, decide_eq_true rfl, decide_eq_true rfl] at q4
    obtain ⟨d1, d2, d3, d4, d5, d6, d7, d8⟩ := row4_lods (hK3.blk hgx)
    obtain ⟨f1, f2, f3, f4, f5, f6, f7, f8⟩ := row4_lods (hK3.blk hgy)
    obtain ⟨w4, t4, q5, hr4, hK4⟩ := q_RgDiffF (K3.read hrm) (by omega) (hx3.keep hK3) l1m
    have hK34 := hK3.trans hK4
    have K4 := KD.trans hK34
    have q6 := q_diffs false (K4.read hrm) (by omega) (hx3.keep hK34) l1m hr4 (by omega) 0
    rw [diffP_ok sm vx, decide_eq_true rfl, decide_eq_true rfl] at q6
    obtain ⟨g1, g2, g3, g4, g5, g6, g7, g8⟩ := row4_lods (hK34.blk hgx)
    obtain ⟨k1, k2, k3, k4, k5, k6, k7, k8⟩ := row4_lods (hK34.blk hgy)
    have q7 := q_RgWithin true (hx3.keep hK34) l1m (hy3.keep hK34) l2m vx vy
    have q8 := q_dwithin false (hx3.keep hK34) l1m (hy3.keep hK34) l2m (dgWithin (dgOf l) (dgOf m)) 0
    rw [dwinP_ok vx vy, decide_eq_true rfl, beq_self_eq_true] at q8
    obtain ⟨z1, z2, z3, z4, t5, q9, hR5, hK5⟩ := q_RgMergeF (hx3.keep hK34) l1m (hy3.keep hK34) l2m vx vy
    have hK35 := hK34.trans hK5
    have K5 := KD.trans hK35
    obtain ⟨j1, j2, j3, j4, j5, j6, j7, j8⟩ := row4_lods (hK35.blk hgx)
    obtain ⟨n1, n2, n3, n4, n5, n6, n7, n8⟩ := row4_lods (hK35.blk hgy)
    have q10 := q_merges false (hx3.keep hK35) l1 (hy3.keep hK35) l2 hR5 ((dgMerge_len l1 l2).le (by omega)) 0
    rw [dmerP_ok vx vy, decide_eq_true rfl, decide_eq_true rfl] at q10
    simp (config := {contextual := true, maxDischargeDepth := 12, maxSteps := 4000000}) only [tb_at, h0, h1, hlen, hL, hM, hz, hz2, qs1, qs2, q1, q2, st1, lt1, st2, lt2, b1, b8, c1, c8, q3, q4, d1, d8, f1, f8, q5, q6, g1, g8, k1, k8, q7, q8, q9, j1, j8, n1, n8, q10, Bool.true_and, Bool.and_true, beq_self_eq_true, bin_neb, gcall_tt, reserve0, notV_bool, Bool.not_true, Bool.not_false, pickV_t, pickV_f, bin_eqE, bin_eqb, gcall_tt, reserve0, ↓bD, bU, forall_const, bS, implies_true, isNx, eq_self, ↓wp_cond, ↓wp_loop, ↓reduceIte, reduceCtorEq, Nat.reduceEqDiff, Nat.reduceLT, Nat.reduceAdd, Nat.reduceMul, bT, ↓sg_bsl, ↓st_callf, bX, List.cons_append, List.nil_append, ↓st_appf, bY, slcV_nils0N, slcV_sl0N, bslV_0N, bin_shr1, bsl_nd, q_known, ↓sg_callf2]
    all_goals first | exact K5 | skip
end Go.AM
end
