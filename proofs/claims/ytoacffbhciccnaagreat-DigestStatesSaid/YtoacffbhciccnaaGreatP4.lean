/-
  New lists of dots: copies, sorting, joining. Own work of this project; in part printed by a program of it.
-/
import Derived.Test.YtoacffbhciccnaaGreatP3
import Derived.Shelf.SlSortCmp.NoneTotal
import Derived.ProofKit
import Derived.Carry
import Derived.Deep.Slices
set_option linter.unusedVariables false
set_option linter.unusedSimpArgs false
section
set_option maxRecDepth 100000
set_option maxHeartbeats 8000000
namespace Go.AM
open Go Go.Proofs

variable {s t u : St}

/-! ### A call that changes nothing that was there -/
theorem run_any {call : Nat → List AV → St → Option (AV × St)} {fn : AFn} (hn : noNxtC fn.body = true) {args : List AV} (hl : args.length ≤ fn.ntmps) {s : St} {Q : AV → St → Prop} (hQ : ∀ r t t', (∀ id, t'.get id = t.get id) → t'.next = t.next → Q r t → Q r t') (hg : ∀ r t, r.ground = true → Keep s t → Q r t → Q r s)
    (h : ∀ env : Env, elen env = fn.ntmps → (∀ i v, args[i]? = some v → E env i = v) → awp call fn.body (fun x e t => (∀ i, x ≠ .exit i) ∧ ∃ r, aresults e t fn.results = some r ∧ Q r t ∧ Keep (lowd s) t) env (lowd s)) :
    ∃ r t, acall (runFn call fn) false args s = some (r, t) ∧ Q r t ∧ Keep s t := by
  obtain ⟨r, t, h1, h2, h3⟩ := run_awp hn hl (Q := fun r t => Q r t ∧ Keep (lowd s) t) h
  by_cases hgr : r.ground = true
  · exact ⟨r, s, acall_same h1 h3 hgr, hg r t hgr ((keep_lowd s).trans h3) h2, .refl s⟩
  · obtain ⟨t', g1, g2, g3, g4⟩ := acall_new h1 (h3.chg []) (.inl (by simpa using hgr))
    exact ⟨r, t', g1, hQ r t t' g2 g3 h2, g4.keep⟩
/-! ### New lists -/
/-- A list whose row is new, and nothing else. -/
def NewX {β : Type} (C : Cod β) (s t : St) (v : AV) (l : List β) : Prop := (v = .nils ∧ l = []) ∨ ∃ j cap, v = .sl j 0 l.length cap C.sz ∧ s.next ≤ j ∧ t.get j = some (.row (C.cells l) true)
/-- The same, with more behind it. -/
def NewR {β : Type} (C : Cod β) (s t : St) (v : AV) (l : List β) : Prop := (v = .nils ∧ l = []) ∨ ∃ j cap rest, v = .sl j 0 l.length cap C.sz ∧ s.next ≤ j ∧ t.get j = some (.row (C.cells (l ++ rest)) true)
section
variable {β : Type} {C : Cod β} {v : AV} {l : List β}
theorem NewX.nw (h : NewX C s t v l) : NewR C s t v l := h.imp id fun ⟨j, cap, h1, h2, h3⟩ => ⟨j, cap, [], h1, h2, by rw [List.append_nil]; exact h3⟩
theorem NewR.read (h : NewR C s t v l) : read C t v = some l := by
  rcases h with ⟨rfl, rfl⟩ | ⟨j, cap, rest, rfl, h1, h2⟩
  · rfl
  · refine read_of rfl h2 (by rw [cells_len, List.length_append, Nat.add_mul]; omega) ?_
    rw [List.drop_zero, cells_append, ← cells_len]
    simp
theorem NewX.read (h : NewX C s t v l) : AM.read C t v = some l := h.nw.read
theorem Own.newX (h : Own C s t v l) : NewX C s t v l := by
  rcases h with h | ⟨j, h1, _, h2, h3⟩
  · exact .inl h
  · exact .inr ⟨j, none, h1, h2, h3⟩
theorem NewX.mono (h : NewX C s t v l) (k : ∀ id b, t.get id = some b → u.get id = some b) : NewX C s u v l := h.imp id fun ⟨j, cap, h1, h2, h3⟩ => ⟨j, cap, h1, h2, k _ _ h3⟩
theorem NewR.mono (h : NewR C s t v l) (k : ∀ id b, t.get id = some b → u.get id = some b) : NewR C s u v l := h.imp id fun ⟨j, cap, rest, h1, h2, h3⟩ => ⟨j, cap, rest, h1, h2, k _ _ h3⟩
theorem NewX.from {s0 : St} (h : NewX C s t v l) (k : s0.next ≤ s.next) : NewX C s0 t v l := h.imp id fun ⟨j, cap, h1, h2, h3⟩ => ⟨j, cap, h1, Nat.le_trans k h2, h3⟩
theorem NewR.from {s0 : St} (h : NewR C s t v l) (k : s0.next ≤ s.next) : NewR C s0 t v l := h.imp id fun ⟨j, cap, rest, h1, h2, h3⟩ => ⟨j, cap, rest, h1, Nat.le_trans k h2, h3⟩
theorem NewX.ground (h : NewX C s t v l) (hg : v.ground = true) : v = .nils ∧ l = [] := by
  rcases h with h | ⟨j, cap, rfl, _⟩
  · exact h
  · cases hg
theorem NewR.ground (h : NewR C s t v l) (hg : v.ground = true) : v = .nils ∧ l = [] := by
  rcases h with h | ⟨j, cap, rest, rfl, _⟩
  · exact h
  · cases hg
theorem Own.ground (h : Own C s t v l) (hg : v.ground = true) : v = .nils ∧ l = [] := h.newX.ground hg
theorem NewX.nil (C : Cod β) (s t : St) : NewX C s t .nils [] := .inl ⟨rfl, rfl⟩
theorem NewR.nil (C : Cod β) (s t : St) : NewR C s t .nils [] := .inl ⟨rfl, rfl⟩
end
/-- No longer than it may grow. -/
def CapOK (v : AV) : Prop := ∀ id off n c z, v = .sl id off n (some c) z → n ≤ c
theorem CapOK.nils : CapOK .nils := fun _ _ _ _ _ h => by cases h
theorem Own.capOK {β : Type} {C : Cod β} {v : AV} {l : List β} (h : Own C s t v l) : CapOK v := by
  rcases h with ⟨rfl, _⟩ | ⟨j, rfl, _⟩
  · exact .nils
  · intro _ _ _ _ _ h; cases h
def vids : AV → List Nat
  | .sl id _ _ _ _ => [id]
  | _ => []
theorem read_ground {v : AV} {l : List Dot} (h : read dotC s v = some l) (hg : v.ground = true) : v = .nils ∧ l = [] := by
  cases v <;> simp_all [read, AV.ground, AV.plains, AV.plain]
def convV (k : IntKind) : AV → Option AV
  | .int _ n => some (.int k (k.wrap n))
  | _ => none
theorem ap_conv {env : Env} (k : IntKind) (x : AO) : apure env (.conv k x) = convV k (aev env x) := nrfl (by
  simp only [apure, convV]
  cases aev env x <;> rfl)
theorem convV_int (k k' : IntKind) (n : Int) : convV k (.int k' n) = some (.int k (k.wrap n)) := nrfl rfl
theorem bslV_0 : bslV [] 0 2 [] = some (fun id => .sl id 0 0 (some 0) 2, .row [] true) := nrfl rfl

theorem app_clone {v : AV} {l : List Dot} (hr : read dotC s v = some l) (hl : l.length ≤ lim) : ∃ v' t, appV (s.push (.row [] true)) 2 16 (.sl s.next 0 0 (some 0) 2) v = some (v', t) ∧ (NewX dotC s t v' l ∧ CapOK v') ∧ Keep s t := by
  have hK : Keep s (s.push (.row [] true)) := (Keep.refl s).push _
  have hr1 := hK.read hr
  have h2 : dotC.sz = 2 := rfl
  simp only [appV]
  rw [← h2, read_shown hr1, read_len hr1]
  simp only [aappend, if_true, St.get_push_new]
  by_cases h0 : l.length = 0
  · have : l = [] := List.length_eq_zero_iff.1 h0
    subst this
    exact ⟨_, _, if_pos (rfl : ([] : List Dot).length = 0), ⟨.inr ⟨s.next, some 0, rfl, Nat.le_refl _, St.get_push_new _ _⟩, fun _ _ _ _ _ h => by injection h with _ _ h; omega⟩, hK⟩
  · rw [if_neg h0, if_pos ⟨by simp, by unfold lim at hl; unfold roomBytes; omega⟩, if_neg (by omega)]
    refine ⟨_, _, rfl, ⟨.inr ⟨_, none, by rw [Nat.zero_add], hK.next, ?_⟩, fun _ _ _ _ _ h => by cases h⟩, hK.push _⟩
    rw [St.get_push_new]
    simp
noncomputable def R_SClD : Con := runFn (tb []) a118
theorem s_SClD : SoundAt Tryz.prog 118 R_SClD := run_sound (tb_sound (l := []) (by simp)) mixed Tryz.func118 k118 c118
theorem n_SClD : noNxtC a118.body = true := by kernel_rfl
theorem w_SClD {s : St} {v : AV} {l : List Dot} (hr : read dotC s v = some l) (hl : l.length ≤ lim) : ∀ env : Env, elen env = a118.ntmps → (∀ i x_, [v][i]? = some x_ → E env i = x_) → awp (tb []) a118.body (fun x e t => (∀ i, x ≠ .exit i) ∧ ∃ r, aresults e t a118.results = some r ∧ (NewX dotC s t r l ∧ CapOK r) ∧ Keep s t) env s := by
  intro env hlen ha
  have h0 : E env 0 = _ := ha 0 _ rfl
  have hlen : elen env = _ := hlen
  simp only [a118] at hlen
  unfold a118
  try dsimp only [oO, oG]
  cases v with
  | nils =>
    rw [read_nils] at hr
    injection hr with hr
    subst hr
    simp (config := {contextual := true, maxDischargeDepth := 12}) only [tb_at, h0, hlen, ↓bD, bU, forall_const, bS, implies_true, isNx, eq_self, ↓wp_cond, ↓wp_loop, ↓reduceIte, reduceCtorEq, Nat.reduceEqDiff, Nat.reduceLT, Nat.reduceAdd, Nat.reduceMul, bT, ↓sg_bsl, ↓st_callf, bX, ap_mkfn, ae_callvV, callvV_fn, List.cons_append, List.nil_append, boxV_i, boxV_dot, sto_dot, ap_conv, convV_int, bslV_0]
    first | exact ⟨_, rfl, ⟨.nil _ _ _, .nils⟩, .refl s⟩ | exact ⟨_, rfl, .nil _ _ _, .nils⟩
  | sl id off n cap z =>
    obtain ⟨v', t, hap, hN, hK⟩ := app_clone hr hl
    simp (config := {contextual := true, maxDischargeDepth := 12}) only [tb_at, h0, hlen, hap, ↓bD, bU, forall_const, bS, implies_true, isNx, eq_self, ↓wp_cond, ↓wp_loop, ↓reduceIte, reduceCtorEq, Nat.reduceEqDiff, Nat.reduceLT, Nat.reduceAdd, Nat.reduceMul, bT, ↓sg_bsl, ↓st_callf, bX, ap_mkfn, ae_callvV, callvV_fn, List.cons_append, List.nil_append, boxV_i, boxV_dot, sto_dot, ap_conv, convV_int, bslV_0]
    exact ⟨_, rfl, hN, hK⟩
  | _ => simp [read] at hr
theorem q_SClD {s : St} {v : AV} {l : List Dot} (hr : read dotC s v = some l) (hl : l.length ≤ lim) : ∃ v' t, acall R_SClD false [v] s = some (v', t) ∧ (NewX dotC s t v' l ∧ CapOK v') ∧ Keep s t :=
  run_any n_SClD (by simp [a118]) (fun r t t' hg hn hq => ⟨hq.1.mono fun id b hb => by rw [hg]; exact hb, hq.2⟩) (fun r t hgr hk hq => by obtain ⟨rfl, rfl⟩ := hq.1.ground hgr; exact ⟨.nil _ _ _, .nils⟩) (w_SClD (s := lowd s) (read_low' hr) hl)
noncomputable def R_SClV : Con := runFn (tb []) a81
theorem s_SClV : SoundAt Tryz.prog 81 R_SClV := run_sound (tb_sound (l := []) (by simp)) mixed Tryz.func81 k81 c81
theorem n_SClV : noNxtC a81.body = true := by kernel_rfl
theorem w_SClV {s : St} {v : AV} {l : List Dot} (hr : read dotC s v = some l) (hl : l.length ≤ lim) : ∀ env : Env, elen env = a81.ntmps → (∀ i x_, [v][i]? = some x_ → E env i = x_) → awp (tb []) a81.body (fun x e t => (∀ i, x ≠ .exit i) ∧ ∃ r, aresults e t a81.results = some r ∧ (NewX dotC s t r l ∧ CapOK r) ∧ Keep s t) env s := by
  intro env hlen ha
  have h0 : E env 0 = _ := ha 0 _ rfl
  have hlen : elen env = _ := hlen
  simp only [a81] at hlen
  unfold a81
  try dsimp only [oO, oG]
  cases v with
  | nils =>
    rw [read_nils] at hr
    injection hr with hr
    subst hr
    simp (config := {contextual := true, maxDischargeDepth := 12}) only [tb_at, h0, hlen, ↓bD, bU, forall_const, bS, implies_true, isNx, eq_self, ↓wp_cond, ↓wp_loop, ↓reduceIte, reduceCtorEq, Nat.reduceEqDiff, Nat.reduceLT, Nat.reduceAdd, Nat.reduceMul, bT, ↓sg_bsl, ↓st_callf, bX, ap_mkfn, ae_callvV, callvV_fn, List.cons_append, List.nil_append, boxV_i, boxV_dot, sto_dot, ap_conv, convV_int, bslV_0]
    first | exact ⟨_, rfl, ⟨.nil _ _ _, .nils⟩, .refl s⟩ | exact ⟨_, rfl, .nil _ _ _, .nils⟩
  | sl id off n cap z =>
    obtain ⟨v', t, hap, hN, hK⟩ := app_clone hr hl
    simp (config := {contextual := true, maxDischargeDepth := 12}) only [tb_at, h0, hlen, hap, ↓bD, bU, forall_const, bS, implies_true, isNx, eq_self, ↓wp_cond, ↓wp_loop, ↓reduceIte, reduceCtorEq, Nat.reduceEqDiff, Nat.reduceLT, Nat.reduceAdd, Nat.reduceMul, bT, ↓sg_bsl, ↓st_callf, bX, ap_mkfn, ae_callvV, callvV_fn, List.cons_append, List.nil_append, boxV_i, boxV_dot, sto_dot, ap_conv, convV_int, bslV_0]
    exact ⟨_, rfl, hN, hK⟩
  | _ => simp [read] at hr
theorem q_SClV {s : St} {v : AV} {l : List Dot} (hr : read dotC s v = some l) (hl : l.length ≤ lim) : ∃ v' t, acall R_SClV false [v] s = some (v', t) ∧ (NewX dotC s t v' l ∧ CapOK v') ∧ Keep s t :=
  run_any n_SClV (by simp [a81]) (fun r t t' hg hn hq => ⟨hq.1.mono fun id b hb => by rw [hg]; exact hb, hq.2⟩) (fun r t hgr hk hq => by obtain ⟨rfl, rfl⟩ := hq.1.ground hgr; exact ⟨.nil _ _ _, .nils⟩) (w_SClV (s := lowd s) (read_low' hr) hl)

/-! ### Sorting -/
theorem q_bits (cl : Bool) {n : Nat} (h : n < 4611686018427387904) : acall cBits cl [.int .u64 (n : Int)] s = some (.int .i64 (Lib.bitLen n : Nat), s) := acall_rol (by
  simp only [cBits]
  rw [if_pos ⟨by omega, by omega⟩, Int.toNat_natCast]) rfl
theorem wrap_u64 {n : Nat} (h : n < 4611686018427387904) : IntKind.u64.wrap (n : Int) = (n : Int) := by
  simp [IntKind.wrap, IntKind.signed, IntKind.bits]
  omega
theorem pdq_call {s0 : St} {v : AV} {l : List Dot} (hN : NewX dotC s0 s v l) (hl : l.length ≤ lim) (g : Nat) {ok : List Dot → Bool} {srt : List Dot → List Dot} (hok : ok l = true) (hlen : (srt l).length = l.length) {lm : Nat} (hlm : (lm : Int) < 4611686018427387904) :
    ∃ t, acall (cPdq g ok srt) false [v, .int .i64 0, .int .i64 (l.length : Int), .int .i64 (lm : Int), .fn g []] s = some (.tup [], t) ∧ NewX dotC s0 t v (srt l) ∧ Chg (vids v) s t ∧ (l ≠ [] → t.low < s.next) ∧ (l = [] → t = s) := by
  have hnil : l = [] → srt l = [] := fun e => by
    rw [e] at hlen ⊢
    simpa using hlen
  rcases hN with ⟨rfl, rfl⟩ | ⟨j, cap, rfl, h1, h⟩
  · exact ⟨s, acall_rol (by simp [cPdq]) rfl, .inl ⟨rfl, hnil rfl⟩, (Keep.refl s).chg _, fun h => absurd rfl h, fun _ => rfl⟩
  · by_cases h0 : l = []
    · subst h0
      refine ⟨s, acall_rol (by simp [cPdq, show dotC.sz = 2 from rfl]) rfl, .inr ⟨j, cap, by rw [hnil rfl], h1, by rw [hnil rfl]; exact h⟩, (Keep.refl s).chg _, fun h => absurd rfl h, fun _ => rfl⟩
    · have hpos : 0 < l.length := List.length_pos_iff.2 h0
      have hd : decL dotC l.length (dotC.cells l) = some l := by
        have := decL_cells dotC l []
        rwa [List.append_nil] at this
      have h6 : dotC.sz = 2 := rfl
      have hlen2 : (dotC.cells l).length = l.length * 2 := by rw [cells_len, h6]
      have hc : cPdq g ok srt [.sl j 0 l.length cap dotC.sz, .int .i64 0, .int .i64 (l.length : Int), .int .i64 (lm : Int), .fn g []] (lowd s) = some (.tup [], (lowd s).put j (.row (dotC.cells (srt l)) true)) := by
        have hg : (lowd s).get j = some (.row (dotC.cells l) true) := h
        rw [h6]
        simp only [cPdq, and_self, if_true, hg, hd, hlen2, hok, hl]
        rw [if_neg (by omega), if_pos ⟨trivial, trivial, trivial, trivial, by omega, hlm⟩]
      have hlt := St.get_lt h
      obtain ⟨t', g1, g2, g3, g4, g5⟩ := acall_newl (M := [j]) hc ((Chg.refl _ _).put _ (.inl (by simp)) hlt) (.inr (by
        show min s.next j < s.next
        omega))
      refine ⟨t', g1, .inr ⟨j, cap, by rw [hlen], h1, ?_⟩, g4, fun _ => g5.resolve_left (by intro h; cases h), fun e => absurd e h0⟩
      rw [g2]
      exact St.get_put_same h

theorem dcmp_casesD (a b : Dot) : (dcmp a b = -1 ∧ a.before b = true ∧ b.before a = false) ∨ (dcmp a b = 1 ∧ a.before b = false ∧ b.before a = true) ∨ (dcmp a b = 0 ∧ a.before b = false ∧ b.before a = false ∧ a = b) := by
  obtain ⟨ar, ac⟩ := a
  obtain ⟨br, bc⟩ := b
  simp only [dcmp, cmpI, Dot.before]
  by_cases h1 : ac < bc
  · left
    simp [h1, show ¬ bc < ac by omega, show ¬ bc = ac by omega]
  · by_cases h2 : bc < ac
    · right; left
      simp [h1, h2, show ¬ ac = bc by omega]
    · obtain rfl : ac = bc := by omega
      by_cases h3 : ar < br
      · left
        simp [h3, show ¬ br < ar by omega]
      · by_cases h4 : br < ar
        · right; left
          simp [h3, h4]
        · obtain rfl : ar = br := by omega
          right; right
          simp
theorem lt_dcmp (x y : Dot) : ltOf dcmp x y = x.before y := by
  unfold ltOf
  rcases dcmp_casesD x y with ⟨h, h1, _⟩ | ⟨h, h1, _⟩ | ⟨h, h1, _⟩ <;> simp only [h, h1] <;> decide
theorem swoD : Sort.SWO (ltOf dcmp) := by
  refine ⟨fun x => by rw [lt_dcmp]; exact bef_irr _, fun x y z => ?_, fun x y z => ?_⟩
  · rw [lt_dcmp, lt_dcmp, lt_dcmp]
    exact bef_trans x y z
  · rw [lt_dcmp, lt_dcmp, lt_dcmp]
    intro h1 h2
    have := leD_trans z y x (by simpa [leD] using h2) (by simpa [leD] using h1)
    simpa [leD] using this
theorem s_pdqSSortD : SoundAt Tryz.prog 116 (cPdq 50 (fun _ => true) sortD) :=
  s_pdq (c0 := cDotCmp) (cf := dcmp) s_dotCmp (fun x y => rfl) swoD (enters_of Tryz.func50 (by kernel_rfl) rfl) sortD_len fun l d _ hp hs => le_uniq _ _ (hp.trans (sortD_perm l).symm) (hs.imp fun {a b} h => by
    rw [lt_dcmp] at h
    simpa [leD] using h) (sortD_le l)
def cVecCmp : Con := fun xs s => match xs with
  | [.agg [.int .i64 a, .int .i64 _], .agg [.int .i64 c, .int .i64 _]] => some (.int .i64 (cmpI a c), s)
  | _ => none
set_option maxHeartbeats 4000000 in
theorem s_vecCmp : SoundAt Tryz.prog 111 cVecCmp :=
  pure_of (fn_sound (tb_sound (l := [(75, cCmpInt)]) (by simpa using s_cmpInt)) mixed Tryz.func111 k111 c111 60) fun xs s r s' h => by
    unfold cVecCmp at h
    split at h
    · rename_i a b c d
      injection h with h
      obtain ⟨rfl, rfl⟩ := Prod.mk.inj h
      refine ⟨rfl, rfl, rfl, ?_⟩
      simp [tb, cCmpInt, acallFn, a111, aexec, aops, aop, aalloc, apure, aread, aeff, wanted, putE, aev, acall, binOp, intOp, aresults, aresult, AV.ground, AV.plains, AV.plain, St.empty, St.push, St.get, St.reserve, St.born, AV.cells, AV.one, fillP, setAt]
    · cases h
/-! By replicas. -/
def insV (d : Dot) : List Dot → List Dot
  | [] => [d]
  | x :: r => if d.r < x.r then d :: x :: r else x :: insV d r
def sortV : List Dot → List Dot
  | [] => []
  | x :: r => insV x (sortV r)
def okV (l : List Dot) : Bool := decide (l.map Dot.r).Nodup
theorem insV_perm (x : Dot) : ∀ l, (insV x l).Perm (x :: l)
  | [] => .refl _
  | y :: r => by
    unfold insV
    split
    · exact .refl _
    · exact ((insV_perm x r).cons y).trans (.swap x y r)
theorem sortV_perm : ∀ l, (sortV l).Perm l
  | [] => .refl _
  | x :: r => (insV_perm x _).trans ((sortV_perm r).cons x)
theorem sortV_len (l : List Dot) : (sortV l).length = l.length := (sortV_perm l).length_eq
theorem insV_srt (x : Dot) : ∀ l : List Dot, VSrt l → (∀ y ∈ l, x.r ≠ y.r) → VSrt (insV x l)
  | [], _, _ => by simp [insV]
  | y :: r, h, hx => by
    rw [vsrt_cons] at h
    have hne := hx y (by simp)
    unfold insV
    split
    · rename_i hb
      rw [vsrt_cons, vsrt_cons]
      refine ⟨fun z hz => ?_, h⟩
      rcases List.mem_cons.1 hz with rfl | hz
      · simpa [vlt] using hb
      · have := h.1 z hz
        simp only [vlt, decide_eq_true_eq] at this ⊢
        omega
    · rename_i hb
      rw [vsrt_cons]
      refine ⟨fun z hz => ?_, insV_srt x r h.2 fun y hy => hx y (by simp [hy])⟩
      rcases List.mem_cons.1 ((insV_perm x r).mem_iff.1 hz) with rfl | hz
      · simp only [vlt, decide_eq_true_eq]; omega
      · exact h.1 z hz
theorem sortV_srt : ∀ l : List Dot, (l.map Dot.r).Nodup → VSrt (sortV l)
  | [], _ => by simp [sortV]
  | x :: r, h => by
    simp only [List.map_cons, List.nodup_cons] at h
    refine insV_srt x _ (sortV_srt r h.2) fun y hy e => h.1 ?_
    rw [e]
    exact List.mem_map_of_mem ((sortV_perm r).mem_iff.1 hy)
def vcmp (a b : Dot) : Int := cmpI a.r b.r
theorem lt_vcmp (x y : Dot) : ltOf vcmp x y = vlt x y := by
  unfold ltOf vcmp vlt cmpI
  by_cases h : x.r < y.r
  · simp [h]
  · by_cases h2 : y.r < x.r <;> simp [h, h2]
theorem swoV : Sort.SWO (ltOf vcmp) := by
  refine ⟨fun x => by rw [lt_vcmp]; simp [vlt], fun x y z => ?_, fun x y z => ?_⟩
  · rw [lt_vcmp, lt_vcmp, lt_vcmp]
    exact vlt_trans x y z
  · rw [lt_vcmp, lt_vcmp, lt_vcmp]
    simp only [vlt, decide_eq_false_iff_not]
    omega
theorem s_pdqSSortV : SoundAt Tryz.prog 116 (cPdq 111 okV sortV) :=
  s_pdq (c0 := cVecCmp) (cf := vcmp) s_vecCmp (fun x y => rfl) swoV (enters_of Tryz.func111 (by kernel_rfl) rfl) sortV_len fun l d hok hp hs => by
    have hnd := of_decide_eq_true hok
    have hndd : (d.map Dot.r).Nodup := (hp.map Dot.r).nodup_iff.2 hnd
    have hd : VSrt d := by
      have hne : d.Pairwise fun a b => a.r ≠ b.r := List.pairwise_map.1 hndd
      refine (hs.and hne).imp fun {a b} ⟨h1, h2⟩ => ?_
      rw [lt_vcmp] at h1
      simp only [vlt, decide_eq_false_iff_not, decide_eq_true_eq] at h1 ⊢
      omega
    exact strict_uniq (fun a => by simp [vlt]) vlt_trans _ _ hd (sortV_srt l hnd) fun x => (hp.trans (sortV_perm l).symm).mem_iff
noncomputable def R_SSortD : Con := runFn (tb [(117, cBits), (116, cPdq 50 (fun _ => true) sortD)]) a119
theorem s_SSortD : SoundAt Tryz.prog 119 R_SSortD := run_sound (tb_sound (l := [(117, cBits), (116, cPdq 50 (fun _ => true) sortD)]) (by simpa using ⟨s_bits, s_pdqSSortD⟩)) mixed Tryz.func119 k119 c119
theorem n_SSortD : noNxtC a119.body = true := by kernel_rfl
theorem w_SSortD {s : St} {s0 : St} {v : AV} {l : List Dot} (hN : NewX dotC s0 s v l) (hl : l.length ≤ lim) : ∀ env : Env, elen env = a119.ntmps → (∀ i x_, [v, .fn 50 []][i]? = some x_ → E env i = x_) → awp (tb [(117, cBits), (116, cPdq 50 (fun _ => true) sortD)]) a119.body (fun x e t => (∀ i, x ≠ .exit i) ∧ ∃ r, aresults e t a119.results = some r ∧ (r = .tup [] ∧ NewX dotC s0 t v (sortD l)) ∧ Chg (vids v) s t ∧ (l ≠ [] → t.low < s.next) ∧ (l = [] → Keep s t)) env s := by
  intro env hlen ha
  have h0 : E env 0 = _ := ha 0 _ rfl
  have h1 : E env 1 = _ := ha 1 _ rfl
  have hlen : elen env = _ := hlen
  simp only [a119] at hlen
  unfold a119
  try dsimp only [oO, oG]
  have hL := lenV_read hN.read
  have qb := q_bits false (n := l.length) (s := s) (by unfold lim at hl; omega)
  have hw := wrap_u64 (n := l.length) (by unfold lim at hl; omega)
  obtain ⟨t, qp, hN', hC, hlow, hsame⟩ := pdq_call hN hl 50 (ok := (fun _ => true)) (srt := sortD) rfl (sortD_len l) (lm := Lib.bitLen l.length) (bits_small (by unfold lim at hl; omega))
  simp (config := {contextual := true, maxDischargeDepth := 12}) only [tb_at, h0, h1, hlen, hL, qb, hw, qp, ↓bD, bU, forall_const, bS, implies_true, isNx, eq_self, ↓wp_cond, ↓wp_loop, ↓reduceIte, reduceCtorEq, Nat.reduceEqDiff, Nat.reduceLT, Nat.reduceAdd, Nat.reduceMul, bT, ↓sg_bsl, ↓st_callf, bX, ap_mkfn, ae_callvV, callvV_fn, List.cons_append, List.nil_append, boxV_i, boxV_dot, sto_dot, ap_conv, convV_int, bslV_0]
  exact ⟨_, rfl, ⟨rfl, hN'⟩, hC, hlow, fun e => by rw [hsame e]; exact .refl s⟩
theorem q_SSortD {s : St} {s0 : St} {v : AV} {l : List Dot} (hN : NewX dotC s0 s v l) (hl : l.length ≤ lim) : ∃ t, acall R_SSortD false [v, .fn 50 []] s = some (.tup [], t) ∧ NewX dotC s0 t v (sortD l) ∧ Chg (vids v) s t := by
  obtain ⟨r, t, h1, ⟨rfl, h2⟩, h3, h4, h5⟩ := run_awp n_SSortD (args := [v, .fn 50 []]) (by simp [a119]) (Q := fun r t => (r = .tup [] ∧ NewX dotC s0 t v (sortD l)) ∧ Chg (vids v) (lowd s) t ∧ (l ≠ [] → t.low < s.next) ∧ (l = [] → Keep (lowd s) t)) (w_SSortD (s := lowd s) (hN.mono fun _ _ h => h) hl)
  by_cases hl0 : l = []
  · have hs : sortD l = [] := by
      have : (sortD l).length = l.length := (sortD_len l)
      rw [hl0] at this ⊢
      simpa using this
    refine ⟨s, acall_same h1 (h5 hl0) rfl, ?_, (Keep.refl s).chg _⟩
    rw [hs]
    rw [hl0] at hN
    exact hN
  · obtain ⟨t', g1, g2, g3, g4⟩ := acall_new h1 h3 (.inr (h4 hl0))
    exact ⟨t', g1, h2.mono fun id b hb => by rw [g2]; exact hb, g4⟩
noncomputable def R_SSortV : Con := runFn (tb [(117, cBits), (116, cPdq 111 okV sortV)]) a110
theorem s_SSortV : SoundAt Tryz.prog 110 R_SSortV := run_sound (tb_sound (l := [(117, cBits), (116, cPdq 111 okV sortV)]) (by simpa using ⟨s_bits, s_pdqSSortV⟩)) mixed Tryz.func110 k110 c110
theorem n_SSortV : noNxtC a110.body = true := by kernel_rfl
theorem w_SSortV {s : St} {s0 : St} {v : AV} {l : List Dot} (hN : NewX dotC s0 s v l) (hl : l.length ≤ lim) (hnd : (l.map Dot.r).Nodup) : ∀ env : Env, elen env = a110.ntmps → (∀ i x_, [v, .fn 111 []][i]? = some x_ → E env i = x_) → awp (tb [(117, cBits), (116, cPdq 111 okV sortV)]) a110.body (fun x e t => (∀ i, x ≠ .exit i) ∧ ∃ r, aresults e t a110.results = some r ∧ (r = .tup [] ∧ NewX dotC s0 t v (sortV l)) ∧ Chg (vids v) s t ∧ (l ≠ [] → t.low < s.next) ∧ (l = [] → Keep s t)) env s := by
  intro env hlen ha
  have h0 : E env 0 = _ := ha 0 _ rfl
  have h1 : E env 1 = _ := ha 1 _ rfl
  have hlen : elen env = _ := hlen
  simp only [a110] at hlen
  unfold a110
  try dsimp only [oO, oG]
  have hL := lenV_read hN.read
  have qb := q_bits false (n := l.length) (s := s) (by unfold lim at hl; omega)
  have hw := wrap_u64 (n := l.length) (by unfold lim at hl; omega)
  obtain ⟨t, qp, hN', hC, hlow, hsame⟩ := pdq_call hN hl 111 (ok := okV) (srt := sortV) (decide_eq_true hnd) (sortV_len l) (lm := Lib.bitLen l.length) (bits_small (by unfold lim at hl; omega))
  simp (config := {contextual := true, maxDischargeDepth := 12}) only [tb_at, h0, h1, hlen, hL, qb, hw, qp, ↓bD, bU, forall_const, bS, implies_true, isNx, eq_self, ↓wp_cond, ↓wp_loop, ↓reduceIte, reduceCtorEq, Nat.reduceEqDiff, Nat.reduceLT, Nat.reduceAdd, Nat.reduceMul, bT, ↓sg_bsl, ↓st_callf, bX, ap_mkfn, ae_callvV, callvV_fn, List.cons_append, List.nil_append, boxV_i, boxV_dot, sto_dot, ap_conv, convV_int, bslV_0]
  exact ⟨_, rfl, ⟨rfl, hN'⟩, hC, hlow, fun e => by rw [hsame e]; exact .refl s⟩
theorem q_SSortV {s : St} {s0 : St} {v : AV} {l : List Dot} (hN : NewX dotC s0 s v l) (hl : l.length ≤ lim) (hnd : (l.map Dot.r).Nodup) : ∃ t, acall R_SSortV false [v, .fn 111 []] s = some (.tup [], t) ∧ NewX dotC s0 t v (sortV l) ∧ Chg (vids v) s t := by
  obtain ⟨r, t, h1, ⟨rfl, h2⟩, h3, h4, h5⟩ := run_awp n_SSortV (args := [v, .fn 111 []]) (by simp [a110]) (Q := fun r t => (r = .tup [] ∧ NewX dotC s0 t v (sortV l)) ∧ Chg (vids v) (lowd s) t ∧ (l ≠ [] → t.low < s.next) ∧ (l = [] → Keep (lowd s) t)) (w_SSortV (s := lowd s) (hN.mono fun _ _ h => h) hl hnd)
  by_cases hl0 : l = []
  · have hs : sortV l = [] := by
      have : (sortV l).length = l.length := (sortV_len l)
      rw [hl0] at this ⊢
      simpa using this
    refine ⟨s, acall_same h1 (h5 hl0) rfl, ?_, (Keep.refl s).chg _⟩
    rw [hs]
    rw [hl0] at hN
    exact hN
  · obtain ⟨t', g1, g2, g3, g4⟩ := acall_new h1 h3 (.inr (h4 hl0))
    exact ⟨t', g1, h2.mono fun id b hb => by rw [g2]; exact hb, g4⟩

end Go.AM
end
/-
  Maps from replicas to counters in memory. Own work of this project.
-/
section
namespace Go.AM
open Go Go.Proofs

variable {s t : St}
/-! ### Counters by replicas -/
def entsI : Nat → List Dot → List (AV × AV × Nat)
  | _, [] => []
  | k, x :: r => (.int .i64 x.r, .int .i64 x.c, k) :: entsI (k + 1) r
def mapI (l : List Dot) : AB := .map (entsI 0 l) l.length
def lookI : List Dot → Int → Option (Nat × Dot)
  | [], _ => none
  | x :: r, d => if x.r = d then some (0, x) else (lookI r d).map fun p => (p.1 + 1, p.2)
def updI (l : List Dot) (x : Dot) : List Dot := match lookI l x.r with
  | some (j, _) => l.set j x
  | none => l ++ [x]
theorem eqK_int (a b : Int) : eqK (.ky .i) (.int .i64 a) (.int .i64 b) = some (decide (b = a)) := by
  simp only [eqK, eqF, if_true]
  congr 1
  rw [Bool.eq_iff_iff]
  simp only [beq_iff_eq, decide_eq_true_eq]
  exact eq_comm
theorem key_int (d : Int) : (AV.int .i64 d).key (.ky .i) = true := rfl
theorem whole_int (x : Int) : (AV.int .i64 x).whole = true := rfl
theorem find_entsI : ∀ (l : List Dot) (d : Int) (k i : Nat), findE (.ky .i) (.int .i64 d) (entsI k l) i = some ((lookI l d).map fun p => (i + p.1, .int .i64 p.2.c))
  | [], d, k, i => rfl
  | x :: r, d, k, i => by
    simp only [entsI, findE, eqK_int, lookI]
    by_cases h : x.r = d
    · simp [h]
    · simp only [h, decide_false, if_false]
      rw [find_entsI r d (k + 1) (i + 1)]
      cases lookI r d <;> simp [Nat.add_comm, Nat.add_left_comm]
theorem lookI_some : ∀ {l : List Dot} {d : Int} {j : Nat} {x : Dot}, lookI l d = some (j, x) → l[j]? = some x ∧ x.r = d
  | [], d, j, x, h => by simp [lookI] at h
  | y :: r, d, j, x, h => by
    simp only [lookI] at h
    split at h
    · injection h with h
      obtain ⟨rfl, rfl⟩ := Prod.mk.inj h
      exact ⟨rfl, by assumption⟩
    · obtain ⟨p, hp, h⟩ := Option.map_eq_some_iff.1 h
      obtain ⟨rfl, rfl⟩ := Prod.mk.inj h
      obtain ⟨h1, h2⟩ := lookI_some (l := r) (j := p.1) (x := p.2) hp
      exact ⟨by simpa using h1, h2⟩
theorem entsI_get : ∀ (l : List Dot) (k j : Nat), (entsI k l)[j]? = (l[j]?).map fun x => (.int .i64 x.r, .int .i64 x.c, k + j)
  | [], k, j => by simp [entsI]
  | x :: r, k, 0 => rfl
  | x :: r, k, j + 1 => by
    simp only [entsI, List.getElem?_cons_succ, entsI_get r (k + 1) j]
    rw [show k + 1 + j = k + (j + 1) by omega]
theorem entsI_append : ∀ (l m : List Dot) (k : Nat), entsI k (l ++ m) = entsI k l ++ entsI (k + l.length) m
  | [], m, k => by simp [entsI]
  | x :: r, m, k => by
    simp only [List.cons_append, entsI, entsI_append r m (k + 1), List.length_cons]
    rw [show k + 1 + r.length = k + (r.length + 1) by omega]
theorem entsI_set : ∀ (l : List Dot) (k j : Nat) (x : Dot), entsI k (l.set j x) = (entsI k l).set j (.int .i64 x.r, .int .i64 x.c, k + j)
  | [], k, j, x => by simp [entsI]
  | y :: r, k, 0, x => by simp [entsI]
  | y :: r, k, j + 1, x => by
    simp only [List.set_cons_succ, entsI, entsI_set r (k + 1) j x]
    rw [show k + 1 + j = k + (j + 1) by omega]
theorem lookI_hit {l : List Dot} {d : Int} {j : Nat} {x : Dot} {id : Nat} (hg : s.get id = some (mapI l)) (h : lookI l d = some (j, x)) (z : AV) : lookV s z (.ky .i) false (.mp id) (.int .i64 d) = some (.int .i64 x.c) := by
  simp only [lookV, key_int, if_true, hg, mapI, find_entsI, h, Option.map_some, Bool.false_eq_true, if_false]
theorem lookI_miss {l : List Dot} {d : Int} {id : Nat} (hg : s.get id = some (mapI l)) (h : lookI l d = none) (z : AV) : lookV s z (.ky .i) false (.mp id) (.int .i64 d) = some z := by
  simp only [lookV, key_int, if_true, hg, mapI, find_entsI, h, Option.map_none, Bool.false_eq_true, if_false]
theorem msetI_map {l : List Dot} {id : Nat} (hg : s.get id = some (mapI l)) (x : Dot) : msetV s (.ky .i) (.mp id) (.int .i64 x.r) (.int .i64 x.c) = some (.und, s.put id (mapI (updI l x))) := by
  simp only [msetV, key_int, whole_int, Bool.and_self, if_true, hg, mapI, find_entsI, updI]
  cases h : lookI l x.r with
  | none =>
    simp only [Option.map_none, entsI_append, entsI, List.length_append, List.length_singleton, Nat.zero_add]
  | some p =>
    obtain ⟨j, y⟩ := p
    obtain ⟨h1, h2⟩ := lookI_some h
    simp only [Option.map_some, Nat.zero_add, entsI_get, h1, entsI_set, List.length_set]
theorem rngI_map {l : List Dot} {id : Nat} (hg : s.get id = some (mapI l)) : rngV s (.mp id) = some (.ptr s.next 0, s.push (.iter (some id) l.length [] l.length)) := by
  simp only [rngV, hg, mapI]
theorem nextI_map {l : List Dot} {id p : Nat} {seen : List Nat} {K : AV → St → Prop} (hg : s.get id = some (mapI l)) (hp : s.get p = some (.iter (some id) l.length seen l.length))
    (h1 : (∀ i, i < l.length → i ∈ seen) → K (.tup [.bool false]) s) (h2 : ∀ i x, l[i]? = some x → i ∉ seen → K (.tup [.bool true, .int .i64 x.r, .int .i64 x.c]) (s.put p (.iter (some id) l.length (seen ++ [i]) l.length))) : anext (.ptr p 0) s K := by
  simp only [anext, hp, hg, mapI]
  have hm : ∀ e ∈ entsI 0 l, ∃ i x, l[i]? = some x ∧ e = (.int .i64 x.r, .int .i64 x.c, i) := by
    intro e he
    obtain ⟨i, hi⟩ := List.getElem?_of_mem he
    rw [entsI_get] at hi
    obtain ⟨x, hx, rfl⟩ := Option.map_eq_some_iff.1 hi
    exact ⟨i, x, hx, by simp⟩
  refine ⟨fun e he => ?_, Nat.le_refl _, fun ha => h1 fun i hi => ?_, fun e he hs => ?_⟩
  · obtain ⟨i, x, hx, rfl⟩ := hm e he
    exact getlt hx
  · obtain ⟨x, hx⟩ := getsome hi
    have : (entsI 0 l)[i]? = some (.int .i64 x.r, .int .i64 x.c, 0 + i) := by rw [entsI_get, hx]; rfl
    have := ha _ (List.mem_of_getElem? this)
    simpa using this
  · obtain ⟨i, x, hx, rfl⟩ := hm e he
    exact h2 i x hx hs
theorem entI_map {l : List Dot} {id p : Nat} {seen : List Nat} {i : Nat} {x : Dot} (hg : s.get id = some (mapI l)) (hp : s.get p = some (.iter (some id) l.length (seen ++ [i]) l.length)) (hx : l[i]? = some x) : entV s (.ptr p 0) = some (.tup [.int .i64 x.r, .int .i64 x.c]) := by
  have key : ∀ (l : List Dot) (k i : Nat) (x : Dot), l[i]? = some x → (entsI k l).find? (fun e => e.2.2 == k + i) = some (.int .i64 x.r, .int .i64 x.c, k + i) := by
    intro l
    induction l with
    | nil => intro k i x h; simp at h
    | cons y r ih =>
      intro k i x h
      cases i with
      | zero => simp at h; subst h; simp [entsI]
      | succ i =>
        have e : k + (i + 1) = k + 1 + i := by omega
        rw [entsI, List.find?_cons_of_neg (by simp), e]
        exact ih (k + 1) i x (by simpa using h)
  have := key l 0 i x hx
  rw [Nat.zero_add] at this
  simp only [entV, hp, hg, mapI, List.getLast?_concat, if_true, this, Option.map_some]
end Go.AM
end
/-
  vector.made: the greatest counters of some dots. Own work of this project; in part printed by a program of it.
-/
section
set_option maxRecDepth 100000
set_option maxHeartbeats 8000000
namespace Go.AM
open Go Go.Proofs

variable {s t u : St}

theorem updI_cons (x y : Dot) (r : List Dot) : updI (x :: r) y = if x.r = y.r then y :: r else x :: updI r y := by
  unfold updI
  rw [lookI]
  by_cases h : x.r = y.r
  · rw [if_pos h, if_pos h]; rfl
  · rw [if_neg h, if_neg h]
    cases lookI r y.r with
    | none => rfl
    | some p => rfl
theorem updI_nil (y : Dot) : updI [] y = [y] := rfl
theorem vget_upd (y : Dot) (k : Int) : ∀ M : List Dot, vget (updI M y) k = if k = y.r then y.c else vget M k
  | [] => by
    simp only [updI_nil, vget]
    by_cases h : k = y.r
    · rw [if_pos h.symm, if_pos h]
    · rw [if_neg (fun e => h e.symm), if_neg h]
  | x :: r => by
    rw [updI_cons]
    by_cases h : x.r = y.r
    · rw [if_pos h, vget, vget, h]
      by_cases hk : k = y.r
      · rw [if_pos hk.symm, if_pos hk]
      · rw [if_neg (fun e => hk e.symm), if_neg hk, if_neg (fun e => hk e.symm)]
    · rw [if_neg h, vget, vget, vget_upd y k r]
      by_cases hk : x.r = k
      · rw [if_pos hk, if_pos hk, if_neg (fun e => h (hk.trans e))]
      · rw [if_neg hk, if_neg hk]
theorem updI_mem {y x : Dot} : ∀ {M : List Dot}, x ∈ updI M y → x = y ∨ x ∈ M
  | [], h => by simp [updI_nil] at h; exact .inl h
  | z :: r, h => by
    rw [updI_cons] at h
    split at h
    · rcases List.mem_cons.1 h with h | h
      · exact .inl h
      · exact .inr (by simp [h])
    · rcases List.mem_cons.1 h with h | h
      · exact .inr (by simp [h])
      · exact (updI_mem h).imp id fun h => by simp [h]
theorem updI_nodup {y : Dot} : ∀ {M : List Dot}, (M.map Dot.r).Nodup → ((updI M y).map Dot.r).Nodup
  | [], h => by simp [updI_nil]
  | z :: r, h => by
    rw [updI_cons]
    simp only [List.map_cons, List.nodup_cons] at h
    split
    · rename_i e
      simp only [List.map_cons, List.nodup_cons]
      rw [← e]
      exact h
    · rename_i e
      simp only [List.map_cons, List.nodup_cons]
      refine ⟨fun hm => ?_, updI_nodup h.2⟩
      obtain ⟨x, hx, hxr⟩ := List.mem_map.1 hm
      rcases updI_mem hx with rfl | hx
      · exact e hxr.symm
      · exact h.1 (by rw [← hxr]; exact List.mem_map_of_mem hx)
theorem updI_len (y : Dot) : ∀ M : List Dot, (updI M y).length ≤ M.length + 1
  | [] => by simp [updI_nil]
  | z :: r => by
    rw [updI_cons]
    split
    · simp
    · have := updI_len y r
      simp
      omega
theorem look_vget : ∀ (M : List Dot) (k : Int), (∃ j x, lookI M k = some (j, x) ∧ vget M k = x.c) ∨ (lookI M k = none ∧ vget M k = 0)
  | [], k => .inr ⟨rfl, rfl⟩
  | y :: r, k => by
    rw [lookI, vget]
    by_cases h : y.r = k
    · rw [if_pos h, if_pos h]
      exact .inl ⟨0, y, rfl, rfl⟩
    · rw [if_neg h, if_neg h]
      rcases look_vget r k with ⟨j, x, h1, h2⟩ | ⟨h1, h2⟩
      · exact .inl ⟨j + 1, x, by rw [h1]; rfl, h2⟩
      · exact .inr ⟨by rw [h1]; rfl, h2⟩
def mstep (M : List Dot) (d : Dot) : List Dot := updI M ⟨d.r, max (vget M d.r) d.c⟩
structure MInv (l M : List Dot) : Prop where
  nd : (M.map Dot.r).Nodup
  val : ∀ x ∈ M, x.valid = true
  get : ∀ k, vget M k = vmax 0 k l
  len : M.length ≤ l.length
theorem minv_step {l M : List Dot} {d : Dot} (h : MInv l M) (hl : ∀ x ∈ l, x.valid = true) (hd : d.valid = true) : MInv (l ++ [d]) (mstep M d) := by
  have hdv := (valid_iff d).1 hd
  have hg := h.get d.r
  have hbound : vget M d.r ≤ 4294967295 := by
    rcases vget_or M d.r with q | ⟨x, hx, _, hc⟩
    · omega
    · have := (valid_iff x).1 (h.val x hx)
      omega
  refine ⟨updI_nodup h.nd, fun x hx => ?_, fun k => ?_, ?_⟩
  · rcases updI_mem hx with rfl | hx
    · refine (valid_iff _).2 ⟨hdv.1, hdv.2.1, ?_, ?_⟩ <;> simp only <;> omega
    · exact h.val x hx
  · rw [vmax_app, ← h.get k]
    unfold mstep
    rw [vget_upd]
    simp only [vmax]
    split
    · rename_i e
      rw [e]
    · rfl
  · have := updI_len ⟨d.r, max (vget M d.r) d.c⟩ M
    have := h.len
    unfold mstep
    simp
    omega
theorem minv_fold {l : List Dot} (hl : ∀ x ∈ l, x.valid = true) : ∀ i, i ≤ l.length → MInv (l.take i) ((l.take i).foldl mstep [])
  | 0, _ => ⟨by simp, by simp, fun k => rfl, by simp⟩
  | i + 1, hi => by
    obtain ⟨x, hx⟩ := getsome (l := l) (i := i) (by omega)
    rw [take_snoc hx, List.foldl_append]
    exact minv_step (minv_fold hl i (by omega)) (fun y hy => hl y (List.mem_of_mem_take hy)) (hl x (mem_at hx))
theorem minv_made {l M : List Dot} (h : MInv l M) (hl : l.all Dot.valid = true) : sortV M = madeL l := by
  have hs := sortV_srt M h.nd
  have hv : vvalid (sortV M) = true := (vvalid_iff _).2 ⟨hs, fun x hx => h.val x ((sortV_perm M).mem_iff.1 hx)⟩
  refine vget_ext hv (madeL_valid hl) fun k => ?_
  have e2 : vget (madeL l) k = vmax 0 k l := by
    unfold madeL
    rw [fold_get vvalid_nil hl]
    rfl
  rw [e2, ← h.get k]
  have hmem : ∀ x ∈ M, vget M x.r = x.c := by
    intro x hx
    clear hs hv e2
    have hnd := h.nd
    clear h hl
    induction M with
    | nil => simp at hx
    | cons y r ih =>
      simp only [List.map_cons, List.nodup_cons] at hnd
      rcases List.mem_cons.1 hx with rfl | hx
      · simp [vget]
      · rw [vget, if_neg, ih hx hnd.2]
        intro e
        exact hnd.1 (by rw [e]; exact List.mem_map_of_mem hx)
  rcases vget_or M k with q | ⟨x, hx, hk, hc⟩
  · have : vget (sortV M) k = 0 := by
      refine vget_none fun x hx e => ?_
      have hx := (sortV_perm M).mem_iff.1 hx
      have := hmem x hx
      have := (valid_iff x).1 (h.val x hx)
      rw [e] at *
      omega
    rw [this, q]
  · subst hk
    rw [vget_mem hs ((sortV_perm M).mem_iff.2 hx), hmem x hx]
theorem range_getD (M : List Dot) : (List.range M.length).map (fun i => M[i]?) = M.map some := by
  apply List.ext_getElem?
  intro i
  rw [List.getElem?_map, List.getElem?_map]
  by_cases h : i < M.length
  · rw [List.getElem?_range h]
    simp [h]
  · rw [List.getElem?_eq_none (by simpa using h), List.getElem?_eq_none (by omega)]
    rfl
theorem seen_permD {M acc : List Dot} {seen : List Nat} (h1 : seen.Nodup) (h2 : ∀ i ∈ seen, i < M.length) (h3 : acc.map some = seen.map fun i => M[i]?) (h4 : ∀ i, i < M.length → i ∈ seen) : acc.Perm M := by
  have hp : seen.Perm (List.range M.length) := (List.perm_ext_iff_of_nodup h1 List.nodup_range).2 fun i => by
    rw [List.mem_range]
    exact ⟨h2 i, h4 i⟩
  have h5 := hp.map fun i => M[i]?
  rw [← h3, range_getD] at h5
  have h6 := h5.filterMap (fun x => x)
  have e : ∀ l : List Dot, (l.map some).filterMap (fun x => x) = l := by
    intro l
    induction l with
    | nil => rfl
    | cons x r ih => simp [ih]
  rwa [e, e] at h6
theorem own_of_new {β : Type} {C : Cod β} {v : AV} {l l' : List β} (h : Own C s t v l) (k : NewX C s u v l') (hl : l'.length = l.length) : Own C s u v l' := by
  rcases h with ⟨rfl, rfl⟩ | ⟨j, rfl, h0, h1, h2⟩
  · rcases k with ⟨_, k⟩ | ⟨j, cap, k, _⟩
    · exact .inl ⟨rfl, k⟩
    · cases k
  · rcases k with ⟨k, _⟩ | ⟨j', cap, k, k1, k2⟩
    · cases k
    · injection k with e1 e2 e3 e4
      subst e1
      refine .inr ⟨j, by rw [hl], ?_, h1, k2⟩
      intro e
      rw [e] at hl
      have := List.length_eq_zero_iff.1 hl.symm
      exact h0 this
theorem own_vids {β : Type} {C : Cod β} {v : AV} {l : List β} (h : Own C s t v l) : ∀ id ∈ vids v, s.next ≤ id := by
  rcases h with ⟨rfl, _⟩ | ⟨j, rfl, _, h1, _⟩
  · simp [vids]
  · intro id hid
    simp [vids] at hid
    omega
theorem fstep_d0 (a : Int) (K : List AV → Option (List AV)) : fstep [.int .i64 0, .int .i64 0] 0 1 (.int .i64 a) K = K [.int .i64 a, .int .i64 0] := nrfl rfl
theorem fstep_d1 (a b : Int) (K : List AV → Option (List AV)) : fstep [.int .i64 a, .int .i64 0] 1 1 (.int .i64 b) K = K (Dot.av ⟨a, b⟩) := nrfl rfl
theorem bsl_dot {x : Dot} : bslV [.int .i64 0, .int .i64 0] 1 2 [(0, .agg (Dot.av x))] = some (fun id => .sl id 0 1 (some 1) 2, .row (Dot.av x) true) := nrfl rfl
def gMade (l : List Dot) : Option (List Dot × Option AV) := if l.all Dot.valid = true then some (madeL l, none) else none
theorem s_VMade : SoundAt Tryz.prog 100 (conF dotC (pL dotC gMade)) :=
  con_fresh (tb_sound (l := [(110, R_SSortV)]) (by simpa using s_SSortV)) mixed Tryz.func100 k100 c100 fun args s r ee h => by
    obtain ⟨v, l, rfl, hr, hl, hp⟩ := pL_some h
    have hall : l.all Dot.valid = true := by
      unfold gMade at hp
      split at hp
      · assumption
      · cases hp
    unfold gMade at hp
    rw [if_pos hall] at hp
    injection hp with hp
    obtain ⟨rfl, rfl⟩ := Prod.mk.inj hp
    refine ⟨by simp, by simp [a100], fun env hlen ha => ?_⟩
    have h0 : E env 0 = _ := ha 0 _ rfl
    have hlen : elen env = _ := hlen
    simp only [a100] at hlen
    unfold a100
    try dsimp only [oO, oG]
    have hL := lenV_read hr
    have hvl := List.all_eq_true.1 hall
    simp (config := {contextual := true, maxDischargeDepth := 12}) only [tb_at, h0, hlen, hL, ↓bD, bU, forall_const, bS, implies_true, isNx, eq_self, ↓wp_cond, ↓wp_loop, ↓reduceIte, reduceCtorEq, Nat.reduceEqDiff, Nat.reduceLT, Nat.reduceAdd, Nat.reduceMul, bT, ↓sg_bsl, ↓st_callf, bX, ap_mkfn, ae_callvV, callvV_fn, List.cons_append, List.nil_append, boxV_i, boxV_dot, sto_dot, ap_conv, convV_int, bslV_0, fstep_d0, fstep_d1, bsl_dot]
    obtain ⟨I, hI⟩ : ∃ I : Nat → Env → St → Prop, ∀ n e t, I n e t = (Keep s t ∧ ∃ i : Nat, n + i = l.length ∧ elen e = 43 ∧ E e 3 = .mp s.next ∧ E e 10 = v ∧ E e 11 = .int .i64 (l.length : Int) ∧ E e 12 = .int .i64 (i : Int) ∧ t.get s.next = some (mapI ((l.take i).foldl mstep []))) := ⟨fun n e t => (Keep s t ∧ ∃ i : Nat, n + i = l.length ∧ elen e = 43 ∧ E e 3 = .mp s.next ∧ E e 10 = v ∧ E e 11 = .int .i64 (l.length : Int) ∧ E e 12 = .int .i64 (i : Int) ∧ t.get s.next = some (mapI ((l.take i).foldl mstep []))), fun _ _ _ => rfl⟩
    refine lwp_inv I (n := l.length) ?_ ?_
    · rw [hI]
      exact ⟨(Keep.refl s).push _, 0, by omega, (by simp only [bE, Nat.reduceEqDiff, bN, Nat.reduceLT, hlen]; try rfl), (by simp only [bE, Nat.reduceEqDiff, bN, Nat.reduceLT, hlen]; try rfl), (by simp only [bE, Nat.reduceEqDiff, bN, Nat.reduceLT, hlen, h0]; try rfl), (by simp only [bE, Nat.reduceEqDiff, bN, Nat.reduceLT, hlen, hL]; try rfl), (by simp only [bE, Nat.reduceEqDiff, bN, Nat.reduceLT, hlen]; try rfl), by rw [List.take_zero]; exact St.get_push_new s _⟩
    intro n e t hi
    rw [hI] at hi
    obtain ⟨hK, i, hni, he, e3, e10, e11, e12, gM⟩ := hi
    have hM := minv_fold hvl i (by omega)
    generalize hMM : (l.take i).foldl mstep [] = M at gM hM
    have lM := lt_of_get gM
    by_cases hlt : i < l.length
    · obtain ⟨d, hx⟩ := getsome hlt
      have hw2 := wrap_add1 (n := i) (by unfold lim at hl; omega)
      obtain ⟨a1, a2, a3, a4⟩ := dot_lods hr hK hx
      have i1 := dot_idx hr hx .i64
      have hlk : lookV t (.int .i64 0) (.ky .i) false (.mp s.next) (.int .i64 d.r) = some (.int .i64 (vget M d.r)) := by
        rcases look_vget M d.r with ⟨j, x, h1, h2⟩ | ⟨h1, h2⟩
        · rw [lookI_hit gM h1, h2]
        · rw [lookI_miss gM h1, h2]
      have hst := msetI_map gM ⟨d.r, max (vget M d.r) d.c⟩
      simp (config := {contextual := true, maxDischargeDepth := 12}) only [tb_at, he, e3, e10, e11, e12, hL, hlt, hw2, a1, a2, a3, a4, i1, hlk, hst, lM, ↓bD, bU, forall_const, bS, implies_true, isNx, eq_self, ↓wp_cond, ↓wp_loop, ↓reduceIte, reduceCtorEq, Nat.reduceEqDiff, Nat.reduceLT, Nat.reduceAdd, Nat.reduceMul, bT, ↓sg_bsl, ↓st_callf, bX, ap_mkfn, ae_callvV, callvV_fn, List.cons_append, List.nil_append, boxV_i, boxV_dot, sto_dot, ap_conv, convV_int, bslV_0, fstep_d0, fstep_d1, bsl_dot]
      have hnn : s.next ≤ s.next := Nat.le_refl _
      refine ⟨n - 1, by omega, ?_⟩
      rw [hI]
      refine ⟨((hK.put _ (Nat.le_refl _) lM).lowed).push _, i + 1, by omega, (by simp only [bE, Nat.reduceEqDiff, bN, Nat.reduceLT, he, e3, e10, e11, e12]; try rfl), (by simp only [bE, Nat.reduceEqDiff, bN, Nat.reduceLT, he, e3, e10, e11, e12]; try rfl), (by simp only [bE, Nat.reduceEqDiff, bN, Nat.reduceLT, he, e3, e10, e11, e12]; try rfl), (by simp only [bE, Nat.reduceEqDiff, bN, Nat.reduceLT, he, e3, e10, e11, e12]; try rfl), (by simp only [bE, Nat.reduceEqDiff, bN, Nat.reduceLT, he, e3, e10, e11, e12]; try rfl), ?_⟩
      rw [take_snoc hx, List.foldl_append, hMM]
      exact get_push_some _ (St.get_put_same gM)
    · obtain rfl : i = l.length := by omega
      rw [List.take_length] at hMM hM
      have hrg := rngI_map gM
      have hgI : (t.push (.iter (some s.next) M.length [] M.length)).get t.next = some (.iter (some s.next) M.length [] M.length) := St.get_push_new _ _
      have hgM : (t.push (.iter (some s.next) M.length [] M.length)).get s.next = some (mapI M) := get_push_some _ gM
      simp (config := {contextual := true, maxDischargeDepth := 12}) only [tb_at, he, e3, e10, e11, e12, hL, hlt, hrg, lM, ↓bD, bU, forall_const, bS, implies_true, isNx, eq_self, ↓wp_cond, ↓wp_loop, ↓reduceIte, reduceCtorEq, Nat.reduceEqDiff, Nat.reduceLT, Nat.reduceAdd, Nat.reduceMul, bT, ↓sg_bsl, ↓st_callf, bX, ap_mkfn, ae_callvV, callvV_fn, List.cons_append, List.nil_append, boxV_i, boxV_dot, sto_dot, ap_conv, convV_int, bslV_0, fstep_d0, fstep_d1, bsl_dot]
      obtain ⟨I2, hI2⟩ : ∃ I : Nat → Env → St → Prop, ∀ n2 e2 t2, I n2 e2 t2 = (Keep s t2 ∧ ∃ (seen : List Nat) (acc : List Dot), n2 + seen.length = M.length ∧ elen e2 = 43 ∧ E e2 28 = .ptr t.next 0 ∧ t2.get s.next = some (mapI M) ∧ t2.get t.next = some (.iter (some s.next) M.length seen M.length) ∧ Own dotC s t2 (E e2 6) acc ∧ seen.Nodup ∧ (∀ k ∈ seen, k < M.length) ∧ acc.map some = seen.map fun k => M[k]?) := ⟨fun n2 e2 t2 => (Keep s t2 ∧ ∃ (seen : List Nat) (acc : List Dot), n2 + seen.length = M.length ∧ elen e2 = 43 ∧ E e2 28 = .ptr t.next 0 ∧ t2.get s.next = some (mapI M) ∧ t2.get t.next = some (.iter (some s.next) M.length seen M.length) ∧ Own dotC s t2 (E e2 6) acc ∧ seen.Nodup ∧ (∀ k ∈ seen, k < M.length) ∧ acc.map some = seen.map fun k => M[k]?), fun _ _ _ => rfl⟩
      refine lwp_inv I2 (n := M.length) ?_ ?_
      · rw [hI2]
        refine ⟨hK.push _, [], [], by simp, (by simp only [bE, Nat.reduceEqDiff, bN, Nat.reduceLT, he]; try rfl), (by simp only [bE, Nat.reduceEqDiff, bN, Nat.reduceLT, he]; try rfl), hgM, hgI, ?_, by simp, by simp, by simp⟩
        simp only [bE, Nat.reduceEqDiff, bN, Nat.reduceLT, he]
        exact .nil _ _ _
      clear hgI hgM hrg
      intro n2 e2 t2 hi2
      rw [hI2] at hi2
      obtain ⟨hK2, seen, acc, hn2, he2, e28, gM2, gI2, hO2, hsd, hsl, hac⟩ := hi2
      have lM2 := lt_of_get gM2
      have lI2 := lt_of_get gI2
      have hpI : s.next ≤ t.next := hK.next
      have hne0 : s.next ≠ t.next := by
        intro e
        rw [e, gI2] at gM2
        cases gM2
      simp only [↓wp_seq, ↓wp_reg, ↓st_nxt, aev_t, e28]
      refine nextI_map gM2 gI2 (fun hall2 => ?_) (fun i x hx hns => ?_)
      · have hpm := seen_permD hsd hsl hac hall2
        have hMl := hM.len
        have hal : acc.length ≤ lim := by rw [hpm.length_eq]; omega
        have hnd2 : (acc.map Dot.r).Nodup := (hpm.map Dot.r).nodup_iff.2 hM.nd
        obtain ⟨t3, hsrt, hN3, hC3⟩ := q_SSortV hO2.newX hal hnd2
        have hsm : sortV acc = madeL l := by
          rw [← minv_made hM hall]
          exact strict_uniq (fun a => by simp [vlt]) vlt_trans _ _ (sortV_srt acc hnd2) (sortV_srt M hM.nd) fun x => ((sortV_perm acc).trans (hpm.trans (sortV_perm M).symm)).mem_iff
        have hK3 : Keep s t3 := hK2.chgn hC3 (own_vids hO2)
        have hO3 := own_of_new hO2 hN3 (sortV_len acc)
        rw [hsm] at hO3
        simp (config := {contextual := true, maxDischargeDepth := 12}) only [tb_at, he2, e28, hsrt, ↓bD, bU, forall_const, bS, implies_true, isNx, eq_self, ↓wp_cond, ↓wp_loop, ↓reduceIte, reduceCtorEq, Nat.reduceEqDiff, Nat.reduceLT, Nat.reduceAdd, Nat.reduceMul, bT, ↓sg_bsl, ↓st_callf, bX, ap_mkfn, ae_callvV, callvV_fn, List.cons_append, List.nil_append, boxV_i, boxV_dot, sto_dot, ap_conv, convV_int, bslV_0, fstep_d0, fstep_d1, bsl_dot]
        exact ⟨hK3, _, rfl, hO3⟩
      · obtain ⟨t4, ht4⟩ : ∃ t4, t4 = t2.put t.next (.iter (some s.next) M.length (seen ++ [i]) M.length) := ⟨_, rfl⟩
        rw [← ht4]
        have gM4 : t4.get s.next = some (mapI M) := by rw [ht4, St.get_put_ne _ _ lI2 hne0]; exact gM2
        have gI4 : t4.get t.next = some (.iter (some s.next) M.length (seen ++ [i]) M.length) := by rw [ht4]; exact St.get_put_same gI2
        have hK4 : Keep s t4 := by rw [ht4]; exact hK2.put _ hpI lI2
        have hO4 : Own dotC s t4 (E e2 6) acc := by
          rcases hO2 with q | ⟨j, q1, q2, q3, q4⟩
          · exact .inl q
          · refine .inr ⟨j, q1, q2, q3, ?_⟩
            have : j ≠ t.next := by
              intro e
              rw [e, gI2] at q4
              cases q4
            rw [ht4, St.get_put_ne _ _ lI2 this]
            exact q4
        have lI4 := lt_of_get gI4
        have lM4 := lt_of_get gM4
        have hen := entI_map gM4 gI4 hx
        have hacl : acc.length = seen.length := by have := congrArg List.length hac; simpa using this
        obtain ⟨u, t5, hap, hK5, hO5⟩ := appV_one (C := dotC) hK4 hO4 x 16 (by
          have := hM.len
          unfold lim at *
          simp [roomBytes]
          omega)
        have hap : appV (t4.push (.row (Dot.av x) true)) 2 16 (E e2 6) (.sl t4.next 0 1 (some 1) 2) = some (u, t5) := hap
        have hdx : (⟨x.r, x.c⟩ : Dot) = x := rfl
        simp (config := {contextual := true, maxDischargeDepth := 12}) only [tb_at, he2, e28, hen, hap, hdx, ↓bD, bU, forall_const, bS, implies_true, isNx, eq_self, ↓wp_cond, ↓wp_loop, ↓reduceIte, reduceCtorEq, Nat.reduceEqDiff, Nat.reduceLT, Nat.reduceAdd, Nat.reduceMul, bT, ↓sg_bsl, ↓st_callf, bX, ap_mkfn, ae_callvV, callvV_fn, List.cons_append, List.nil_append, boxV_i, boxV_dot, sto_dot, ap_conv, convV_int, bslV_0, fstep_d0, fstep_d1, bsl_dot]
        have hne1 : ∀ o n c z, E e2 6 ≠ .sl s.next o n c z := by
          intro o n c z e
          rcases hO4 with ⟨q, _⟩ | ⟨j, q1, q2, q3, q4⟩
          · rw [q] at e; cases e
          · rw [q1] at e
            injection e with e
            rw [e, gM4] at q4
            cases q4
        have hne2 : ∀ o n c z, E e2 6 ≠ .sl t.next o n c z := by
          intro o n c z e
          rcases hO4 with ⟨q, _⟩ | ⟨j, q1, q2, q3, q4⟩
          · rw [q] at e; cases e
          · rw [q1] at e
            injection e with e
            rw [e, gI4] at q4
            cases q4
        have hil := getlt hx
        refine ⟨n2 - 1, by
          have := room_left hsd hsl hil hns
          omega, ?_⟩
        rw [hI2]
        refine ⟨hK5, seen ++ [i], acc ++ [x], ?_, (by simp only [bE, Nat.reduceEqDiff, bN, Nat.reduceLT, he2]; try rfl), (by simp only [bE, Nat.reduceEqDiff, bN, Nat.reduceLT, he2, e28]; try rfl), ?_, ?_, by simp only [bE, Nat.reduceEqDiff, bN, Nat.reduceLT, he2]; exact hO5, ?_, ?_, ?_⟩
        · have := room_left hsd hsl hil hns
          simp
          omega
        · exact appV_frame hap hne1 (get_push_some _ gM4)
        · exact appV_frame hap hne2 (get_push_some _ gI4)
        · rw [List.nodup_append]
          exact ⟨hsd, by simp, fun a ha b hb e => by simp at hb; subst hb; subst e; exact hns ha⟩
        · intro k hk
          rcases List.mem_append.1 hk with hk | hk
          · exact hsl k hk
          · simp at hk; omega
        · rw [List.map_append, List.map_append, hac]
          simp [hx]
theorem q_VMade {v : AV} {l : List Dot} (hr : read dotC s v = some l) (hl : l.length ≤ lim) (hall : l.all Dot.valid = true) : ∃ w t, acall (conF dotC (pL dotC gMade)) false [v] s = some (w, t) ∧ Keep s t ∧ Own dotC s t w (madeL l) := by
  obtain ⟨w, t, h1, h2, h3⟩ := fresh_L (D := dotC) (f := gMade) hr hl (by unfold gMade; rw [if_pos hall]) (by simp)
  rw [mkR_none] at h1
  exact ⟨w, t, h1, h2, h3⟩

end Go.AM
end
/-
  slices.Grow and Concat; vector.Merge and Raise. Own work of this project; in part printed by a program of it.
-/
section
set_option maxRecDepth 100000
set_option maxHeartbeats 8000000
namespace Go.AM
open Go Go.Proofs

variable {s t u : St}

def appzV (s : St) (sz bytes : Nat) (z : List AV) (a x : AV) : Option (AV × St) := match x with
  | .int .i64 n => if 0 ≤ n ∧ n ≤ 9223372036854775807 ∧ z.length = sz then aappend s sz bytes a (zeros z n.toNat) n.toNat else none
  | _ => none
theorem ae_appz {call : Nat → List AV → St → Option (AV × St)} {env : Env} (sz b : Nat) (z : List AV) (a x : AO) : aeff call env s (.appz sz b z a x) = appzV s sz b z (aev env a) (aev env x) := nrfl rfl
def capV : AV → Option AV
  | .sl _ _ _ (some c) _ => some (.int .i64 (c : Int))
  | .nils => some (.int .i64 0)
  | _ => none
theorem ap_cap {env : Env} (x : AO) : apure env (.cap x) = capV (aev env x) := nrfl (by
  simp only [apure, capV]
  cases aev env x with
  | sl id off len cap z => cases cap <;> rfl
  | _ => rfl)
theorem capV_nils : capV .nils = some (.int .i64 0) := nrfl rfl
theorem slcV_nils0 : slcV 2 .nils none (some (.int .i64 0)) = some .nils := nrfl rfl
theorem slcV_sl0 (j n : Nat) : slcV 2 (.sl j 0 n none 2) none (some (.int .i64 0)) = some (.sl j 0 0 none 2) := nrfl (by
  simp [slcV, optNat, asNatIn])
theorem appz_nil {n : Nat} (h0 : 0 < n) (hn : n ≤ 4000000) : appzV s 2 16 [.int .i64 0, .int .i64 0] .nils (.int .i64 (n : Int)) = some (.sl s.next 0 n none 2, s.push (.row (zeros [.int .i64 0, .int .i64 0] n) true)) := by
  simp only [appzV]
  rw [if_pos ⟨by omega, by omega, rfl⟩, Int.toNat_natCast]
  simp only [aappend]
  rw [if_neg (by omega), if_pos (by unfold roomBytes; omega)]
theorem wrap_0 : IntKind.i64.wrap (0 - 0) = 0 := by decide
theorem wrap_m0 {n : Nat} (h : n < 4611686018427387904) : IntKind.i64.wrap ((n : Int) - 0) = (n : Int) := by
  rw [Int.sub_zero]
  exact wrap_nat h
/-- Grown, but still empty; or a list of the caller's own. -/
def PreOwn (s t : St) (v : AV) (l : List Dot) : Prop := Own dotC s t v l ∨ (l = [] ∧ ∃ j cs, v = .sl j 0 0 none 2 ∧ s.next ≤ j ∧ t.get j = some (.row cs true))
theorem PreOwn.read {v : AV} {l : List Dot} (h : PreOwn s t v l) : read dotC t v = some l := by
  rcases h with h | ⟨rfl, j, cs, rfl, _, h⟩
  · exact h.read
  · exact read_of (C := dotC) (n := 0) rfl h (by omega) (by simp [cells_nil])
theorem PreOwn.mono {v : AV} {l : List Dot} (h : PreOwn s t v l) (k : ∀ id b, t.get id = some b → u.get id = some b) : PreOwn s u v l := h.imp (fun h => h.mono k) fun ⟨h1, j, cs, h2, h3, h4⟩ => ⟨h1, j, cs, h2, h3, k _ _ h4⟩
theorem PreOwn.app {v w : AV} {l m : List Dot} (hK : Keep s t) (h : PreOwn s t v l) (hr : AM.read dotC t w = some m) (hb : l.length + m.length ≤ 4000000) : ∃ v' t', appV t 2 16 v w = some (v', t') ∧ Keep s t' ∧ PreOwn s t' v' (l ++ m) := by
  rcases h with h | ⟨rfl, j, cs, rfl, h1, h⟩
  · obtain ⟨v', t', q1, q2, q3⟩ := appV_list hK h hr 16 (by unfold roomBytes; omega)
    exact ⟨v', t', q1, q2, .inl q3⟩
  · have h2 : dotC.sz = 2 := rfl
    simp only [appV]
    rw [← h2, read_shown hr, read_len hr]
    simp only [aappend, if_true, h]
    by_cases h0 : m.length = 0
    · have : m = [] := List.length_eq_zero_iff.1 h0
      subst this
      exact ⟨_, _, if_pos (rfl : ([] : List Dot).length = 0), hK, .inr ⟨rfl, j, cs, rfl, h1, h⟩⟩
    · rw [if_neg h0, if_pos ⟨by omega, by simp at hb; unfold roomBytes; omega⟩]
      refine ⟨_, _, rfl, (hK.put .dead h1 (St.get_lt h)).push _, .inl (.inr ⟨t.next, by simp, by simpa using h0, hK.next, ?_⟩)⟩
      have := St.get_push_new (t.put j .dead) (.row (dotC.cells m) true)
      simpa using this
noncomputable def R_GrowV : Con := runFn (tb []) a112
theorem s_GrowV : SoundAt Tryz.prog 112 R_GrowV := run_sound (tb_sound (l := []) (by simp)) mixed Tryz.func112 k112 c112
theorem n_GrowV : noNxtC a112.body = true := by kernel_rfl
theorem w_GrowV {s : St} {n : Nat} (hn : n ≤ 4000000) : ∀ env : Env, elen env = a112.ntmps → (∀ i x_, [.nils, .int .i64 (n : Int)][i]? = some x_ → E env i = x_) → awp (tb []) a112.body (fun x e t => (∀ i, x ≠ .exit i) ∧ ∃ r, aresults e t a112.results = some r ∧ PreOwn s t r [] ∧ Keep s t) env s := by
  intro env hlen ha
  have h0 : E env 0 = _ := ha 0 _ rfl
  have h1 : E env 1 = _ := ha 1 _ rfl
  have hlen : elen env = _ := hlen
  simp only [a112] at hlen
  unfold a112
  try dsimp only [oO, oG]
  have hw := wrap_m0 (n := n) (by omega)
  have hz : ((n : Int) < 0) = False := eq_false (by omega)
  by_cases h0n : n = 0
  · have hz2 : ((0 : Int) < (n : Int)) = False := eq_false (by omega)
    simp (config := {contextual := true, maxDischargeDepth := 12}) only [tb_at, h0, h1, hlen, lenV_nils, hw, hz, hz2, ↓bD, bU, forall_const, bS, implies_true, isNx, eq_self, ↓wp_cond, ↓wp_loop, ↓reduceIte, reduceCtorEq, Nat.reduceEqDiff, Nat.reduceLT, Nat.reduceAdd, Nat.reduceMul, bT, ↓sg_bsl, ↓st_callf, bX, ap_mkfn, ae_callvV, callvV_fn, List.cons_append, List.nil_append, boxV_i, boxV_dot, sto_dot, ap_conv, convV_int, bslV_0, fstep_d0, fstep_d1, bsl_dot, ae_appz, ap_cap, capV_nils, slcV_nils0, slcV_sl0, wrap_0]
    exact ⟨_, rfl, .inl (.nil _ _ _)⟩
  · have hz2 : ((0 : Int) < (n : Int)) = True := eq_true (by omega)
    have ha := appz_nil (s := s) (n := n) (by omega) hn
    simp (config := {contextual := true, maxDischargeDepth := 12}) only [tb_at, h0, h1, hlen, lenV_nils, hw, hz, hz2, ha, ↓bD, bU, forall_const, bS, implies_true, isNx, eq_self, ↓wp_cond, ↓wp_loop, ↓reduceIte, reduceCtorEq, Nat.reduceEqDiff, Nat.reduceLT, Nat.reduceAdd, Nat.reduceMul, bT, ↓sg_bsl, ↓st_callf, bX, ap_mkfn, ae_callvV, callvV_fn, List.cons_append, List.nil_append, boxV_i, boxV_dot, sto_dot, ap_conv, convV_int, bslV_0, fstep_d0, fstep_d1, bsl_dot, ae_appz, ap_cap, capV_nils, slcV_nils0, slcV_sl0, wrap_0]
    exact ⟨_, rfl, .inr ⟨rfl, s.next, _, rfl, Nat.le_refl _, St.get_push_new _ _⟩⟩
theorem q_GrowV {s : St} {n : Nat} (hn : n ≤ 4000000) : ∃ w t, acall R_GrowV false [.nils, .int .i64 (n : Int)] s = some (w, t) ∧ PreOwn s t w [] ∧ Keep s t :=
  run_any n_GrowV (by simp [a112]) (fun r t t' hg hn hq => hq.mono fun id b hb => by rw [hg]; exact hb) (fun r t hgr hk hq => by
    rcases hq with hq | ⟨_, j, cs, rfl, _⟩
    · obtain ⟨rfl, _⟩ := hq.ground hgr
      exact .inl (.nil _ _ _)
    · cases hgr) (w_GrowV (s := lowd s) hn)
noncomputable def R_GrowD : Con := runFn (tb []) a114
theorem s_GrowD : SoundAt Tryz.prog 114 R_GrowD := run_sound (tb_sound (l := []) (by simp)) mixed Tryz.func114 k114 c114
theorem n_GrowD : noNxtC a114.body = true := by kernel_rfl
theorem w_GrowD {s : St} {n : Nat} (hn : n ≤ 4000000) : ∀ env : Env, elen env = a114.ntmps → (∀ i x_, [.nils, .int .i64 (n : Int)][i]? = some x_ → E env i = x_) → awp (tb []) a114.body (fun x e t => (∀ i, x ≠ .exit i) ∧ ∃ r, aresults e t a114.results = some r ∧ PreOwn s t r [] ∧ Keep s t) env s := by
  intro env hlen ha
  have h0 : E env 0 = _ := ha 0 _ rfl
  have h1 : E env 1 = _ := ha 1 _ rfl
  have hlen : elen env = _ := hlen
  simp only [a114] at hlen
  unfold a114
  try dsimp only [oO, oG]
  have hw := wrap_m0 (n := n) (by omega)
  have hz : ((n : Int) < 0) = False := eq_false (by omega)
  by_cases h0n : n = 0
  · have hz2 : ((0 : Int) < (n : Int)) = False := eq_false (by omega)
    simp (config := {contextual := true, maxDischargeDepth := 12}) only [tb_at, h0, h1, hlen, lenV_nils, hw, hz, hz2, ↓bD, bU, forall_const, bS, implies_true, isNx, eq_self, ↓wp_cond, ↓wp_loop, ↓reduceIte, reduceCtorEq, Nat.reduceEqDiff, Nat.reduceLT, Nat.reduceAdd, Nat.reduceMul, bT, ↓sg_bsl, ↓st_callf, bX, ap_mkfn, ae_callvV, callvV_fn, List.cons_append, List.nil_append, boxV_i, boxV_dot, sto_dot, ap_conv, convV_int, bslV_0, fstep_d0, fstep_d1, bsl_dot, ae_appz, ap_cap, capV_nils, slcV_nils0, slcV_sl0, wrap_0]
    exact ⟨_, rfl, .inl (.nil _ _ _)⟩
  · have hz2 : ((0 : Int) < (n : Int)) = True := eq_true (by omega)
    have ha := appz_nil (s := s) (n := n) (by omega) hn
    simp (config := {contextual := true, maxDischargeDepth := 12}) only [tb_at, h0, h1, hlen, lenV_nils, hw, hz, hz2, ha, ↓bD, bU, forall_const, bS, implies_true, isNx, eq_self, ↓wp_cond, ↓wp_loop, ↓reduceIte, reduceCtorEq, Nat.reduceEqDiff, Nat.reduceLT, Nat.reduceAdd, Nat.reduceMul, bT, ↓sg_bsl, ↓st_callf, bX, ap_mkfn, ae_callvV, callvV_fn, List.cons_append, List.nil_append, boxV_i, boxV_dot, sto_dot, ap_conv, convV_int, bslV_0, fstep_d0, fstep_d1, bsl_dot, ae_appz, ap_cap, capV_nils, slcV_nils0, slcV_sl0, wrap_0]
    exact ⟨_, rfl, .inr ⟨rfl, s.next, _, rfl, Nat.le_refl _, St.get_push_new _ _⟩⟩
theorem q_GrowD {s : St} {n : Nat} (hn : n ≤ 4000000) : ∃ w t, acall R_GrowD false [.nils, .int .i64 (n : Int)] s = some (w, t) ∧ PreOwn s t w [] ∧ Keep s t :=
  run_any n_GrowD (by simp [a114]) (fun r t t' hg hn hq => hq.mono fun id b hb => by rw [hg]; exact hb) (fun r t hgr hk hq => by
    rcases hq with hq | ⟨_, j, cs, rfl, _⟩
    · obtain ⟨rfl, _⟩ := hq.ground hgr
      exact .inl (.nil _ _ _)
    · cases hgr) (w_GrowD (s := lowd s) hn)

theorem two_facts {j : Nat} {a b : AV} {own : Bool} (h : t.get j = some (.row [a, b] own)) : iadV 1 (.sl j 0 2 (some 2) 1) (.int .i64 0) = some (.ptr j 0) ∧ iadV 1 (.sl j 0 2 (some 2) 1) (.int .i64 1) = some (.ptr j 1) := by
  constructor <;> simp [iadV]
theorem bsl2D {a b : AV} {la lb : List Dot} (ha : read dotC s a = some la) (hb : read dotC s b = some lb) : bslV [.nils, .nils] 2 1 [(0, a), (1, b)] = some (fun id => .sl id 0 2 (some 2) 1, .row [a, b] true) := by
  obtain ⟨a1, a2⟩ := read_oneD ha
  obtain ⟨b1, b2⟩ := read_oneD hb
  simp [bslV, fillP, aev, a1, a2, b1, b2, setAt]
theorem wrap_addn {n m : Nat} (h : n + m < 4611686018427387904) : IntKind.i64.wrap ((n : Int) + (m : Int)) = ((n + m : Nat) : Int) := by
  have := wrap_nat (n := n + m) h
  rwa [Int.natCast_add] at this ⊢
noncomputable def R_ConcV : Con := runFn (tb [(112, R_GrowV)]) a101
theorem s_ConcV : SoundAt Tryz.prog 101 R_ConcV := run_sound (tb_sound (l := [(112, R_GrowV)]) (by simpa using s_GrowV)) mixed Tryz.func101 k101 c101
theorem n_ConcV : noNxtC a101.body = true := by kernel_rfl
theorem w_ConcV {s : St} {j : Nat} {a b : AV} {la lb : List Dot} {own : Bool} (hj : s.get j = some (.row [a, b] own)) (hra : read dotC s a = some la) (hrb : read dotC s b = some lb) (hla : la.length ≤ lim) (hlb : lb.length ≤ lim) : ∀ env : Env, elen env = a101.ntmps → (∀ i x_, [.sl j 0 2 (some 2) 1][i]? = some x_ → E env i = x_) → awp (tb [(112, R_GrowV)]) a101.body (fun x e t => (∀ i, x ≠ .exit i) ∧ ∃ r, aresults e t a101.results = some r ∧ read dotC t r = some (la ++ lb) ∧ Keep s t) env s := by
  intro env hlen ha
  have h0 : E env 0 = _ := ha 0 _ rfl
  have hlen : elen env = _ := hlen
  simp only [a101] at hlen
  unfold a101
  try dsimp only [oO, oG]
  have hL2 : lenV (.sl j 0 2 (some 2) 1) = some (.int .i64 2) := rfl
  obtain ⟨j1, j2, jlt⟩ := row2_lod hj
  obtain ⟨x1, x2⟩ := two_facts hj
  have hLa := lenV_read hra
  have hLb := lenV_read hrb
  have wa : IntKind.i64.wrap (((0 : Nat) : Int) + (la.length : Int)) = (la.length : Int) := by
    have := wrap_addn (n := 0) (m := la.length) (by unfold lim at hla; omega)
    rwa [Nat.zero_add] at this
  have wb := wrap_addn (n := la.length) (m := lb.length) (by unfold lim at hla hlb; omega)
  have z1 : ((la.length : Int) < 0) = False := eq_false (by omega)
  have z2 : (((la.length + lb.length : Nat) : Int) < 0) = False := eq_false (by omega)
  simp (config := {contextual := true, maxDischargeDepth := 12}) only [tb_at, h0, hlen, hL2, ↓bD, bU, forall_const, bS, implies_true, isNx, eq_self, ↓wp_cond, ↓wp_loop, ↓reduceIte, reduceCtorEq, Nat.reduceEqDiff, Nat.reduceLT, Nat.reduceAdd, Nat.reduceMul, bT, ↓sg_bsl, ↓st_callf, bX, ap_mkfn, ae_callvV, callvV_fn, List.cons_append, List.nil_append, boxV_i, boxV_dot, sto_dot, ap_conv, convV_int, bslV_0, fstep_d0, fstep_d1, bsl_dot, ae_appz, ap_cap, capV_nils, slcV_nils0, slcV_sl0, wrap_0]
  obtain ⟨I, hI⟩ : ∃ I : Nat → Env → St → Prop, ∀ n e t, I n e t = (t = s ∧ ∃ i : Nat, n + i = 2 ∧ elen e = 36 ∧ E e 0 = .sl j 0 2 (some 2) 1 ∧ E e 9 = .sl j 0 2 (some 2) 1 ∧ E e 10 = .int .i64 2 ∧ E e 11 = .int .i64 (i : Int) ∧ E e 3 = .int .i64 (((if i = 0 then 0 else if i = 1 then la.length else la.length + lb.length) : Nat) : Int) ∧ i ≤ 2) := ⟨fun n e t => (t = s ∧ ∃ i : Nat, n + i = 2 ∧ elen e = 36 ∧ E e 0 = .sl j 0 2 (some 2) 1 ∧ E e 9 = .sl j 0 2 (some 2) 1 ∧ E e 10 = .int .i64 2 ∧ E e 11 = .int .i64 (i : Int) ∧ E e 3 = .int .i64 (((if i = 0 then 0 else if i = 1 then la.length else la.length + lb.length) : Nat) : Int) ∧ i ≤ 2), fun _ _ _ => rfl⟩
  refine lwp_inv I (n := 2) ?_ ?_
  · rw [hI]
    exact ⟨rfl, 0, by omega, (by simp only [bE, Nat.reduceEqDiff, bN, Nat.reduceLT, hlen]; try rfl), (by simp only [bE, Nat.reduceEqDiff, bN, Nat.reduceLT, hlen, h0]; try rfl), (by simp only [bE, Nat.reduceEqDiff, bN, Nat.reduceLT, hlen, h0]; try rfl), (by simp only [bE, Nat.reduceEqDiff, bN, Nat.reduceLT, hlen]; try rfl), (by simp only [bE, Nat.reduceEqDiff, bN, Nat.reduceLT, hlen]; try rfl), (by simp only [bE, Nat.reduceEqDiff, bN, Nat.reduceLT, hlen]; try rfl), by omega⟩
  intro n e t hi
  rw [hI] at hi
  obtain ⟨hK, i, hni, he, e0, e9, e10, e11, e3, hi2⟩ := hi
  have hK := hK.symm
  subst hK
  have w01 : IntKind.i64.wrap (0 + 1) = 1 := by decide
  have w11 : IntKind.i64.wrap (1 + 1) = 2 := by decide
  by_cases hi0 : i = 0
  · subst hi0
    have zz : (((0 : Nat) : Int) < 2) = True := eq_true (by decide)
    simp only [if_true] at e3
    have e11 : E e 11 = .int .i64 0 := e11
    simp (config := {contextual := true, maxDischargeDepth := 12}) only [tb_at, he, e0, e9, e10, e11, e3, hL2, zz, j1, jlt, x1, hLa, wa, z1, w01, Int.reduceLT, ↓bD, bU, forall_const, bS, implies_true, isNx, eq_self, ↓wp_cond, ↓wp_loop, ↓reduceIte, reduceCtorEq, Nat.reduceEqDiff, Nat.reduceLT, Nat.reduceAdd, Nat.reduceMul, bT, ↓sg_bsl, ↓st_callf, bX, ap_mkfn, ae_callvV, callvV_fn, List.cons_append, List.nil_append, boxV_i, boxV_dot, sto_dot, ap_conv, convV_int, bslV_0, fstep_d0, fstep_d1, bsl_dot, ae_appz, ap_cap, capV_nils, slcV_nils0, slcV_sl0, wrap_0]
    refine ⟨1, by omega, ?_⟩
    rw [hI]
    exact ⟨rfl, 1, by omega, (by simp only [bE, Nat.reduceEqDiff, bN, Nat.reduceLT, he, e0, e9, e10, e11, e3]; try rfl), (by simp only [bE, Nat.reduceEqDiff, bN, Nat.reduceLT, he, e0, e9, e10, e11, e3]; try rfl), (by simp only [bE, Nat.reduceEqDiff, bN, Nat.reduceLT, he, e0, e9, e10, e11, e3]; try rfl), (by simp only [bE, Nat.reduceEqDiff, bN, Nat.reduceLT, he, e0, e9, e10, e11, e3]; try rfl), (by simp only [bE, Nat.reduceEqDiff, bN, Nat.reduceLT, he, e0, e9, e10, e11, e3]; try rfl), (by simp only [bE, Nat.reduceEqDiff, bN, Nat.reduceLT, he, e0, e9, e10, e11, e3]; try rfl), by omega⟩
  by_cases hi1 : i = 1
  · subst hi1
    simp only [if_true, Nat.one_ne_zero, if_false] at e3
    have e11 : E e 11 = .int .i64 1 := e11
    simp (config := {contextual := true, maxDischargeDepth := 12}) only [tb_at, he, e0, e9, e10, e11, e3, hL2, j2, jlt, x2, hLb, wb, z2, w11, Int.reduceLT, ↓bD, bU, forall_const, bS, implies_true, isNx, eq_self, ↓wp_cond, ↓wp_loop, ↓reduceIte, reduceCtorEq, Nat.reduceEqDiff, Nat.reduceLT, Nat.reduceAdd, Nat.reduceMul, bT, ↓sg_bsl, ↓st_callf, bX, ap_mkfn, ae_callvV, callvV_fn, List.cons_append, List.nil_append, boxV_i, boxV_dot, sto_dot, ap_conv, convV_int, bslV_0, fstep_d0, fstep_d1, bsl_dot, ae_appz, ap_cap, capV_nils, slcV_nils0, slcV_sl0, wrap_0]
    refine ⟨0, by omega, ?_⟩
    rw [hI]
    exact ⟨rfl, 2, by omega, (by simp only [bE, Nat.reduceEqDiff, bN, Nat.reduceLT, he, e0, e9, e10, e11, e3]; try rfl), (by simp only [bE, Nat.reduceEqDiff, bN, Nat.reduceLT, he, e0, e9, e10, e11, e3]; try rfl), (by simp only [bE, Nat.reduceEqDiff, bN, Nat.reduceLT, he, e0, e9, e10, e11, e3]; try rfl), (by simp only [bE, Nat.reduceEqDiff, bN, Nat.reduceLT, he, e0, e9, e10, e11, e3]; try rfl), (by simp only [bE, Nat.reduceEqDiff, bN, Nat.reduceLT, he, e0, e9, e10, e11, e3]; try rfl), (by simp only [bE, Nat.reduceEqDiff, bN, Nat.reduceLT, he, e0, e9, e10, e11, e3]; try rfl), by omega⟩
  obtain rfl : i = 2 := by omega
  simp only [Nat.reduceEqDiff, if_false] at e3
  have e11 : E e 11 = .int .i64 2 := e11
  obtain ⟨w0, t1, hgr, hP0, hK1⟩ := q_GrowV (s := s) (n := la.length + lb.length) (by unfold lim at hla hlb; omega)
  simp (config := {contextual := true, maxDischargeDepth := 12}) only [tb_at, he, e0, e9, e10, e11, e3, hL2, hgr, Int.reduceLT, ↓bD, bU, forall_const, bS, implies_true, isNx, eq_self, ↓wp_cond, ↓wp_loop, ↓reduceIte, reduceCtorEq, Nat.reduceEqDiff, Nat.reduceLT, Nat.reduceAdd, Nat.reduceMul, bT, ↓sg_bsl, ↓st_callf, bX, ap_mkfn, ae_callvV, callvV_fn, List.cons_append, List.nil_append, boxV_i, boxV_dot, sto_dot, ap_conv, convV_int, bslV_0, fstep_d0, fstep_d1, bsl_dot, ae_appz, ap_cap, capV_nils, slcV_nils0, slcV_sl0, wrap_0]
  obtain ⟨I2, hI2⟩ : ∃ I : Nat → Env → St → Prop, ∀ n e t, I n e t = (Keep s t ∧ ∃ i : Nat, n + i = 2 ∧ elen e = 36 ∧ E e 25 = .sl j 0 2 (some 2) 1 ∧ E e 26 = .int .i64 2 ∧ E e 27 = .int .i64 (i : Int) ∧ i ≤ 2 ∧ PreOwn s t (E e 6) (if i = 0 then [] else if i = 1 then la else la ++ lb)) := ⟨fun n e t => (Keep s t ∧ ∃ i : Nat, n + i = 2 ∧ elen e = 36 ∧ E e 25 = .sl j 0 2 (some 2) 1 ∧ E e 26 = .int .i64 2 ∧ E e 27 = .int .i64 (i : Int) ∧ i ≤ 2 ∧ PreOwn s t (E e 6) (if i = 0 then [] else if i = 1 then la else la ++ lb)), fun _ _ _ => rfl⟩
  refine lwp_inv I2 (n := 2) ?_ ?_
  · rw [hI2]
    exact ⟨hK1, 0, by omega, (by simp only [bE, Nat.reduceEqDiff, bN, Nat.reduceLT, he]; try rfl), (by simp only [bE, Nat.reduceEqDiff, bN, Nat.reduceLT, he, e0]; try rfl), (by simp only [bE, Nat.reduceEqDiff, bN, Nat.reduceLT, he]; try rfl), (by simp only [bE, Nat.reduceEqDiff, bN, Nat.reduceLT, he]; try rfl), by omega, by simp only [bE, Nat.reduceEqDiff, bN, Nat.reduceLT, he]; exact hP0⟩
  clear e11 e3 he e0 hgr hP0 hK1
  intro n e t2 hi
  rw [hI2] at hi
  obtain ⟨hK, i, hni, he, e25, e26, e27, hi2, hP⟩ := hi
  have hj2 := hK.blk hj
  obtain ⟨j1, j2, jlt⟩ := row2_lod hj2
  by_cases hi0 : i = 0
  · subst hi0
    simp only [if_true] at hP
    have e27 : E e 27 = .int .i64 0 := e27
    obtain ⟨v', t', hap, hK', hP'⟩ := hP.app hK (hK.read hra) (by simp; unfold lim at hla; omega)
    simp (config := {contextual := true, maxDischargeDepth := 12}) only [tb_at, he, e25, e26, e27, j1, jlt, x1, hap, w01, Int.reduceLT, ↓bD, bU, forall_const, bS, implies_true, isNx, eq_self, ↓wp_cond, ↓wp_loop, ↓reduceIte, reduceCtorEq, Nat.reduceEqDiff, Nat.reduceLT, Nat.reduceAdd, Nat.reduceMul, bT, ↓sg_bsl, ↓st_callf, bX, ap_mkfn, ae_callvV, callvV_fn, List.cons_append, List.nil_append, boxV_i, boxV_dot, sto_dot, ap_conv, convV_int, bslV_0, fstep_d0, fstep_d1, bsl_dot, ae_appz, ap_cap, capV_nils, slcV_nils0, slcV_sl0, wrap_0]
    refine ⟨1, by omega, ?_⟩
    rw [hI2]
    exact ⟨hK', 1, by omega, (by simp only [bE, Nat.reduceEqDiff, bN, Nat.reduceLT, he]; try rfl), (by simp only [bE, Nat.reduceEqDiff, bN, Nat.reduceLT, he, e25]; try rfl), (by simp only [bE, Nat.reduceEqDiff, bN, Nat.reduceLT, he, e26]; try rfl), (by simp only [bE, Nat.reduceEqDiff, bN, Nat.reduceLT, he]; try rfl), by omega, by simp only [bE, Nat.reduceEqDiff, bN, Nat.reduceLT, he]; exact hP'⟩
  by_cases hi1 : i = 1
  · subst hi1
    simp only [if_true, Nat.one_ne_zero, if_false] at hP
    have e27 : E e 27 = .int .i64 1 := e27
    obtain ⟨v', t', hap, hK', hP'⟩ := hP.app hK (hK.read hrb) (by unfold lim at hla hlb; omega)
    simp (config := {contextual := true, maxDischargeDepth := 12}) only [tb_at, he, e25, e26, e27, j2, jlt, x2, hap, w11, Int.reduceLT, ↓bD, bU, forall_const, bS, implies_true, isNx, eq_self, ↓wp_cond, ↓wp_loop, ↓reduceIte, reduceCtorEq, Nat.reduceEqDiff, Nat.reduceLT, Nat.reduceAdd, Nat.reduceMul, bT, ↓sg_bsl, ↓st_callf, bX, ap_mkfn, ae_callvV, callvV_fn, List.cons_append, List.nil_append, boxV_i, boxV_dot, sto_dot, ap_conv, convV_int, bslV_0, fstep_d0, fstep_d1, bsl_dot, ae_appz, ap_cap, capV_nils, slcV_nils0, slcV_sl0, wrap_0]
    refine ⟨0, by omega, ?_⟩
    rw [hI2]
    exact ⟨hK', 2, by omega, (by simp only [bE, Nat.reduceEqDiff, bN, Nat.reduceLT, he]; try rfl), (by simp only [bE, Nat.reduceEqDiff, bN, Nat.reduceLT, he, e25]; try rfl), (by simp only [bE, Nat.reduceEqDiff, bN, Nat.reduceLT, he, e26]; try rfl), (by simp only [bE, Nat.reduceEqDiff, bN, Nat.reduceLT, he]; try rfl), by omega, by simp only [bE, Nat.reduceEqDiff, bN, Nat.reduceLT, he]; exact hP'⟩
  obtain rfl : i = 2 := by omega
  simp only [Nat.reduceEqDiff, if_false] at hP
  have e27 : E e 27 = .int .i64 2 := e27
  simp (config := {contextual := true, maxDischargeDepth := 12}) only [tb_at, he, e25, e26, e27, Int.reduceLT, ↓bD, bU, forall_const, bS, implies_true, isNx, eq_self, ↓wp_cond, ↓wp_loop, ↓reduceIte, reduceCtorEq, Nat.reduceEqDiff, Nat.reduceLT, Nat.reduceAdd, Nat.reduceMul, bT, ↓sg_bsl, ↓st_callf, bX, ap_mkfn, ae_callvV, callvV_fn, List.cons_append, List.nil_append, boxV_i, boxV_dot, sto_dot, ap_conv, convV_int, bslV_0, fstep_d0, fstep_d1, bsl_dot, ae_appz, ap_cap, capV_nils, slcV_nils0, slcV_sl0, wrap_0]
  first | exact ⟨_, rfl, hP.read, hK⟩ | exact ⟨hP.read, hK⟩
theorem q_ConcV {s : St} {j : Nat} {a b : AV} {la lb : List Dot} {own : Bool} (hj : s.get j = some (.row [a, b] own)) (hra : read dotC s a = some la) (hrb : read dotC s b = some lb) (hla : la.length ≤ lim) (hlb : lb.length ≤ lim) : ∃ w t, acall R_ConcV false [.sl j 0 2 (some 2) 1] s = some (w, t) ∧ read dotC t w = some (la ++ lb) ∧ Keep s t :=
  run_any n_ConcV (by simp [a101]) (fun r t t' hg hn hq => read_mono hq fun id b hrb => by rw [hg]; exact hrb) (fun r t hgr hk hq => by
    obtain ⟨rfl, h⟩ := read_ground hq hgr
    rw [h]; rfl) (w_ConcV (s := lowd s) hj (read_low' hra) (read_low' hrb) hla hlb)
noncomputable def R_ConcD : Con := runFn (tb [(114, R_GrowD)]) a104
theorem s_ConcD : SoundAt Tryz.prog 104 R_ConcD := run_sound (tb_sound (l := [(114, R_GrowD)]) (by simpa using s_GrowD)) mixed Tryz.func104 k104 c104
theorem n_ConcD : noNxtC a104.body = true := by kernel_rfl
theorem w_ConcD {s : St} {j : Nat} {a b : AV} {la lb : List Dot} {own : Bool} (hj : s.get j = some (.row [a, b] own)) (hra : read dotC s a = some la) (hrb : read dotC s b = some lb) (hla : la.length ≤ lim) (hlb : lb.length ≤ lim) : ∀ env : Env, elen env = a104.ntmps → (∀ i x_, [.sl j 0 2 (some 2) 1][i]? = some x_ → E env i = x_) → awp (tb [(114, R_GrowD)]) a104.body (fun x e t => (∀ i, x ≠ .exit i) ∧ ∃ r, aresults e t a104.results = some r ∧ read dotC t r = some (la ++ lb) ∧ Keep s t) env s := by
  intro env hlen ha
  have h0 : E env 0 = _ := ha 0 _ rfl
  have hlen : elen env = _ := hlen
  simp only [a104] at hlen
  unfold a104
  try dsimp only [oO, oG]
  have hL2 : lenV (.sl j 0 2 (some 2) 1) = some (.int .i64 2) := rfl
  obtain ⟨j1, j2, jlt⟩ := row2_lod hj
  obtain ⟨x1, x2⟩ := two_facts hj
  have hLa := lenV_read hra
  have hLb := lenV_read hrb
  have wa : IntKind.i64.wrap (((0 : Nat) : Int) + (la.length : Int)) = (la.length : Int) := by
    have := wrap_addn (n := 0) (m := la.length) (by unfold lim at hla; omega)
    rwa [Nat.zero_add] at this
  have wb := wrap_addn (n := la.length) (m := lb.length) (by unfold lim at hla hlb; omega)
  have z1 : ((la.length : Int) < 0) = False := eq_false (by omega)
  have z2 : (((la.length + lb.length : Nat) : Int) < 0) = False := eq_false (by omega)
  simp (config := {contextual := true, maxDischargeDepth := 12}) only [tb_at, h0, hlen, hL2, ↓bD, bU, forall_const, bS, implies_true, isNx, eq_self, ↓wp_cond, ↓wp_loop, ↓reduceIte, reduceCtorEq, Nat.reduceEqDiff, Nat.reduceLT, Nat.reduceAdd, Nat.reduceMul, bT, ↓sg_bsl, ↓st_callf, bX, ap_mkfn, ae_callvV, callvV_fn, List.cons_append, List.nil_append, boxV_i, boxV_dot, sto_dot, ap_conv, convV_int, bslV_0, fstep_d0, fstep_d1, bsl_dot, ae_appz, ap_cap, capV_nils, slcV_nils0, slcV_sl0, wrap_0]
  obtain ⟨I, hI⟩ : ∃ I : Nat → Env → St → Prop, ∀ n e t, I n e t = (t = s ∧ ∃ i : Nat, n + i = 2 ∧ elen e = 36 ∧ E e 0 = .sl j 0 2 (some 2) 1 ∧ E e 9 = .sl j 0 2 (some 2) 1 ∧ E e 10 = .int .i64 2 ∧ E e 11 = .int .i64 (i : Int) ∧ E e 3 = .int .i64 (((if i = 0 then 0 else if i = 1 then la.length else la.length + lb.length) : Nat) : Int) ∧ i ≤ 2) := ⟨fun n e t => (t = s ∧ ∃ i : Nat, n + i = 2 ∧ elen e = 36 ∧ E e 0 = .sl j 0 2 (some 2) 1 ∧ E e 9 = .sl j 0 2 (some 2) 1 ∧ E e 10 = .int .i64 2 ∧ E e 11 = .int .i64 (i : Int) ∧ E e 3 = .int .i64 (((if i = 0 then 0 else if i = 1 then la.length else la.length + lb.length) : Nat) : Int) ∧ i ≤ 2), fun _ _ _ => rfl⟩
  refine lwp_inv I (n := 2) ?_ ?_
  · rw [hI]
    exact ⟨rfl, 0, by omega, (by simp only [bE, Nat.reduceEqDiff, bN, Nat.reduceLT, hlen]; try rfl), (by simp only [bE, Nat.reduceEqDiff, bN, Nat.reduceLT, hlen, h0]; try rfl), (by simp only [bE, Nat.reduceEqDiff, bN, Nat.reduceLT, hlen, h0]; try rfl), (by simp only [bE, Nat.reduceEqDiff, bN, Nat.reduceLT, hlen]; try rfl), (by simp only [bE, Nat.reduceEqDiff, bN, Nat.reduceLT, hlen]; try rfl), (by simp only [bE, Nat.reduceEqDiff, bN, Nat.reduceLT, hlen]; try rfl), by omega⟩
  intro n e t hi
  rw [hI] at hi
  obtain ⟨hK, i, hni, he, e0, e9, e10, e11, e3, hi2⟩ := hi
  have hK := hK.symm
  subst hK
  have w01 : IntKind.i64.wrap (0 + 1) = 1 := by decide
  have w11 : IntKind.i64.wrap (1 + 1) = 2 := by decide
  by_cases hi0 : i = 0
  · subst hi0
    have zz : (((0 : Nat) : Int) < 2) = True := eq_true (by decide)
    simp only [if_true] at e3
    have e11 : E e 11 = .int .i64 0 := e11
    simp (config := {contextual := true, maxDischargeDepth := 12}) only [tb_at, he, e0, e9, e10, e11, e3, hL2, zz, j1, jlt, x1, hLa, wa, z1, w01, Int.reduceLT, ↓bD, bU, forall_const, bS, implies_true, isNx, eq_self, ↓wp_cond, ↓wp_loop, ↓reduceIte, reduceCtorEq, Nat.reduceEqDiff, Nat.reduceLT, Nat.reduceAdd, Nat.reduceMul, bT, ↓sg_bsl, ↓st_callf, bX, ap_mkfn, ae_callvV, callvV_fn, List.cons_append, List.nil_append, boxV_i, boxV_dot, sto_dot, ap_conv, convV_int, bslV_0, fstep_d0, fstep_d1, bsl_dot, ae_appz, ap_cap, capV_nils, slcV_nils0, slcV_sl0, wrap_0]
    refine ⟨1, by omega, ?_⟩
    rw [hI]
    exact ⟨rfl, 1, by omega, (by simp only [bE, Nat.reduceEqDiff, bN, Nat.reduceLT, he, e0, e9, e10, e11, e3]; try rfl), (by simp only [bE, Nat.reduceEqDiff, bN, Nat.reduceLT, he, e0, e9, e10, e11, e3]; try rfl), (by simp only [bE, Nat.reduceEqDiff, bN, Nat.reduceLT, he, e0, e9, e10, e11, e3]; try rfl), (by simp only [bE, Nat.reduceEqDiff, bN, Nat.reduceLT, he, e0, e9, e10, e11, e3]; try rfl), (by simp only [bE, Nat.reduceEqDiff, bN, Nat.reduceLT, he, e0, e9, e10, e11, e3]; try rfl), (by simp only [bE, Nat.reduceEqDiff, bN, Nat.reduceLT, he, e0, e9, e10, e11, e3]; try rfl), by omega⟩
  by_cases hi1 : i = 1
  · subst hi1
    simp only [if_true, Nat.one_ne_zero, if_false] at e3
    have e11 : E e 11 = .int .i64 1 := e11
    simp (config := {contextual := true, maxDischargeDepth := 12}) only [tb_at, he, e0, e9, e10, e11, e3, hL2, j2, jlt, x2, hLb, wb, z2, w11, Int.reduceLT, ↓bD, bU, forall_const, bS, implies_true, isNx, eq_self, ↓wp_cond, ↓wp_loop, ↓reduceIte, reduceCtorEq, Nat.reduceEqDiff, Nat.reduceLT, Nat.reduceAdd, Nat.reduceMul, bT, ↓sg_bsl, ↓st_callf, bX, ap_mkfn, ae_callvV, callvV_fn, List.cons_append, List.nil_append, boxV_i, boxV_dot, sto_dot, ap_conv, convV_int, bslV_0, fstep_d0, fstep_d1, bsl_dot, ae_appz, ap_cap, capV_nils, slcV_nils0, slcV_sl0, wrap_0]
    refine ⟨0, by omega, ?_⟩
    rw [hI]
    exact ⟨rfl, 2, by omega, (by simp only [bE, Nat.reduceEqDiff, bN, Nat.reduceLT, he, e0, e9, e10, e11, e3]; try rfl), (by simp only [bE, Nat.reduceEqDiff, bN, Nat.reduceLT, he, e0, e9, e10, e11, e3]; try rfl), (by simp only [bE, Nat.reduceEqDiff, bN, Nat.reduceLT, he, e0, e9, e10, e11, e3]; try rfl), (by simp only [bE, Nat.reduceEqDiff, bN, Nat.reduceLT, he, e0, e9, e10, e11, e3]; try rfl), (by simp only [bE, Nat.reduceEqDiff, bN, Nat.reduceLT, he, e0, e9, e10, e11, e3]; try rfl), (by simp only [bE, Nat.reduceEqDiff, bN, Nat.reduceLT, he, e0, e9, e10, e11, e3]; try rfl), by omega⟩
  obtain rfl : i = 2 := by omega
  simp only [Nat.reduceEqDiff, if_false] at e3
  have e11 : E e 11 = .int .i64 2 := e11
  obtain ⟨w0, t1, hgr, hP0, hK1⟩ := q_GrowD (s := s) (n := la.length + lb.length) (by unfold lim at hla hlb; omega)
  simp (config := {contextual := true, maxDischargeDepth := 12}) only [tb_at, he, e0, e9, e10, e11, e3, hL2, hgr, Int.reduceLT, ↓bD, bU, forall_const, bS, implies_true, isNx, eq_self, ↓wp_cond, ↓wp_loop, ↓reduceIte, reduceCtorEq, Nat.reduceEqDiff, Nat.reduceLT, Nat.reduceAdd, Nat.reduceMul, bT, ↓sg_bsl, ↓st_callf, bX, ap_mkfn, ae_callvV, callvV_fn, List.cons_append, List.nil_append, boxV_i, boxV_dot, sto_dot, ap_conv, convV_int, bslV_0, fstep_d0, fstep_d1, bsl_dot, ae_appz, ap_cap, capV_nils, slcV_nils0, slcV_sl0, wrap_0]
  obtain ⟨I2, hI2⟩ : ∃ I : Nat → Env → St → Prop, ∀ n e t, I n e t = (Keep s t ∧ ∃ i : Nat, n + i = 2 ∧ elen e = 36 ∧ E e 25 = .sl j 0 2 (some 2) 1 ∧ E e 26 = .int .i64 2 ∧ E e 27 = .int .i64 (i : Int) ∧ i ≤ 2 ∧ PreOwn s t (E e 6) (if i = 0 then [] else if i = 1 then la else la ++ lb)) := ⟨fun n e t => (Keep s t ∧ ∃ i : Nat, n + i = 2 ∧ elen e = 36 ∧ E e 25 = .sl j 0 2 (some 2) 1 ∧ E e 26 = .int .i64 2 ∧ E e 27 = .int .i64 (i : Int) ∧ i ≤ 2 ∧ PreOwn s t (E e 6) (if i = 0 then [] else if i = 1 then la else la ++ lb)), fun _ _ _ => rfl⟩
  refine lwp_inv I2 (n := 2) ?_ ?_
  · rw [hI2]
    exact ⟨hK1, 0, by omega, (by simp only [bE, Nat.reduceEqDiff, bN, Nat.reduceLT, he]; try rfl), (by simp only [bE, Nat.reduceEqDiff, bN, Nat.reduceLT, he, e0]; try rfl), (by simp only [bE, Nat.reduceEqDiff, bN, Nat.reduceLT, he]; try rfl), (by simp only [bE, Nat.reduceEqDiff, bN, Nat.reduceLT, he]; try rfl), by omega, by simp only [bE, Nat.reduceEqDiff, bN, Nat.reduceLT, he]; exact hP0⟩
  clear e11 e3 he e0 hgr hP0 hK1
  intro n e t2 hi
  rw [hI2] at hi
  obtain ⟨hK, i, hni, he, e25, e26, e27, hi2, hP⟩ := hi
  have hj2 := hK.blk hj
  obtain ⟨j1, j2, jlt⟩ := row2_lod hj2
  by_cases hi0 : i = 0
  · subst hi0
    simp only [if_true] at hP
    have e27 : E e 27 = .int .i64 0 := e27
    obtain ⟨v', t', hap, hK', hP'⟩ := hP.app hK (hK.read hra) (by simp; unfold lim at hla; omega)
    simp (config := {contextual := true, maxDischargeDepth := 12}) only [tb_at, he, e25, e26, e27, j1, jlt, x1, hap, w01, Int.reduceLT, ↓bD, bU, forall_const, bS, implies_true, isNx, eq_self, ↓wp_cond, ↓wp_loop, ↓reduceIte, reduceCtorEq, Nat.reduceEqDiff, Nat.reduceLT, Nat.reduceAdd, Nat.reduceMul, bT, ↓sg_bsl, ↓st_callf, bX, ap_mkfn, ae_callvV, callvV_fn, List.cons_append, List.nil_append, boxV_i, boxV_dot, sto_dot, ap_conv, convV_int, bslV_0, fstep_d0, fstep_d1, bsl_dot, ae_appz, ap_cap, capV_nils, slcV_nils0, slcV_sl0, wrap_0]
    refine ⟨1, by omega, ?_⟩
    rw [hI2]
    exact ⟨hK', 1, by omega, (by simp only [bE, Nat.reduceEqDiff, bN, Nat.reduceLT, he]; try rfl), (by simp only [bE, Nat.reduceEqDiff, bN, Nat.reduceLT, he, e25]; try rfl), (by simp only [bE, Nat.reduceEqDiff, bN, Nat.reduceLT, he, e26]; try rfl), (by simp only [bE, Nat.reduceEqDiff, bN, Nat.reduceLT, he]; try rfl), by omega, by simp only [bE, Nat.reduceEqDiff, bN, Nat.reduceLT, he]; exact hP'⟩
  by_cases hi1 : i = 1
  · subst hi1
    simp only [if_true, Nat.one_ne_zero, if_false] at hP
    have e27 : E e 27 = .int .i64 1 := e27
    obtain ⟨v', t', hap, hK', hP'⟩ := hP.app hK (hK.read hrb) (by unfold lim at hla hlb; omega)
    simp (config := {contextual := true, maxDischargeDepth := 12}) only [tb_at, he, e25, e26, e27, j2, jlt, x2, hap, w11, Int.reduceLT, ↓bD, bU, forall_const, bS, implies_true, isNx, eq_self, ↓wp_cond, ↓wp_loop, ↓reduceIte, reduceCtorEq, Nat.reduceEqDiff, Nat.reduceLT, Nat.reduceAdd, Nat.reduceMul, bT, ↓sg_bsl, ↓st_callf, bX, ap_mkfn, ae_callvV, callvV_fn, List.cons_append, List.nil_append, boxV_i, boxV_dot, sto_dot, ap_conv, convV_int, bslV_0, fstep_d0, fstep_d1, bsl_dot, ae_appz, ap_cap, capV_nils, slcV_nils0, slcV_sl0, wrap_0]
    refine ⟨0, by omega, ?_⟩
    rw [hI2]
    exact ⟨hK', 2, by omega, (by simp only [bE, Nat.reduceEqDiff, bN, Nat.reduceLT, he]; try rfl), (by simp only [bE, Nat.reduceEqDiff, bN, Nat.reduceLT, he, e25]; try rfl), (by simp only [bE, Nat.reduceEqDiff, bN, Nat.reduceLT, he, e26]; try rfl), (by simp only [bE, Nat.reduceEqDiff, bN, Nat.reduceLT, he]; try rfl), by omega, by simp only [bE, Nat.reduceEqDiff, bN, Nat.reduceLT, he]; exact hP'⟩
  obtain rfl : i = 2 := by omega
  simp only [Nat.reduceEqDiff, if_false] at hP
  have e27 : E e 27 = .int .i64 2 := e27
  simp (config := {contextual := true, maxDischargeDepth := 12}) only [tb_at, he, e25, e26, e27, Int.reduceLT, ↓bD, bU, forall_const, bS, implies_true, isNx, eq_self, ↓wp_cond, ↓wp_loop, ↓reduceIte, reduceCtorEq, Nat.reduceEqDiff, Nat.reduceLT, Nat.reduceAdd, Nat.reduceMul, bT, ↓sg_bsl, ↓st_callf, bX, ap_mkfn, ae_callvV, callvV_fn, List.cons_append, List.nil_append, boxV_i, boxV_dot, sto_dot, ap_conv, convV_int, bslV_0, fstep_d0, fstep_d1, bsl_dot, ae_appz, ap_cap, capV_nils, slcV_nils0, slcV_sl0, wrap_0]
  first | exact ⟨_, rfl, hP.read, hK⟩ | exact ⟨hP.read, hK⟩
theorem q_ConcD {s : St} {j : Nat} {a b : AV} {la lb : List Dot} {own : Bool} (hj : s.get j = some (.row [a, b] own)) (hra : read dotC s a = some la) (hrb : read dotC s b = some lb) (hla : la.length ≤ lim) (hlb : lb.length ≤ lim) : ∃ w t, acall R_ConcD false [.sl j 0 2 (some 2) 1] s = some (w, t) ∧ read dotC t w = some (la ++ lb) ∧ Keep s t :=
  run_any n_ConcD (by simp [a104]) (fun r t t' hg hn hq => read_mono hq fun id b hrb => by rw [hg]; exact hrb) (fun r t hgr hk hq => by
    obtain ⟨rfl, h⟩ := read_ground hq hgr
    rw [h]; rfl) (w_ConcD (s := lowd s) hj (read_low' hra) (read_low' hrb) hla hlb)
noncomputable def R_VMerge : Con := runFn (tb [(85, R_VValid), (101, R_ConcV), (100, conF dotC (pL dotC gMade))]) a79
theorem s_VMerge : SoundAt Tryz.prog 79 R_VMerge := run_sound (tb_sound (l := [(85, R_VValid), (101, R_ConcV), (100, conF dotC (pL dotC gMade))]) (by simpa using ⟨s_VValid, s_ConcV, s_VMade⟩)) mixed Tryz.func79 k79 c79
theorem n_VMerge : noNxtC a79.body = true := by kernel_rfl
theorem w_VMerge {s : St} {va vb : AV} {a b : List Dot} (hra : read dotC s va = some a) (hrb : read dotC s vb = some b) (hla : a.length ≤ 400000) (hlb : b.length ≤ 400000) (hva : vvalid a = true) (hvb : vvalid b = true) : ∀ env : Env, elen env = a79.ntmps → (∀ i x_, [va, vb][i]? = some x_ → E env i = x_) → awp (tb [(85, R_VValid), (101, R_ConcV), (100, conF dotC (pL dotC gMade))]) a79.body (fun x e t => (∀ i, x ≠ .exit i) ∧ Keep s t ∧ ∃ w, aresults e t a79.results = some (.tup [w, .int .i64 0]) ∧ Own dotC s t w (madeL (a ++ b))) env s := by
  intro env hlen ha
  have h0 : E env 0 = _ := ha 0 _ rfl
  have h1 : E env 1 = _ := ha 1 _ rfl
  have hlen : elen env = _ := hlen
  simp only [a79] at hlen
  unfold a79
  try dsimp only [oO, oG]
  have q1 := q_VValid false hra (by unfold lim; omega)
  have q2 := q_VValid false hrb (by unfold lim; omega)
  rw [hva] at q1
  rw [hvb] at q2
  have hbs := bsl2D hra hrb
  have hK1 : Keep s (s.push (.row [va, vb] true)) := (Keep.refl s).push _
  obtain ⟨w, t1, hc, hrw, hK2⟩ := q_ConcV (St.get_push_new s (.row [va, vb] true)) (hK1.read hra) (hK1.read hrb) (by unfold lim; omega) (by unfold lim; omega)
  obtain ⟨w2, t2, hm, hK3, hO⟩ := q_VMade hrw (by rw [List.length_append]; unfold lim; omega) (by rw [List.all_append, vvalid_all hva, vvalid_all hvb]; rfl)
  simp (config := {contextual := true, maxDischargeDepth := 12}) only [tb_at, h0, h1, hlen, q1, q2, hbs, hc, hm, notV_bool, ↓bD, bU, forall_const, bS, implies_true, isNx, eq_self, ↓wp_cond, ↓wp_loop, ↓reduceIte, reduceCtorEq, Nat.reduceEqDiff, Nat.reduceLT, Nat.reduceAdd, Nat.reduceMul, bT, ↓sg_bsl, ↓st_callf, bX, ap_mkfn, ae_callvV, callvV_fn, List.cons_append, List.nil_append, boxV_i, boxV_dot, sto_dot, ap_conv, convV_int, bslV_0, fstep_d0, fstep_d1, bsl_dot, ae_appz, ap_cap, capV_nils, slcV_nils0, slcV_sl0, wrap_0]
  have hn : s.next ≤ t1.next := (hK1.trans hK2).next
  exact ⟨(hK1.trans hK2).trans hK3, _, rfl, hO.from hn⟩
theorem q_VMerge {s : St} {va vb : AV} {a b : List Dot} (hra : read dotC s va = some a) (hrb : read dotC s vb = some b) (hla : a.length ≤ 400000) (hlb : b.length ≤ 400000) (hva : vvalid a = true) (hvb : vvalid b = true) : ∃ v t, acall R_VMerge false [va, vb] s = some (.tup [v, .int .i64 0], t) ∧ Own dotC s t v (madeL (a ++ b)) ∧ Keep s t := run_fresh n_VMerge (by simp [a79]) (fun v => .tup [v, .int .i64 0]) (fun _ _ _ _ _ => rfl) (w_VMerge (s := lowd s) (read_low' hra) (read_low' hrb) hla hlb hva hvb)

theorem raise_made {l : List Dot} {d : Dot} (h : vvalid l = true) : madeL (l ++ [d]) = raiseL l d := by
  rw [madeL_merge h]
  rfl
theorem vvalid_one {d : Dot} (h : d.valid = true) : vvalid [d] = true := by
  unfold vvalid
  simp [chain, h]
noncomputable def R_VRaise : Con := runFn (tb [(79, R_VMerge)]) a82
theorem s_VRaise : SoundAt Tryz.prog 82 R_VRaise := run_sound (tb_sound (l := [(79, R_VMerge)]) (by simpa using s_VMerge)) mixed Tryz.func82 k82 c82
theorem n_VRaise : noNxtC a82.body = true := by kernel_rfl
theorem w_VRaise {s : St} {vv : AV} {l : List Dot} (hr : read dotC s vv = some l) (hl : l.length ≤ 400000) (hv : vvalid l = true) {d : Dot} (hd : d.valid = true) : ∀ env : Env, elen env = a82.ntmps → (∀ i x_, [vv, .agg (Dot.av d)][i]? = some x_ → E env i = x_) → awp (tb [(79, R_VMerge)]) a82.body (fun x e t => (∀ i, x ≠ .exit i) ∧ Keep s t ∧ ∃ w, aresults e t a82.results = some (.tup [w, .int .i64 0]) ∧ Own dotC s t w (raiseL l d)) env s := by
  intro env hlen ha
  have h0 : E env 0 = _ := ha 0 _ rfl
  have h1 : E env 1 = _ := ha 1 _ rfl
  have hlen : elen env = _ := hlen
  simp only [a82] at hlen
  unfold a82
  try dsimp only [oO, oG]
  obtain ⟨b1, b2, b3, b4⟩ := box_dot s d (.refl _)
  have hK1 : Keep s ((s.push (.row (Dot.av d) true)).push (.row (Dot.av d) true)) := ((Keep.refl s).push _).push _
  have hr1 : read dotC ((s.push (.row (Dot.av d) true)).push (.row (Dot.av d) true)) (.sl (s.push (.row (Dot.av d) true)).next 0 1 (some 1) 2) = some [d] := by
    refine read_of (C := dotC) (n := 1) rfl (St.get_push_new _ _) (by simp [Dot.av, dotC]) ?_
    rw [cells_one]
    rfl
  obtain ⟨w, t, hq, hO, hK⟩ := q_VMerge (hK1.read hr) hr1 hl (by simp) hv (vvalid_one hd)
  rw [raise_made hv] at hO
  simp (config := {contextual := true, maxDischargeDepth := 12}) only [tb_at, h0, h1, hlen, b1, hq, ↓bD, bU, forall_const, bS, implies_true, isNx, eq_self, ↓wp_cond, ↓wp_loop, ↓reduceIte, reduceCtorEq, Nat.reduceEqDiff, Nat.reduceLT, Nat.reduceAdd, Nat.reduceMul, bT, ↓sg_bsl, ↓st_callf, bX, ap_mkfn, ae_callvV, callvV_fn, List.cons_append, List.nil_append, boxV_i, boxV_dot, sto_dot, ap_conv, convV_int, bslV_0, fstep_d0, fstep_d1, bsl_dot, ae_appz, ap_cap, capV_nils, slcV_nils0, slcV_sl0, wrap_0]
  exact ⟨hK1.trans hK, _, rfl, hO.from hK1.next⟩
theorem q_VRaise {s : St} {vv : AV} {l : List Dot} (hr : read dotC s vv = some l) (hl : l.length ≤ 400000) (hv : vvalid l = true) {d : Dot} (hd : d.valid = true) : ∃ v t, acall R_VRaise false [vv, .agg (Dot.av d)] s = some (.tup [v, .int .i64 0], t) ∧ Own dotC s t v (raiseL l d) ∧ Keep s t := run_fresh n_VRaise (by simp [a82]) (fun v => .tup [v, .int .i64 0]) (fun _ _ _ _ _ => rfl) (w_VRaise (s := lowd s) (read_low' hr) hl hv hd)

end Go.AM
end
/-
  slices.Compact at dots, dot.Set, dot.Union. Own work of this project; in part printed by a program of it.
-/
section
set_option maxRecDepth 100000
set_option maxHeartbeats 8000000
namespace Go.AM
open Go Go.Proofs

variable {s t u : St}

/-! ### Elements of a list of one's own -/
theorem slc_own (j n k : Nat) (cap : Option Nat) (h : k ≤ n) (hc : CapOK (.sl j 0 n cap 2)) : slcV 2 (.sl j 0 n cap 2) (some (.int .i64 (k : Int))) none = some (.sl j (k * 2) (n - k) (cap.map (· - k)) 2) ∧ slcV 2 (.sl j 0 n cap 2) none (some (.int .i64 (k : Int))) = some (.sl j 0 k cap 2) := by
  cases cap with
  | none => constructor <;> simp [slcV, optNat, asNatIn, h]
  | some c =>
    have := hc _ _ _ _ _ rfl
    constructor
    · simp [slcV, optNat, asNatIn, h]
    · have hkc : k ≤ c := by omega
      simp [slcV, optNat, asNatIn, hkc]
theorem cells_setD : ∀ (l : List Dot) (k : Nat) (d : Dot), k < l.length → setAt (dotC.cells l) (k * 2) (Dot.av d) = dotC.cells (l.set k d)
  | [], k, d, h => by simp at h
  | x :: l, 0, d, h => by
    have e : dotC.enc x = Dot.av x := rfl
    simp [setAt, cells_cons, e, Dot.av, dotC]
  | x :: l, k + 1, d, h => by
    have ih := cells_setD l k d (by simpa using h)
    have e : dotC.enc x = Dot.av x := rfl
    have h2 : (Dot.av x).length = 2 := rfl
    rw [List.set_cons_succ, cells_cons, cells_cons, ← ih, e]
    simp only [setAt]
    have e1 : (k + 1) * 2 = (Dot.av x).length + k * 2 := by rw [h2]; omega
    have e2 : (k + 1) * 2 + (Dot.av d).length = (Dot.av x).length + (k * 2 + (Dot.av d).length) := by rw [h2]; omega
    rw [e2, e1]
    have e3 : List.take ((Dot.av x).length + k * 2) (Dot.av x) = Dot.av x := List.take_of_length_le (by omega)
    have e4 : List.drop ((Dot.av x).length + (k * 2 + (Dot.av d).length)) (Dot.av x) = [] := List.drop_eq_nil_of_le (by omega)
    simp [List.take_append, List.drop_append, e3, e4]
theorem zeros_cells (m : Nat) : zeros [.int .i64 0, .int .i64 0] m = dotC.cells (List.replicate m ⟨0, 0⟩) := by
  simp [zeros, Cod.cells, dotC, Dot.av]
theorem setAt_cells (l r : List Dot) (k : Nat) (h : k + r.length = l.length) : setAt (dotC.cells l) (k * 2) (dotC.cells r) = dotC.cells (l.take k ++ r) := by
  have hk : (dotC.cells (l.take k)).length = k * 2 := by
    rw [cells_len, List.length_take]
    have : dotC.sz = 2 := rfl
    rw [this, Nat.min_eq_left (by omega)]
  have hl : dotC.cells l = dotC.cells (l.take k) ++ dotC.cells (l.drop k) := by rw [← cells_append, List.take_append_drop]
  unfold setAt
  rw [cells_append, hl, ← hk, List.take_left]
  have : ((dotC.cells (l.take k)).length + (dotC.cells r).length) = (dotC.cells (l.take k) ++ dotC.cells (l.drop k)).length := by
    rw [List.length_append, cells_len, cells_len, cells_len, List.length_drop, List.length_take]
    have : r.length = l.length - k := by omega
    rw [this]
  rw [this, List.drop_length, List.append_nil]
def clrV (s : St) (z : List AV) (x : AV) : Option (AV × St) := match x with
    | .nils => some (.tup [], s)
    | .sl id off len _ sz =>
      if len = 0 then some (.tup [], s) else
      if sz = z.length then
        match s.get id with
        | some (.row cs true) => if off + len * sz ≤ cs.length then some (.tup [], s.put id (.row (setAt cs off (zeros z len)) true)) else none
        | _ => none
      else none
    | _ => none
theorem ae_clr {call : Nat → List AV → St → Option (AV × St)} {env : Env} (z : List AV) (x : AO) : aeff call env s (.clr z x) = clrV s z (aev env x) := nrfl (by
  simp only [aeff, clrV]
  cases aev env x <;> rfl)
theorem clr_own {j n k : Nat} {cap : Option Nat} {l : List Dot} (h : t.get j = some (.row (dotC.cells l) true)) (hn : n ≤ l.length) (hk : k < n) :
    clrV t [.int .i64 0, .int .i64 0] (.sl j (k * 2) (n - k) cap 2) = some (.tup [], t.put j (.row (setAt (dotC.cells l) (k * 2) (dotC.cells (List.replicate (n - k) ⟨0, 0⟩))) true)) := by
  have h2 : dotC.sz = 2 := rfl
  simp only [clrV]
  rw [if_neg (by omega), if_pos (by rfl), h]
  simp only
  rw [if_pos (by rw [cells_len, h2]; omega), zeros_cells]
theorem sto_own {j k : Nat} {l : List Dot} (h : t.get j = some (.row (dotC.cells l) true)) (hk : k < l.length) (d : Dot) : sto t 2 (.ptr j (k * 2)) (.agg (Dot.av d)) = some (.und, t.put j (.row (dotC.cells (l.set k d)) true)) := by
  have h2 : dotC.sz = 2 := rfl
  have hcond : (AV.agg (Dot.av d)).cells.length = 2 ∧ (AV.agg (Dot.av d)).cells.all AV.one = true ∧ k * 2 + 2 ≤ (dotC.cells l).length := ⟨rfl, rfl, by rw [cells_len, h2]; omega⟩
  simp only [sto, h]
  rw [if_pos hcond]
  show some (AV.und, t.put j (.row (setAt (dotC.cells l) (k * 2) (Dot.av d)) true)) = _
  rw [cells_setD l k d hk]
theorem iad_own {j n k : Nat} {cap : Option Nat} (off : Nat) (h : k < n) : iadV 2 (.sl j off n cap 2) (.int .i64 (k : Int)) = some (.ptr j (off + k * 2)) := iadV_nat h
theorem lod_own {j k : Nat} {l : List Dot} (h : t.get j = some (.row (dotC.cells l) true)) {d : Dot} (hd : l[k]? = some d) : lod t 2 (.ptr j (k * 2)) = some (.agg (Dot.av d)) := by
  have hk := getlt hd
  have h2 : dotC.sz = 2 := rfl
  simp only [lod, h]
  rw [if_pos (by rw [cells_len, h2]; omega)]
  have := cells_at dotC l k d hd 0 2 (by decide)
  rw [h2, Nat.add_zero, List.drop_zero] at this
  rw [this]
  rfl
/-! ### Neighbours once -/
theorem dedup_snoc : ∀ (m : List Dot) (x y : Dot), m.getLast? = some y → dedup (m ++ [x]) = if y = x then dedup m else dedup m ++ [x]
  | [], x, y, h => by simp at h
  | [a], x, y, h => by
    simp at h
    subst h
    simp only [List.cons_append, List.nil_append, dedup]
    split
    · rename_i e; rw [e]
    · rfl
  | a :: b :: r, x, y, h => by
    have ih := dedup_snoc (b :: r) x y (by simpa using h)
    simp only [List.cons_append] at ih ⊢
    rw [dedup, ih, dedup]
    by_cases e : a = b
    · rw [if_pos e, if_pos e]
    · rw [if_neg e, if_neg e]
      split <;> simp
theorem dedup_step {l : List Dot} {p : Nat} {x y : Dot} (hx : l[p + 1]? = some x) (hy : l[p]? = some y) : dedup (l.take (p + 2)) = if y = x then dedup (l.take (p + 1)) else dedup (l.take (p + 1)) ++ [x] := by
  rw [take_snoc hx]
  refine dedup_snoc _ x y ?_
  rw [take_snoc hy]
  simp
theorem dedup_chain {l : List Dot} (h : ∀ k x y, k + 1 < l.length → l[k]? = some x → l[k + 1]? = some y → x ≠ y) : ∀ i, i ≤ l.length → dedup (l.take i) = l.take i
  | 0, _ => rfl
  | 1, hi => by
    obtain ⟨x, hx⟩ := getsome (l := l) (i := 0) (by omega)
    rw [take_snoc hx]
    rfl
  | i + 2, hi => by
    obtain ⟨y, hy⟩ := getsome (l := l) (i := i) (by omega)
    obtain ⟨x, hx⟩ := getsome (l := l) (i := i + 1) (by omega)
    rw [dedup_step hx hy, if_neg (h i y x (by omega) hy hx), dedup_chain h (i + 1) (by omega), ← take_snoc hx]
noncomputable def R_CompD : Con := runFn (tb []) a120
theorem s_CompD : SoundAt Tryz.prog 120 R_CompD := run_sound (tb_sound (l := []) (by simp)) mixed Tryz.func120 k120 c120
theorem n_CompD : noNxtC a120.body = true := by kernel_rfl
theorem w_CompD {s : St} {s0 : St} {v : AV} {l : List Dot} (hN : NewX dotC s0 s v l) (hc : CapOK v) (hl : l.length ≤ lim) : ∀ env : Env, elen env = a120.ntmps → (∀ i x_, [v][i]? = some x_ → E env i = x_) → awp (tb []) a120.body (fun x e t => (∀ i, x ≠ .exit i) ∧ ∃ r, aresults e t a120.results = some r ∧ (NewR dotC s0 t r (dedup l) ∧ CapOK r) ∧ Chg (vids v) s t ∧ (v = .nils → r = .nils ∧ Keep s t) ∧ (v ≠ .nils → r.ground = false)) env s := by
  intro env hlen ha
  have h0 : E env 0 = _ := ha 0 _ rfl
  have hlen : elen env = _ := hlen
  simp only [a120] at hlen
  unfold a120
  try dsimp only [oO, oG]
  rcases hN with ⟨rfl, rfl⟩ | ⟨j, cap, rfl, hj0, hg⟩
  · have hz : ((0 : Int) < 2) = True := eq_true (by decide)
    simp (config := {contextual := true, maxDischargeDepth := 12}) only [tb_at, h0, hlen, lenV_nils, hz, ↓bD, bU, forall_const, bS, implies_true, isNx, eq_self, ↓wp_cond, ↓wp_loop, ↓reduceIte, reduceCtorEq, Nat.reduceEqDiff, Nat.reduceLT, Nat.reduceAdd, Nat.reduceMul, bT, ↓sg_bsl, ↓st_callf, bX, ap_mkfn, ae_callvV, callvV_fn, List.cons_append, List.nil_append, boxV_i, boxV_dot, sto_dot, ap_conv, convV_int, bslV_0, fstep_d0, fstep_d1, bsl_dot, ae_appz, ap_cap, capV_nils, slcV_nils0, slcV_sl0, wrap_0, ae_clr]
    exact ⟨_, rfl, ⟨.nil _ _ _, .nils⟩, (Keep.refl s).chg _, rfl, fun h => absurd trivial h⟩
  have hN : NewX dotC s0 s (.sl j 0 l.length cap 2) l := .inr ⟨j, cap, rfl, hj0, hg⟩
  have hr : read dotC s (.sl j 0 l.length cap 2) = some l := hN.read
  have hjl := St.get_lt hg
  have h2 : dotC.sz = 2 := rfl
  rw [h2] at h0 hc
  by_cases hlen2 : l.length < 2
  · have hz := eq_true (show (l.length : Int) < 2 by omega)
    have hd : dedup l = l := by
      match l, hlen2 with
      | [], _ => rfl
      | [x], _ => rfl
    simp (config := {contextual := true, maxDischargeDepth := 12}) only [tb_at, h0, hlen, lenV_sl, hz, ↓bD, bU, forall_const, bS, implies_true, isNx, eq_self, ↓wp_cond, ↓wp_loop, ↓reduceIte, reduceCtorEq, Nat.reduceEqDiff, Nat.reduceLT, Nat.reduceAdd, Nat.reduceMul, bT, ↓sg_bsl, ↓st_callf, bX, ap_mkfn, ae_callvV, callvV_fn, List.cons_append, List.nil_append, boxV_i, boxV_dot, sto_dot, ap_conv, convV_int, bslV_0, fstep_d0, fstep_d1, bsl_dot, ae_appz, ap_cap, capV_nils, slcV_nils0, slcV_sl0, wrap_0, ae_clr]
    exact ⟨_, rfl, ⟨by rw [hd]; exact hN.nw, hc⟩, (Keep.refl s).chg _, fun h => h.elim, rfl⟩
  · have hz := eq_false (show ¬ (l.length : Int) < 2 by omega)
    simp (config := {contextual := true, maxDischargeDepth := 12}) only [tb_at, h0, hlen, lenV_sl, hz, ↓bD, bU, forall_const, bS, implies_true, isNx, eq_self, ↓wp_cond, ↓wp_loop, ↓reduceIte, reduceCtorEq, Nat.reduceEqDiff, Nat.reduceLT, Nat.reduceAdd, Nat.reduceMul, bT, ↓sg_bsl, ↓st_callf, bX, ap_mkfn, ae_callvV, callvV_fn, List.cons_append, List.nil_append, boxV_i, boxV_dot, sto_dot, ap_conv, convV_int, bslV_0, fstep_d0, fstep_d1, bsl_dot, ae_appz, ap_cap, capV_nils, slcV_nils0, slcV_sl0, wrap_0, ae_clr]
    obtain ⟨I, hI⟩ : ∃ I : Nat → Env → St → Prop, ∀ n e t, I n e t = (t = s ∧ ∃ i : Nat, n + i = l.length ∧ elen e = 61 ∧ E e 0 = .sl j 0 l.length cap 2 ∧ E e 3 = .int .i64 ((i + 1 : Nat) : Int) ∧ ∀ k x y, k < i → l[k]? = some x → l[k + 1]? = some y → x ≠ y) := ⟨fun n e t => (t = s ∧ ∃ i : Nat, n + i = l.length ∧ elen e = 61 ∧ E e 0 = .sl j 0 l.length cap 2 ∧ E e 3 = .int .i64 ((i + 1 : Nat) : Int) ∧ ∀ k x y, k < i → l[k]? = some x → l[k + 1]? = some y → x ≠ y), fun _ _ _ => rfl⟩
    refine lwp_inv I (n := l.length) ?_ ?_
    · rw [hI]
      exact ⟨rfl, 0, by omega, (by simp only [bE, Nat.reduceEqDiff, bN, Nat.reduceLT, hlen]; try rfl), (by simp only [bE, Nat.reduceEqDiff, bN, Nat.reduceLT, hlen, h0]; try rfl), (by simp only [bE, Nat.reduceEqDiff, bN, Nat.reduceLT, hlen]; try rfl), fun k x y hk => by omega⟩
    intro n e t hi
    rw [hI] at hi
    obtain ⟨hK, i, hni, he, e0, e3, hpre⟩ := hi
    have hK := hK.symm
    subst hK
    by_cases hlt : i + 1 < l.length
    · obtain ⟨x, hx⟩ := getsome (l := l) (i := i) (by omega)
      obtain ⟨y, hy⟩ := getsome hlt
      have hw1 := wrap_sub1 (n := i) (by unfold lim at hl; omega)
      have hw2 := wrap_add1 (n := i + 1) (by unfold lim at hl; omega)
      have i1 := iad_own (j := j) (cap := cap) 0 (show i < l.length by omega)
      have i2 := iad_own (j := j) (cap := cap) 0 hlt
      rw [Nat.zero_add] at i1 i2
      have a1 := lod_own hg hx
      have b1 := lod_own hg hy
      by_cases hp : y = x
      · have hzz := eq_true hp
        obtain ⟨sl1, _⟩ := slc_own j l.length (i + 1) cap (by omega) hc
        simp (config := {contextual := true, maxDischargeDepth := 12}) only [tb_at, he, e0, e3, lenV_sl, hlt, hw1, hw2, i1, i2, a1, b1, hzz, reserve0, sl1, ↓bD, bU, forall_const, bS, implies_true, isNx, eq_self, ↓wp_cond, ↓wp_loop, ↓reduceIte, reduceCtorEq, Nat.reduceEqDiff, Nat.reduceLT, Nat.reduceAdd, Nat.reduceMul, bT, ↓sg_bsl, ↓st_callf, bX, ap_mkfn, ae_callvV, callvV_fn, List.cons_append, List.nil_append, boxV_i, boxV_dot, sto_dot, ap_conv, convV_int, bslV_0, fstep_d0, fstep_d1, bsl_dot, ae_appz, ap_cap, capV_nils, slcV_nils0, slcV_sl0, wrap_0, ae_clr]
        obtain ⟨I2, hI2⟩ : ∃ I : Nat → Env → St → Prop, ∀ n e t, I n e t = (Chg [j] s t ∧ ∃ (q k : Nat) (L : List Dot), n + (q + 1) = l.length ∧ elen e = 61 ∧ E e 0 = .sl j 0 l.length cap 2 ∧ E e 4 = .sl j ((i + 1) * 2) (l.length - (i + 1)) (cap.map (· - (i + 1))) 2 ∧ E e 5 = .int .i64 ((q - i : Nat) : Int) ∧ E e 3 = .int .i64 (k : Int) ∧ i + 1 ≤ q ∧ q + 1 ≤ l.length ∧ k ≤ q ∧ L.length = l.length ∧ t.get j = some (.row (dotC.cells L) true) ∧ L.take k = dedup (l.take (q + 1)) ∧ k = (dedup (l.take (q + 1))).length ∧ ∀ p, q ≤ p → L[p]? = l[p]?) := ⟨fun n e t => (Chg [j] s t ∧ ∃ (q k : Nat) (L : List Dot), n + (q + 1) = l.length ∧ elen e = 61 ∧ E e 0 = .sl j 0 l.length cap 2 ∧ E e 4 = .sl j ((i + 1) * 2) (l.length - (i + 1)) (cap.map (· - (i + 1))) 2 ∧ E e 5 = .int .i64 ((q - i : Nat) : Int) ∧ E e 3 = .int .i64 (k : Int) ∧ i + 1 ≤ q ∧ q + 1 ≤ l.length ∧ k ≤ q ∧ L.length = l.length ∧ t.get j = some (.row (dotC.cells L) true) ∧ L.take k = dedup (l.take (q + 1)) ∧ k = (dedup (l.take (q + 1))).length ∧ ∀ p, q ≤ p → L[p]? = l[p]?), fun _ _ _ => rfl⟩
        have hd1 : dedup (l.take (i + 1)) = l.take (i + 1) := by
          have := dedup_chain (l := l.take (i + 1)) (fun k a b hk ha hb => by
            rw [List.length_take] at hk
            rw [List.getElem?_take] at ha hb
            rw [if_pos (by omega)] at ha hb
            exact hpre k a b (by omega) ha hb) (i + 1) (by simp; omega)
          rwa [List.take_take, Nat.min_self] at this
        have hd2 : dedup (l.take (i + 2)) = l.take (i + 1) := by rw [dedup_step hy hx, if_pos hp.symm, hd1]
        refine lwp_inv I2 (n := l.length - (i + 2)) ?_ ?_
        · rw [hI2]
          exact ⟨(Keep.refl s).chg _, i + 1, i + 1, l, by omega, (by simp only [bE, Nat.reduceEqDiff, bN, Nat.reduceLT, he]; try rfl), (by simp only [bE, Nat.reduceEqDiff, bN, Nat.reduceLT, he, e0]; try rfl), (by simp only [bE, Nat.reduceEqDiff, bN, Nat.reduceLT, he]; try rfl), by simp only [bE, Nat.reduceEqDiff, bN, Nat.reduceLT, he]; rw [show i + 1 - i = 1 by omega]; rfl, (by simp only [bE, Nat.reduceEqDiff, bN, Nat.reduceLT, he, e3]; try rfl), by omega, by omega, by omega, rfl, hg, hd2.symm, by rw [hd2, List.length_take]; omega, fun _ _ => rfl⟩
        clear he e0 e3 a1 b1 hw1 hw2 i1 i2 hni hI
        intro n e t hi
        rw [hI2] at hi
        obtain ⟨hC, q, k, L, hni, he, e0, e4, e5, e3, hiq, hq, hkq, hLl, hgt, hLk, hkd, hrest⟩ := hi
        obtain ⟨m, hm⟩ : ∃ m, q - i = m + 1 := ⟨q - i - 1, by omega⟩
        rw [hm] at e5
        by_cases hlt2 : q + 1 < l.length
        · have hltm : m + 1 < l.length - (i + 1) := by omega
          obtain ⟨a, ha'⟩ := getsome hlt2
          obtain ⟨b, hb'⟩ := getsome (l := l) (i := q) (by omega)
          have i1 := iad_own (j := j) (cap := cap.map (· - (i + 1))) ((i + 1) * 2) hltm
          have i2 := iad_own (j := j) (cap := cap.map (· - (i + 1))) ((i + 1) * 2) (show m < l.length - (i + 1) by omega)
          rw [show (i + 1) * 2 + (m + 1) * 2 = (q + 1) * 2 by omega] at i1
          rw [show (i + 1) * 2 + m * 2 = q * 2 by omega] at i2
          have a1 := lod_own hgt (show L[q + 1]? = some a by rw [hrest _ (by omega)]; exact ha')
          have b1 := lod_own hgt (show L[q]? = some b by rw [hrest _ (by omega)]; exact hb')
          have hw1 := wrap_sub1 (n := m) (by unfold lim at hl; omega)
          have hw2 := wrap_add1 (n := m + 1) (by unfold lim at hl; omega)
          have hds := dedup_step ha' hb'
          by_cases hab : a = b
          · have hz2 := eq_true hab
            rw [if_pos hab.symm] at hds
            simp (config := {contextual := true, maxDischargeDepth := 12}) only [tb_at, he, e0, e4, e5, e3, lenV_sl, hltm, i1, i2, a1, b1, hw1, hw2, hz2, reserve0, ↓bD, bU, forall_const, bS, implies_true, isNx, eq_self, ↓wp_cond, ↓wp_loop, ↓reduceIte, reduceCtorEq, Nat.reduceEqDiff, Nat.reduceLT, Nat.reduceAdd, Nat.reduceMul, bT, ↓sg_bsl, ↓st_callf, bX, ap_mkfn, ae_callvV, callvV_fn, List.cons_append, List.nil_append, boxV_i, boxV_dot, sto_dot, ap_conv, convV_int, bslV_0, fstep_d0, fstep_d1, bsl_dot, ae_appz, ap_cap, capV_nils, slcV_nils0, slcV_sl0, wrap_0, ae_clr]
            refine ⟨n - 1, by omega, ?_⟩
            rw [hI2]
            exact ⟨hC, q + 1, k, L, by omega, (by simp only [bE, Nat.reduceEqDiff, bN, Nat.reduceLT, he]; try rfl), (by simp only [bE, Nat.reduceEqDiff, bN, Nat.reduceLT, he, e0]; try rfl), (by simp only [bE, Nat.reduceEqDiff, bN, Nat.reduceLT, he, e4]; try rfl), by simp only [bE, Nat.reduceEqDiff, bN, Nat.reduceLT, he]; rw [show q + 1 - i = m + 1 + 1 by omega]; try rfl, (by simp only [bE, Nat.reduceEqDiff, bN, Nat.reduceLT, he, e3]; try rfl), by omega, by omega, by omega, hLl, hgt, by rw [hLk, hds], by rw [hds]; exact hkd, fun p hp => hrest p (by omega)⟩
          · have hz2 := eq_false hab
            rw [if_neg (fun q => hab q.symm)] at hds
            have i3 := iad_own (j := j) (cap := cap) 0 (show k < l.length by omega)
            rw [Nat.zero_add] at i3
            have st1 := sto_own hgt (show k < L.length by omega) a
            have hw3 := wrap_add1 (n := k) (by unfold lim at hl; omega)
            simp (config := {contextual := true, maxDischargeDepth := 12}) only [tb_at, he, e0, e4, e5, e3, lenV_sl, hltm, i1, i2, i3, a1, b1, st1, hw1, hw2, hw3, hz2, reserve0, ↓bD, bU, forall_const, bS, implies_true, isNx, eq_self, ↓wp_cond, ↓wp_loop, ↓reduceIte, reduceCtorEq, Nat.reduceEqDiff, Nat.reduceLT, Nat.reduceAdd, Nat.reduceMul, bT, ↓sg_bsl, ↓st_callf, bX, ap_mkfn, ae_callvV, callvV_fn, List.cons_append, List.nil_append, boxV_i, boxV_dot, sto_dot, ap_conv, convV_int, bslV_0, fstep_d0, fstep_d1, bsl_dot, ae_appz, ap_cap, capV_nils, slcV_nils0, slcV_sl0, wrap_0, ae_clr]
            refine ⟨n - 1, by omega, ?_⟩
            rw [hI2]
            refine ⟨hC.put _ (.inl (by simp)) (St.get_lt hgt), q + 1, k + 1, L.set k a, by omega, (by simp only [bE, Nat.reduceEqDiff, bN, Nat.reduceLT, he]; try rfl), (by simp only [bE, Nat.reduceEqDiff, bN, Nat.reduceLT, he, e0]; try rfl), (by simp only [bE, Nat.reduceEqDiff, bN, Nat.reduceLT, he, e4]; try rfl), by simp only [bE, Nat.reduceEqDiff, bN, Nat.reduceLT, he]; rw [show q + 1 - i = m + 1 + 1 by omega]; try rfl, (by simp only [bE, Nat.reduceEqDiff, bN, Nat.reduceLT, he, e3]; try rfl), by omega, by omega, by omega, by rw [List.length_set]; exact hLl, St.get_put_same hgt, ?_, by rw [hds, List.length_append, ← hkd]; rfl, fun p hp => ?_⟩
            · rw [hds, ← hLk, List.take_add_one, List.getElem?_set_self (by omega), List.take_set_of_le (Nat.le_refl _)]
              rfl
            · rw [List.getElem?_set_ne (by omega)]
              exact hrest p (by omega)
        · have hnm : ¬ m + 1 < l.length - (i + 1) := by omega
          have hql : q + 1 = l.length := by omega
          rw [hql, List.take_length] at hLk hkd
          obtain ⟨sl2, sl3⟩ := slc_own j l.length k cap (by omega) hc
          have hcl := clr_own (cap := cap.map (· - k)) hgt (n := l.length) (k := k) (by omega) (by omega)
          rw [setAt_cells L _ k (by rw [List.length_replicate]; omega), hLk] at hcl
          simp (config := {contextual := true, maxDischargeDepth := 12}) only [tb_at, he, e0, e4, e5, e3, lenV_sl, hnm, sl2, sl3, hcl, ↓bD, bU, forall_const, bS, implies_true, isNx, eq_self, ↓wp_cond, ↓wp_loop, ↓reduceIte, reduceCtorEq, Nat.reduceEqDiff, Nat.reduceLT, Nat.reduceAdd, Nat.reduceMul, bT, ↓sg_bsl, ↓st_callf, bX, ap_mkfn, ae_callvV, callvV_fn, List.cons_append, List.nil_append, boxV_i, boxV_dot, sto_dot, ap_conv, convV_int, bslV_0, fstep_d0, fstep_d1, bsl_dot, ae_appz, ap_cap, capV_nils, slcV_nils0, slcV_sl0, wrap_0, ae_clr]
          refine ⟨_, rfl, ⟨.inr ⟨j, cap, List.replicate (l.length - k) ⟨0, 0⟩, by rw [← hkd]; rfl, hj0, St.get_put_same hgt⟩, fun _ _ _ c _ h => by injection h with _ _ h1 h2; subst h1; subst h2; have := hc _ _ _ c _ rfl; omega⟩, hC.put _ (.inl (by simp [vids])) (St.get_lt hgt), fun h => h.elim, rfl⟩
      · have hzz := eq_false hp
        simp (config := {contextual := true, maxDischargeDepth := 12}) only [tb_at, he, e0, e3, lenV_sl, hlt, hw1, hw2, i1, i2, a1, b1, hzz, reserve0, ↓bD, bU, forall_const, bS, implies_true, isNx, eq_self, ↓wp_cond, ↓wp_loop, ↓reduceIte, reduceCtorEq, Nat.reduceEqDiff, Nat.reduceLT, Nat.reduceAdd, Nat.reduceMul, bT, ↓sg_bsl, ↓st_callf, bX, ap_mkfn, ae_callvV, callvV_fn, List.cons_append, List.nil_append, boxV_i, boxV_dot, sto_dot, ap_conv, convV_int, bslV_0, fstep_d0, fstep_d1, bsl_dot, ae_appz, ap_cap, capV_nils, slcV_nils0, slcV_sl0, wrap_0, ae_clr]
        refine ⟨n - 1, by omega, ?_⟩
        rw [hI]
        refine ⟨rfl, i + 1, by omega, (by simp only [bE, Nat.reduceEqDiff, bN, Nat.reduceLT, he, e0, e3]; try rfl), (by simp only [bE, Nat.reduceEqDiff, bN, Nat.reduceLT, he, e0, e3]; try rfl), (by simp only [bE, Nat.reduceEqDiff, bN, Nat.reduceLT, he, e0, e3]; try rfl), fun k a b hk ha hb => ?_⟩
        by_cases ek : k = i
        · subst ek
          rw [hx] at ha; rw [hy] at hb
          injection ha with ha; injection hb with hb
          subst ha; subst hb
          exact fun q => hp q.symm
        · exact hpre k a b (by omega) ha hb
    · have hd : dedup l = l := by
        have := dedup_chain (l := l) (fun k a b hk ha hb => hpre k a b (by omega) ha hb) l.length (Nat.le_refl _)
        rwa [List.take_length] at this
      have hzz : ((((i + 1 : Nat) : Int)) < (l.length : Int)) = False := eq_false (by omega)
      simp (config := {contextual := true, maxDischargeDepth := 12}) only [tb_at, he, e0, e3, lenV_sl, hzz, ↓bD, bU, forall_const, bS, implies_true, isNx, eq_self, ↓wp_cond, ↓wp_loop, ↓reduceIte, reduceCtorEq, Nat.reduceEqDiff, Nat.reduceLT, Nat.reduceAdd, Nat.reduceMul, bT, ↓sg_bsl, ↓st_callf, bX, ap_mkfn, ae_callvV, callvV_fn, List.cons_append, List.nil_append, boxV_i, boxV_dot, sto_dot, ap_conv, convV_int, bslV_0, fstep_d0, fstep_d1, bsl_dot, ae_appz, ap_cap, capV_nils, slcV_nils0, slcV_sl0, wrap_0, ae_clr]
      exact ⟨_, rfl, ⟨by rw [hd]; exact hN.nw, hc⟩, (Keep.refl s).chg _, fun h => h.elim, rfl⟩

end Go.AM
end
/-
  dot.Set and dot.Union. Own work of this project; in part printed by a program of it.
-/
section
set_option maxRecDepth 100000
set_option maxHeartbeats 8000000
namespace Go.AM
open Go Go.Proofs

variable {s t u : St}

theorem newX_vids {β : Type} {C : Cod β} {v : AV} {l : List β} (h : NewX C s t v l) : ∀ id ∈ vids v, s.next ≤ id := by
  rcases h with ⟨rfl, _⟩ | ⟨j, cap, rfl, h1, _⟩
  · simp [vids]
  · intro id hid
    simp [vids] at hid
    omega
theorem q_CompD {s0 : St} {v : AV} {l : List Dot} (hN : NewX dotC s0 s v l) (hc : CapOK v) (hl : l.length ≤ lim) : ∃ w t, acall R_CompD false [v] s = some (w, t) ∧ (NewR dotC s0 t w (dedup l) ∧ CapOK w) ∧ Chg (vids v) s t := by
  obtain ⟨r, t, h1, h2, h3, h4, h5⟩ := run_awp n_CompD (args := [v]) (by simp [a120]) (Q := fun r t => (NewR dotC s0 t r (dedup l) ∧ CapOK r) ∧ Chg (vids v) (lowd s) t ∧ (v = .nils → r = .nils ∧ Keep (lowd s) t) ∧ (v ≠ .nils → r.ground = false)) (w_CompD (s := lowd s) (hN.mono fun _ _ h => h) hc hl)
  by_cases hv : v = .nils
  · obtain ⟨rfl, hk⟩ := h4 hv
    rcases hN with ⟨_, rfl⟩ | ⟨j, cap, e, _⟩
    · exact ⟨.nils, s, acall_same h1 hk rfl, ⟨.nil _ _ _, .nils⟩, (Keep.refl s).chg _⟩
    · rw [e] at hv; cases hv
  · obtain ⟨t', g1, g2, g3, g4⟩ := acall_new h1 h3 (.inl (h5 hv))
    exact ⟨r, t', g1, ⟨h2.1.mono fun id b hb => by rw [g2]; exact hb, h2.2⟩, g4⟩
noncomputable def R_DSet : Con := runFn (tb [(118, R_SClD), (119, R_SSortD), (120, R_CompD)]) a113
theorem s_DSet : SoundAt Tryz.prog 113 R_DSet := run_sound (tb_sound (l := [(118, R_SClD), (119, R_SSortD), (120, R_CompD)]) (by simpa using ⟨s_SClD, s_SSortD, s_CompD⟩)) mixed Tryz.func113 k113 c113
theorem n_DSet : noNxtC a113.body = true := by kernel_rfl
theorem w_DSet {s : St} {v : AV} {l : List Dot} (hr : read dotC s v = some l) (hl : l.length ≤ lim) : ∀ env : Env, elen env = a113.ntmps → (∀ i x_, [v][i]? = some x_ → E env i = x_) → awp (tb [(118, R_SClD), (119, R_SSortD), (120, R_CompD)]) a113.body (fun x e t => (∀ i, x ≠ .exit i) ∧ ∃ r, aresults e t a113.results = some r ∧ (NewR dotC s t r (setL l) ∧ CapOK r) ∧ Keep s t) env s := by
  intro env hlen ha
  have h0 : E env 0 = _ := ha 0 _ rfl
  have hlen : elen env = _ := hlen
  simp only [a113] at hlen
  unfold a113
  try dsimp only [oO, oG]
  obtain ⟨v1, t1, q1, ⟨hN1, hc1⟩, hK1⟩ := q_SClD hr hl
  obtain ⟨t2, q2, hN2, hC2⟩ := q_SSortD hN1 hl
  obtain ⟨w, t3, q3, ⟨hN3, hcw⟩, hC3⟩ := q_CompD hN2 hc1 (by rw [sortD_len]; exact hl)
  rw [dedup_sort] at hN3
  have hK2 := hK1.chgn hC2 (newX_vids hN1)
  have hK3 := hK2.chgn hC3 (newX_vids hN2)
  simp (config := {contextual := true, maxDischargeDepth := 12}) only [tb_at, h0, hlen, q1, q2, q3, ↓bD, bU, forall_const, bS, implies_true, isNx, eq_self, ↓wp_cond, ↓wp_loop, ↓reduceIte, reduceCtorEq, Nat.reduceEqDiff, Nat.reduceLT, Nat.reduceAdd, Nat.reduceMul, bT, ↓sg_bsl, ↓st_callf, bX, ap_mkfn, ae_callvV, callvV_fn, List.cons_append, List.nil_append, boxV_i, boxV_dot, sto_dot, ap_conv, convV_int, bslV_0, fstep_d0, fstep_d1, bsl_dot, ae_appz, ap_cap, capV_nils, slcV_nils0, slcV_sl0, wrap_0, ae_clr]
  exact ⟨_, rfl, ⟨hN3, hcw⟩, hK3⟩
theorem q_DSet {s : St} {v : AV} {l : List Dot} (hr : read dotC s v = some l) (hl : l.length ≤ lim) : ∃ w t, acall R_DSet false [v] s = some (w, t) ∧ (NewR dotC s t w (setL l) ∧ CapOK w) ∧ Keep s t :=
  run_any n_DSet (by simp [a113]) (fun r t t' hg hn hq => ⟨hq.1.mono fun id b hb => by rw [hg]; exact hb, hq.2⟩) (fun r t hgr hk hq => by
    obtain ⟨rfl, h⟩ := hq.1.ground hgr
    rw [h]
    exact ⟨.nil _ _ _, .nils⟩) (w_DSet (s := lowd s) (read_low' hr) hl)
noncomputable def R_DU1 : Con := runFn (tb []) a102
theorem s_DU1 : SoundAt Tryz.prog 102 R_DU1 := run_sound (tb_sound (l := []) (by simp)) mixed Tryz.func102 k102 c102
theorem n_DU1 : noNxtC a102.body = true := by kernel_rfl
theorem w_DU1 {s : St} (d : Dot) : ∀ env : Env, elen env = a102.ntmps → (∀ i x_, [.agg (Dot.av d)][i]? = some x_ → E env i = x_) → awp (tb []) a102.body (fun x e t => (∀ i, x ≠ .exit i) ∧ aresults e t a102.results = some (.bool true) ∧ Keep s t) env s := by
  intro env hlen ha
  have h0 : E env 0 = _ := ha 0 _ rfl
  have hlen : elen env = _ := hlen
  simp only [a102] at hlen
  unfold a102
  try dsimp only [oO, oG]
  simp (config := {contextual := true, maxDischargeDepth := 12}) only [tb_at, h0, hlen, ↓bD, bU, forall_const, bS, implies_true, isNx, eq_self, ↓wp_cond, ↓wp_loop, ↓reduceIte, reduceCtorEq, Nat.reduceEqDiff, Nat.reduceLT, Nat.reduceAdd, Nat.reduceMul, bT, ↓sg_bsl, ↓st_callf, bX, ap_mkfn, ae_callvV, callvV_fn, List.cons_append, List.nil_append, boxV_i, boxV_dot, sto_dot, ap_conv, convV_int, bslV_0, fstep_d0, fstep_d1, bsl_dot, ae_appz, ap_cap, capV_nils, slcV_nils0, slcV_sl0, wrap_0, ae_clr]
  all_goals exact (Keep.refl s).push _
theorem q_DU1 (cl : Bool) {s : St} (d : Dot) : acall R_DU1 cl [.agg (Dot.av d)] s = some (.bool true, s) := run_same n_DU1 (by simp [a102]) rfl (w_DU1 (s := lowd s) d)

theorem boxV_f (f : Nat) : boxV 1 (.agg [.fn f []]) = some (fun id => .ptr id 0, .row [.fn f []] true) := nrfl rfl
theorem fstep_f (f : Nat) (K : List AV → Option (List AV)) : fstep [.nilf] 0 1 (.fn f []) K = K [.fn f []] := nrfl rfl
theorem box_fn (s : St) (f : Nat) (hK : Keep (s.push (.row [.fn f []] true)) t) : lod1 t (.ptr s.next 0) = some (.fn f []) ∧ ltN s.next t := by
  have h := hK.blk (St.get_push_new s (.row [.fn f []] true))
  exact ⟨by simp [lod1, h], St.get_lt h⟩
noncomputable def R_ChOf : Con := runFn (tb [(113, R_DSet), (102, R_DU1)]) a103
theorem s_ChOf : SoundAt Tryz.prog 103 R_ChOf := run_sound (tb_sound (l := [(113, R_DSet), (102, R_DU1)]) (by simpa using ⟨s_DSet, s_DU1⟩)) mixed Tryz.func103 k103 c103
theorem n_ChOf : noNxtC a103.body = true := by kernel_rfl
theorem w_ChOf {s : St} {v : AV} {l : List Dot} (hr : read dotC s v = some l) (hl : l.length ≤ lim) : ∀ env : Env, elen env = a103.ntmps → (∀ i x_, [.agg [.fn 102 []], v][i]? = some x_ → E env i = x_) → awp (tb [(113, R_DSet), (102, R_DU1)]) a103.body (fun x e t => (∀ i, x ≠ .exit i) ∧ ∃ r, aresults e t a103.results = some r ∧ NewR dotC s t r (setL l) ∧ Keep s t) env s := by
  intro env hlen ha
  have h0 : E env 0 = _ := ha 0 _ rfl
  have h1 : E env 1 = _ := ha 1 _ rfl
  have hlen : elen env = _ := hlen
  simp only [a103] at hlen
  unfold a103
  try dsimp only [oO, oG]
  have hL := lenV_read hr
  simp (config := {contextual := true, maxDischargeDepth := 12}) only [tb_at, h0, h1, hlen, hL, ↓bD, bU, forall_const, bS, implies_true, isNx, eq_self, ↓wp_cond, ↓wp_loop, ↓reduceIte, reduceCtorEq, Nat.reduceEqDiff, Nat.reduceLT, Nat.reduceAdd, Nat.reduceMul, bT, ↓sg_bsl, ↓st_callf, bX, ap_mkfn, ae_callvV, callvV_fn, List.cons_append, List.nil_append, boxV_i, boxV_dot, sto_dot, ap_conv, convV_int, bslV_0, fstep_d0, fstep_d1, bsl_dot, ae_appz, ap_cap, capV_nils, slcV_nils0, slcV_sl0, wrap_0, ae_clr, boxV_f, fstep_f]
  obtain ⟨I, hI⟩ : ∃ I : Nat → Env → St → Prop, ∀ n e t, I n e t = (Keep (s.push (.row [.fn 102 []] true)) t ∧ ∃ i : Nat, n + i = l.length ∧ elen e = 25 ∧ E e 2 = .ptr s.next 0 ∧ E e 8 = v ∧ E e 9 = .int .i64 (l.length : Int) ∧ E e 10 = .int .i64 (i : Int) ∧ Own dotC (s.push (.row [.fn 102 []] true)) t (E e 5) (l.take i)) := ⟨fun n e t => (Keep (s.push (.row [.fn 102 []] true)) t ∧ ∃ i : Nat, n + i = l.length ∧ elen e = 25 ∧ E e 2 = .ptr s.next 0 ∧ E e 8 = v ∧ E e 9 = .int .i64 (l.length : Int) ∧ E e 10 = .int .i64 (i : Int) ∧ Own dotC (s.push (.row [.fn 102 []] true)) t (E e 5) (l.take i)), fun _ _ _ => rfl⟩
  refine lwp_inv I (n := l.length) ?_ ?_
  · rw [hI]
    exact ⟨.refl _, 0, by omega, (by simp only [bE, Nat.reduceEqDiff, bN, Nat.reduceLT, hlen]; try rfl), (by simp only [bE, Nat.reduceEqDiff, bN, Nat.reduceLT, hlen]; try rfl), (by simp only [bE, Nat.reduceEqDiff, bN, Nat.reduceLT, hlen, h1]; try rfl), (by simp only [bE, Nat.reduceEqDiff, bN, Nat.reduceLT, hlen, hL]; try rfl), (by simp only [bE, Nat.reduceEqDiff, bN, Nat.reduceLT, hlen]; try rfl), by simp only [bE, Nat.reduceEqDiff, bN, Nat.reduceLT, hlen]; exact .nil _ _ _⟩
  intro n e t hi
  rw [hI] at hi
  obtain ⟨hK, i, hni, he, e2, e8, e9, e10, hO⟩ := hi
  obtain ⟨f1, f2⟩ := box_fn s _ hK
  have hKs : Keep s t := ((Keep.refl s).push _).trans hK
  by_cases hlt : i < l.length
  · obtain ⟨x, hx⟩ := getsome hlt
    have hw2 := wrap_add1 (n := i) (by unfold lim at hl; omega)
    obtain ⟨a1, a2, a3, a4⟩ := dot_lods hr hKs hx
    have i1 := dot_idx hr hx .i64
    have hq := q_DU1 false x (s := t.lowed.push (.row (Dot.av x) true))
    obtain ⟨v', t', hap, hK', hO'⟩ := appV_one (C := dotC) (hK.lowed.push (.row (Dot.av x) true)) (Own.push hO.lowed _) x 16 (by rw [List.length_take]; unfold lim at hl; simp [roomBytes]; omega)
    have hap : appV ((t.lowed.push (.row (Dot.av x) true)).push (.row (Dot.av x) true)) 2 16 (E e 5) (.sl (t.lowed.push (.row (Dot.av x) true)).next 0 1 (some 1) 2) = some (v', t') := hap
    simp (config := {contextual := true, maxDischargeDepth := 12}) only [tb_at, he, e2, e8, e9, e10, hL, hlt, hw2, a1, a4, i1, f1, f2, hq, hap, ↓bD, bU, forall_const, bS, implies_true, isNx, eq_self, ↓wp_cond, ↓wp_loop, ↓reduceIte, reduceCtorEq, Nat.reduceEqDiff, Nat.reduceLT, Nat.reduceAdd, Nat.reduceMul, bT, ↓sg_bsl, ↓st_callf, bX, ap_mkfn, ae_callvV, callvV_fn, List.cons_append, List.nil_append, boxV_i, boxV_dot, sto_dot, ap_conv, convV_int, bslV_0, fstep_d0, fstep_d1, bsl_dot, ae_appz, ap_cap, capV_nils, slcV_nils0, slcV_sl0, wrap_0, ae_clr, boxV_f, fstep_f]
    refine ⟨n - 1, by omega, ?_⟩
    rw [hI]
    exact ⟨hK', i + 1, by omega, (by simp only [bE, Nat.reduceEqDiff, bN, Nat.reduceLT, he, e2, e8, e9, e10]; try rfl), (by simp only [bE, Nat.reduceEqDiff, bN, Nat.reduceLT, he, e2, e8, e9, e10]; try rfl), (by simp only [bE, Nat.reduceEqDiff, bN, Nat.reduceLT, he, e2, e8, e9, e10]; try rfl), (by simp only [bE, Nat.reduceEqDiff, bN, Nat.reduceLT, he, e2, e8, e9, e10]; try rfl), (by simp only [bE, Nat.reduceEqDiff, bN, Nat.reduceLT, he, e2, e8, e9, e10]; try rfl), by simp only [bE, Nat.reduceEqDiff, bN, Nat.reduceLT, he]; rw [take_snoc hx]; exact hO'⟩
  · obtain rfl : i = l.length := by omega
    rw [List.take_length] at hO
    obtain ⟨w, t3, q3, ⟨hN3, _⟩, hK3⟩ := q_DSet hO.read hl
    simp (config := {contextual := true, maxDischargeDepth := 12}) only [tb_at, he, e2, e8, e9, e10, hL, hlt, q3, ↓bD, bU, forall_const, bS, implies_true, isNx, eq_self, ↓wp_cond, ↓wp_loop, ↓reduceIte, reduceCtorEq, Nat.reduceEqDiff, Nat.reduceLT, Nat.reduceAdd, Nat.reduceMul, bT, ↓sg_bsl, ↓st_callf, bX, ap_mkfn, ae_callvV, callvV_fn, List.cons_append, List.nil_append, boxV_i, boxV_dot, sto_dot, ap_conv, convV_int, bslV_0, fstep_d0, fstep_d1, bsl_dot, ae_appz, ap_cap, capV_nils, slcV_nils0, slcV_sl0, wrap_0, ae_clr, boxV_f, fstep_f]
    exact ⟨_, rfl, hN3.from hKs.next, hKs.trans hK3⟩
theorem q_ChOf {s : St} {v : AV} {l : List Dot} (hr : read dotC s v = some l) (hl : l.length ≤ lim) : ∃ w t, acall R_ChOf false [.agg [.fn 102 []], v] s = some (w, t) ∧ NewR dotC s t w (setL l) ∧ Keep s t :=
  run_any n_ChOf (by simp [a103]) (fun r t t' hg hn hq => hq.mono fun id b hb => by rw [hg]; exact hb) (fun r t hgr hk hq => by
    obtain ⟨rfl, h⟩ := hq.ground hgr
    rw [h]
    exact .nil _ _ _) (w_ChOf (s := lowd s) (read_low' hr) hl)
noncomputable def R_DUnion : Con := runFn (tb [(104, R_ConcD), (103, R_ChOf)]) a80
theorem s_DUnion : SoundAt Tryz.prog 80 R_DUnion := run_sound (tb_sound (l := [(104, R_ConcD), (103, R_ChOf)]) (by simpa using ⟨s_ConcD, s_ChOf⟩)) mixed Tryz.func80 k80 c80
theorem n_DUnion : noNxtC a80.body = true := by kernel_rfl
theorem w_DUnion {s : St} {va vb : AV} {a b : List Dot} (hra : read dotC s va = some a) (hrb : read dotC s vb = some b) (hla : a.length ≤ 400000) (hlb : b.length ≤ 400000) : ∀ env : Env, elen env = a80.ntmps → (∀ i x_, [va, vb][i]? = some x_ → E env i = x_) → awp (tb [(104, R_ConcD), (103, R_ChOf)]) a80.body (fun x e t => (∀ i, x ≠ .exit i) ∧ ∃ r, aresults e t a80.results = some r ∧ NewR dotC s t r (setL (a ++ b)) ∧ Keep s t) env s := by
  intro env hlen ha
  have h0 : E env 0 = _ := ha 0 _ rfl
  have h1 : E env 1 = _ := ha 1 _ rfl
  have hlen : elen env = _ := hlen
  simp only [a80] at hlen
  unfold a80
  try dsimp only [oO, oG]
  have hbs := bsl2D hra hrb
  have hK1 : Keep s (s.push (.row [va, vb] true)) := (Keep.refl s).push _
  obtain ⟨w, t1, hc, hrw, hK2⟩ := q_ConcD (St.get_push_new s (.row [va, vb] true)) (hK1.read hra) (hK1.read hrb) (by unfold lim; omega) (by unfold lim; omega)
  obtain ⟨w2, t2, hm, hN, hK3⟩ := q_ChOf hrw (by rw [List.length_append]; unfold lim; omega)
  simp (config := {contextual := true, maxDischargeDepth := 12}) only [tb_at, h0, h1, hlen, hbs, hc, hm, ↓bD, bU, forall_const, bS, implies_true, isNx, eq_self, ↓wp_cond, ↓wp_loop, ↓reduceIte, reduceCtorEq, Nat.reduceEqDiff, Nat.reduceLT, Nat.reduceAdd, Nat.reduceMul, bT, ↓sg_bsl, ↓st_callf, bX, ap_mkfn, ae_callvV, callvV_fn, List.cons_append, List.nil_append, boxV_i, boxV_dot, sto_dot, ap_conv, convV_int, bslV_0, fstep_d0, fstep_d1, bsl_dot, ae_appz, ap_cap, capV_nils, slcV_nils0, slcV_sl0, wrap_0, ae_clr, boxV_f, fstep_f]
  exact ⟨_, rfl, hN.from (hK1.trans hK2).next, (hK1.trans hK2).trans hK3⟩
theorem q_DUnion {s : St} {va vb : AV} {a b : List Dot} (hra : read dotC s va = some a) (hrb : read dotC s vb = some b) (hla : a.length ≤ 400000) (hlb : b.length ≤ 400000) : ∃ w t, acall R_DUnion false [va, vb] s = some (w, t) ∧ NewR dotC s t w (setL (a ++ b)) ∧ Keep s t :=
  run_any n_DUnion (by simp [a80]) (fun r t t' hg hn hq => hq.mono fun id b hb => by rw [hg]; exact hb) (fun r t hgr hk hq => by
    obtain ⟨rfl, h⟩ := hq.ground hgr
    rw [h]
    exact .nil _ _ _) (w_DUnion (s := lowd s) (read_low' hra) (read_low' hrb) hla hlb)

end Go.AM
end
/-
  context.Compact, Add, Of, Union, Within, Size. Own work of this project; in part printed by a program of it.
-/
section
set_option maxRecDepth 100000
set_option maxHeartbeats 8000000
namespace Go.AM
open Go Go.Proofs

variable {s t u : St}

theorem app1D {v : AV} {l : List Dot} (h : Own dotC s t v l) (x : Dot) (hb : l.length + 1 ≤ 4000000) : ∃ t', appV (t.push (.row (Dot.av x) true)) 2 16 v (.sl t.next 0 1 (some 1) 2) = some (.sl (t.next + 1) 0 (l.length + 1) none 2, t') ∧ t'.get (t.next + 1) = some (.row (dotC.cells (l ++ [x])) true) ∧ Chg (vids v) t t' ∧ t'.next = t.next + 2 := by
  have hr : read dotC (t.push (.row (Dot.av x) true)) (.sl t.next 0 1 (some 1) 2) = some [x] := by
    refine read_of (C := dotC) (n := 1) rfl (St.get_push_new _ _) (by simp [Dot.av, dotC]) ?_
    rw [cells_one]
    rfl
  have h2 : dotC.sz = 2 := rfl
  have hs1 : shown (t.push (.row (Dot.av x) true)) 2 (.sl t.next 0 1 (some 1) 2) = some (dotC.cells [x]) := read_shown hr
  have hs2 : lenOf (.sl t.next 0 1 (some 1) 2) = some 1 := rfl
  simp only [appV, hs1, hs2]
  have hC0 : Chg (vids v) t (t.push (.row (Dot.av x) true)) := ((Keep.refl t).push _).chg _
  rcases h with ⟨rfl, rfl⟩ | ⟨j, rfl, h0, h1, h⟩
  · simp only [aappend]
    rw [if_neg (by simp), if_pos (by simp [roomBytes])]
    refine ⟨_, rfl, ?_, hC0.push _, rfl⟩
    exact St.get_push_new (t.push (.row (Dot.av x) true)) _
  · have hp : (t.push (.row (Dot.av x) true)).get j = some (.row (dotC.cells l) true) := get_push_some _ h
    rw [h2]
    simp only [aappend, if_true, hp]
    rw [if_neg (by simp), if_pos ⟨by rw [cells_len, h2]; omega, by unfold roomBytes; omega⟩]
    have hlt : j < (t.push (.row (Dot.av x) true)).next := St.get_lt hp
    refine ⟨_, rfl, ?_, (hC0.put .dead (.inl (by simp [vids])) hlt).push _, rfl⟩
    have e : (dotC.cells l).take (l.length * 2) = dotC.cells l := by rw [← h2, ← cells_len]; simp
    rw [List.drop_zero, e, cells_append]
    exact St.get_push_new ((t.push (.row (Dot.av x) true)).put j .dead) _
theorem sto_ctx {n : Nat} {s : St} (h : sameN n s) {a b : AV} (ha : a.one = true) (hb : b.one = true) : sto (s.push (.row [.nils, .nils] true)) 2 (.ptr n 0) (.agg [a, b]) = some (.und, s.lowed.push (.row [a, b] true)) := by
  unfold sameN at h
  subst h
  simp [sto, St.get_push_new, push_put, AV.cells, ha, hb, setAt]
theorem sto_row2 {id : Nat} {a b x y : AV} (h : t.get id = some (.row [a, b] true)) (hx : x.one = true) (hy : y.one = true) : sto t 2 (.ptr id 0) (.agg [x, y]) = some (.und, t.put id (.row [x, y] true)) := by
  simp [sto, h, AV.cells, hx, hy, setAt]
theorem lod_row2 {id : Nat} {a b : AV} {own : Bool} (h : t.get id = some (.row [a, b] own)) : lod t 2 (.ptr id 0) = some (.agg [a, b]) := by simp [lod, h]
theorem fstep_s0 {v : AV} (h1 : v.cells = [v]) (h2 : v.one = true) (a b : AV) (K : List AV → Option (List AV)) : fstep [a, b] 0 1 v K = K [v, b] := by
  simp [fstep, h1, h2, setAt]
theorem fstep_s1 {v : AV} (h1 : v.cells = [v]) (h2 : v.one = true) (a b : AV) (K : List AV → Option (List AV)) : fstep [a, b] 1 1 v K = K [a, v] := by
  simp [fstep, h1, h2, setAt]
theorem NewX.keep {M : List Nat} {v : AV} {l : List Dot} (hc : Chg M t u) (h : NewX dotC s t v l) (hm : ∀ id ∈ vids v, id ∉ M) : NewX dotC s u v l := by
  rcases h with h | ⟨j, cap, rfl, h1, h2⟩
  · exact .inl h
  · exact .inr ⟨j, cap, rfl, h1, hc.blk h2 (hm j (by simp [vids]))⟩
theorem Own.keep {M : List Nat} {v : AV} {l : List Dot} (hc : Chg M t u) (h : Own dotC s t v l) (hm : ∀ id ∈ vids v, id ∉ M) : Own dotC s u v l := by
  rcases h with h | ⟨j, rfl, h0, h1, h2⟩
  · exact .inl h
  · exact .inr ⟨j, rfl, h0, h1, hc.blk h2 (hm j (by simp [vids]))⟩
theorem own_vidl {v : AV} {l : List Dot} (h : Own dotC s t v l) : ∀ id ∈ vids v, id < t.next := by
  rcases h with ⟨rfl, _⟩ | ⟨j, rfl, _, _, h2⟩
  · simp [vids]
  · intro id hid
    simp [vids] at hid
    subst hid
    exact St.get_lt h2
theorem newX_vidl {v : AV} {l : List Dot} (h : NewX dotC s t v l) : ∀ id ∈ vids v, id < t.next := by
  rcases h with ⟨rfl, _⟩ | ⟨j, cap, rfl, _, h2⟩
  · simp [vids]
  · intro id hid
    simp [vids] at hid
    subst hid
    exact St.get_lt h2
/-- The result that is being made: its box, its two lists. -/
structure CJ (s t : St) (b : Nat) (vv cc : AV) (V C : List Dot) : Prop where
  keep : Keep s t
  rbox : t.get (s.next + 1) = some (.row [.nils, .nils] true)
  obox : t.get b = some (.row [vv, cc] true)
  vec : NewX dotC ((s.push .dead).push .dead) t vv V
  cld : Own dotC ((s.push .dead).push .dead) t cc C
  vdis : ∀ id ∈ vids vv, id ≠ b ∧ id ∉ vids cc
  cdis : ∀ id ∈ vids cc, id ≠ b
  bge : s.next + 2 ≤ b
theorem CJ.low {b : Nat} {vv cc : AV} {V C : List Dot} (h : CJ s t b vv cc V C) (x : List AV) : CJ s (t.lowed.push (.row x true)) b vv cc V C :=
  ⟨h.keep.lowed.push _, get_push_some _ h.rbox, get_push_some _ h.obox, h.vec.mono fun _ _ k => get_push_some _ k, h.cld.mono fun _ _ k => get_push_some _ k, h.vdis, h.cdis, h.bge⟩
theorem CJ.app {b : Nat} {vv cc : AV} {V C : List Dot} (h : CJ s t b vv cc V C) (x : Dot) (hb : C.length + 1 ≤ 4000000) : ∃ cc' t', appV (t.push (.row (Dot.av x) true)) 2 16 cc (.sl t.next 0 1 (some 1) 2) = some (cc', t') ∧ sto t' 1 (.ptr b 1) cc' = some (.und, t'.put b (.row [vv, cc'] true)) ∧ CJ s (t'.put b (.row [vv, cc'] true)) b vv cc' V (C ++ [x]) := by
  obtain ⟨t', h1, h2, h3, h4⟩ := app1D h.cld x hb
  have hlb := St.get_lt h.obox
  have hob : t'.get b = some (.row [vv, cc] true) := h3.blk h.obox fun q => h.cdis _ q rfl
  have hrb : t'.get (s.next + 1) = some (.row [.nils, .nils] true) := h3.blk h.rbox fun q => by
    have := own_vids h.cld _ q
    simp at this
    omega
  have hK : Keep s t' := h.keep.chgn h3 fun id hid => by
    have := own_vids h.cld _ hid
    simp at this
    omega
  have hlb' := St.get_lt hob
  refine ⟨_, t', h1, (row2_sto hob rfl rfl).2, ⟨hK.put _ (by have := h.bge; omega) hlb', ?_, St.get_put_same hob, ?_, .inr ⟨t.next + 1, by simp; rfl, by simp, ?_, ?_⟩, fun id hid => ⟨(h.vdis id hid).1, ?_⟩, fun id hid => ?_, h.bge⟩⟩
  · rw [St.get_put_ne _ _ hlb' (by have := h.bge; omega)]; exact hrb
  · exact (h.vec.keep h3 fun id hid => (h.vdis id hid).2).keep ((Chg.refl [b] t').put _ (.inl (by simp)) hlb') fun id hid => by
      have := (h.vdis id hid).1
      simpa using this
  · have := h.keep.next
    have := h.bge
    simp
    omega
  · rw [St.get_put_ne _ _ hlb' (by omega)]; exact h2
  · have := newX_vidl h.vec id hid
    simp [vids]
    omega
  · simp [vids] at hid
    omega
theorem CJ.raise {b : Nat} {vv cc : AV} {V C : List Dot} (h : CJ s t b vv cc V C) {vv' : AV} {V' : List Dot} (hO : Own dotC t u vv' V') (hK : Keep t u) (hone : vv'.cells = [vv'] ∧ vv'.one = true) : sto u 1 (.ptr b 0) vv' = some (.und, u.put b (.row [vv', cc] true)) ∧ CJ s (u.put b (.row [vv', cc] true)) b vv' cc V' C := by
  have hob := hK.blk h.obox
  have hlb := St.get_lt hob
  have hltb := St.get_lt h.obox
  have hlc := own_vidl h.cld
  refine ⟨(row2_sto hob hone.1 hone.2).1, ⟨(h.keep.trans hK).put _ (by have := h.bge; omega) hlb, ?_, St.get_put_same hob, ?_, ?_, fun id hid => ⟨?_, fun q => ?_⟩, h.cdis, h.bge⟩⟩
  · rw [St.get_put_ne _ _ hlb (by have := h.bge; omega)]; exact hK.blk h.rbox
  · have hge := own_vids hO
    refine NewX.keep ((Chg.refl [b] u).put _ (.inl (by simp)) hlb) (hO.newX.from ?_) fun id hid => ?_
    · have := h.bge
      simp
      omega
    · have := hge id hid
      simp
      omega
  · exact (h.cld.mono fun _ _ k => hK.blk k).keep ((Chg.refl [b] u).put _ (.inl (by simp)) hlb) fun id hid => by
      have := h.cdis id hid
      simpa using this
  · have := own_vids hO id hid
    omega
  · have h1 := own_vids hO id hid
    have h2 := hlc id q
    omega
theorem kfold_valid {X : DCx} (h : cvalid X = true) (i : Nat) (hi : i ≤ X.c.length) : vvalid ((X.c.take i).foldl kstep (X.v, [])).1 = true := by
  obtain ⟨h1, h2, h3⟩ := (cvalid_iff X).1 h
  have := comp_inv (x := ⟨X.v, X.c.take i⟩) ((cvalid_iff _).2 ⟨h1, List.Pairwise.sublist (List.take_sublist _ _) h2, fun d hd => h3 d (List.mem_of_mem_take hd)⟩)
  exact this.val
noncomputable def R_CComp : Con := runFn (tb [(60, R_CValid), (81, R_SClV), (59, R_VGet), (82, R_VRaise)]) a57
theorem s_CComp : SoundAt Tryz.prog 57 R_CComp := run_sound (tb_sound (l := [(60, R_CValid), (81, R_SClV), (59, R_VGet), (82, R_VRaise)]) (by simpa using ⟨s_CValid, s_SClV, s_VGet, s_VRaise⟩)) mixed Tryz.func57 k57 c57
theorem n_CComp : noNxtC a57.body = true := by kernel_rfl
theorem w_CComp {s : St} {v w : AV} {X : DCx} (hv : read dotC s v = some X.v) (hw : read dotC s w = some X.c) (hlv : X.v.length ≤ 200000) (hlw : X.c.length ≤ 200000) (hcv : cvalid X = true) : ∀ env : Env, elen env = a57.ntmps → (∀ i x_, [.agg [v, w]][i]? = some x_ → E env i = x_) → awp (tb [(60, R_CValid), (81, R_SClV), (59, R_VGet), (82, R_VRaise)]) a57.body (fun x e t => (∀ i, x ≠ .exit i) ∧ ∃ r, aresults e t a57.results = some r ∧ (∃ vv cc, r = .tup [.agg [vv, cc], .int .i64 0] ∧ NewX dotC s t vv (compC X).v ∧ Own dotC s t cc (compC X).c) ∧ Keep s t) env s := by
  intro env hlen ha
  have h0 : E env 0 = _ := ha 0 _ rfl
  have hlen : elen env = _ := hlen
  simp only [a57] at hlen
  unfold a57
  try dsimp only [oO, oG]
  have hbx := boxV_2 (read_oneD hv).2 (read_oneD hw).2
  have hK1 : Keep s ((s.push (.row [v, w] true)).push (.row [.nils, .nils] true)) := ((Keep.refl s).push _).push _
  have hK1' : Keep (s.push (.row [v, w] true)) ((s.push (.row [v, w] true)).push (.row [.nils, .nils] true)) := (Keep.refl _).push _
  obtain ⟨c1, c2, c3, c4⟩ := box_ctx s v w hK1'
  have q1 := q_CValid false (hK1.read hv) (hK1.read hw) (by unfold lim; omega) (by unfold lim; omega)
  rw [hcv] at q1
  obtain ⟨v1, t1, q2, ⟨hN1, _⟩, hK2⟩ := q_SClV (hK1.read hv) (by unfold lim; omega)
  obtain ⟨d1, d2, d3, d4⟩ := box_ctx s v w ((hK1'.trans hK2).lowed.push (.row [v1, .nils] true))
  have hone := read_oneD hN1.read
  have hf0 := fstep_s0 hone.1 hone.2 .nils .nils
  have hst := sto_ctx (show sameN t1.next t1 from rfl) hone.2 (rfl : AV.nils.one = true)
  have hL := lenV_read hw
  have hCJ : CJ s (t1.lowed.push (.row [v1, .nils] true)) t1.next v1 .nils X.v [] := by
    have hn : s.next + 2 ≤ t1.next := hK2.next
    refine ⟨(hK1.trans hK2).lowed.push _, ?_, St.get_push_new t1.lowed _, ?_, .nil _ _ _, fun id hid => ⟨?_, by simp [vids]⟩, by simp [vids], hn⟩
    · exact get_push_some _ (hK2.blk (St.get_push_new (s.push (.row [v, w] true)) _))
    · exact (hN1.mono fun _ _ k => get_push_some (t := t1.lowed) _ k).from (Nat.le_refl _)
    · have := newX_vidl hN1 id hid
      omega
  simp (config := {contextual := true, maxDischargeDepth := 12}) only [tb_at, h0, hlen, hbx, c1, c2, c3, c4, q1, notV_bool, q2, ap_build, hf0, fillP_nil, fillP_cons, hst, d1, d2, d3, d4, hL, ↓bD, bU, forall_const, bS, implies_true, isNx, eq_self, ↓wp_cond, ↓wp_loop, ↓reduceIte, reduceCtorEq, Nat.reduceEqDiff, Nat.reduceLT, Nat.reduceAdd, Nat.reduceMul, bT, ↓sg_bsl, ↓st_callf, bX, ap_mkfn, ae_callvV, callvV_fn, List.cons_append, List.nil_append, boxV_i, boxV_dot, sto_dot, ap_conv, convV_int, bslV_0, fstep_d0, fstep_d1, bsl_dot, ae_appz, ap_cap, capV_nils, slcV_nils0, slcV_sl0, wrap_0, ae_clr, boxV_f, fstep_f]
  obtain ⟨b, hb⟩ : ∃ b, b = t1.next := ⟨_, rfl⟩
  rw [← hb] at hCJ
  obtain ⟨I, hI⟩ : ∃ I : Nat → Env → St → Prop, ∀ n e t, I n e t = (True ∧ ∃ (i : Nat) (vv cc : AV), n + i = X.c.length ∧ elen e = 56 ∧ E e 2 = .ptr (s.next + 1) 0 ∧ E e 4 = .ptr b 0 ∧ E e 17 = w ∧ E e 18 = .int .i64 (X.c.length : Int) ∧ E e 19 = .int .i64 (i : Int) ∧ CJ s t b vv cc ((X.c.take i).foldl kstep (X.v, [])).1 ((X.c.take i).foldl kstep (X.v, [])).2) := ⟨fun n e t => (True ∧ ∃ (i : Nat) (vv cc : AV), n + i = X.c.length ∧ elen e = 56 ∧ E e 2 = .ptr (s.next + 1) 0 ∧ E e 4 = .ptr b 0 ∧ E e 17 = w ∧ E e 18 = .int .i64 (X.c.length : Int) ∧ E e 19 = .int .i64 (i : Int) ∧ CJ s t b vv cc ((X.c.take i).foldl kstep (X.v, [])).1 ((X.c.take i).foldl kstep (X.v, [])).2), fun _ _ _ => rfl⟩
  refine lwp_inv I (n := X.c.length) ?_ ?_
  · rw [hI]
    exact ⟨trivial, 0, v1, .nils, by omega, (by simp only [bE, Nat.reduceEqDiff, bN, Nat.reduceLT, hlen, hb]; try rfl), (by simp only [bE, Nat.reduceEqDiff, bN, Nat.reduceLT, hlen, hb]; try rfl), (by simp only [bE, Nat.reduceEqDiff, bN, Nat.reduceLT, hlen, hb]; try rfl), (by simp only [bE, Nat.reduceEqDiff, bN, Nat.reduceLT, hlen, hb]; try rfl), (by simp only [bE, Nat.reduceEqDiff, bN, Nat.reduceLT, hlen, hb]; try rfl), (by simp only [bE, Nat.reduceEqDiff, bN, Nat.reduceLT, hlen, hb]; try rfl), hCJ⟩
  clear c1 c2 c3 c4 d1 d2 d3 d4 hst hf0 q1 q2 hCJ
  intro n e t hi
  rw [hI] at hi
  obtain ⟨hK, i, vv, cc, hni, he, e2, e4, e17, e18, e19, hJ⟩ := hi
  have hvi := kfold_valid hcv i (by omega)
  generalize hP : (X.c.take i).foldl kstep (X.v, []) = P at hJ hvi
  have hPl : P.1.length ≤ X.v.length + X.c.length ∧ P.2.length ≤ X.c.length := by
    have := kfold_len (X.c.take i) (X.v, [])
    rw [hP, List.length_take] at this
    simp at this
    omega
  by_cases hlt : i < X.c.length
  · obtain ⟨d, hx⟩ := getsome hlt
    have hd := ((cvalid_iff X).1 hcv).2.2 d (mem_at hx)
    have hw2 := wrap_add1 (n := i) (by omega)
    obtain ⟨a1, a2, a3, a4⟩ := dot_lods hw hJ.keep hx
    have i1 := dot_idx hw hx .i64
    obtain ⟨o0, o1, olt⟩ := row2_lod hJ.obox
    have hJA := hJ.low (Dot.av d)
    have qg := q_VGet false hJA.vec.read (by unfold lim; omega) d.r
    have hwr := wrap_vget hvi d.r
    have hfs : (X.c.take (i + 1)).foldl kstep (X.v, []) = kstep P d := by rw [take_snoc hx, List.foldl_append, hP]; rfl
    by_cases hc1 : vget P.1 d.r + 1 < d.c
    · have z1 := eq_true hc1
      obtain ⟨cc', t', hap, hsto, hJ'⟩ := hJA.app d (by omega)
      rw [kstep_gt hc1] at hfs
      simp (config := {contextual := true, maxDischargeDepth := 12}) only [tb_at, he, e2, e4, e17, e18, e19, hL, hlt, hw2, a1, a4, i1, o0, o1, olt, qg, hwr, z1, hap, hsto, ↓bD, bU, forall_const, bS, implies_true, isNx, eq_self, ↓wp_cond, ↓wp_loop, ↓reduceIte, reduceCtorEq, Nat.reduceEqDiff, Nat.reduceLT, Nat.reduceAdd, Nat.reduceMul, bT, ↓sg_bsl, ↓st_callf, bX, ap_mkfn, ae_callvV, callvV_fn, List.cons_append, List.nil_append, boxV_i, boxV_dot, sto_dot, ap_conv, convV_int, bslV_0, fstep_d0, fstep_d1, bsl_dot, ae_appz, ap_cap, capV_nils, slcV_nils0, slcV_sl0, wrap_0, ae_clr, boxV_f, fstep_f]
      refine ⟨n - 1, by omega, ?_⟩
      rw [hI]
      exact ⟨trivial, i + 1, vv, cc', by omega, (by simp only [bE, Nat.reduceEqDiff, bN, Nat.reduceLT, he, e2, e4, e17, e18, e19]; try rfl), (by simp only [bE, Nat.reduceEqDiff, bN, Nat.reduceLT, he, e2, e4, e17, e18, e19]; try rfl), (by simp only [bE, Nat.reduceEqDiff, bN, Nat.reduceLT, he, e2, e4, e17, e18, e19]; try rfl), (by simp only [bE, Nat.reduceEqDiff, bN, Nat.reduceLT, he, e2, e4, e17, e18, e19]; try rfl), (by simp only [bE, Nat.reduceEqDiff, bN, Nat.reduceLT, he, e2, e4, e17, e18, e19]; try rfl), (by simp only [bE, Nat.reduceEqDiff, bN, Nat.reduceLT, he, e2, e4, e17, e18, e19]; try rfl), by rw [hfs]; exact hJ'⟩
    · have z1 := eq_false hc1
      by_cases hc2 : d.c = vget P.1 d.r + 1
      · have z2 := eq_true hc2
        obtain ⟨vv', t', qr, hO', hK'⟩ := q_VRaise hJA.vec.read (by omega) hvi hd
        obtain ⟨hsto, hJ'⟩ := hJA.raise hO' hK' (read_oneD hO'.read)
        rw [kstep_eq hc2] at hfs
        simp (config := {contextual := true, maxDischargeDepth := 12}) only [tb_at, he, e2, e4, e17, e18, e19, hL, hlt, hw2, a1, a4, i1, o0, o1, olt, qg, hwr, z1, z2, qr, hsto, ↓bD, bU, forall_const, bS, implies_true, isNx, eq_self, ↓wp_cond, ↓wp_loop, ↓reduceIte, reduceCtorEq, Nat.reduceEqDiff, Nat.reduceLT, Nat.reduceAdd, Nat.reduceMul, bT, ↓sg_bsl, ↓st_callf, bX, ap_mkfn, ae_callvV, callvV_fn, List.cons_append, List.nil_append, boxV_i, boxV_dot, sto_dot, ap_conv, convV_int, bslV_0, fstep_d0, fstep_d1, bsl_dot, ae_appz, ap_cap, capV_nils, slcV_nils0, slcV_sl0, wrap_0, ae_clr, boxV_f, fstep_f]
        refine ⟨n - 1, by omega, ?_⟩
        rw [hI]
        exact ⟨trivial, i + 1, vv', cc, by omega, (by simp only [bE, Nat.reduceEqDiff, bN, Nat.reduceLT, he, e2, e4, e17, e18, e19]; try rfl), (by simp only [bE, Nat.reduceEqDiff, bN, Nat.reduceLT, he, e2, e4, e17, e18, e19]; try rfl), (by simp only [bE, Nat.reduceEqDiff, bN, Nat.reduceLT, he, e2, e4, e17, e18, e19]; try rfl), (by simp only [bE, Nat.reduceEqDiff, bN, Nat.reduceLT, he, e2, e4, e17, e18, e19]; try rfl), (by simp only [bE, Nat.reduceEqDiff, bN, Nat.reduceLT, he, e2, e4, e17, e18, e19]; try rfl), (by simp only [bE, Nat.reduceEqDiff, bN, Nat.reduceLT, he, e2, e4, e17, e18, e19]; try rfl), by rw [hfs]; exact hJ'⟩
      · have z2 := eq_false hc2
        rw [kstep_le (by omega)] at hfs
        simp (config := {contextual := true, maxDischargeDepth := 12}) only [tb_at, he, e2, e4, e17, e18, e19, hL, hlt, hw2, a1, a4, i1, o0, o1, olt, qg, hwr, z1, z2, ↓bD, bU, forall_const, bS, implies_true, isNx, eq_self, ↓wp_cond, ↓wp_loop, ↓reduceIte, reduceCtorEq, Nat.reduceEqDiff, Nat.reduceLT, Nat.reduceAdd, Nat.reduceMul, bT, ↓sg_bsl, ↓st_callf, bX, ap_mkfn, ae_callvV, callvV_fn, List.cons_append, List.nil_append, boxV_i, boxV_dot, sto_dot, ap_conv, convV_int, bslV_0, fstep_d0, fstep_d1, bsl_dot, ae_appz, ap_cap, capV_nils, slcV_nils0, slcV_sl0, wrap_0, ae_clr, boxV_f, fstep_f]
        refine ⟨n - 1, by omega, ?_⟩
        rw [hI]
        exact ⟨trivial, i + 1, vv, cc, by omega, (by simp only [bE, Nat.reduceEqDiff, bN, Nat.reduceLT, he, e2, e4, e17, e18, e19]; try rfl), (by simp only [bE, Nat.reduceEqDiff, bN, Nat.reduceLT, he, e2, e4, e17, e18, e19]; try rfl), (by simp only [bE, Nat.reduceEqDiff, bN, Nat.reduceLT, he, e2, e4, e17, e18, e19]; try rfl), (by simp only [bE, Nat.reduceEqDiff, bN, Nat.reduceLT, he, e2, e4, e17, e18, e19]; try rfl), (by simp only [bE, Nat.reduceEqDiff, bN, Nat.reduceLT, he, e2, e4, e17, e18, e19]; try rfl), (by simp only [bE, Nat.reduceEqDiff, bN, Nat.reduceLT, he, e2, e4, e17, e18, e19]; try rfl), by rw [hfs]; exact hJA⟩
  · obtain rfl : i = X.c.length := by omega
    rw [List.take_length] at hP
    have hl2 := lod_row2 hJ.obox
    have hst2 := sto_row2 hJ.rbox (read_oneD hJ.vec.read).2 (read_oneD hJ.cld.read).2
    have hlr := St.get_lt hJ.rbox
    have hl3 : lod (t.put (s.next + 1) (.row [vv, cc] true)) 2 (.ptr (s.next + 1) 0) = some (.agg [vv, cc]) := lod_row2 (St.get_put_same hJ.rbox)
    have hC : Chg [s.next + 1] t (t.put (s.next + 1) (.row [vv, cc] true)) := (Chg.refl _ _).put _ (.inl (by simp)) hlr
    have k1 : (compC X).v = P.1 := by unfold compC; rw [hP]
    have k2 : (compC X).c = P.2 := by unfold compC; rw [hP]
    simp (config := {contextual := true, maxDischargeDepth := 12}) only [tb_at, he, e2, e4, e17, e18, e19, hL, hlt, hl2, hst2, hl3, rc2, ↓bD, bU, forall_const, bS, implies_true, isNx, eq_self, ↓wp_cond, ↓wp_loop, ↓reduceIte, reduceCtorEq, Nat.reduceEqDiff, Nat.reduceLT, Nat.reduceAdd, Nat.reduceMul, bT, ↓sg_bsl, ↓st_callf, bX, ap_mkfn, ae_callvV, callvV_fn, List.cons_append, List.nil_append, boxV_i, boxV_dot, sto_dot, ap_conv, convV_int, bslV_0, fstep_d0, fstep_d1, bsl_dot, ae_appz, ap_cap, capV_nils, slcV_nils0, slcV_sl0, wrap_0, ae_clr, boxV_f, fstep_f]
    refine ⟨_, rfl, ⟨vv, cc, rfl, ?_, ?_⟩, hJ.keep.put _ (by omega) hlr⟩
    · rw [k1]
      refine (hJ.vec.keep hC fun id hid => ?_).from (by simp; omega)
      have := newX_vids hJ.vec id hid
      simp at this ⊢
      omega
    · rw [k2]
      refine (hJ.cld.keep hC fun id hid => ?_).from (by simp; omega)
      have := own_vids hJ.cld id hid
      simp at this ⊢
      omega

end Go.AM
end
/-
  Calls that answer contexts: Compact, Add, Of, Union; Within and Size. Own work of this project; in part printed by a program of it.
-/
section
set_option maxRecDepth 100000
set_option maxHeartbeats 8000000
namespace Go.AM
open Go Go.Proofs

variable {s t u : St}

/-- Two lists read as a context. -/
def CR (t : St) (vv cc : AV) (X : DCx) : Prop := read dotC t vv = some X.v ∧ read dotC t cc = some X.c
theorem CR.mono {vv cc : AV} {X : DCx} (h : CR t vv cc X) (k : ∀ id b, t.get id = some b → u.get id = some b) : CR u vv cc X := ⟨read_mono h.1 k, read_mono h.2 k⟩
theorem CR.keep {vv cc : AV} {X : DCx} (h : CR t vv cc X) (k : Keep t u) : CR u vv cc X := h.mono fun _ _ => k.blk
theorem CR.ground {vv cc : AV} {X : DCx} (h : CR t vv cc X) (h1 : vv.ground = true) (h2 : cc.ground = true) : CR u vv cc X := by
  obtain ⟨rfl, e1⟩ := read_ground h.1 h1
  obtain ⟨rfl, e2⟩ := read_ground h.2 h2
  exact ⟨by rw [e1]; rfl, by rw [e2]; rfl⟩
theorem CR.nils : CR t .nils .nils ⟨[], []⟩ := ⟨rfl, rfl⟩
theorem ground_agg {a b : AV} (h : (AV.agg [a, b]).ground = true) : a.plain = true ∧ b.plain = true := by
  simpa [AV.ground] using h
theorem ground_tup {a b : AV} {e : AV} (h : (AV.tup [.agg [a, b], e]).ground = true) : a.plain = true ∧ b.plain = true := by
  simp [AV.ground, AV.plains] at h
  exact ⟨h.1.1, h.1.2⟩
theorem plain_ground {v : AV} (h : v.plain = true) : v.ground = true := by cases v <;> simp_all [AV.plain, AV.ground, AV.plains]
theorem q_CComp {s : St} {v w : AV} {X : DCx} (hv : read dotC s v = some X.v) (hw : read dotC s w = some X.c) (hlv : X.v.length ≤ 200000) (hlw : X.c.length ≤ 200000) (hcv : cvalid X = true) : ∃ vv cc t, acall R_CComp false [.agg [v, w]] s = some (.tup [.agg [vv, cc], .int .i64 0], t) ∧ NewX dotC s t vv (compC X).v ∧ Own dotC s t cc (compC X).c ∧ Keep s t := by
  obtain ⟨r, t, h1, ⟨vv, cc, rfl, h2, h4⟩, h3⟩ := run_any n_CComp (args := [.agg [v, w]]) (Q := fun r t => ∃ vv cc, r = .tup [.agg [vv, cc], .int .i64 0] ∧ NewX dotC s t vv (compC X).v ∧ Own dotC s t cc (compC X).c) (by simp [a57]) (fun r t t' hg hn ⟨vv, cc, e, h, h'⟩ => ⟨vv, cc, e, h.mono fun id b hb => by rw [hg]; exact hb, h'.mono fun id b hb => by rw [hg]; exact hb⟩) (fun r t hgr hk ⟨vv, cc, e, h, h'⟩ => ⟨vv, cc, e, by
    rw [e] at hgr
    obtain ⟨rfl, e1⟩ := h.ground (plain_ground (ground_tup hgr).1)
    obtain ⟨rfl, e2⟩ := h'.ground (plain_ground (ground_tup hgr).2)
    exact ⟨.inl ⟨rfl, e1⟩, .inl ⟨rfl, e2⟩⟩⟩) (w_CComp (s := lowd s) (read_low' hv) (read_low' hw) hlv hlw hcv)
  exact ⟨vv, cc, t, h1, h2, h4, h3⟩
theorem cr_put {id : Nat} {a b x y : AV} {vv cc : AV} {X : DCx} {own : Bool} (h : t.get id = some (.row [a, b] own)) (ha : ∀ k n, a ≠ .int k n) (hR : CR t vv cc X) : CR (t.put id (.row [x, y] true)) vv cc X := by
  have hlt := St.get_lt h
  have key : ∀ {v : AV} {l : List Dot}, read dotC t v = some l → read dotC (t.put id (.row [x, y] true)) v = some l := by
    intro v l hr
    cases v with
    | nils => exact hr
    | sl j off n cap z =>
      obtain ⟨rfl, hn, cs, own', hg, h1, h2, _⟩ := read_sl hr
      by_cases hj : j = id
      · subst hj
        rw [h] at hg
        injection hg with hg
        injection hg with hg _
        subst hg
        cases l with
        | nil =>
          simp at hn
          subst hn
          exact read_of (C := dotC) (n := 0) rfl (St.get_put_same h) (by simp at h1 ⊢; omega) (by simp [cells_nil])
        | cons d r =>
          exfalso
          have h22 : dotC.sz = 2 := rfl
          rw [hn, h22] at h1
          simp at h1
          have h0 : off = 0 := by omega
          have hr0 : r.length = 0 := by omega
          subst h0
          have : r = [] := List.length_eq_zero_iff.1 hr0
          subst this
          rw [hn, h22, cells_one] at h2
          simp at h2
          have e : dotC.enc d = [.int .i64 d.r, .int .i64 d.c] := rfl
          rw [e] at h2
          injection h2 with h2 _
          exact ha _ _ h2
      · exact read_of hn (by rw [St.get_put_ne _ _ hlt hj]; exact hg) h1 h2
    | _ => simp [AM.read] at hr
  exact ⟨key hR.1, key hR.2⟩
end Go.AM
end
/-
  context.Of, Union, Within, Size. Own work of this project; in part printed by a program of it.
-/
section
set_option maxRecDepth 100000
set_option maxHeartbeats 8000000
namespace Go.AM
open Go Go.Proofs

variable {s t u : St}

theorem lod_new2 {n : Nat} {s : St} (h : sameN n s) (a b : AV) (own : Bool) : lod (s.push (.row [a, b] own)) 2 (.ptr n 0) = some (.agg [a, b]) := by
  unfold sameN at h
  subst h
  exact lod_row2 (St.get_push_new _ _)
noncomputable def R_CUnion : Con := runFn (tb [(60, R_CValid), (79, R_VMerge), (80, R_DUnion), (57, R_CComp)]) a56
theorem s_CUnion : SoundAt Tryz.prog 56 R_CUnion := run_sound (tb_sound (l := [(60, R_CValid), (79, R_VMerge), (80, R_DUnion), (57, R_CComp)]) (by simpa using ⟨s_CValid, s_VMerge, s_DUnion, s_CComp⟩)) mixed Tryz.func56 k56 c56
theorem n_CUnion : noNxtC a56.body = true := by kernel_rfl
theorem w_CUnion_bad {s : St} {v w : AV} {X : DCx} (hv : read dotC s v = some X.v) (hw : read dotC s w = some X.c) (hlv : X.v.length ≤ 80000) (hlw : X.c.length ≤ 80000) {v' w' : AV} {Y : DCx} (kv : read dotC s v' = some Y.v) (kw : read dotC s w' = some Y.c) (klv : Y.v.length ≤ 80000) (klw : Y.c.length ≤ 80000) (hbad : (cvalid X && cvalid Y) = false) : ∀ env : Env, elen env = a56.ntmps → (∀ i x_, [.agg [v, w], .agg [v', w']][i]? = some x_ → E env i = x_) → awp (tb [(60, R_CValid), (79, R_VMerge), (80, R_DUnion), (57, R_CComp)]) a56.body (fun x e t => (∀ i, x ≠ .exit i) ∧ aresults e t a56.results = some (.tup [.agg [.nils, .nils], .int .i64 2]) ∧ Keep s t) env s := by
  intro env hlen ha
  have h0 : E env 0 = _ := ha 0 _ rfl
  have h1 : E env 1 = _ := ha 1 _ rfl
  have hlen : elen env = _ := hlen
  simp only [a56] at hlen
  unfold a56
  try dsimp only [oO, oG]
  have hbx := boxV_2 (read_oneD hv).2 (read_oneD hw).2
  have hby := boxV_2 (read_oneD kv).2 (read_oneD kw).2
  have hK2 : Keep s ((s.push (.row [v, w] true)).push (.row [v', w'] true)) := ((Keep.refl s).push _).push _
  have hKx : Keep (s.push (.row [v, w] true)) ((s.push (.row [v, w] true)).push (.row [v', w'] true)) := (Keep.refl _).push _
  have hKy : Keep ((s.push (.row [v, w] true)).push (.row [v', w'] true)) (((s.push (.row [v, w] true)).push (.row [v', w'] true)).push (.row [.nils, .nils] true)) := (Keep.refl _).push _
  have hK3 := hK2.trans hKy
  obtain ⟨c1, c2, c3, c4⟩ := box_ctx s v w (hKx.trans hKy)
  obtain ⟨d1, d2, d3, d4⟩ := box_ctx (s.push (.row [v, w] true)) v' w' hKy
  have hst0 := sto_ctx (show sameN ((s.push (.row [v, w] true)).push (.row [v', w'] true)).next ((s.push (.row [v, w] true)).push (.row [v', w'] true)) from rfl) (a := .nils) (b := .nils) rfl rfl
  have q1 := q_CValid false (hK3.read hv) (hK3.read hw) (by unfold lim; omega) (by unfold lim; omega)
  have q2 := q_CValid false (hK3.read kv) (hK3.read kw) (by unfold lim; omega) (by unfold lim; omega)
  cases hc : cvalid X
  · rw [hc] at q1
    simp (config := {contextual := true, maxDischargeDepth := 12}) only [tb_at, h0, h1, hlen, hbx, hby, c1, c2, c3, c4, d1, d2, d3, d4, q1, notV_bool, hst0, ap_build, fillP_nil, rc2, Bool.not_false, gpure_tf, gcall_tf, pickV_t, ↓bD, bU, forall_const, bS, implies_true, isNx, eq_self, ↓wp_cond, ↓wp_loop, ↓reduceIte, reduceCtorEq, Nat.reduceEqDiff, Nat.reduceLT, Nat.reduceAdd, Nat.reduceMul, bT, ↓sg_bsl, ↓st_callf, bX, ap_mkfn, ae_callvV, callvV_fn, List.cons_append, List.nil_append, boxV_i, boxV_dot, sto_dot, ap_conv, convV_int, bslV_0, fstep_d0, fstep_d1, bsl_dot, ae_appz, ap_cap, capV_nils, slcV_nils0, slcV_sl0, wrap_0, ae_clr, boxV_f, fstep_f, lod_new2]
    all_goals exact hK2.lowed.push _
  · rw [hc, Bool.true_and] at hbad
    rw [hc] at q1
    rw [hbad] at q2
    simp (config := {contextual := true, maxDischargeDepth := 12}) only [tb_at, h0, h1, hlen, hbx, hby, c1, c2, c3, c4, d1, d2, d3, d4, q1, q2, notV_bool, hst0, ap_build, fillP_nil, rc2, Bool.not_true, Bool.not_false, ↓bD, bU, forall_const, bS, implies_true, isNx, eq_self, ↓wp_cond, ↓wp_loop, ↓reduceIte, reduceCtorEq, Nat.reduceEqDiff, Nat.reduceLT, Nat.reduceAdd, Nat.reduceMul, bT, ↓sg_bsl, ↓st_callf, bX, ap_mkfn, ae_callvV, callvV_fn, List.cons_append, List.nil_append, boxV_i, boxV_dot, sto_dot, ap_conv, convV_int, bslV_0, fstep_d0, fstep_d1, bsl_dot, ae_appz, ap_cap, capV_nils, slcV_nils0, slcV_sl0, wrap_0, ae_clr, boxV_f, fstep_f, lod_new2]
    all_goals exact hK2.lowed.push _
theorem q_CUnion_bad (cl : Bool) {s : St} {v w : AV} {X : DCx} (hv : read dotC s v = some X.v) (hw : read dotC s w = some X.c) (hlv : X.v.length ≤ 80000) (hlw : X.c.length ≤ 80000) {v' w' : AV} {Y : DCx} (kv : read dotC s v' = some Y.v) (kw : read dotC s w' = some Y.c) (klv : Y.v.length ≤ 80000) (klw : Y.c.length ≤ 80000) (hbad : (cvalid X && cvalid Y) = false) : acall R_CUnion cl [.agg [v, w], .agg [v', w']] s = some (.tup [.agg [.nils, .nils], .int .i64 2], s) := run_same n_CUnion (by simp [a56]) rfl (w_CUnion_bad (s := lowd s) (read_low' hv) (read_low' hw) hlv hlw (read_low' kv) (read_low' kw) klv klw hbad)
theorem w_CUnion {s : St} {v w : AV} {X : DCx} (hv : read dotC s v = some X.v) (hw : read dotC s w = some X.c) (hlv : X.v.length ≤ 80000) (hlw : X.c.length ≤ 80000) {v' w' : AV} {Y : DCx} (kv : read dotC s v' = some Y.v) (kw : read dotC s w' = some Y.c) (klv : Y.v.length ≤ 80000) (klw : Y.c.length ≤ 80000) (hcx : cvalid X = true) (hcy : cvalid Y = true) : ∀ env : Env, elen env = a56.ntmps → (∀ i x_, [.agg [v, w], .agg [v', w']][i]? = some x_ → E env i = x_) → awp (tb [(60, R_CValid), (79, R_VMerge), (80, R_DUnion), (57, R_CComp)]) a56.body (fun x e t => (∀ i, x ≠ .exit i) ∧ ∃ r, aresults e t a56.results = some r ∧ (∃ vv cc, r = .tup [.agg [vv, cc], .int .i64 0] ∧ CR t vv cc (uniC X Y)) ∧ Keep s t) env s := by
  intro env hlen ha
  have h0 : E env 0 = _ := ha 0 _ rfl
  have h1 : E env 1 = _ := ha 1 _ rfl
  have hlen : elen env = _ := hlen
  simp only [a56] at hlen
  unfold a56
  try dsimp only [oO, oG]
  have hbx := boxV_2 (read_oneD hv).2 (read_oneD hw).2
  have hby := boxV_2 (read_oneD kv).2 (read_oneD kw).2
  have hK2 : Keep s ((s.push (.row [v, w] true)).push (.row [v', w'] true)) := ((Keep.refl s).push _).push _
  have hKx : Keep (s.push (.row [v, w] true)) ((s.push (.row [v, w] true)).push (.row [v', w'] true)) := (Keep.refl _).push _
  have hKy : Keep ((s.push (.row [v, w] true)).push (.row [v', w'] true)) (((s.push (.row [v, w] true)).push (.row [v', w'] true)).push (.row [.nils, .nils] true)) := (Keep.refl _).push _
  have hK3 := hK2.trans hKy
  obtain ⟨c1, c2, c3, c4⟩ := box_ctx s v w (hKx.trans hKy)
  obtain ⟨d1, d2, d3, d4⟩ := box_ctx (s.push (.row [v, w] true)) v' w' hKy
  have hst0 := sto_ctx (show sameN ((s.push (.row [v, w] true)).push (.row [v', w'] true)).next ((s.push (.row [v, w] true)).push (.row [v', w'] true)) from rfl) (a := .nils) (b := .nils) rfl rfl
  have q1 := q_CValid false (hK3.read hv) (hK3.read hw) (by unfold lim; omega) (by unfold lim; omega)
  have q2 := q_CValid false (hK3.read kv) (hK3.read kw) (by unfold lim; omega) (by unfold lim; omega)
  rw [hcx] at q1
  rw [hcy] at q2
  obtain ⟨m, t1, q3, hO1, hK4⟩ := q_VMerge (hK3.read hv) (hK3.read kv) (by omega) (by omega) ((cvalid_iff X).1 hcx).1 ((cvalid_iff Y).1 hcy).1
  obtain ⟨c1', c2', c3', c4'⟩ := box_ctx s v w ((hKx.trans hKy).trans hK4)
  obtain ⟨d1', d2', d3', d4'⟩ := box_ctx (s.push (.row [v, w] true)) v' w' (hKy.trans hK4)
  obtain ⟨w2, t2, q4, hN2, hK5⟩ := q_DUnion ((hK3.trans hK4).read hw) ((hK3.trans hK4).read kw) (by omega) (by omega)
  have hlen1 := madeL_len (X.v ++ Y.v)
  have hlen2 := setL_len (X.c ++ Y.c)
  rw [List.length_append] at hlen1 hlen2
  have hm2 := hK5.read hO1.read
  obtain ⟨vv, cc, t3, q5, hV, hC, hK6⟩ := q_CComp (X := ⟨madeL (X.v ++ Y.v), setL (X.c ++ Y.c)⟩) hm2 hN2.read (by simp only; omega) (by simp only; omega) (uni_valid hcx hcy)
  have hR : CR t3 vv cc (uniC X Y) := ⟨hV.read, hC.read⟩
  have hKr := hK4.trans (hK5.trans hK6)
  have hone := read_oneD hm2
  have hone2 := read_oneD hN2.read
  have hf0 := fstep_s0 hone.1 hone.2 .nils .nils
  have hf1 := fstep_s1 hone2.1 hone2.2 m .nils
  have hrb : t3.get ((s.push (.row [v, w] true)).push (.row [v', w'] true)).next = some (.row [.nils, .nils] true) := hKr.blk (St.get_push_new ((s.push (.row [v, w] true)).push (.row [v', w'] true)) _)
  have hstr := sto_row2 hrb (read_oneD hR.1).2 (read_oneD hR.2).2
  have hlr := St.get_lt hrb
  have hlo : lod (t3.put ((s.push (.row [v, w] true)).push (.row [v', w'] true)).next (.row [vv, cc] true)) 2 (.ptr ((s.push (.row [v, w] true)).push (.row [v', w'] true)).next 0) = some (.agg [vv, cc]) := lod_row2 (St.get_put_same hrb)
  simp (config := {contextual := true, maxDischargeDepth := 12}) only [tb_at, h0, h1, hlen, hbx, hby, c1, c2, c3, c4, d1, d2, d3, d4, c1', c2', c3', c4', d1', d2', d3', d4', q1, q2, q3, q4, q5, notV_bool, ap_build, hf0, hf1, fillP_nil, fillP_cons, hstr, hlo, rc2, Bool.not_true, ↓bD, bU, forall_const, bS, implies_true, isNx, eq_self, ↓wp_cond, ↓wp_loop, ↓reduceIte, reduceCtorEq, Nat.reduceEqDiff, Nat.reduceLT, Nat.reduceAdd, Nat.reduceMul, bT, ↓sg_bsl, ↓st_callf, bX, ap_mkfn, ae_callvV, callvV_fn, List.cons_append, List.nil_append, boxV_i, boxV_dot, sto_dot, ap_conv, convV_int, bslV_0, fstep_d0, fstep_d1, bsl_dot, ae_appz, ap_cap, capV_nils, slcV_nils0, slcV_sl0, wrap_0, ae_clr, boxV_f, fstep_f, lod_new2]
  exact ⟨_, rfl, ⟨vv, cc, rfl, cr_put hrb (by intro k n h; cases h) hR⟩, (hK3.trans hKr).put _ (by simp; omega) hlr⟩
theorem q_CUnion {s : St} {v w : AV} {X : DCx} (hv : read dotC s v = some X.v) (hw : read dotC s w = some X.c) (hlv : X.v.length ≤ 80000) (hlw : X.c.length ≤ 80000) {v' w' : AV} {Y : DCx} (kv : read dotC s v' = some Y.v) (kw : read dotC s w' = some Y.c) (klv : Y.v.length ≤ 80000) (klw : Y.c.length ≤ 80000) (hcx : cvalid X = true) (hcy : cvalid Y = true) : ∃ vv cc t, acall R_CUnion false [.agg [v, w], .agg [v', w']] s = some (.tup [.agg [vv, cc], .int .i64 0], t) ∧ CR t vv cc (uniC X Y) ∧ Keep s t := by
  obtain ⟨r, t, h1, ⟨vv, cc, rfl, h2⟩, h3⟩ := run_any n_CUnion (args := [.agg [v, w], .agg [v', w']]) (Q := fun r t => ∃ vv cc, r = .tup [.agg [vv, cc], .int .i64 0] ∧ CR t vv cc (uniC X Y)) (by simp [a56]) (fun r t t' hg hn ⟨vv, cc, e, h⟩ => ⟨vv, cc, e, h.mono fun id b hb => by rw [hg]; exact hb⟩) (fun r t hgr hk ⟨vv, cc, e, h⟩ => ⟨vv, cc, e, by
    rw [e] at hgr
    exact h.ground (plain_ground (ground_tup hgr).1) (plain_ground (ground_tup hgr).2)⟩) (w_CUnion (s := lowd s) (read_low' hv) (read_low' hw) hlv hlw (read_low' kv) (read_low' kw) klv klw hcx hcy)
  exact ⟨vv, cc, t, h1, h2, h3⟩
noncomputable def R_CWithin : Con := runFn (tb [(56, R_CUnion), (57, R_CComp), (46, R_CEqual)]) a36
theorem s_CWithin : SoundAt Tryz.prog 36 R_CWithin := run_sound (tb_sound (l := [(56, R_CUnion), (57, R_CComp), (46, R_CEqual)]) (by simpa using ⟨s_CUnion, s_CComp, s_CEqual⟩)) mixed Tryz.func36 k36 c36
theorem n_CWithin : noNxtC a36.body = true := by kernel_rfl
theorem w_CWithin_bad {s : St} {v w : AV} {X : DCx} (hv : read dotC s v = some X.v) (hw : read dotC s w = some X.c) (hlv : X.v.length ≤ 80000) (hlw : X.c.length ≤ 80000) {v' w' : AV} {Y : DCx} (kv : read dotC s v' = some Y.v) (kw : read dotC s w' = some Y.c) (klv : Y.v.length ≤ 80000) (klw : Y.c.length ≤ 80000) (hbad : (cvalid X && cvalid Y) = false) : ∀ env : Env, elen env = a36.ntmps → (∀ i x_, [.agg [v, w], .agg [v', w']][i]? = some x_ → E env i = x_) → awp (tb [(56, R_CUnion), (57, R_CComp), (46, R_CEqual)]) a36.body (fun x e t => (∀ i, x ≠ .exit i) ∧ aresults e t a36.results = some (.tup [.bool false, .int .i64 2]) ∧ Keep s t) env s := by
  intro env hlen ha
  have h0 : E env 0 = _ := ha 0 _ rfl
  have h1 : E env 1 = _ := ha 1 _ rfl
  have hlen : elen env = _ := hlen
  simp only [a36] at hlen
  unfold a36
  try dsimp only [oO, oG]
  have hbx := boxV_2 (read_oneD hv).2 (read_oneD hw).2
  have hby := boxV_2 (read_oneD kv).2 (read_oneD kw).2
  have hK2 : Keep s ((s.push (.row [v, w] true)).push (.row [v', w'] true)) := ((Keep.refl s).push _).push _
  have hKx : Keep (s.push (.row [v, w] true)) ((s.push (.row [v, w] true)).push (.row [v', w'] true)) := (Keep.refl _).push _
  have hKy : Keep ((s.push (.row [v, w] true)).push (.row [v', w'] true)) (((s.push (.row [v, w] true)).push (.row [v', w'] true)).push (.row [.nils, .nils] true)) := (Keep.refl _).push _
  have hK3 := hK2.trans hKy
  obtain ⟨c1, c2, c3, c4⟩ := box_ctx s v w hKx
  obtain ⟨d1, d2, d3, d4⟩ := box_ctx (s.push (.row [v, w] true)) v' w' (.refl _)
  have q1 := q_CUnion_bad false (hK2.read hv) (hK2.read hw) hlv hlw (hK2.read kv) (hK2.read kw) klv klw hbad
  have hst := sto_ctx (show sameN ((s.push (.row [v, w] true)).push (.row [v', w'] true)).next ((s.push (.row [v, w] true)).push (.row [v', w'] true)) from rfl) (a := .nils) (b := .nils) rfl rfl
  simp (config := {contextual := true, maxDischargeDepth := 12}) only [tb_at, h0, h1, hlen, hbx, hby, c1, c2, c3, c4, d1, d2, d3, d4, q1, hst, Int.reduceEq, ↓bD, bU, forall_const, bS, implies_true, isNx, eq_self, ↓wp_cond, ↓wp_loop, ↓reduceIte, reduceCtorEq, Nat.reduceEqDiff, Nat.reduceLT, Nat.reduceAdd, Nat.reduceMul, bT, ↓sg_bsl, ↓st_callf, bX, ap_mkfn, ae_callvV, callvV_fn, List.cons_append, List.nil_append, boxV_i, boxV_dot, sto_dot, ap_conv, convV_int, bslV_0, fstep_d0, fstep_d1, bsl_dot, ae_appz, ap_cap, capV_nils, slcV_nils0, slcV_sl0, wrap_0, ae_clr, boxV_f, fstep_f, lod_new2]
  all_goals exact hK2.lowed.push _
theorem q_CWithin_bad (cl : Bool) {s : St} {v w : AV} {X : DCx} (hv : read dotC s v = some X.v) (hw : read dotC s w = some X.c) (hlv : X.v.length ≤ 80000) (hlw : X.c.length ≤ 80000) {v' w' : AV} {Y : DCx} (kv : read dotC s v' = some Y.v) (kw : read dotC s w' = some Y.c) (klv : Y.v.length ≤ 80000) (klw : Y.c.length ≤ 80000) (hbad : (cvalid X && cvalid Y) = false) : acall R_CWithin cl [.agg [v, w], .agg [v', w']] s = some (.tup [.bool false, .int .i64 2], s) := run_same n_CWithin (by simp [a36]) rfl (w_CWithin_bad (s := lowd s) (read_low' hv) (read_low' hw) hlv hlw (read_low' kv) (read_low' kw) klv klw hbad)

theorem uni_len (X Y : DCx) : (uniC X Y).v.length ≤ X.v.length + Y.v.length + (X.c.length + Y.c.length) ∧ (uniC X Y).c.length ≤ X.c.length + Y.c.length := by
  have h := comp_len ⟨madeL (X.v ++ Y.v), setL (X.c ++ Y.c)⟩
  have h1 := madeL_len (X.v ++ Y.v)
  have h2 := setL_len (X.c ++ Y.c)
  rw [List.length_append] at h1 h2
  unfold uniC
  simp only at h
  omega
theorem add_len (X : DCx) (l : List Dot) : (addC X l).v.length ≤ X.v.length + (X.c.length + l.length) ∧ (addC X l).c.length ≤ X.c.length + l.length := by
  have h := comp_len ⟨X.v, setL (X.c ++ l)⟩
  have h2 := setL_len (X.c ++ l)
  rw [List.length_append] at h2
  unfold addC
  simp only at h
  omega
theorem w_CWithin {s : St} {v w : AV} {X : DCx} (hv : read dotC s v = some X.v) (hw : read dotC s w = some X.c) (hlv : X.v.length ≤ 80000) (hlw : X.c.length ≤ 80000) {v' w' : AV} {Y : DCx} (kv : read dotC s v' = some Y.v) (kw : read dotC s w' = some Y.c) (klv : Y.v.length ≤ 80000) (klw : Y.c.length ≤ 80000) (hcx : cvalid X = true) (hcy : cvalid Y = true) : ∀ env : Env, elen env = a36.ntmps → (∀ i x_, [.agg [v, w], .agg [v', w']][i]? = some x_ → E env i = x_) → awp (tb [(56, R_CUnion), (57, R_CComp), (46, R_CEqual)]) a36.body (fun x e t => (∀ i, x ≠ .exit i) ∧ aresults e t a36.results = some (.tup [.bool (decide (uniC X Y = compC Y)), .int .i64 0]) ∧ Keep s t) env s := by
  intro env hlen ha
  have h0 : E env 0 = _ := ha 0 _ rfl
  have h1 : E env 1 = _ := ha 1 _ rfl
  have hlen : elen env = _ := hlen
  simp only [a36] at hlen
  unfold a36
  try dsimp only [oO, oG]
  have hbx := boxV_2 (read_oneD hv).2 (read_oneD hw).2
  have hby := boxV_2 (read_oneD kv).2 (read_oneD kw).2
  have hK2 : Keep s ((s.push (.row [v, w] true)).push (.row [v', w'] true)) := ((Keep.refl s).push _).push _
  have hKx : Keep (s.push (.row [v, w] true)) ((s.push (.row [v, w] true)).push (.row [v', w'] true)) := (Keep.refl _).push _
  have hKy : Keep ((s.push (.row [v, w] true)).push (.row [v', w'] true)) (((s.push (.row [v, w] true)).push (.row [v', w'] true)).push (.row [.nils, .nils] true)) := (Keep.refl _).push _
  have hK3 := hK2.trans hKy
  obtain ⟨c1, c2, c3, c4⟩ := box_ctx s v w hKx
  obtain ⟨d1, d2, d3, d4⟩ := box_ctx (s.push (.row [v, w] true)) v' w' (.refl _)
  obtain ⟨vv, cc, t1, q1, hR1, hK4⟩ := q_CUnion (hK2.read hv) (hK2.read hw) hlv hlw (hK2.read kv) (hK2.read kw) klv klw hcx hcy
  have hst := sto_ctx (show sameN t1.next t1 from rfl) (read_oneD hR1.1).2 (read_oneD hR1.2).2
  have hK5 : Keep t1 (t1.lowed.push (.row [vv, cc] true)) := (Keep.refl t1).lowed.push _
  obtain ⟨d1', d2', d3', d4'⟩ := box_ctx (s.push (.row [v, w] true)) v' w' (hK4.trans hK5)
  have hK25 := hK2.trans (hK4.trans hK5)
  obtain ⟨v2, c2_, t2, q2, hV2, hC2, hK6⟩ := q_CComp (hK25.read kv) (hK25.read kw) (by omega) (by omega) hcy
  have hst2 := sto_ctx (show sameN t2.next t2 from rfl) (read_oneD hV2.read).2 (read_oneD hC2.read).2
  have hK7 : Keep t2 (t2.lowed.push (.row [v2, c2_] true)) := (Keep.refl t2).lowed.push _
  have hbu : (t2.lowed.push (.row [v2, c2_] true)).get t1.next = some (.row [vv, cc] true) := (hK6.trans hK7).blk (St.get_push_new t1.lowed _)
  have hlu := lod_row2 hbu
  have hltu := lt_of_get hbu
  have hul := uni_len X Y
  have hcl := comp_len Y
  have hRu := hR1.keep (hK5.trans (hK6.trans hK7))
  have q3 := q_CEqual false hRu.1 hRu.2 (by unfold lim; omega) (by unfold lim; omega) (hK7.read hV2.read) (hK7.read hC2.read) (by unfold lim; omega) (by unfold lim; omega)
  simp (config := {contextual := true, maxDischargeDepth := 12}) only [tb_at, h0, h1, hlen, hbx, hby, c1, c2, c3, c4, d1, d2, d3, d4, q1, hst, d1', d4', q2, hst2, hlu, hltu, q3, Int.reduceEq, ↓bD, bU, forall_const, bS, implies_true, isNx, eq_self, ↓wp_cond, ↓wp_loop, ↓reduceIte, reduceCtorEq, Nat.reduceEqDiff, Nat.reduceLT, Nat.reduceAdd, Nat.reduceMul, bT, ↓sg_bsl, ↓st_callf, bX, ap_mkfn, ae_callvV, callvV_fn, List.cons_append, List.nil_append, boxV_i, boxV_dot, sto_dot, ap_conv, convV_int, bslV_0, fstep_d0, fstep_d1, bsl_dot, ae_appz, ap_cap, capV_nils, slcV_nils0, slcV_sl0, wrap_0, ae_clr, boxV_f, fstep_f, lod_new2]
  all_goals exact hK25.trans (hK6.trans hK7)
theorem q_CWithin (cl : Bool) {s : St} {v w : AV} {X : DCx} (hv : read dotC s v = some X.v) (hw : read dotC s w = some X.c) (hlv : X.v.length ≤ 80000) (hlw : X.c.length ≤ 80000) {v' w' : AV} {Y : DCx} (kv : read dotC s v' = some Y.v) (kw : read dotC s w' = some Y.c) (klv : Y.v.length ≤ 80000) (klw : Y.c.length ≤ 80000) (hcx : cvalid X = true) (hcy : cvalid Y = true) : acall R_CWithin cl [.agg [v, w], .agg [v', w']] s = some (.tup [.bool (decide (uniC X Y = compC Y)), .int .i64 0], s) := run_same n_CWithin (by simp [a36]) rfl (w_CWithin (s := lowd s) (read_low' hv) (read_low' hw) hlv hlw (read_low' kv) (read_low' kw) klv klw hcx hcy)

end Go.AM
end
/-
  slices.DeleteFunc at dots; context.Missing. Own work of this project; in part printed by a program of it.
-/
section
set_option maxRecDepth 100000
set_option maxHeartbeats 8000000
namespace Go.AM
open Go Go.Proofs

variable {s t u : St}

end Go.AM
end
/-
  The references: With, Union, Raise. Own work of this project; in part printed by a program of it.
-/
section
set_option maxRecDepth 100000
set_option maxHeartbeats 8000000
namespace Go.AM
open Go Go.Proofs

variable {s t u : St}

def appF (s : St) (sz bytes : Nat) (a x : AV) : Option (AV × St) := match appV (lowd s) sz bytes a x with
  | some (v, t) => if s.next ≤ t.low then some (v, { heap := t.heap, next := t.next, low := min s.low t.low }) else none
  | none => none
theorem st_appf {call : Nat → List AV → St → Option (AV × St)} {base : Nat} {d : Option Nat} {r : Option Nat} {rest : List AOper} {Q : Env → St → Prop} {env : Env} {s : St} (sz b : Nat) (z : List AV) (a x : AO) : awops call base (⟨d, .app sz b z a x, none, r, true⟩ :: rest) Q env s = estep (appF s sz b (aev env a) (aev env x)) fun v t => awops call base rest Q (pE env d v) t := by
  rw [st_efff (op := .app sz b z a x) (by simp) rfl rfl rfl]
  simp only [ae_app, appF, AOp.floor, AOp.isStore, Bool.false_eq_true, if_false]
  show estep (appV (lowd s) sz b (aev env a) (aev env x)) _ = _
  cases appV (lowd s) sz b (aev env a) (aev env x) with
  | none => rfl
  | some q =>
    obtain ⟨v, t⟩ := q
    simp only [estep]
    by_cases h : s.next ≤ t.low
    · rw [if_pos h, if_pos h]
    · rw [if_neg h, if_neg h]
theorem insD_split (d : Dot) : ∀ (l : List Dot) (i : Nat), i ≤ l.length → (∀ k y, k < i → l[k]? = some y → y.before d = true) → (∀ y, l[i]? = some y → y.before d = false) → insD d l = l.take i ++ d :: l.drop i
  | [], i, hi, _, _ => by simp at hi; subst hi; rfl
  | x :: r, 0, _, _, h => by
    rw [insD, if_neg (by simp [h x rfl])]
    rfl
  | x :: r, i + 1, hi, hp, h => by
    rw [insD, if_pos (hp 0 x (by omega) rfl), insD_split d r i (by simpa using hi) (fun k y hk hy => hp (k + 1) y (by omega) (by simpa using hy)) fun y hy => h y (by simpa using hy)]
    rfl
end Go.AM
end
/-
  The references: Raise and Compact. Own work of this project; in part printed by a program of it.
-/
section
set_option maxRecDepth 100000
set_option maxHeartbeats 8000000
namespace Go.AM
open Go Go.Proofs

variable {s t u : St}

end Go.AM
end
/-
  The reference: Compact, Add, Missing, Size. Own work of this project; in part printed by a program of it.
-/
section
set_option maxRecDepth 100000
set_option maxHeartbeats 8000000
namespace Go.AM
open Go Go.Proofs

variable {s t u : St}

end Go.AM
end
/-
  The reference: Add, Missing, Size. Own work of this project; in part printed by a program of it.
-/
section
set_option maxRecDepth 100000
set_option maxHeartbeats 8000000
namespace Go.AM
open Go Go.Proofs

variable {s t u : St}
end Go.AM
end
/-
  Functions that make a new list: dots, Copy, Join; store.Valid. Own work of this project; in part printed by a program of it.
-/
section
set_option maxRecDepth 100000
set_option maxHeartbeats 4000000
namespace Go.AM
open Go Go.Proofs

def gDots (l : List Nd) : Option (List Dot × Option AV) := some (l.map Nd.d, none)
theorem s_Dots : SoundAt Tryz.prog 69 (conF dotC (pL ndC gDots)) :=
  con_fresh (tb_sound (l := []) (by simp)) mixed Tryz.func69 k69 c69 fun args s r ee h => by
    obtain ⟨v, l, rfl, hr, hl, hp⟩ := pL_some h
    injection hp with hp
    obtain ⟨rfl, rfl⟩ := Prod.mk.inj hp
    refine ⟨by simp, by simp [a69], fun env hlen ha => ?_⟩
    have h0 : E env 0 = _ := ha 0 _ rfl
    have hlen : elen env = _ := hlen
    simp only [a69] at hlen
    unfold a69
    try dsimp only [oO, oG]
    have hL := lenV_read hr
    simp (config := {contextual := true, maxDischargeDepth := 12}) only [tb, h0, hlen, hL, ↓bD, bU, forall_const, bS, implies_true, isNx, cstep_bool, ↓wp_cond, ↓wp_loop, ↓reduceIte, reduceCtorEq, Nat.reduceEqDiff, Nat.reduceLT, Nat.reduceAdd, Nat.reduceMul, Int.ofNat_lt, Int.ofNat_le, exists_const, ae_app, ap_slc, Option.map_none, mkR_none, mkR_some]
    refine lwp_inv (fun n e t => Keep s t ∧ ∃ i : Nat, n + i = l.length ∧ elen e = 19 ∧ E e 6 = v ∧ E e 7 = .int .i64 (l.length : Int) ∧ E e 8 = .int .i64 (i : Int) ∧ Own dotC s t (E e 3) ((l.take i).map Nd.d)) (n := l.length) ⟨.refl s, 0, by omega, by simp only [E_pne, E_psame, elen_put, Nat.reduceEqDiff, ne_eq, not_false_eq_true, Nat.reduceLT, hlen], by simp only [E_pne, E_psame, elen_put, Nat.reduceEqDiff, ne_eq, not_false_eq_true, Nat.reduceLT, hlen], by simp only [E_pne, E_psame, elen_put, Nat.reduceEqDiff, ne_eq, not_false_eq_true, Nat.reduceLT, hlen], by simp only [E_pne, E_psame, elen_put, Nat.reduceEqDiff, ne_eq, not_false_eq_true, Nat.reduceLT, hlen]; rfl, by simp only [E_pne, E_psame, elen_put, Nat.reduceEqDiff, ne_eq, not_false_eq_true, Nat.reduceLT, hlen]; exact .nil _ _ _⟩ ?_
    · rintro n e t ⟨hK, i, hn, he, e6, e7, e8, hO⟩
      by_cases hlt : i < l.length
      · obtain ⟨x, hx⟩ := getsome hlt
        have hw2 := wrap_add1 (n := i) (by unfold lim at hl; omega)
        obtain ⟨a1, _⟩ := nd_lods hr hK hx
        have i1 := nd_idx hr hx .i64
        obtain ⟨v', t', hap, hK', hO'⟩ := appV_one (C := dotC) (hK.lowed.push (.row (Nd.av x) true)) (hO.lowed.push _) x.d 16 (by unfold lim at hl; simp [roomBytes]; omega)
        have hap : appV ((t.lowed.push (.row (Nd.av x) true)).push (.row (Dot.av x.d) true)) 2 16 (E e 3) (.sl (t.lowed.push (.row (Nd.av x) true)).next 0 1 (some 1) 2) = some (v', t') := hap
        simp (config := {contextual := true, maxDischargeDepth := 12}) only [tb, e6, e7, e8, he, hL, hlt, hw2, a1, i1, hap, ↓bD, bU, forall_const, bS, implies_true, isNx, cstep_bool, ↓wp_cond, ↓wp_loop, ↓reduceIte, reduceCtorEq, Nat.reduceEqDiff, Nat.reduceLT, Nat.reduceAdd, Nat.reduceMul, Int.ofNat_lt, Int.ofNat_le, exists_const, ae_app, ap_slc, Option.map_none, mkR_none, mkR_some]
        refine ⟨⟨n - 1, by omega, hK', i + 1, by omega, rfl, ?_⟩, fun hf => hf.elim⟩
        rw [take_snoc hx, List.map_append]
        exact hO'
      · obtain rfl : i = l.length := by omega
        rw [List.take_length] at hO
        simp (config := {contextual := true, maxDischargeDepth := 12}) only [tb, e6, e7, e8, he, hL, hlt, ↓bD, bU, forall_const, bS, implies_true, isNx, cstep_bool, ↓wp_cond, ↓wp_loop, ↓reduceIte, reduceCtorEq, Nat.reduceEqDiff, Nat.reduceLT, Nat.reduceAdd, Nat.reduceMul, Int.ofNat_lt, Int.ofNat_le, exists_const, ae_app, ap_slc, Option.map_none, mkR_none, mkR_some]
        exact ⟨fun hf => hf.elim, hK, _, rfl, hO⟩

def fValid (l : List Nd) : AV := .bool (storeL l)
theorem storeL_set (l : List Nd) : storeL l = (l.all Nd.valid && setD (l.map Nd.d)) := by
  have : setD (l.map Nd.d) = chain ndLt l := by
    unfold setD
    rw [Bool.eq_iff_iff, chain_iff, chain_iff]
    constructor
    · intro h i x y hx hy
      exact h i x.d y.d (by simp [hx]) (by simp [hy])
    · intro h i x y hx hy
      simp only [List.getElem?_map, Option.map_eq_some_iff] at hx hy
      obtain ⟨x, hx, rfl⟩ := hx
      obtain ⟨y, hy, rfl⟩ := hy
      exact h i x y hx hy
  rw [storeL, this]
theorem s_StValid : SoundAt Tryz.prog 62 (conL ndC fValid) :=
  con_keep (tb_sound (l := [(89, conLfn fHasBad 90), (69, conF dotC (pL ndC gDots)), (86, conL dotC fIsSet)]) (by simpa using ⟨s_HasBad, s_Dots, s_IsSet⟩)) mixed Tryz.func62 k62 c62 fun args s r s' h => by
    obtain ⟨v, l, rfl, hr, hl, rfl, rfl⟩ := conL_some h
    refine ⟨rfl, rfl, by simp [a62], fun env hlen ha => ?_⟩
    have h0 : E env 0 = _ := ha 0 _ rfl
    have hlen : elen env = _ := hlen
    simp only [a62] at hlen
    unfold a62
    try dsimp only [oO, oG]
    have hq := q_HasBad false hr hl
    cases hv : l.all Nd.valid
    · rw [hv] at hq
      simp (config := {contextual := true, maxDischargeDepth := 12}) only [tb, hq, h0, hlen, ↓bD, bU, forall_const, bS, implies_true, isNx, cstep_bool, ↓wp_cond, ↓wp_loop, ↓reduceIte, reduceCtorEq, Nat.reduceEqDiff, Nat.reduceLT, Nat.reduceAdd, Nat.reduceMul, Int.ofNat_lt, Int.ofNat_le, exists_const, ae_app, ap_slc, Option.map_none, mkR_none, mkR_some]
      simp [fValid, storeL_set, hv]
    · rw [hv] at hq
      obtain ⟨w, t, hd, hK, hO⟩ := fresh_L (D := dotC) (f := gDots) hr hl rfl (by simp)
      rw [mkR_none] at hd
      have hq2 := q_IsSet false hO.read (by simpa using hl)
      simp (config := {contextual := true, maxDischargeDepth := 12}) only [tb, hq, hd, hq2, h0, hlen, ↓bD, bU, forall_const, bS, implies_true, isNx, cstep_bool, ↓wp_cond, ↓wp_loop, ↓reduceIte, reduceCtorEq, Nat.reduceEqDiff, Nat.reduceLT, Nat.reduceAdd, Nat.reduceMul, Int.ofNat_lt, Int.ofNat_le, exists_const, ae_app, ap_slc, Option.map_none, mkR_none, mkR_some]
      exact ⟨by simp [fValid, storeL_set, hv], hK⟩
theorem q_StValid (cl : Bool) {v : AV} {l : List Nd} {s : St} (h : read ndC s v = some l) (hl : l.length ≤ lim) : acall (conL ndC fValid) cl [v] s = some (.bool (storeL l), s) := conL_call (fun _ => rfl) h hl cl
theorem s_JValid : SoundAt Tryz.prog 41 (conL ndC fValid) :=
  con_keep (tb_sound (l := [(62, conL ndC fValid)]) (by simpa using s_StValid)) mixed Tryz.func41 k41 c41 fun args s r s' h => by
    obtain ⟨v, l, rfl, hr, hl, rfl, rfl⟩ := conL_some h
    refine ⟨rfl, rfl, by simp [a41], fun env hlen ha => ?_⟩
    have h0 : E env 0 = _ := ha 0 _ rfl
    have hlen : elen env = _ := hlen
    simp only [a41] at hlen
    unfold a41
    try dsimp only [oO, oG]
    have hq := q_StValid false hr hl
    simp (config := {contextual := true, maxDischargeDepth := 12}) only [tb, hq, h0, hlen, ↓bD, bU, forall_const, bS, implies_true, isNx, cstep_bool, ↓wp_cond, ↓wp_loop, ↓reduceIte, reduceCtorEq, Nat.reduceEqDiff, Nat.reduceLT, Nat.reduceAdd, Nat.reduceMul, Int.ofNat_lt, Int.ofNat_le, exists_const, ae_app, ap_slc, Option.map_none, mkR_none, mkR_some]
    rfl

end Go.AM
end
/-
  The program's join of two states. Own work of this project; in part printed by a program of it.
-/
section
set_option maxRecDepth 100000
set_option maxHeartbeats 4000000
namespace Go.AM
open Go Go.Proofs

end Go.AM
end
/-
  Maps from dots to nodes in memory: looking up, setting, ranging. Own work of this project.
-/
section
namespace Go.AM
open Go Go.Proofs

variable {call : Nat → List AV → St → Option (AV × St)} {env : Env} {s t : St}

/-! ### By value -/
/-! ### Nodes by their dots -/
def lookN : List Nd → Dot → Option (Nat × Nd)
  | [], _ => none
  | x :: r, d => if x.d = d then some (0, x) else (lookN r d).map fun p => (p.1 + 1, p.2)
def updN (l : List Nd) (x : Nd) : List Nd := match lookN l x.d with
  | some (j, _) => l.set j x
  | none => l ++ [x]
theorem lookN_some : ∀ {l : List Nd} {d : Dot} {j : Nat} {x : Nd}, lookN l d = some (j, x) → l[j]? = some x ∧ x.d = d
  | [], d, j, x, h => by simp [lookN] at h
  | y :: r, d, j, x, h => by
    simp only [lookN] at h
    split at h
    · injection h with h
      obtain ⟨rfl, rfl⟩ := Prod.mk.inj h
      exact ⟨rfl, by assumption⟩
    · obtain ⟨p, hp, h⟩ := Option.map_eq_some_iff.1 h
      obtain ⟨rfl, rfl⟩ := Prod.mk.inj h
      obtain ⟨h1, h2⟩ := lookN_some (l := r) (j := p.1) (x := p.2) hp
      exact ⟨by simpa using h1, h2⟩
theorem lookN_none : ∀ {l : List Nd} {d : Dot}, lookN l d = none → ∀ x ∈ l, x.d ≠ d
  | [], d, _ => by simp
  | y :: r, d, h => by
    simp only [lookN] at h
    split at h
    · cases h
    · rename_i e
      have := lookN_none (l := r) (d := d) (by simpa using h)
      intro x hx
      rcases List.mem_cons.1 hx with rfl | hx
      · exact e
      · exact this x hx
end Go.AM
end
/-
  The contract of slices.SortFunc at a new list of nodes, sorted by their dots. Own work of this project.
-/
section
set_option maxHeartbeats 1000000
namespace Go.AM
open Go Go.Proofs
open Go.Sort (HoldsK putRowK flatK get_flatK size_flatK)

instance : Inhabited Nd := ⟨nd0⟩
theorem before_irr (a : Dot) : a.before a = false := by simp [Dot.before]
/-! ### Sorting nodes -/
def insN (x : Nd) : List Nd → List Nd
  | [] => [x]
  | y :: r => if x.d.before y.d = true then x :: y :: r else y :: insN x r
def sortN : List Nd → List Nd
  | [] => []
  | x :: r => insN x (sortN r)
def ltP (x y : Nd) : Prop := x.d.before y.d = true
theorem ltP_trans {x y z : Nd} (h : ltP x y) (k : ltP y z) : ltP x z := by
  unfold ltP at *
  obtain ⟨⟨_, _⟩, _, _, _⟩ := x
  obtain ⟨⟨_, _⟩, _, _, _⟩ := y
  obtain ⟨⟨_, _⟩, _, _, _⟩ := z
  simp only [Dot.before, Bool.or_eq_true, Bool.and_eq_true, decide_eq_true_eq] at *
  omega
theorem ltP_asymm {x y : Nd} (h : ltP x y) (k : ltP y x) : False := by
  have := ltP_trans h k
  unfold ltP at this
  rw [before_irr] at this
  cases this
theorem sorted_unique : ∀ (l m : List Nd), l.Perm m → l.Pairwise ltP → m.Pairwise ltP → l = m
  | [], m, h, _, _ => (List.nil_perm.1 h).symm
  | x :: l, [], h, _, _ => absurd h.length_eq (by simp)
  | x :: l, y :: m, h, h1, h2 => by
    rw [List.pairwise_cons] at h1 h2
    have e : x = y := by
      by_cases e : x = y
      · exact e
      · have hx : x ∈ m := by
          rcases List.mem_cons.1 (h.mem_iff.1 (List.mem_cons_self ..)) with q | q
          · exact absurd q e
          · exact q
        have hy : y ∈ l := by
          rcases List.mem_cons.1 (h.mem_iff.2 (List.mem_cons_self ..)) with q | q
          · exact absurd q.symm e
          · exact q
        exact (ltP_asymm (h1.1 y hy) (h2.1 x hx)).elim
    subst e
    rw [sorted_unique l m h.cons_inv h1.2 h2.2]
end Go.AM
end
/-
  store.Of. Own work of this project; in part printed by a program of it.
-/
section
set_option maxRecDepth 100000
set_option maxHeartbeats 8000000
namespace Go.AM
open Go Go.Proofs

variable {s t : St}
/-- What is there of the nodes so far: merged, and alive. -/
def ofStep (M A : List Nd) (n : Nd) : Option (List Nd × List Nd) :=
  if (match lookN A n.d with
    | some (_, x) => x.clash n
    | none => false) = true then none
  else match lookN M n.d with
    | some (_, old) => if old.clash n = true then none else some (updN M (old.merge n), if n.x = 0 then A else updN A n)
    | none => some (updN M n, if n.x = 0 then A else updN A n)
def ofFold : List Nd → List Nd → List Nd → Option (List Nd)
  | [], M, _ => some M
  | n :: r, M, A => match ofStep M A n with
    | some (M', A') => ofFold r M' A'
    | none => none
def gOf (l : List Nd) : Option (List Nd × Option AV) :=
  if l.all Nd.valid = true then match ofFold l [] [] with
    | some M => some (sortN M, some (.int .i64 0))
    | none => some ([], some (.int .i64 15))
  else some ([], some (.int .i64 2))
theorem updN_mem {l : List Nd} {x y : Nd} (h : y ∈ updN l x) : y = x ∨ y ∈ l := by
  unfold updN at h
  split at h
  · rcases List.mem_or_eq_of_mem_set h with h | h
    · exact .inr h
    · exact .inl h
  · rcases List.mem_append.1 h with h | h
    · exact .inr h
    · exact .inl (by simpa using h)
theorem updN_nodup {l : List Nd} {x : Nd} (h : (l.map Nd.d).Nodup) : ((updN l x).map Nd.d).Nodup := by
  unfold updN
  split
  · rename_i j y hj
    obtain ⟨h1, h2⟩ := lookN_some hj
    rw [List.map_set, ← h2]
    have : (l.map Nd.d).set j y.d = l.map Nd.d := by
      apply List.ext_getElem?
      intro k
      rw [List.getElem?_set]
      split
      · rename_i e
        subst e
        split
        · simp [h1]
        · rename_i hk
          have := getlt h1
          simp at hk
          omega
      · rfl
    rw [this]
    exact h
  · rename_i hj
    rw [List.map_append, List.nodup_append]
    refine ⟨h, by simp, ?_⟩
    intro a ha b hb e
    simp at hb
    subst hb
    subst e
    obtain ⟨y, hy, e⟩ := List.mem_map.1 ha
    exact lookN_none hj y hy e
theorem merge_d {a b : Nd} (h : a.d = b.d) : (a.merge b).d = b.d := by
  unfold Nd.merge
  split <;> simp [h]
end Go.AM
end
/-
  Clone, Copy, Stain; the statement JoinValid in the abstract machine. Own work of this project; in part printed by a program of it.
-/
section
set_option maxRecDepth 100000
set_option maxHeartbeats 8000000
namespace Go.AM
open Go Go.Proofs

/-! ### Stain -/
end Go.AM
end
/-
  The reference's Agree, put, Join; the program's Agree and Within; the helpers of the statements. Own work of this project; in part printed by a program of it.
-/
section
set_option maxRecDepth 100000
set_option maxHeartbeats 8000000
namespace Go.AM
open Go Go.Proofs

theorem q_known (cl : Bool) (s : St) : acall (closed [] (.bool true)) cl [] s = some (.bool true, s) := acall_ro (by simp [closed]) rfl
def agreeL (l m : List Nd) : Bool := l.all fun x => match lookN m x.d with
  | some (_, y) => !x.clash y
  | none => true
end Go.AM
end
/-
  The reference's put and Join. Own work of this project; in part printed by a program of it.
-/
section
set_option maxRecDepth 100000
set_option maxHeartbeats 8000000
namespace Go.AM
open Go Go.Proofs

/-- Where a node goes: behind all that come before it, from the start on. -/
def posL (x : Nd) : List Nd → Nat
  | [] => 0
  | y :: r => if y.d.before x.d = true then posL x r + 1 else 0
def putL (l : List Nd) (x : Nd) : List Nd := l.take (posL x l) ++ x :: l.drop (posL x l)
/-! ### The reference's Join -/
def rmerge (x y : Nd) : Nd := if x.clash y = true then nd0 else x.merge y
def jstep (out : List Nd) (y : Nd) : List Nd := match lookN out y.d with
  | some (k, x) => out.set k (rmerge x y)
  | none => putL out y
def refJ (l m : List Nd) : List Nd := m.foldl jstep l
end Go.AM
end
/-
  Plain laws: the program's join is the reference's. Own work of this project.
-/
section
namespace Go.AM
open Go Go.Proofs

theorem chain_pairwise : ∀ {l : List Nd}, chain ndLt l = true → l.Pairwise ltP
  | [], _ => .nil
  | [x], _ => by simp
  | x :: y :: r, h => by
    rw [chain, Bool.and_eq_true] at h
    have ih := chain_pairwise (l := y :: r) h.2
    have hxy : ltP x y := h.1
    rw [List.pairwise_cons]
    refine ⟨fun z hz => ?_, ih⟩
    rcases List.mem_cons.1 hz with rfl | hz
    · exact hxy
    · exact ltP_trans hxy ((List.pairwise_cons.1 ih).1 z hz)
theorem store_sorted {l : List Nd} (h : storeL l = true) : l.Pairwise ltP := by
  simp only [storeL, Bool.and_eq_true] at h
  exact chain_pairwise h.2
end Go.AM
end
/-
  Plain laws of the join: by what stands at each dot. Own work of this project.
-/
section
namespace Go.AM
open Go Go.Proofs

theorem nodup_of {l : List Nd} (h : l.Pairwise ltP) : l.Nodup := h.imp fun {a b} hab e => by
  subst e
  exact ltP_asymm hab hab
/-! ### At one dot -/
theorem clash_symm (x y : Nd) : x.clash y = y.clash x := by
  rw [Bool.eq_iff_iff, Nd.clash_true, Nd.clash_true]
  grind
theorem clash_self (x : Nd) : x.clash x = false := by
  rw [Nd.clash_false]
  exact ⟨rfl, rfl, rfl, .inr (.inr rfl)⟩
theorem merge_dead {x y : Nd} (h : x.x = 0) : (x.merge y).x = 0 := by
  unfold Nd.merge
  split <;> assumption
end Go.AM
end
/-
  The answers of join.Agree, Within and Join as plain pairs. Own work of this project; in part printed by a program of it.
-/
section
set_option maxRecDepth 100000
set_option maxHeartbeats 8000000
namespace Go.AM
open Go Go.Proofs

def withinP (l m : List Nd) : Bool × Int := if storeL l = true ∧ storeL m = true then (if agreeL l m = true then (decide (refJ l m = m), 0) else (false, 15)) else (false, 2)
def joinsP (l m : List Nd) : List Nd × Int := if storeL l = true ∧ storeL m = true then (if agreeL l m = true then (refJ l m, 0) else ([], 15)) else ([], 2)
end Go.AM
end
/-
  Plain laws: the join of what does not clash is determined by what is in it. Own work of this project.
-/
section
namespace Go.AM
open Go Go.Proofs

/-- No two of them clash. -/
def NC (S : Nd → Prop) : Prop := ∀ x y, S x → S y → x.d = y.d → x.clash y = false
theorem NC.sub {S T : Nd → Prop} (h : NC S) (k : ∀ x, T x → S x) : NC T := fun x y hx hy e => h x y (k x hx) (k y hy) e
/-- All dots of S, each once, in order; dead where one is dead. -/
structure Res (S : Nd → Prop) (j : List Nd) : Prop where
  sorted : j.Pairwise ltP
  sub : ∀ y ∈ j, S y
  dead : ∀ y ∈ j, ∀ z, S z → z.d = y.d → z.x = 0 → y.x = 0
  cover : ∀ z, S z → ∃ y ∈ j, y.d = z.d
theorem nd_eq {x y : Nd} (hc : x.clash y = false) (h0 : x.x = 0 ↔ y.x = 0) : x = y := by
  rw [Nd.clash_false] at hc
  obtain ⟨⟨_, _⟩, ⟨_, _⟩, _, _⟩ := x
  obtain ⟨⟨_, _⟩, ⟨_, _⟩, _, _⟩ := y
  simp only at *
  grind
theorem Res.mem {S : Nd → Prop} (hS : NC S) {j k : List Nd} (h : Res S j) (g : Res S k) {y : Nd} (hy : y ∈ j) : y ∈ k := by
  obtain ⟨y', h1, h2⟩ := g.cover y (h.sub y hy)
  have hc := hS y y' (h.sub y hy) (g.sub y' h1) h2.symm
  have : y = y' := nd_eq hc ⟨fun e => g.dead y' h1 y (h.sub y hy) h2.symm e, fun e => h.dead y hy y' (g.sub y' h1) h2 e⟩
  rw [this]
  exact h1
theorem Res.uniq {S : Nd → Prop} (hS : NC S) {j k : List Nd} (h : Res S j) (g : Res S k) : j = k :=
  sorted_unique j k ((List.perm_ext_iff_of_nodup (nodup_of h.sorted) (nodup_of g.sorted)).2 fun x => ⟨fun hx => h.mem hS g hx, fun hx => g.mem hS h hx⟩) h.sorted g.sorted
theorem Res.congr {S T : Nd → Prop} {j : List Nd} (h : Res S j) (e : ∀ x, S x ↔ T x) : Res T j :=
  ⟨h.sorted, fun y hy => (e y).1 (h.sub y hy), fun y hy z hz => h.dead y hy z ((e z).2 hz), fun z hz => h.cover z ((e z).2 hz)⟩
/-- The join of a join. -/
theorem Res.step {S T : Nd → Prop} {j k : List Nd} (h : Res S j) (g : Res (fun x => x ∈ j ∨ T x) k) : Res (fun x => S x ∨ T x) k := by
  refine ⟨g.sorted, fun y hy => ?_, fun y hy z hz e z0 => ?_, fun z hz => ?_⟩
  · rcases g.sub y hy with q | q
    · exact .inl (h.sub y q)
    · exact .inr q
  · rcases hz with q | q
    · obtain ⟨y', h1, h2⟩ := h.cover z q
      exact g.dead y hy y' (.inl h1) (h2.trans e) (h.dead y' h1 z q h2.symm z0)
    · exact g.dead y hy z (.inr q) e z0
  · rcases hz with q | q
    · obtain ⟨y', h1, h2⟩ := h.cover z q
      obtain ⟨y, h3, h4⟩ := g.cover y' (.inl h1)
      exact ⟨y, h3, h4.trans h2⟩
    · exact g.cover z (.inr q)
/-! ### store.Of: one list with all -/
theorem updN_mem' {l : List Nd} {x y : Nd} (hn : (l.map Nd.d).Nodup) (h : y ∈ updN l x) : y = x ∨ (y ∈ l ∧ y.d ≠ x.d) := by
  unfold updN at h
  split at h
  · rename_i j old hj
    obtain ⟨h1, h2⟩ := lookN_some hj
    obtain ⟨i, hi⟩ := List.getElem?_of_mem h
    by_cases hij : j = i
    · subst hij
      rw [List.getElem?_set_self (getlt h1)] at hi
      injection hi with hi
      exact .inl hi.symm
    · rw [List.getElem?_set_ne hij] at hi
      refine .inr ⟨List.mem_of_getElem? hi, fun e => hij ?_⟩
      have hlt : j < (l.map Nd.d).length := by simpa using getlt h1
      have he : (l.map Nd.d)[j]? = (l.map Nd.d)[i]? := by
        rw [List.getElem?_map, List.getElem?_map, h1, hi]
        simp [h2, e]
      exact (List.getElem?_inj hlt hn).1 he
  · rename_i hj
    rcases List.mem_append.1 h with h | h
    · exact .inr ⟨h, lookN_none hj y h⟩
    · exact .inl (by simpa using h)
theorem updN_self (l : List Nd) (x : Nd) : x ∈ updN l x := by
  unfold updN
  split
  · rename_i j old hj
    obtain ⟨h1, _⟩ := lookN_some hj
    exact List.mem_of_getElem? (List.getElem?_set_self (getlt h1))
  · simp
theorem updN_old {l : List Nd} {x z : Nd} (h : z ∈ l) (e : z.d ≠ x.d) : z ∈ updN l x := by
  unfold updN
  split
  · rename_i j old hj
    obtain ⟨h1, h2⟩ := lookN_some hj
    obtain ⟨i, hi⟩ := List.getElem?_of_mem h
    have hij : j ≠ i := by
      rintro rfl
      rw [h1] at hi
      injection hi with hi
      subst hi
      exact e h2
    exact List.mem_of_getElem? (by rw [List.getElem?_set_ne hij]; exact hi)
  · exact List.mem_append.2 (.inl h)
theorem updN_cov {l : List Nd} {x z : Nd} (h : z ∈ l) : ∃ y ∈ updN l x, y.d = z.d := by
  by_cases e : z.d = x.d
  · exact ⟨x, updN_self l x, e.symm⟩
  · exact ⟨z, updN_old h e, rfl⟩
def clA (A : List Nd) (n : Nd) : Bool := match lookN A n.d with
  | some (_, x) => x.clash n
  | none => false
theorem ofStep_eq (M A : List Nd) (n : Nd) : ofStep M A n = if clA A n = true then none else match lookN M n.d with
    | some (_, old) => if old.clash n = true then none else some (updN M (old.merge n), if n.x = 0 then A else updN A n)
    | none => some (updN M n, if n.x = 0 then A else updN A n) := rfl
structure OInv (p M A : List Nd) : Prop where
  nc : NC (· ∈ p)
  nd : (M.map Nd.d).Nodup
  sub : ∀ y ∈ M, y ∈ p
  dead : ∀ y ∈ M, ∀ z ∈ p, z.d = y.d → z.x = 0 → y.x = 0
  cover : ∀ z ∈ p, ∃ y ∈ M, y.d = z.d
  asub : ∀ y ∈ A, y ∈ p ∧ y.x ≠ 0
  acov : ∀ z ∈ p, z.x ≠ 0 → ∃ y ∈ A, y.d = z.d
theorem OInv.nil : OInv [] [] [] := ⟨fun x y h => by simp at h, by simp, by simp, by simp, by simp, by simp, by simp⟩
theorem look_in {l : List Nd} {d : Dot} (h : ∃ y ∈ l, y.d = d) : ∃ j y, lookN l d = some (j, y) := by
  obtain ⟨y, h1, h2⟩ := h
  cases hk : lookN l d with
  | none => exact absurd h2 (lookN_none hk y h1)
  | some p => exact ⟨p.1, p.2, rfl⟩
theorem OInv.step {p M A : List Nd} (h : OInv p M A) (n : Nd) : match ofStep M A n with
    | some (M', A') => OInv (p ++ [n]) M' A'
    | none => ∃ x ∈ p, x.d = n.d ∧ x.clash n = true := by
  have hA : ∀ z ∈ p, z.x ≠ 0 → z.d = n.d → clA A n = false → z.clash n = false := by
    intro z hz z0 hd hc
    obtain ⟨j, y, hj⟩ := look_in (h.acov z hz z0)
    rw [hd] at hj
    obtain ⟨h1, h2⟩ := lookN_some hj
    obtain ⟨y1, y2⟩ := h.asub y (List.mem_of_getElem? h1)
    unfold clA at hc
    rw [hj] at hc
    simp only at hc
    have : z = y := nd_eq (h.nc z y hz y1 (hd.trans h2.symm)) ⟨fun e => absurd e z0, fun e => absurd e y2⟩
    rw [this]
    exact hc
  have mk : ∀ m : Nd, m.d = n.d → (m = n ∨ m ∈ M) → (n.x = 0 → m.x = 0) → (∀ z ∈ p, z.d = n.d → z.x = 0 → m.x = 0) → (∀ z ∈ p, z.d = n.d → z.clash n = false) → OInv (p ++ [n]) (updN M m) (if n.x = 0 then A else updN A n) := by
    intro m md hm m0 mp hnc
    have hmem : ∀ x, x ∈ p ++ [n] ↔ x ∈ p ∨ x = n := by simp
    refine ⟨fun x y hx hy e => ?_, updN_nodup h.nd, fun y hy => ?_, fun y hy z hz e z0 => ?_, fun z hz => ?_, fun y hy => ?_, fun z hz z0 => ?_⟩
    · rcases (hmem x).1 hx with kx | kx <;> rcases (hmem y).1 hy with ky | ky
      · exact h.nc x y kx ky e
      · rw [ky]; exact hnc x kx (by rw [e, ky])
      · rw [clash_symm, kx]; exact hnc y ky (by rw [← e, kx])
      · rw [kx, ky]; exact clash_self _
    · rw [hmem]
      rcases updN_mem hy with rfl | hy
      · rcases hm with rfl | hm
        · exact .inr rfl
        · exact .inl (h.sub _ hm)
      · exact .inl (h.sub y hy)
    · rw [hmem] at hz
      rcases updN_mem' h.nd hy with rfl | ⟨hy, hyd⟩
      · rcases hz with hz | rfl
        · exact mp z hz (e.trans md) z0
        · exact m0 z0
      · rcases hz with hz | rfl
        · exact h.dead y hy z hz e z0
        · exact absurd (e.symm.trans md.symm) hyd
    · rw [hmem] at hz
      rcases hz with hz | rfl
      · obtain ⟨y, h1, h2⟩ := h.cover z hz
        obtain ⟨y', h3, h4⟩ := updN_cov (x := m) h1
        exact ⟨y', h3, h4.trans h2⟩
      · exact ⟨m, updN_self M m, md⟩
    · split at hy
      · exact ⟨(hmem y).2 (.inl (h.asub y hy).1), (h.asub y hy).2⟩
      · rename_i hn0
        rcases updN_mem hy with rfl | hy
        · exact ⟨(hmem _).2 (.inr rfl), hn0⟩
        · exact ⟨(hmem y).2 (.inl (h.asub y hy).1), (h.asub y hy).2⟩
    · rw [hmem] at hz
      rcases hz with hz | rfl
      · obtain ⟨y, h1, h2⟩ := h.acov z hz z0
        split
        · exact ⟨y, h1, h2⟩
        · obtain ⟨y', h3, h4⟩ := updN_cov (x := n) h1
          exact ⟨y', h3, h4.trans h2⟩
      · rw [if_neg z0]
        exact ⟨z, updN_self A z, rfl⟩
  rw [ofStep_eq]
  by_cases hc : clA A n = true
  · rw [if_pos hc]
    unfold clA at hc
    cases hk : lookN A n.d with
    | none => rw [hk] at hc; cases hc
    | some q =>
      obtain ⟨j, y⟩ := q
      rw [hk] at hc
      obtain ⟨h1, h2⟩ := lookN_some hk
      exact ⟨y, (h.asub y (List.mem_of_getElem? h1)).1, h2, hc⟩
  · rw [if_neg hc]
    have hc' : clA A n = false := by simpa using hc
    cases hm : lookN M n.d with
    | none =>
      have hno : ∀ z ∈ p, z.d ≠ n.d := fun z hz e => by
        obtain ⟨y, h1, h2⟩ := h.cover z hz
        exact lookN_none hm y h1 (h2.trans e)
      exact mk n rfl (.inl rfl) (fun e => e) (fun z hz e => absurd e (hno z hz)) fun z hz e => absurd e (hno z hz)
    | some q =>
      obtain ⟨j, old⟩ := q
      obtain ⟨h1, h2⟩ := lookN_some hm
      have ho := List.mem_of_getElem? h1
      simp only
      by_cases hco : old.clash n = true
      · rw [if_pos hco]
        exact ⟨old, h.sub old ho, h2, hco⟩
      · rw [if_neg hco]
        have hco' : old.clash n = false := by simpa using hco
        refine mk (old.merge n) (merge_d h2) ?_ (fun e => ?_) (fun z hz e z0 => ?_) fun z hz e => ?_
        · unfold Nd.merge
          split
          · exact .inl rfl
          · exact .inr ho
        · unfold Nd.merge
          rw [if_pos e]
          exact e
        · exact merge_dead (h.dead old ho z hz (e.trans h2.symm) z0)
        · by_cases z0 : z.x = 0
          · have hzo := h.nc z old hz (h.sub old ho) (e.trans h2.symm)
            rw [Nd.clash_false] at hzo hco' ⊢
            grind
          · exact hA z hz z0 e hc'
/-! ### join.All -/
def ofP (l : List Nd) : List Nd × Int := match gOf l with
  | some (j, some (.int _ e)) => (j, e)
  | _ => ([], 2)
def allP (ls : List (List Nd)) : List Nd × Int := if ls.all storeL = true then ofP ls.flatten else ([], 2)
theorem store_valid {l : List Nd} (h : storeL l = true) : l.all Nd.valid = true := by
  simp only [storeL, Bool.and_eq_true] at h
  exact h.1
/-! ### What JoinHolds asks -/
theorem store_mem {l : List Nd} (h : storeL l = true) {x : Nd} (hx : x ∈ l) : x.valid = true := List.all_eq_true.1 (store_valid h) x hx
structure Holds3 (a b c : List Nd) (bc all : List Nd) : Prop where
  s : storeL bc = true
  j1 : joinsP b c = (bc, 0)
  j2 : joinsP a bc = (all, 0)
  j3 : joinsP (refJ a b) c = (all, 0)
  a1 : allP [a, b, c] = (all, 0)
  a2 : allP [c, b, b, a, c] = (all, 0)
end Go.AM
end
/-
  Plain laws of stores: putting a node, finding and killing by dots. Own work of this project.
-/
section
namespace Go.AM
open Go Go.Proofs

/-! ### Putting a node -/
/-! ### Finding and killing -/
end Go.AM
end
/-
  Nodes: the reference of layer 9. Own work of this project; in part printed by a program of it.
-/
section
set_option maxRecDepth 100000
set_option maxHeartbeats 8000000
namespace Go.AM
open Go Go.Proofs

variable {s t u : St}

theorem bY : type_of% (And.intro @ap_mkfn <|
  And.intro @ae_callvV <|
  And.intro @callvV_fn <|
  And.intro @boxV_i <|
  And.intro @boxV_dot <|
  And.intro @sto_dot <|
  And.intro @ap_conv <|
  And.intro @convV_int <|
  And.intro @bslV_0 <|
  And.intro @fstep_d0 <|
  And.intro @fstep_d1 <|
  And.intro @bsl_dot <|
  And.intro @ae_appz <|
  And.intro @ap_cap <|
  And.intro @capV_nils <|
  And.intro @slcV_nils0 <|
  And.intro @slcV_sl0 <|
  And.intro @wrap_0 <|
  And.intro @ae_clr <|
  And.intro @boxV_f <|
  And.intro @fstep_f <|
  @lod_new2) :=
  And.intro @ap_mkfn <|
  And.intro @ae_callvV <|
  And.intro @callvV_fn <|
  And.intro @boxV_i <|
  And.intro @boxV_dot <|
  And.intro @sto_dot <|
  And.intro @ap_conv <|
  And.intro @convV_int <|
  And.intro @bslV_0 <|
  And.intro @fstep_d0 <|
  And.intro @fstep_d1 <|
  And.intro @bsl_dot <|
  And.intro @ae_appz <|
  And.intro @ap_cap <|
  And.intro @capV_nils <|
  And.intro @slcV_nils0 <|
  And.intro @slcV_sl0 <|
  And.intro @wrap_0 <|
  And.intro @ae_clr <|
  And.intro @boxV_f <|
  And.intro @fstep_f <|
  @lod_new2

theorem box_nd (s : St) (n : Nd) (hK : Keep (s.push (.row (Nd.av n) true)) t) : lod t 6 (.ptr s.next 0) = some (.agg (Nd.av n)) ∧ lod t 2 (.ptr s.next 0) = some (.agg (Dot.av n.d)) ∧ lod t 2 (.ptr s.next 2) = some (.agg (Dot.av n.p)) ∧ lod1 t (.ptr s.next 4) = some (.int .i64 n.t) ∧ lod1 t (.ptr s.next 5) = some (.int .i32 n.x) ∧ ltN s.next t := by
  have h := hK.blk (St.get_push_new s (.row (Nd.av n) true))
  refine ⟨by simp [lod, h, Nd.av], by simp [lod, h, Nd.av, Dot.av], by simp [lod, h, Nd.av, Dot.av], ?_, ?_, St.get_lt h⟩ <;> simp [lod1, h, Nd.av]
end Go.AM
end
/-
  Lists of nodes: Clone, Equal, IndexFunc, Grow, Concat, DeleteFunc; as for lists of dots. Own work of this project; in part printed by a program of it.
-/
section
set_option maxRecDepth 100000
set_option maxHeartbeats 8000000
namespace Go.AM
open Go Go.Proofs

variable {s t u : St}
theorem bslV_0N : bslV [] 0 6 [] = some (fun id => .sl id 0 0 (some 0) 6, .row [] true) := nrfl rfl
theorem slcV_nils0N : slcV 6 .nils none (some (.int .i64 0)) = some .nils := nrfl rfl
theorem slcV_sl0N (j n : Nat) : slcV 6 (.sl j 0 n none 6) none (some (.int .i64 0)) = some (.sl j 0 0 none 6) := nrfl (by
  simp [slcV, optNat, asNatIn])
def PreOwnN (s t : St) (v : AV) (l : List Nd) : Prop := Own ndC s t v l ∨ (l = [] ∧ ∃ j cs, v = .sl j 0 0 none 6 ∧ s.next ≤ j ∧ t.get j = some (.row cs true))
theorem PreOwnN.read {v : AV} {l : List Nd} (h : PreOwnN s t v l) : read ndC t v = some l := by
  rcases h with h | ⟨rfl, j, cs, rfl, _, h⟩
  · exact h.read
  · exact read_of (C := ndC) (n := 0) rfl h (by omega) (by simp [cells_nil])
theorem PreOwnN.mono {v : AV} {l : List Nd} (h : PreOwnN s t v l) (k : ∀ id b, t.get id = some b → u.get id = some b) : PreOwnN s u v l := h.imp (fun h => h.mono k) fun ⟨h1, j, cs, h2, h3, h4⟩ => ⟨h1, j, cs, h2, h3, k _ _ h4⟩
theorem PreOwnN.app {v w : AV} {l m : List Nd} (hK : Keep s t) (h : PreOwnN s t v l) (hr : AM.read ndC t w = some m) (hb : l.length + m.length ≤ 4000000) : ∃ v' t', appV t 6 48 v w = some (v', t') ∧ Keep s t' ∧ PreOwnN s t' v' (l ++ m) := by
  rcases h with h | ⟨rfl, j, cs, rfl, h1, h⟩
  · obtain ⟨v', t', q1, q2, q3⟩ := appV_list hK h hr 48 (by unfold roomBytes; omega)
    exact ⟨v', t', q1, q2, .inl q3⟩
  · have h2 : ndC.sz = 6 := rfl
    simp only [appV]
    rw [← h2, read_shown hr, read_len hr]
    simp only [aappend, if_true, h]
    by_cases h0 : m.length = 0
    · have : m = [] := List.length_eq_zero_iff.1 h0
      subst this
      exact ⟨_, _, if_pos (rfl : ([] : List Nd).length = 0), hK, .inr ⟨rfl, j, cs, rfl, h1, h⟩⟩
    · rw [if_neg h0, if_pos ⟨by omega, by simp at hb; unfold roomBytes; omega⟩]
      refine ⟨_, _, rfl, (hK.put .dead h1 (St.get_lt h)).push _, .inl (.inr ⟨t.next, by simp, by simpa using h0, hK.next, ?_⟩)⟩
      have := St.get_push_new (t.put j .dead) (.row (ndC.cells m) true)
      simpa using this
end Go.AM
end
/-
  Searching a store: BinarySearchFunc, find, Find, Put. Own work of this project; in part printed by a program of it.
-/
section
set_option maxRecDepth 100000
set_option maxHeartbeats 8000000
namespace Go.AM
open Go Go.Proofs

variable {s t u : St}

theorem bin_shr1 (n : Nat) : binOp .shr .no (.int .u64 (n : Int)) (.int .u64 1) = some (.int .u64 ((n / 2 : Nat) : Int)) := by
  simp only [binOp, shOp]
  have h1 : ¬ ((1 : Int) < 0) := by decide
  have h2 : (2 : Int) ^ (min (Int.toNat 1) IntKind.u64.bits) = 2 := by decide
  rw [if_neg h1, h2]
  have : Int.fdiv (n : Int) 2 = ((n / 2 : Nat) : Int) := by
    rw [Int.fdiv_eq_ediv_of_nonneg _ (by decide)]
    omega
  simp only [this]
end Go.AM
end
/-
  The reference of layer 10: Valid, Equal, Find. Own work of this project; in part printed by a program of it.
-/
section
set_option maxRecDepth 100000
set_option maxHeartbeats 8000000
namespace Go.AM
open Go Go.Proofs

variable {s t u : St}

end Go.AM
end
/-
  The reference of layer 10: Put, Of. Own work of this project; in part printed by a program of it.
-/
section
set_option maxRecDepth 100000
set_option maxHeartbeats 8000000
namespace Go.AM
open Go Go.Proofs

variable {s t u : St}

theorem bsl_nd {x : Nd} : bslV [.int .i64 0, .int .i64 0, .int .i64 0, .int .i64 0, .int .i64 0, .int .i32 0] 1 6 [(0, .agg (Nd.av x))] = some (fun id => .sl id 0 1 (some 1) 6, .row (Nd.av x) true) := nrfl rfl
end Go.AM
end
/-
  The reference of layer 10: Of. Own work of this project; in part printed by a program of it.
-/
section
set_option maxRecDepth 100000
set_option maxHeartbeats 8000000
namespace Go.AM
open Go Go.Proofs

variable {s t u : St}
end Go.AM
end
/-
  store.Put and Kill, the reference Kill, and what the statements of layer 10 call. Own work of this project; in part printed by a program of it.
-/
section
set_option maxRecDepth 100000
set_option maxHeartbeats 8000000
namespace Go.AM
open Go Go.Proofs

variable {s t u : St}

end Go.AM
end
/-
  store.Kill. Own work of this project; in part printed by a program of it.
-/
section
set_option maxRecDepth 100000
set_option maxHeartbeats 8000000
namespace Go.AM
open Go Go.Proofs

variable {s t u : St}

end Go.AM
end
/-
  dot.Set of a list without repeats: a new list of its own. Own work of this project; in part printed by a program of it.
-/
section
set_option maxRecDepth 100000
set_option maxHeartbeats 8000000
namespace Go.AM
open Go Go.Proofs

variable {s t u : St}

end Go.AM
end
/-
  Maps from dots to true; store.Lacking. Own work of this project; in part printed by a program of it.
-/
section
set_option maxRecDepth 100000
set_option maxHeartbeats 8000000
namespace Go.AM
open Go Go.Proofs

variable {s t u : St}
end Go.AM
end
/-
  The row's last part: a call that leaves what was there alone, and answers true. Own work of this project.
-/
section
namespace Go.AM
open Go Go.ChangeShapes Go.WideShapes Go.ChangeAt Go.RowKit

variable {H : Type} {enc : TypeId × Value → H} {P : Program}

theorem Clean.below {W W' : World} (h : Clean W W') : Below W.heap.size W W' := ⟨h.os, h.tape, h.output, h.size, h.block⟩
theorem Clean.frozen {W W' : World} (h : Clean W W') {a : Addr} (ha : a.block < W.heap.size) : W'.frozen? a = W.frozen? a := h.below.frozen ha

theorem trodAll_clean (hl : laidOutB P = true) {W W' : World} (hc : Clean W W') (sp : Nat → Bool) : ∀ {ts : List TypeId} {vs : List Value} {ds : List (DataW H)} {ps : List MemPlace}, (∀ t ∈ ts, P.readableRec t = true ∧ t < P.types.size) →
    DataW.TrodAll enc P W 0 (fun _ => true) true ts vs ds ps → (∀ p ∈ ps, sp p.block = true) → DataW.TrodAll enc P W' 0 sp true ts vs ds ps
  | [], vs, ds, ps, _, h, _ => by
    obtain ⟨rfl, rfl, rfl⟩ := trodAll_nil h
    rfl
  | t :: ts, vs, ds, ps, hr, h, hs => by
    obtain ⟨v, vs1, d, ds1, a, b, rfl, rfl, rfl, h1, h2⟩ := trodAll_cons h
    have hlt := DataW.TrodAll.lt h
    refine ⟨a, b, ?_, trodAll_clean hl hc sp (fun t ht => hr t (by simp [ht])) h2 fun p hp => hs p (by simp [hp]), rfl⟩
    exact WideElems.Trod_stays hl (hr t (by simp)).1 (hr t (by simp)).2 h1 (fun x hx => hc.below.same (hlt x (by simp [hx]))) fun x hx => hs x (by simp [hx])

theorem post_of_clean {f : Func} {s : ChangeSpec} {apart fresh handsOn again : Bool} {W W' : World} {args : Array Value} {ds gs : List (DataW H)} {before : List MemPlace} {tb : TypeId} (hl : laidOutB P = true)
    (hread : ∀ t ∈ f.params.toList, P.readableRec t = true ∧ t < P.types.size) (hW : DataW.Whole enc P f.params.toList s.vars apart W args.toList ds gs before) (hv : s.vars = [])
    (hres : (s.fn H (ds ++ gs)).results = [.lit (.bool true)]) (hargs : (s.fn H (ds ++ gs)).args = ds) (hvars : (s.fn H (ds ++ gs)).vars = []) (hrt : f.resultTypes = #[tb]) (hb : P.underlying tb = some .bool) (hc : Clean W W') :
    s.post enc P f apart fresh handsOn again W args (.bool true) W' := by
  have hlt : ∀ p ∈ before, p.block < W.heap.size := hW.lt
  have hW0 := hW
  obtain ⟨pa, pv, hA, hV, rfl, hz, hn⟩ := hW
  have hpv : pv = [] := by
    rw [hv] at hV
    cases gs with
    | nil => exact hV
    | cons g gs => exact hV.elim
  subst hpv
  simp only [List.append_nil] at hW0 hlt hz hn
  have hR : ∀ (b : Nat) (sp : Nat → Bool) (hd : Bool), DataW.TrodAll enc P W' b sp hd [tb] [.bool true] [.lit (.bool true)] [] := fun b sp hd => trodAll_mk1 (shut_bool hb true)
  have hrl : (Value.bool true).resultList f.resultTypes.size = [.bool true] := by simp [hrt, Value.resultList]
  refine ⟨ds, gs, pa, [], pa, [], hW0, ?_, ?_, ?_, ?_, fun _ => ⟨fun j t r h1 h2 => ?_, ?_⟩⟩
  · rw [hrl, hres, hrt]
    exact hR _ _ _
  · rw [hargs]
    exact trodAll_clean hl hc _ hread hA fun p hp => by simpa using hlt p hp
  · rw [hvars, hv]
    rfl
  · exact hc.below.frame _
  · rw [hrl] at h2
    rw [hrt] at h1
    cases j with
    | zero =>
      simp at h1 h2
      subst h1; subst h2
      simp [Value.okWide, hb, Cell.okWide, Cell.ok]
    | succ j => simp at h1
  · refine ⟨[.lit (.bool true)] ++ ds, [], pa, ⟨[] ++ pa, [], ?_, ?_, by simp, ?_, ?_⟩, fun p hp _ => hp⟩
    · rw [hrl, hrt]
      exact trodAll_append (trodAll_clean hl hc _ hread hA fun _ _ => rfl) (hR _ _ _)
    · rw [hv]
      rfl
    · intro b off hp
      rw [hc.frozen (hlt _ hp)]
      exact hz b off hp
    · intro ha
      simpa using hn ha

end Go.AM
end
/-
  From a row's reading of an argument to the abstract machine's memory. Own work of this project.
-/
section
namespace Go.AM
open Go Go.ChangeShapes Go.WideShapes Go.ChangeAt Go.RowKit Go.Deep

/-- The kinds of plain cells. -/
inductive CK where
  | b | i (k : IntKind) | s
def CK.ok : CK → AV → Prop
  | .b, v => ∃ x, v = .bool x
  | .i k, v => ∃ n, v = .int k n ∧ (Lit.int k n).wf = true
  | .s, v => ∃ x, v = .str x
def CKs : List CK → List AV → Prop
  | [], vs => vs = []
  | k :: ks, vs => ∃ v r, vs = v :: r ∧ k.ok v ∧ CKs ks r
theorem CKs.append : ∀ {ks ks' : List CK} {vs vs' : List AV}, CKs ks vs → CKs ks' vs' → CKs (ks ++ ks') (vs ++ vs')
  | [], ks', vs, vs', h, h' => by simp only [CKs] at h; subst h; exact h'
  | k :: ks, ks', vs, vs', h, h' => by
    simp only [CKs] at h
    obtain ⟨v, r, rfl, h1, h2⟩ := h
    exact ⟨v, r ++ vs', rfl, h1, CKs.append h2 h'⟩
theorem CKs.len : ∀ {ks : List CK} {vs : List AV}, CKs ks vs → vs.length = ks.length
  | [], vs, h => by simp only [CKs] at h; subst h; rfl
  | k :: ks, vs, h => by
    simp only [CKs] at h
    obtain ⟨v, r, rfl, h1, h2⟩ := h
    simp [CKs.len h2]
theorem CK.ok_one {k : CK} {v : AV} (h : k.ok v) : v.one = true := by
  cases k <;> simp only [CK.ok] at h
  · obtain ⟨x, rfl⟩ := h; rfl
  · obtain ⟨x, rfl, _⟩ := h; rfl
  · obtain ⟨x, rfl⟩ := h; rfl
theorem CKs.one : ∀ {ks : List CK} {vs : List AV}, CKs ks vs → vs.all AV.one = true
  | [], vs, h => by simp only [CKs] at h; subst h; rfl
  | k :: ks, vs, h => by
    simp only [CKs] at h
    obtain ⟨v, r, rfl, h1, h2⟩ := h
    simp [CK.ok_one h1, CKs.one h2]

variable (P : Program)
def cks : Nat → TypeId → Option (List CK)
  | 0, _ => none
  | d + 1, t =>
    match P.underlying t with
    | some .bool => some [.b]
    | some (.int k) => some [.i k]
    | some .string => some [.s]
    | some (.struct fs) => cksF (cks d) fs.toList 0 (P.cellsOf t)
    | _ => none
where
  cksF (ok : TypeId → Option (List CK)) : List Field → Nat → Nat → Option (List CK)
    | [], at_, sz => if sz = at_ then some [] else none
    | f :: r, at_, sz =>
      if f.offset = at_ then
        match ok f.type with
        | some ks => if ks.length = P.cellsOf f.type then (cksF ok r (at_ + ks.length) sz).map (ks ++ ·) else none
        | none => none
      else none

variable {P}
variable {H : Type} {enc : TypeId × Value → H} {w : World} {base : Nat} {spare : Nat → Bool} {held : Bool}
theorem cell_some {a : Addr} {v : Value} (h : w.cell? a = some v) : ∃ cells el fr, w.heap[a.block]? = some (.cells cells el fr) ∧ a.spot = none := by
  unfold World.cell? at h
  split at h
  · rename_i c el fr hh
    split at h
    · cases h
    · rename_i hs
      exact ⟨c, el, fr, hh, by simpa using hs⟩
  · cases h
theorem addr_block (a : Addr) (i : Nat) : (a.add i).block = a.block := by unfold Addr.add; split <;> rfl
theorem addr_spot (a : Addr) (i : Nat) (h : (a.add i).spot = none) (h0 : i = 0 ∨ True) : i = 0 → a.spot = none := by
  intro hi
  subst hi
  unfold Addr.add at h
  simpa using h

/-- Cells, each kind in its turn, again and again. -/
def Rows (ks : List CK) (rows : List (List AV)) : Prop := ∀ r ∈ rows, CKs ks r
end Go.AM
end
