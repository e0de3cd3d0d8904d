/-
  Lists of states in memory, as a buffer holds them: the outer row, the inner rows, appending, and what leaves them alone. Own work of this project.
-/
import Derived.Test.YtnojanlkminpaaaP4
import Derived.KernelRfl
import Derived.ProofKit
import Derived.Carry
import Derived.Deep.Slices
import Derived.HandedShaped
import Derived.OpenShut
section
set_option linter.unusedVariables false
set_option linter.unusedSimpArgs false
set_option maxRecDepth 100000
namespace Go.AM
open Go Go.Proofs

variable {s t u : St}
/-- An inner list: its row is nodes and nothing else. -/
def NdR (t : St) (v : AV) (l : List Nd) : Prop := (v = .nils ∧ l = []) ∨ ∃ j off n cap l' own, v = .sl j off n cap 6 ∧ t.get j = some (.row (ndC.cells l') own) ∧ read ndC t v = some l
def InR (t : St) : List AV → List (List Nd) → Prop
  | [], [] => True
  | v :: vs, l :: ls => NdR t v l ∧ InR t vs ls
  | _, _ => False
/-- The outer row: all of it. -/
def OutR (t : St) (v : AV) (vs : List AV) : Prop := (v = .nils ∧ vs = []) ∨ ∃ j cap, v = .sl j 0 vs.length cap 1 ∧ t.get j = some (.row vs true) ∧ (cap = none ∧ vs ≠ [] ∨ cap = some vs.length)
def outM : AV → List AV → List Nat
  | .sl j _ _ _ _, _ :: _ => [j]
  | _, _ => []
theorem NdR.read {v : AV} {l : List Nd} (h : NdR t v l) : read ndC t v = some l := by
  rcases h with ⟨rfl, rfl⟩ | ⟨_, _, _, _, _, _, _, _, h⟩
  · rfl
  · exact h
theorem NdR.one {v : AV} {l : List Nd} (h : NdR t v l) : v = .nils ∨ ∃ j off n cap, v = .sl j off n cap 6 := by
  rcases h with ⟨rfl, _⟩ | ⟨j, off, n, cap, _, _, rfl, _⟩
  · exact .inl rfl
  · exact .inr ⟨j, off, n, cap, rfl⟩
theorem InR.readA : ∀ {vs : List AV} {ls : List (List Nd)}, InR t vs ls → readA t vs = some ls
  | [], [], _ => rfl
  | v :: vs, l :: ls, h => by
    simp only [AM.readA, h.1.read, InR.readA h.2]
  | [], _ :: _, h => h.elim
  | _ :: _, [], h => h.elim
theorem InR.len : ∀ {vs : List AV} {ls : List (List Nd)}, InR t vs ls → vs.length = ls.length
  | [], [], _ => rfl
  | v :: vs, l :: ls, h => by simp [InR.len h.2]
  | [], _ :: _, h => h.elim
  | _ :: _, [], h => h.elim
theorem InR.app : ∀ {vs ws : List AV} {ls ms : List (List Nd)}, InR t vs ls → InR t ws ms → InR t (vs ++ ws) (ls ++ ms)
  | [], ws, [], ms, _, k => k
  | v :: vs, ws, l :: ls, ms, h, k => ⟨h.1, InR.app h.2 k⟩
  | [], _, _ :: _, _, h, _ => h.elim
  | _ :: _, _, [], _, h, _ => h.elim
theorem InR.drop : ∀ (n : Nat) {vs : List AV} {ls : List (List Nd)}, InR t vs ls → InR t (vs.drop n) (ls.drop n)
  | 0, _, _, h => h
  | n + 1, [], [], _ => trivial
  | n + 1, v :: vs, l :: ls, h => InR.drop n h.2
  | _ + 1, [], _ :: _, h => h.elim
  | _ + 1, _ :: _, [], h => h.elim
theorem InR.take : ∀ (n : Nat) {vs : List AV} {ls : List (List Nd)}, InR t vs ls → InR t (vs.take n) (ls.take n)
  | 0, _, _, h => trivial
  | n + 1, [], [], _ => trivial
  | n + 1, v :: vs, l :: ls, h => ⟨h.1, InR.take n h.2⟩
  | _ + 1, [], _ :: _, h => h.elim
  | _ + 1, _ :: _, [], h => h.elim
theorem InR.cell : ∀ {vs : List AV} {ls : List (List Nd)}, InR t vs ls → ∀ v ∈ vs, v = .nils ∨ ∃ j off n cap, v = .sl j off n cap 6
  | [], [], _, v, hv => by simp at hv
  | w :: vs, l :: ls, h, v, hv => by
    rcases List.mem_cons.1 hv with rfl | hv
    · exact h.1.one
    · exact InR.cell h.2 v hv
  | [], _ :: _, h, _, _ => h.elim
  | _ :: _, [], h, _, _ => h.elim
/-- No block of M is a row of nodes. -/
def Apart (t : St) (M : List Nat) : Prop := ∀ id ∈ M, ∀ l' own, t.get id ≠ some (.row (ndC.cells l') own)
theorem NdR.keep {M : List Nat} (hc : Chg M t u) (ha : Apart t M) {v : AV} {l : List Nd} (h : NdR t v l) : NdR u v l := by
  rcases h with h | ⟨j, off, n, cap, l', own, rfl, hg, hr⟩
  · exact .inl h
  · have hj : j ∉ M := fun q => ha j q l' own hg
    have hg' := hc.blk hg hj
    refine .inr ⟨j, off, n, cap, l', own, rfl, hg', ?_⟩
    simp only [AM.read, hg, hg'] at hr ⊢
    exact hr
theorem InR.keep {M : List Nat} (hc : Chg M t u) (ha : Apart t M) : ∀ {vs : List AV} {ls : List (List Nd)}, InR t vs ls → InR u vs ls
  | [], [], _ => trivial
  | v :: vs, l :: ls, h => ⟨h.1.keep hc ha, InR.keep hc ha h.2⟩
  | [], _ :: _, h => h.elim
  | _ :: _, [], h => h.elim
theorem NdR.mono (hc : ∀ id b, t.get id = some b → u.get id = some b) {v : AV} {l : List Nd} (h : NdR t v l) : NdR u v l := by
  rcases h with h | ⟨j, off, n, cap, l', own, rfl, hg, hr⟩
  · exact .inl h
  · exact .inr ⟨j, off, n, cap, l', own, rfl, hc _ _ hg, read_mono hr hc⟩
theorem InR.mono (hc : ∀ id b, t.get id = some b → u.get id = some b) : ∀ {vs : List AV} {ls : List (List Nd)}, InR t vs ls → InR u vs ls
  | [], [], _ => trivial
  | v :: vs, l :: ls, h => ⟨h.1.mono hc, InR.mono hc h.2⟩
  | [], _ :: _, h => h.elim
  | _ :: _, [], h => h.elim
theorem OutR.mono (hc : ∀ id b, t.get id = some b → u.get id = some b) {v : AV} {vs : List AV} (h : OutR t v vs) : OutR u v vs := by
  rcases h with h | ⟨j, cap, rfl, hg, hcap⟩
  · exact .inl h
  · exact .inr ⟨j, cap, rfl, hc _ _ hg, hcap⟩
theorem OutR.keep {M : List Nat} (hc : Chg M t u) {v : AV} {vs : List AV} (hm : ∀ j off n cap z, v = .sl j off n cap z → j ∉ M) (h : OutR t v vs) : OutR u v vs := by
  rcases h with h | ⟨j, cap, rfl, hg, hcap⟩
  · exact .inl h
  · exact .inr ⟨j, cap, rfl, hc.blk hg (hm _ _ _ _ _ rfl), hcap⟩
theorem OutR.shown {v : AV} {vs : List AV} (h : OutR t v vs) : shownV t v = some vs := by
  rcases h with ⟨rfl, rfl⟩ | ⟨j, cap, rfl, hg, _⟩
  · rfl
  · simp only [shownV, hg, Nat.zero_add, Nat.le_refl, if_true, List.drop_zero, List.take_length]
theorem out_rdLL {v : AV} {vs : List AV} {ls : List (List Nd)} (h : OutR t v vs) (k : InR t vs ls) : rdLL t v = some ls := by
  unfold rdLL
  rw [h.shown]
  exact k.readA
theorem OutR.lenV {v : AV} {vs : List AV} (h : OutR t v vs) : AM.lenV v = some (.int .i64 (vs.length : Int)) := by
  rcases h with ⟨rfl, rfl⟩ | ⟨j, cap, rfl, _⟩ <;> rfl
theorem OutR.lt {v : AV} {vs : List AV} (h : OutR t v vs) : ∀ j off n cap z, v = .sl j off n cap z → j < t.next := by
  rintro j off n cap z rfl
  rcases h with ⟨h, _⟩ | ⟨j', cap', e, hg, _⟩
  · cases h
  · injection e with e1
    subst e1
    exact St.get_lt hg
theorem cells_two (l : List Nd) (a b : AV) : ndC.cells l ≠ [a, b] := by
  intro h
  have h1 : (ndC.cells l).length = l.length * 6 := cells_len ndC l
  rw [h] at h1
  simp at h1
  omega
theorem cells_slices {l : List Nd} {v : AV} {vs : List AV} (hv : v = .nils ∨ ∃ j off n cap, v = .sl j off n cap 6) : ndC.cells l ≠ v :: vs := by
  intro h
  cases l with
  | nil => rw [cells_nil] at h; cases h
  | cons x r =>
    rw [cells_cons] at h
    have : ndC.enc x = Nd.av x := rfl
    rw [this] at h
    simp only [Nd.av, List.cons_append] at h
    have h := (List.cons.inj h).1
    rcases hv with rfl | ⟨_, _, _, _, rfl⟩ <;> cases h
theorem apart_two {id : Nat} {a b : AV} {own : Bool} (h : t.get id = some (.row [a, b] own)) : Apart t [id] := by
  intro j hj l' own' hg
  simp at hj
  subst hj
  rw [h] at hg
  injection hg with hg
  injection hg with hg
  exact cells_two l' a b hg.symm
theorem apart_out {v : AV} {vs : List AV} {ls : List (List Nd)} (h : OutR t v vs) (k : InR t vs ls) : Apart t (outM v vs) := by
  intro j hj l' own' hg
  unfold outM at hj
  split at hj
  · rename_i j0 off n cap z w ws
    simp at hj
    subst hj
    rcases h with ⟨h, _⟩ | ⟨j', cap', e, hg', _⟩
    · cases h
    · injection e with e1
      subst e1
      rw [hg'] at hg
      injection hg with hg
      injection hg with hg
      exact cells_slices (k.cell w (by simp)) hg.symm
  · simp at hj
theorem Apart.app {M M' : List Nat} (h : Apart t M) (k : Apart t M') : Apart t (M ++ M') := fun id hid => by
  rcases List.mem_append.1 hid with q | q
  · exact h id q
  · exact k id q
/-- One more at the end. -/
theorem out_app {v w : AV} {vs : List AV} (h : OutR t v vs) (hlt : (vs.length + 1) * 24 ≤ roomBytes) : ∃ t', aappend t 1 24 v [w] 1 = some (.sl t.next 0 (vs.length + 1) none 1, t') ∧
    t'.get t.next = some (.row (vs ++ [w]) true) ∧ t'.next = t.next + 1 ∧ Chg (outM v vs) t t' := by
  rcases h with ⟨rfl, rfl⟩ | ⟨j, cap, rfl, hg, hcap⟩
  · refine ⟨t.push (.row [w] true), ?_, St.get_push_new _ _, by simp, (Chg.refl _ t).push _⟩
    simp only [aappend, Nat.one_ne_zero, if_false, Nat.one_mul]
    rw [if_pos (by unfold roomBytes; omega)]
    rfl
  · have hlj := St.get_lt hg
    have hts : (vs.drop 0).take (vs.length * 1) = vs := by simp
    have hle : 0 + vs.length * 1 ≤ vs.length ∧ (vs.length + 1) * 24 ≤ roomBytes := ⟨by omega, hlt⟩
    rcases hcap with ⟨rfl, hne⟩ | rfl
    · refine ⟨(t.put j .dead).push (.row (vs ++ [w]) true), ?_, ?_, by simp, ?_⟩
      · simp only [aappend, if_true, hg, Nat.one_ne_zero, if_false, hle, and_self, hts, St.next_put]
      · have := St.get_push_new (t.put j .dead) (.row (vs ++ [w]) true)
        simpa using this
      · refine Chg.push (Chg.put (.refl _ t) _ (.inl ?_) hlj) _
        cases vs with
        | nil => exact absurd rfl hne
        | cons a r => simp [outM]
    · refine ⟨t.push (.row (vs ++ [w]) true), ?_, St.get_push_new _ _, by simp, (Chg.refl _ t).push _⟩
      have hn : ¬ vs.length + 1 ≤ vs.length := by omega
      simp only [aappend, if_true, hg, Nat.one_ne_zero, if_false, hle, and_self, hn, hts]
theorem out_appV {v x w : AV} {vs : List AV} (h : OutR t v vs) (hlt : (vs.length + 1) * 24 ≤ roomBytes) {j : Nat} {cap : Option Nat} {own : Bool} (hx : x = .sl j 0 1 cap 1) (hg : t.get j = some (.row [w] own)) : ∃ t', appV t 1 24 v x = some (.sl t.next 0 (vs.length + 1) none 1, t') ∧
    t'.get t.next = some (.row (vs ++ [w]) true) ∧ t'.next = t.next + 1 ∧ Chg (outM v vs) t t' := by
  obtain ⟨t', h1, h2⟩ := out_app (w := w) h hlt
  refine ⟨t', ?_, h2⟩
  subst hx
  simp only [appV, shown, lenOf, if_true, hg, List.length_cons, List.length_nil, Nat.zero_add, Nat.one_mul, Nat.le_refl, List.drop_zero, List.take_succ_cons, List.take_zero]
  exact h1

/-- A part of it. -/
theorem out_slc {v : AV} {vs : List AV} (h : OutR t v vs) {a b : Nat} (hab : a ≤ b) (hb : b ≤ vs.length) : ∃ v', slcV 1 v (some (.int .i64 (a : Int))) (some (.int .i64 (b : Int))) = some v' ∧ shownV t v' = some ((vs.drop a).take (b - a)) := by
  rcases h with ⟨rfl, rfl⟩ | ⟨j, cap, rfl, hg, hcap⟩
  · simp at hb
    subst hb
    have : a = 0 := by omega
    subst this
    exact ⟨.nils, by simp [slcV, optNat, asNatIn], by simp [shownV]⟩
  · have e2 : ∀ m, b ≤ m → optNat (some (.int .i64 (b : Int))) m vs.length = some b := fun m hm => by simp [optNat, asNatIn]; omega
    have e1 : optNat (some (.int .i64 (a : Int))) b 0 = some a := by simp [optNat, asNatIn]; omega
    have hs : ∀ cap', shownV t (.sl j (0 + a * 1) (b - a) cap' 1) = some ((vs.drop a).take (b - a)) := fun cap' => by
      simp only [shownV, if_true, hg, Nat.zero_add, Nat.mul_one]
      rw [if_pos (by omega)]
    rcases hcap with ⟨rfl, _⟩ | rfl
    · refine ⟨_, ?_, hs none⟩
      simp only [slcV, if_true, e2 _ hb, e1]
    · refine ⟨_, ?_, hs (some (vs.length - a))⟩
      simp only [slcV, if_true, e2 _ hb, e1]
theorem shown_rd {v : AV} {vs : List AV} {ls : List (List Nd)} (h : shownV t v = some vs) (k : InR t vs ls) : rdLL t v = some ls := by
  unfold rdLL
  rw [h]
  exact k.readA
/-! ### Steps -/
section
variable {env : Env}
def nchkV : AV → Option AV
  | .ptr id o => some (.ptr id o)
  | _ => none
theorem ap_nchk (x : AO) : apure env (.nchk x) = nchkV (aev env x) := by
  simp only [apure, nchkV]
  generalize aev env x = v
  cases v <;> rfl
theorem nchkV_ptr (id o : Nat) : nchkV (.ptr id o) = some (.ptr id o) := nrfl rfl
theorem bin_np (id o : Nat) : binOp .eql .np (.ptr id o) .nilp = some (.bool false) := nrfl rfl
theorem bin_npn : binOp .eql .np .nilp .nilp = some (.bool true) := nrfl rfl
theorem bin_npx (id o : Nat) : binOp .neq .np (.ptr id o) .nilp = some (.bool true) := nrfl rfl
theorem bin_npnx : binOp .neq .np .nilp .nilp = some (.bool false) := nrfl rfl
def mmV (big : Bool) : List AV → Option AV
  | v :: r => mmL big v r
  | [] => none
theorem ap_mm (big : Bool) (xs : List AO) : apure env (.mm big xs) = mmV big (xs.map (aev env)) := by
  simp only [apure, mmV]
  cases xs.map (aev env) <;> rfl
theorem mmV_max (k : IntKind) (a b : Int) : mmV true [.int k a, .int k b] = some (.int k (max a b)) := by
  simp only [mmV, mmL, if_true]
  congr 2
  split <;> omega
theorem mmV_min (k : IntKind) (a b : Int) : mmV false [.int k a, .int k b] = some (.int k (min a b)) := by
  simp only [mmV, mmL, if_true, Bool.false_eq_true, if_false]
  congr 2
  split <;> omega
theorem res3 (env : Env) (s : St) (a b c : Nat) : aresults env s [.t a, .t b, .t c] = some (.tup [E env a, E env b, E env c]) := by
  unfold E
  rfl
end
theorem row2_lod {id : Nat} {a b : AV} {own : Bool} (h : t.get id = some (.row [a, b] own)) : lod1 t (.ptr id 0) = some a ∧ lod1 t (.ptr id 1) = some b ∧ ltN id t := by
  refine ⟨?_, ?_, St.get_lt h⟩ <;> simp [lod1, h]
theorem row2_sto {id : Nat} {a b : AV} (h : t.get id = some (.row [a, b] true)) {x : AV} (hc : x.cells = [x]) (ho : x.one = true) : sto t 1 (.ptr id 0) x = some (.und, t.put id (.row [x, b] true)) ∧ sto t 1 (.ptr id 1) x = some (.und, t.put id (.row [a, x] true)) := by
  constructor <;> simp [sto, h, hc, ho, setAt]
theorem Keep.born {s t : St} (h : Keep s t) {id : Nat} (b : AB) (h1 : s.next ≤ id) (h2 : id < t.next) : Keep s (t.born id b) :=
  ⟨by simpa using h.next, fun j hj => by rw [St.get_born_ne _ _ h2 (by omega), h.get j hj], by simpa using h.low⟩
theorem born_self {t : St} {id : Nat} {b0 : AB} (h : t.get id = some b0) (b : AB) : (t.born id b).get id = some b := St.get_born_same h
theorem keep_reserve (s : St) (k : Nat) : Keep s (s.reserve k) := ⟨by simp, fun id h => by rw [St.get_reserve, if_pos h], by simp; omega⟩
theorem Chg.born {t : St} {id : Nat} {b0 : AB} (h : t.get id = some b0) (b : AB) : Chg [id] t (t.born id b) :=
  ⟨by simp, fun j _ hj => St.get_born_ne _ _ (St.get_lt h) (by simpa using hj), fun k h1 _ _ => by simpa using h1⟩
theorem bsl1 {s : St} {a : AV} {la : List Nd} (ha : read ndC s a = some la) : bslV [.nils] 1 1 [(0, a)] = some (fun id => .sl id 0 1 (some 1) 1, .row [a] true) := by
  simp only [bslV, List.map_cons, List.map_nil]
  rw [fill1 ha _ _ (by simp)]
  rfl
/-- A row of two cells, one of them a number, is no outer row. -/
theorem out_two {id : Nat} {a b v : AV} {own : Bool} {vs : List AV} {ls : List (List Nd)} (h : t.get id = some (.row [a, b] own)) (ho : OutR t v vs) (hi : InR t vs ls) (hn : (∃ k n, a = .int k n) ∨ ∃ k n, b = .int k n) : ∀ j off n cap z, v = .sl j off n cap z → j ≠ id := by
  rintro j off n cap z rfl rfl
  rcases ho with ⟨h0, _⟩ | ⟨j', cap', e, hg, _⟩
  · cases h0
  · injection e with e1
    subst e1
    rw [h] at hg
    injection hg with hg
    injection hg with hg
    have hc := hi.cell
    rw [← hg] at hc
    rcases hn with ⟨k, n, rfl⟩ | ⟨k, n, rfl⟩
    · rcases hc (.int k n) (by simp) with q | ⟨_, _, _, _, q⟩ <;> cases q
    · rcases hc (.int k n) (by simp) with q | ⟨_, _, _, _, q⟩ <;> cases q
theorem outM_in {v : AV} {vs : List AV} {id : Nat} (h : id ∈ outM v vs) : ∃ off n cap z, v = .sl id off n cap z := by
  unfold outM at h
  split at h
  · simp at h
    subst h
    exact ⟨_, _, _, _, rfl⟩
  · simp at h
end Go.AM
end
/-
  The program's buffer: First, Last, Len, Between, From, Put, Forget, Copy. Own work of this project; in part printed by a program of it.
-/
section
set_option linter.unusedVariables false
set_option linter.unusedSimpArgs false
set_option maxRecDepth 100000
set_option maxHeartbeats 8000000
namespace Go.AM
open Go Go.Proofs

variable {s t u : St}
def BufR (t : St) (id g : Nat) (dv : AV) (vs : List AV) (ls : List (List Nd)) : Prop := t.get id = some (.row [.int .i64 (g : Int), dv] true) ∧ OutR t dv vs ∧ InR t vs ls
theorem keep_lowd (s : St) : Keep s (lowd s) := ⟨Nat.le_refl _, fun _ _ => rfl, Nat.min_le_right _ _⟩
theorem BufR.keep {M : List Nat} (hc : Chg M t u) (ha : Apart t M) {id g : Nat} {dv : AV} {vs : List AV} {ls : List (List Nd)} (h : BufR t id g dv vs ls) (hid : id ∉ M) (hm : ∀ j off n cap z, dv = .sl j off n cap z → j ∉ M) : BufR u id g dv vs ls :=
  ⟨hc.blk h.1 hid, h.2.1.keep hc hm, h.2.2.keep hc ha⟩
theorem Apart.nil (t : St) : Apart t [] := fun _ h => by simp at h
theorem BufR.keep0 (hk : Keep t u) {id g : Nat} {dv : AV} {vs : List AV} {ls : List (List Nd)} (h : BufR t id g dv vs ls) : BufR u id g dv vs ls := h.keep (hk.chg []) (.nil t) (by simp) (fun _ _ _ _ _ _ => by simp)
theorem BufR.low {id g : Nat} {dv : AV} {vs : List AV} {ls : List (List Nd)} (h : BufR s id g dv vs ls) : BufR (lowd s) id g dv vs ls := h.keep0 (keep_lowd s)
theorem read_low' {α : Type} {C : Cod α} {v : AV} {l : List α} (h : read C s v = some l) : read C (lowd s) v = some l := (keep_lowd s).read h
noncomputable def R_BLast : Con := runFn (tb []) a21
theorem s_BLast : SoundAt Try.prog 21 R_BLast := run_sound (tb_sound (l := []) (by simp)) mixed Try.func21 k21 c21
theorem n_BLast : noNxtC a21.body = true := by kernel_rfl
theorem w_BLast {s : St} {id g : Nat} {dv : AV} {vs : List AV} {ls : List (List Nd)} (hb : BufR s id g dv vs ls) (hg : g + vs.length ≤ 1000000) : ∀ env : Env, elen env = a21.ntmps → (∀ i x_, [.ptr id 0][i]? = some x_ → E env i = x_) → awp (tb []) a21.body (fun x e t => (∀ i, x ≠ .exit i) ∧ aresults e t a21.results = some (.int .i64 ((g + vs.length : Nat) : Int)) ∧ Keep s t) env s := by
  intro env hlen ha
  have h0 : E env 0 = _ := ha 0 _ rfl
  have hlen : elen env = _ := hlen
  simp only [a21] at hlen
  unfold a21
  obtain ⟨l0, l1, lt0⟩ := row2_lod hb.1
  have lL := hb.2.1.lenV
  have hw := wrap_nat (n := g + vs.length) (by omega)
  rw [Int.natCast_add] at hw
  simp (config := {contextual := true, maxDischargeDepth := 12}) only [tb_at, h0, hlen, l0, l1, lL, hw, ↓bD0, ↓bD1, ↓bD2, ↓bD3, ↓bD4, ↓bD5, ↓bD6, bU0, bU1, bU2, bU3, bU4, bU5, bU6, bU7, bU8, bU9, bU10, bU11, bU12, bU13, forall_const, List.all_cons, List.all_nil, Option.map_some, List.map_cons, List.map_nil, ne_eq, implies_true, isNx, cs_dec, cs_not, cs_and, cs_or, cs_valid, eq_self, ↓wp_cond, ↓wp_loop, ↓reduceIte, reduceCtorEq, Nat.reduceEqDiff, Nat.reduceLT, Nat.reduceAdd, Nat.reduceMul, Int.ofNat_lt, Int.ofNat_le, exists_const, ae_app, ap_slc, Option.map_none, mkR_none, mkR_some, ar_look, ae_mset, ae_rng, ae_mkmap0, ar_ent, lookV_push, lookV_lowed, msetV_push, msetV_lowed, lt_put, same_put, sto_over, sto_lowed, cs_dead, Option.map_some, beq_self_eq_true, decide_true, cs_true, cs_false, aa_bsl, ↓sg_bsl, ap_nchk, nchkV_ptr, bin_np, bin_npn, bin_npx, bin_npnx, ap_mm, mmV_max, mmV_min, res3, ↓st_callf]
  rw [Int.natCast_add]
theorem q_BLast (cl : Bool) {s : St} {id g : Nat} {dv : AV} {vs : List AV} {ls : List (List Nd)} (hb : BufR s id g dv vs ls) (hg : g + vs.length ≤ 1000000) : acall R_BLast cl [.ptr id 0] s = some (.int .i64 ((g + vs.length : Nat) : Int), s) := run_same n_BLast (by simp [a21]) rfl (w_BLast (s := lowd s) hb.low hg)
noncomputable def R_BFirst : Con := runFn (tb []) a20
theorem s_BFirst : SoundAt Try.prog 20 R_BFirst := run_sound (tb_sound (l := []) (by simp)) mixed Try.func20 k20 c20
theorem n_BFirst : noNxtC a20.body = true := by kernel_rfl
theorem w_BFirst {s : St} {id g : Nat} {dv : AV} {vs : List AV} {ls : List (List Nd)} (hb : BufR s id g dv vs ls) (hg : g + vs.length ≤ 1000000) : ∀ env : Env, elen env = a20.ntmps → (∀ i x_, [.ptr id 0][i]? = some x_ → E env i = x_) → awp (tb []) a20.body (fun x e t => (∀ i, x ≠ .exit i) ∧ aresults e t a20.results = some (.int .i64 ((g + 1 : Nat) : Int)) ∧ Keep s t) env s := by
  intro env hlen ha
  have h0 : E env 0 = _ := ha 0 _ rfl
  have hlen : elen env = _ := hlen
  simp only [a20] at hlen
  unfold a20
  obtain ⟨l0, l1, lt0⟩ := row2_lod hb.1
  have lL := hb.2.1.lenV
  have hw := wrap_add1 (n := g) (by omega)
  simp (config := {contextual := true, maxDischargeDepth := 12}) only [tb_at, h0, hlen, l0, l1, lL, hw, ↓bD0, ↓bD1, ↓bD2, ↓bD3, ↓bD4, ↓bD5, ↓bD6, bU0, bU1, bU2, bU3, bU4, bU5, bU6, bU7, bU8, bU9, bU10, bU11, bU12, bU13, forall_const, List.all_cons, List.all_nil, Option.map_some, List.map_cons, List.map_nil, ne_eq, implies_true, isNx, cs_dec, cs_not, cs_and, cs_or, cs_valid, eq_self, ↓wp_cond, ↓wp_loop, ↓reduceIte, reduceCtorEq, Nat.reduceEqDiff, Nat.reduceLT, Nat.reduceAdd, Nat.reduceMul, Int.ofNat_lt, Int.ofNat_le, exists_const, ae_app, ap_slc, Option.map_none, mkR_none, mkR_some, ar_look, ae_mset, ae_rng, ae_mkmap0, ar_ent, lookV_push, lookV_lowed, msetV_push, msetV_lowed, lt_put, same_put, sto_over, sto_lowed, cs_dead, Option.map_some, beq_self_eq_true, decide_true, cs_true, cs_false, aa_bsl, ↓sg_bsl, ap_nchk, nchkV_ptr, bin_np, bin_npn, bin_npx, bin_npnx, ap_mm, mmV_max, mmV_min, res3, ↓st_callf]
theorem q_BFirst (cl : Bool) {s : St} {id g : Nat} {dv : AV} {vs : List AV} {ls : List (List Nd)} (hb : BufR s id g dv vs ls) (hg : g + vs.length ≤ 1000000) : acall R_BFirst cl [.ptr id 0] s = some (.int .i64 ((g + 1 : Nat) : Int), s) := run_same n_BFirst (by simp [a20]) rfl (w_BFirst (s := lowd s) hb.low hg)
noncomputable def R_BLen : Con := runFn (tb []) a19
theorem s_BLen : SoundAt Try.prog 19 R_BLen := run_sound (tb_sound (l := []) (by simp)) mixed Try.func19 k19 c19
theorem n_BLen : noNxtC a19.body = true := by kernel_rfl
theorem w_BLen {s : St} {id g : Nat} {dv : AV} {vs : List AV} {ls : List (List Nd)} (hb : BufR s id g dv vs ls) (hg : g + vs.length ≤ 1000000) : ∀ env : Env, elen env = a19.ntmps → (∀ i x_, [.ptr id 0][i]? = some x_ → E env i = x_) → awp (tb []) a19.body (fun x e t => (∀ i, x ≠ .exit i) ∧ aresults e t a19.results = some (.int .i64 (vs.length : Int)) ∧ Keep s t) env s := by
  intro env hlen ha
  have h0 : E env 0 = _ := ha 0 _ rfl
  have hlen : elen env = _ := hlen
  simp only [a19] at hlen
  unfold a19
  obtain ⟨l0, l1, lt0⟩ := row2_lod hb.1
  have lL := hb.2.1.lenV
  simp (config := {contextual := true, maxDischargeDepth := 12}) only [tb_at, h0, hlen, l0, l1, lL, ↓bD0, ↓bD1, ↓bD2, ↓bD3, ↓bD4, ↓bD5, ↓bD6, bU0, bU1, bU2, bU3, bU4, bU5, bU6, bU7, bU8, bU9, bU10, bU11, bU12, bU13, forall_const, List.all_cons, List.all_nil, Option.map_some, List.map_cons, List.map_nil, ne_eq, implies_true, isNx, cs_dec, cs_not, cs_and, cs_or, cs_valid, eq_self, ↓wp_cond, ↓wp_loop, ↓reduceIte, reduceCtorEq, Nat.reduceEqDiff, Nat.reduceLT, Nat.reduceAdd, Nat.reduceMul, Int.ofNat_lt, Int.ofNat_le, exists_const, ae_app, ap_slc, Option.map_none, mkR_none, mkR_some, ar_look, ae_mset, ae_rng, ae_mkmap0, ar_ent, lookV_push, lookV_lowed, msetV_push, msetV_lowed, lt_put, same_put, sto_over, sto_lowed, cs_dead, Option.map_some, beq_self_eq_true, decide_true, cs_true, cs_false, aa_bsl, ↓sg_bsl, ap_nchk, nchkV_ptr, bin_np, bin_npn, bin_npx, bin_npnx, ap_mm, mmV_max, mmV_min, res3, ↓st_callf]
theorem q_BLen (cl : Bool) {s : St} {id g : Nat} {dv : AV} {vs : List AV} {ls : List (List Nd)} (hb : BufR s id g dv vs ls) (hg : g + vs.length ≤ 1000000) : acall R_BLen cl [.ptr id 0] s = some (.int .i64 (vs.length : Int), s) := run_same n_BLen (by simp [a19]) rfl (w_BLen (s := lowd s) hb.low hg)
theorem w_BLast_nil {s : St}  : ∀ env : Env, elen env = a21.ntmps → (∀ i x_, [.nilp][i]? = some x_ → E env i = x_) → awp (tb []) a21.body (fun x e t => (∀ i, x ≠ .exit i) ∧ aresults e t a21.results = some (.int .i64 0) ∧ Keep s t) env s := by
  intro env hlen ha
  have h0 : E env 0 = _ := ha 0 _ rfl
  have hlen : elen env = _ := hlen
  simp only [a21] at hlen
  unfold a21
  simp (config := {contextual := true, maxDischargeDepth := 12}) only [tb_at, h0, hlen, ↓bD0, ↓bD1, ↓bD2, ↓bD3, ↓bD4, ↓bD5, ↓bD6, bU0, bU1, bU2, bU3, bU4, bU5, bU6, bU7, bU8, bU9, bU10, bU11, bU12, bU13, forall_const, List.all_cons, List.all_nil, Option.map_some, List.map_cons, List.map_nil, ne_eq, implies_true, isNx, cs_dec, cs_not, cs_and, cs_or, cs_valid, eq_self, ↓wp_cond, ↓wp_loop, ↓reduceIte, reduceCtorEq, Nat.reduceEqDiff, Nat.reduceLT, Nat.reduceAdd, Nat.reduceMul, Int.ofNat_lt, Int.ofNat_le, exists_const, ae_app, ap_slc, Option.map_none, mkR_none, mkR_some, ar_look, ae_mset, ae_rng, ae_mkmap0, ar_ent, lookV_push, lookV_lowed, msetV_push, msetV_lowed, lt_put, same_put, sto_over, sto_lowed, cs_dead, Option.map_some, beq_self_eq_true, decide_true, cs_true, cs_false, aa_bsl, ↓sg_bsl, ap_nchk, nchkV_ptr, bin_np, bin_npn, bin_npx, bin_npnx, ap_mm, mmV_max, mmV_min, res3, ↓st_callf]
theorem q_BLast_nil (cl : Bool) {s : St}  : acall R_BLast cl [.nilp] s = some (.int .i64 0, s) := run_same n_BLast (by simp [a21]) rfl (w_BLast_nil (s := lowd s) )
theorem w_BFirst_nil {s : St}  : ∀ env : Env, elen env = a20.ntmps → (∀ i x_, [.nilp][i]? = some x_ → E env i = x_) → awp (tb []) a20.body (fun x e t => (∀ i, x ≠ .exit i) ∧ aresults e t a20.results = some (.int .i64 0) ∧ Keep s t) env s := by
  intro env hlen ha
  have h0 : E env 0 = _ := ha 0 _ rfl
  have hlen : elen env = _ := hlen
  simp only [a20] at hlen
  unfold a20
  simp (config := {contextual := true, maxDischargeDepth := 12}) only [tb_at, h0, hlen, ↓bD0, ↓bD1, ↓bD2, ↓bD3, ↓bD4, ↓bD5, ↓bD6, bU0, bU1, bU2, bU3, bU4, bU5, bU6, bU7, bU8, bU9, bU10, bU11, bU12, bU13, forall_const, List.all_cons, List.all_nil, Option.map_some, List.map_cons, List.map_nil, ne_eq, implies_true, isNx, cs_dec, cs_not, cs_and, cs_or, cs_valid, eq_self, ↓wp_cond, ↓wp_loop, ↓reduceIte, reduceCtorEq, Nat.reduceEqDiff, Nat.reduceLT, Nat.reduceAdd, Nat.reduceMul, Int.ofNat_lt, Int.ofNat_le, exists_const, ae_app, ap_slc, Option.map_none, mkR_none, mkR_some, ar_look, ae_mset, ae_rng, ae_mkmap0, ar_ent, lookV_push, lookV_lowed, msetV_push, msetV_lowed, lt_put, same_put, sto_over, sto_lowed, cs_dead, Option.map_some, beq_self_eq_true, decide_true, cs_true, cs_false, aa_bsl, ↓sg_bsl, ap_nchk, nchkV_ptr, bin_np, bin_npn, bin_npx, bin_npnx, ap_mm, mmV_max, mmV_min, res3, ↓st_callf]
theorem q_BFirst_nil (cl : Bool) {s : St}  : acall R_BFirst cl [.nilp] s = some (.int .i64 0, s) := run_same n_BFirst (by simp [a20]) rfl (w_BFirst_nil (s := lowd s) )
theorem w_BLen_nil {s : St}  : ∀ env : Env, elen env = a19.ntmps → (∀ i x_, [.nilp][i]? = some x_ → E env i = x_) → awp (tb []) a19.body (fun x e t => (∀ i, x ≠ .exit i) ∧ aresults e t a19.results = some (.int .i64 0) ∧ Keep s t) env s := by
  intro env hlen ha
  have h0 : E env 0 = _ := ha 0 _ rfl
  have hlen : elen env = _ := hlen
  simp only [a19] at hlen
  unfold a19
  simp (config := {contextual := true, maxDischargeDepth := 12}) only [tb_at, h0, hlen, ↓bD0, ↓bD1, ↓bD2, ↓bD3, ↓bD4, ↓bD5, ↓bD6, bU0, bU1, bU2, bU3, bU4, bU5, bU6, bU7, bU8, bU9, bU10, bU11, bU12, bU13, forall_const, List.all_cons, List.all_nil, Option.map_some, List.map_cons, List.map_nil, ne_eq, implies_true, isNx, cs_dec, cs_not, cs_and, cs_or, cs_valid, eq_self, ↓wp_cond, ↓wp_loop, ↓reduceIte, reduceCtorEq, Nat.reduceEqDiff, Nat.reduceLT, Nat.reduceAdd, Nat.reduceMul, Int.ofNat_lt, Int.ofNat_le, exists_const, ae_app, ap_slc, Option.map_none, mkR_none, mkR_some, ar_look, ae_mset, ae_rng, ae_mkmap0, ar_ent, lookV_push, lookV_lowed, msetV_push, msetV_lowed, lt_put, same_put, sto_over, sto_lowed, cs_dead, Option.map_some, beq_self_eq_true, decide_true, cs_true, cs_false, aa_bsl, ↓sg_bsl, ap_nchk, nchkV_ptr, bin_np, bin_npn, bin_npx, bin_npnx, ap_mm, mmV_max, mmV_min, res3, ↓st_callf]
theorem q_BLen_nil (cl : Bool) {s : St}  : acall R_BLen cl [.nilp] s = some (.int .i64 0, s) := run_same n_BLen (by simp [a19]) rfl (w_BLen_nil (s := lowd s) )

def betP (g : Nat) (ls : List (List Nd)) (f l : Int) : List Nd × Int := if f < 1 ∨ l < f then ([], 2) else if f < ((g + 1 : Nat) : Int) ∨ ((g + ls.length : Nat) : Int) < l then ([], 9) else allP ((ls.drop (f - (g + 1 : Nat)).toNat).take ((l - (g : Nat)).toNat - (f - (g + 1 : Nat)).toNat))
noncomputable def R_Between : Con := runFn (tb [(20, R_BFirst), (21, R_BLast), (25, conF ndC pAll)]) a22
theorem s_Between : SoundAt Try.prog 22 R_Between := run_sound (tb_sound (l := [(20, R_BFirst), (21, R_BLast), (25, conF ndC pAll)]) (by simpa using ⟨s_BFirst, s_BLast, s_All⟩)) mixed Try.func22 k22 c22
theorem n_Between : noNxtC a22.body = true := by kernel_rfl
theorem w_Between {s : St} {id g : Nat} {dv : AV} {vs : List AV} {ls : List (List Nd)} (hb : BufR s id g dv vs ls) (hg : g + vs.length ≤ 1000000) (f l : Int) (hfl : ls.flatten.length ≤ 100000) (hll : ls.length ≤ 100000) : ∀ env : Env, elen env = a22.ntmps → (∀ i x_, [.ptr id 0, .int .i64 f, .int .i64 l][i]? = some x_ → E env i = x_) → awp (tb [(20, R_BFirst), (21, R_BLast), (25, conF ndC pAll)]) a22.body (fun x e t => (∀ i, x ≠ .exit i) ∧ Keep s t ∧ ∃ v, aresults e t a22.results = some (.tup [v, .int .i64 (betP g ls f l).2]) ∧ Own ndC s t v (betP g ls f l).1) env s := by
  intro env hlen ha
  have h0 : E env 0 = _ := ha 0 _ rfl
  have h1 : E env 1 = _ := ha 1 _ rfl
  have h2 : E env 2 = _ := ha 2 _ rfl
  have hlen : elen env = _ := hlen
  simp only [a22] at hlen
  unfold a22
  obtain ⟨l0, l1, lt0⟩ := row2_lod hb.1
  have qf := q_BFirst false hb hg
  have qf' := q_BFirst true hb hg
  have ql := q_BLast false hb hg
  have hn := hb.2.2.len
  by_cases c1 : f < 1 ∨ l < f
  · have hz : (decide (f < 1) || decide (l < f)) = true := by simpa using c1
    have hP : betP g ls f l = ([], 2) := by unfold betP; rw [if_pos c1]
    rw [hP]
    simp (config := {contextual := true, maxDischargeDepth := 12}) only [tb_at, h0, h1, h2, hlen, hz, ↓bD0, ↓bD1, ↓bD2, ↓bD3, ↓bD4, ↓bD5, ↓bD6, bU0, bU1, bU2, bU3, bU4, bU5, bU6, bU7, bU8, bU9, bU10, bU11, bU12, bU13, forall_const, List.all_cons, List.all_nil, Option.map_some, List.map_cons, List.map_nil, ne_eq, implies_true, isNx, cs_dec, cs_not, cs_and, cs_or, cs_valid, eq_self, ↓wp_cond, ↓wp_loop, ↓reduceIte, reduceCtorEq, Nat.reduceEqDiff, Nat.reduceLT, Nat.reduceAdd, Nat.reduceMul, Int.ofNat_lt, Int.ofNat_le, exists_const, ae_app, ap_slc, Option.map_none, mkR_none, mkR_some, ar_look, ae_mset, ae_rng, ae_mkmap0, ar_ent, lookV_push, lookV_lowed, msetV_push, msetV_lowed, lt_put, same_put, sto_over, sto_lowed, cs_dead, Option.map_some, beq_self_eq_true, decide_true, cs_true, cs_false, aa_bsl, ↓sg_bsl, ap_nchk, nchkV_ptr, bin_np, bin_npn, bin_npx, bin_npnx, ap_mm, mmV_max, mmV_min, res3, ↓st_callf]
    exact ⟨_, rfl, .nil _ _ _⟩
  have hz : (decide (f < 1) || decide (l < f)) = false := by simpa using c1
  by_cases c2 : f < ((g + 1 : Nat) : Int) ∨ ((g + vs.length : Nat) : Int) < l
  · have hz2 : (decide (f < ((g + 1 : Nat) : Int)) || decide (((g + vs.length : Nat) : Int) < l)) = true := by simpa using c2
    have hP : betP g ls f l = ([], 9) := by unfold betP; rw [if_neg c1, if_pos (by rw [← hn]; exact c2)]
    rw [hP]
    simp (config := {contextual := true, maxDischargeDepth := 12}) only [tb_at, h0, h1, h2, hlen, hz, qf, ql, hz2, ↓bD0, ↓bD1, ↓bD2, ↓bD3, ↓bD4, ↓bD5, ↓bD6, bU0, bU1, bU2, bU3, bU4, bU5, bU6, bU7, bU8, bU9, bU10, bU11, bU12, bU13, forall_const, List.all_cons, List.all_nil, Option.map_some, List.map_cons, List.map_nil, ne_eq, implies_true, isNx, cs_dec, cs_not, cs_and, cs_or, cs_valid, eq_self, ↓wp_cond, ↓wp_loop, ↓reduceIte, reduceCtorEq, Nat.reduceEqDiff, Nat.reduceLT, Nat.reduceAdd, Nat.reduceMul, Int.ofNat_lt, Int.ofNat_le, exists_const, ae_app, ap_slc, Option.map_none, mkR_none, mkR_some, ar_look, ae_mset, ae_rng, ae_mkmap0, ar_ent, lookV_push, lookV_lowed, msetV_push, msetV_lowed, lt_put, same_put, sto_over, sto_lowed, cs_dead, Option.map_some, beq_self_eq_true, decide_true, cs_true, cs_false, aa_bsl, ↓sg_bsl, ap_nchk, nchkV_ptr, bin_np, bin_npn, bin_npx, bin_npnx, ap_mm, mmV_max, mmV_min, res3, ↓st_callf]
    exact ⟨_, rfl, .nil _ _ _⟩
  have hz2 : (decide (f < ((g + 1 : Nat) : Int)) || decide (((g + vs.length : Nat) : Int) < l)) = false := by simpa using c2
  have hP : betP g ls f l = allP ((ls.drop (f - (g + 1 : Nat)).toNat).take ((l - (g : Nat)).toNat - (f - (g + 1 : Nat)).toNat)) := by unfold betP; rw [if_neg c1, if_neg (by rw [← hn]; exact c2)]
  rw [hP]
  obtain ⟨a, ha'⟩ : ∃ a : Nat, (a : Int) = f - (g + 1 : Nat) := ⟨(f - (g + 1 : Nat)).toNat, by omega⟩
  obtain ⟨b, hb'⟩ : ∃ b : Nat, (b : Int) = l - (g : Nat) := ⟨(l - (g : Nat)).toNat, by omega⟩
  rw [← ha', ← hb', Int.toNat_natCast, Int.toNat_natCast]
  have w1 : IntKind.i64.wrap (f - (g + 1 : Nat)) = (a : Int) := by rw [← ha']; exact wrap_nat (by omega)
  have w2 : IntKind.i64.wrap (l - (g : Nat)) = (b : Int) := by rw [← hb']; exact wrap_nat (by omega)
  obtain ⟨v', hs1, hs2⟩ := out_slc (a := a) (b := b) hb.2.1 (by omega) (by omega)
  have hrd := shown_rd hs2 ((hb.2.2.drop a).take (b - a))
  have hfl' : ((ls.drop a).take (b - a)).flatten.length ≤ 100000 := by
    have h1 := flat_take (ls.drop a) (b - a)
    have h2 : (ls.drop a).flatten.length ≤ ls.flatten.length := by
      conv => rhs; rw [← List.take_append_drop a ls, List.flatten_append, List.length_append]
      omega
    omega
  have hll' : ((ls.drop a).take (b - a)).length ≤ 100000 := by
    rw [List.length_take, List.length_drop]
    omega
  obtain ⟨x, t, hc, hK, hO⟩ := acall_fresh (D := ndC) (p := pAll) (xs := [v']) (s := s) (l := (allP ((ls.drop a).take (b - a))).1) (e := some (.int .i64 (allP ((ls.drop a).take (b - a))).2)) (by simp only [pAll, rdLL_low, hrd, hfl', hll', and_self, if_true]) (fun x hx => by injection hx with hx; subst hx; rfl)
  rw [mkR_some] at hc
  simp (config := {contextual := true, maxDischargeDepth := 12}) only [tb_at, h0, h1, h2, hlen, hz, qf, ql, qf', hz2, l0, l1, w1, w2, hs1, hc, ↓bD0, ↓bD1, ↓bD2, ↓bD3, ↓bD4, ↓bD5, ↓bD6, bU0, bU1, bU2, bU3, bU4, bU5, bU6, bU7, bU8, bU9, bU10, bU11, bU12, bU13, forall_const, List.all_cons, List.all_nil, Option.map_some, List.map_cons, List.map_nil, ne_eq, implies_true, isNx, cs_dec, cs_not, cs_and, cs_or, cs_valid, eq_self, ↓wp_cond, ↓wp_loop, ↓reduceIte, reduceCtorEq, Nat.reduceEqDiff, Nat.reduceLT, Nat.reduceAdd, Nat.reduceMul, Int.ofNat_lt, Int.ofNat_le, exists_const, ae_app, ap_slc, Option.map_none, mkR_none, mkR_some, ar_look, ae_mset, ae_rng, ae_mkmap0, ar_ent, lookV_push, lookV_lowed, msetV_push, msetV_lowed, lt_put, same_put, sto_over, sto_lowed, cs_dead, Option.map_some, beq_self_eq_true, decide_true, cs_true, cs_false, aa_bsl, ↓sg_bsl, ap_nchk, nchkV_ptr, bin_np, bin_npn, bin_npx, bin_npnx, ap_mm, mmV_max, mmV_min, res3, ↓st_callf]
  exact ⟨hK, _, rfl, hO⟩
theorem q_Between {s : St} {id g : Nat} {dv : AV} {vs : List AV} {ls : List (List Nd)} (hb : BufR s id g dv vs ls) (hg : g + vs.length ≤ 1000000) (f l : Int) (hfl : ls.flatten.length ≤ 100000) (hll : ls.length ≤ 100000) : ∃ v t, acall R_Between false [.ptr id 0, .int .i64 f, .int .i64 l] s = some (.tup [v, .int .i64 (betP g ls f l).2], t) ∧ Own ndC s t v ((betP g ls f l).1) ∧ Keep s t := run_fresh n_Between (by simp [a22]) (fun v => .tup [v, .int .i64 (betP g ls f l).2]) (fun _ _ _ _ _ => rfl) (w_Between (s := lowd s) hb.low hg f l hfl hll)

def frP (g : Nat) (ls : List (List Nd)) (n : Int) : List Nd × Int × Int := if n < 1 then ([], 0, 2) else if ((g + ls.length : Nat) : Int) < n then ([], 0, 9) else
  if (betP g ls n ((g + ls.length : Nat) : Int)).2 = 0 then ((betP g ls n ((g + ls.length : Nat) : Int)).1, ((g + ls.length : Nat) : Int), 0) else ([], 0, (betP g ls n ((g + ls.length : Nat) : Int)).2)
noncomputable def R_From : Con := runFn (tb [(21, R_BLast), (22, R_Between)]) a34
theorem s_From : SoundAt Try.prog 34 R_From := run_sound (tb_sound (l := [(21, R_BLast), (22, R_Between)]) (by simpa using ⟨s_BLast, s_Between⟩)) mixed Try.func34 k34 c34
theorem n_From : noNxtC a34.body = true := by kernel_rfl
theorem w_From {s : St} {id g : Nat} {dv : AV} {vs : List AV} {ls : List (List Nd)} (hb : BufR s id g dv vs ls) (hg : g + vs.length ≤ 1000000) (n : Int) (hfl : ls.flatten.length ≤ 100000) (hll : ls.length ≤ 100000) : ∀ env : Env, elen env = a34.ntmps → (∀ i x_, [.ptr id 0, .int .i64 n][i]? = some x_ → E env i = x_) → awp (tb [(21, R_BLast), (22, R_Between)]) a34.body (fun x e t => (∀ i, x ≠ .exit i) ∧ Keep s t ∧ ∃ v, aresults e t a34.results = some (.tup [v, .int .i64 (frP g ls n).2.1, .int .i64 (frP g ls n).2.2]) ∧ Own ndC s t v (frP g ls n).1) env s := by
  intro env hlen ha
  have h0 : E env 0 = _ := ha 0 _ rfl
  have h1 : E env 1 = _ := ha 1 _ rfl
  have hlen : elen env = _ := hlen
  simp only [a34] at hlen
  unfold a34
  have ql := q_BLast false hb hg
  have hn := hb.2.2.len
  by_cases c1 : n < 1
  · have hz : (n < 1) = True := eq_true c1
    have hP : frP g ls n = ([], 0, 2) := by unfold frP; rw [if_pos c1]
    rw [hP]
    simp (config := {contextual := true, maxDischargeDepth := 12}) only [tb_at, h0, h1, hlen, hz, ↓bD0, ↓bD1, ↓bD2, ↓bD3, ↓bD4, ↓bD5, ↓bD6, bU0, bU1, bU2, bU3, bU4, bU5, bU6, bU7, bU8, bU9, bU10, bU11, bU12, bU13, forall_const, List.all_cons, List.all_nil, Option.map_some, List.map_cons, List.map_nil, ne_eq, implies_true, isNx, cs_dec, cs_not, cs_and, cs_or, cs_valid, eq_self, ↓wp_cond, ↓wp_loop, ↓reduceIte, reduceCtorEq, Nat.reduceEqDiff, Nat.reduceLT, Nat.reduceAdd, Nat.reduceMul, Int.ofNat_lt, Int.ofNat_le, exists_const, ae_app, ap_slc, Option.map_none, mkR_none, mkR_some, ar_look, ae_mset, ae_rng, ae_mkmap0, ar_ent, lookV_push, lookV_lowed, msetV_push, msetV_lowed, lt_put, same_put, sto_over, sto_lowed, cs_dead, Option.map_some, beq_self_eq_true, decide_true, cs_true, cs_false, aa_bsl, ↓sg_bsl, ap_nchk, nchkV_ptr, bin_np, bin_npn, bin_npx, bin_npnx, ap_mm, mmV_max, mmV_min, res3, ↓st_callf]
    exact ⟨_, rfl, .nil _ _ _⟩
  have hz : (n < 1) = False := eq_false c1
  by_cases c2 : ((g + vs.length : Nat) : Int) < n
  · have hz2 := eq_true c2
    have hP : frP g ls n = ([], 0, 9) := by unfold frP; rw [if_neg c1, if_pos (by rw [← hn]; exact c2)]
    rw [hP]
    simp (config := {contextual := true, maxDischargeDepth := 12}) only [tb_at, h0, h1, hlen, hz, ql, hz2, ↓bD0, ↓bD1, ↓bD2, ↓bD3, ↓bD4, ↓bD5, ↓bD6, bU0, bU1, bU2, bU3, bU4, bU5, bU6, bU7, bU8, bU9, bU10, bU11, bU12, bU13, forall_const, List.all_cons, List.all_nil, Option.map_some, List.map_cons, List.map_nil, ne_eq, implies_true, isNx, cs_dec, cs_not, cs_and, cs_or, cs_valid, eq_self, ↓wp_cond, ↓wp_loop, ↓reduceIte, reduceCtorEq, Nat.reduceEqDiff, Nat.reduceLT, Nat.reduceAdd, Nat.reduceMul, Int.ofNat_lt, Int.ofNat_le, exists_const, ae_app, ap_slc, Option.map_none, mkR_none, mkR_some, ar_look, ae_mset, ae_rng, ae_mkmap0, ar_ent, lookV_push, lookV_lowed, msetV_push, msetV_lowed, lt_put, same_put, sto_over, sto_lowed, cs_dead, Option.map_some, beq_self_eq_true, decide_true, cs_true, cs_false, aa_bsl, ↓sg_bsl, ap_nchk, nchkV_ptr, bin_np, bin_npn, bin_npx, bin_npnx, ap_mm, mmV_max, mmV_min, res3, ↓st_callf]
    exact ⟨_, rfl, .nil _ _ _⟩
  have hz2 := eq_false c2
  obtain ⟨v, t, hc, hO, hK⟩ := q_Between hb hg n ((g + vs.length : Nat) : Int) hfl hll
  have ql2 := q_BLast false (hb.keep0 hK) hg
  by_cases c3 : (betP g ls n ((g + vs.length : Nat) : Int)).2 = 0
  · have hz3 : ((betP g ls n ((g + vs.length : Nat) : Int)).2 = 0) = True := eq_true c3
    have hP : frP g ls n = ((betP g ls n ((g + vs.length : Nat) : Int)).1, ((g + vs.length : Nat) : Int), 0) := by unfold frP; rw [if_neg c1, ← hn, if_neg c2, if_pos c3]
    rw [hP]
    simp (config := {contextual := true, maxDischargeDepth := 12}) only [tb_at, h0, h1, hlen, hz, ql, hz2, hc, ql2, hz3, ↓bD0, ↓bD1, ↓bD2, ↓bD3, ↓bD4, ↓bD5, ↓bD6, bU0, bU1, bU2, bU3, bU4, bU5, bU6, bU7, bU8, bU9, bU10, bU11, bU12, bU13, forall_const, List.all_cons, List.all_nil, Option.map_some, List.map_cons, List.map_nil, ne_eq, implies_true, isNx, cs_dec, cs_not, cs_and, cs_or, cs_valid, eq_self, ↓wp_cond, ↓wp_loop, ↓reduceIte, reduceCtorEq, Nat.reduceEqDiff, Nat.reduceLT, Nat.reduceAdd, Nat.reduceMul, Int.ofNat_lt, Int.ofNat_le, exists_const, ae_app, ap_slc, Option.map_none, mkR_none, mkR_some, ar_look, ae_mset, ae_rng, ae_mkmap0, ar_ent, lookV_push, lookV_lowed, msetV_push, msetV_lowed, lt_put, same_put, sto_over, sto_lowed, cs_dead, Option.map_some, beq_self_eq_true, decide_true, cs_true, cs_false, aa_bsl, ↓sg_bsl, ap_nchk, nchkV_ptr, bin_np, bin_npn, bin_npx, bin_npnx, ap_mm, mmV_max, mmV_min, res3, ↓st_callf]
    exact ⟨hK, _, rfl, hO⟩
  · have hz3 : ((betP g ls n ((g + vs.length : Nat) : Int)).2 = 0) = False := eq_false c3
    have hP : frP g ls n = ([], 0, (betP g ls n ((g + vs.length : Nat) : Int)).2) := by unfold frP; rw [if_neg c1, ← hn, if_neg c2, if_neg c3]
    rw [hP]
    simp (config := {contextual := true, maxDischargeDepth := 12}) only [tb_at, h0, h1, hlen, hz, ql, hz2, hc, ql2, hz3, ↓bD0, ↓bD1, ↓bD2, ↓bD3, ↓bD4, ↓bD5, ↓bD6, bU0, bU1, bU2, bU3, bU4, bU5, bU6, bU7, bU8, bU9, bU10, bU11, bU12, bU13, forall_const, List.all_cons, List.all_nil, Option.map_some, List.map_cons, List.map_nil, ne_eq, implies_true, isNx, cs_dec, cs_not, cs_and, cs_or, cs_valid, eq_self, ↓wp_cond, ↓wp_loop, ↓reduceIte, reduceCtorEq, Nat.reduceEqDiff, Nat.reduceLT, Nat.reduceAdd, Nat.reduceMul, Int.ofNat_lt, Int.ofNat_le, exists_const, ae_app, ap_slc, Option.map_none, mkR_none, mkR_some, ar_look, ae_mset, ae_rng, ae_mkmap0, ar_ent, lookV_push, lookV_lowed, msetV_push, msetV_lowed, lt_put, same_put, sto_over, sto_lowed, cs_dead, Option.map_some, beq_self_eq_true, decide_true, cs_true, cs_false, aa_bsl, ↓sg_bsl, ap_nchk, nchkV_ptr, bin_np, bin_npn, bin_npx, bin_npnx, ap_mm, mmV_max, mmV_min, res3, ↓st_callf]
    exact ⟨hK, _, rfl, .nil _ _ _⟩
theorem q_From {s : St} {id g : Nat} {dv : AV} {vs : List AV} {ls : List (List Nd)} (hb : BufR s id g dv vs ls) (hg : g + vs.length ≤ 1000000) (n : Int) (hfl : ls.flatten.length ≤ 100000) (hll : ls.length ≤ 100000) : ∃ v t, acall R_From false [.ptr id 0, .int .i64 n] s = some (.tup [v, .int .i64 (frP g ls n).2.1, .int .i64 (frP g ls n).2.2], t) ∧ Own ndC s t v ((frP g ls n).1) ∧ Keep s t := run_fresh n_From (by simp [a34]) (fun v => .tup [v, .int .i64 (frP g ls n).2.1, .int .i64 (frP g ls n).2.2]) (fun _ _ _ _ _ => rfl) (w_From (s := lowd s) hb.low hg n hfl hll)

theorem clone_call {v : AV} {l : List Nd} (h : read ndC s v = some l) (hl : l.length ≤ lim) : ∃ v' t, acall cloneC false [v] s = some (v', t) ∧ NdR t v' l ∧ Keep s t := by
  cases v with
  | nils =>
    rw [read_nils] at h
    injection h with h
    subst h
    exact ⟨.nils, s, acall_same (t := (lowd s).lowed) rfl (keep_lowed _) rfl, .inl ⟨rfl, rfl⟩, .refl s⟩
  | sl id off n cap z =>
    have hr : read ndC (lowd s) (.sl id off n cap z) = some l := read_low' h
    have key : ∀ m cap', (l.isEmpty = true ∧ m = 0 ∧ cap' = some 0 ∨ l.isEmpty = false ∧ m = l.length ∧ cap' = none) → cloneC [.sl id off n cap z] (lowd s) = some (.sl s.next 0 m cap' 6, (lowd s).lowed.push (.row (ndC.cells l) true)) := by
      intro m cap' hm
      simp only [cloneC, hr, hl, if_true]
      rcases hm with ⟨h1, rfl, rfl⟩ | ⟨h1, rfl, rfl⟩
      · have : l = [] := by simpa using h1
        subst this
        rfl
      · rw [h1]
        rfl
    have fin : ∀ m cap', m = l.length → cloneC [.sl id off n cap z] (lowd s) = some (.sl s.next 0 m cap' 6, (lowd s).lowed.push (.row (ndC.cells l) true)) → ∃ v' t, acall cloneC false [.sl id off n cap z] s = some (v', t) ∧ NdR t v' l ∧ Keep s t := by
      rintro m cap' rfl hc
      obtain ⟨t', g1, g2, g3, g4⟩ := acall_new (M := []) hc (((keep_lowed _).push _).chg []) (.inl rfl)
      have hg : t'.get s.next = some (.row (ndC.cells l) true) := by rw [g2]; exact St.get_push_new (lowd s).lowed _
      refine ⟨_, t', g1, .inr ⟨s.next, 0, l.length, cap', l, true, rfl, hg, ?_⟩, g4.keep⟩
      exact read_of rfl hg (by rw [cells_len]; omega) (by rw [List.drop_zero, ← cells_len, List.take_length])
    cases he : l.isEmpty
    · exact fin _ _ rfl (key _ _ (.inr ⟨he, rfl, rfl⟩))
    · have : l = [] := by simpa using he
      subst this
      exact fin 0 _ rfl (key _ _ (.inl ⟨he, rfl, rfl⟩))
  | _ => simp [read] at h
theorem cloneF_call {v : AV} {l : List Nd} (h : read ndC s v = some l) (hl : l.length ≤ lim) : ∃ v' t, acallF cloneC [v] s = some (v', t) ∧ NdR t v' l ∧ Keep s t := by
  obtain ⟨v', t, h1, h2, h3⟩ := clone_call (read_low' h) hl
  obtain ⟨t', g1, g2, g3, g4⟩ := acallF_keep h1 h3
  exact ⟨v', t', g1, h2.mono fun id b hb => by rw [g2]; exact hb, g4⟩

theorem BufR.mono (hc : ∀ id b, t.get id = some b → u.get id = some b) {id g : Nat} {dv : AV} {vs : List AV} {ls : List (List Nd)} (h : BufR t id g dv vs ls) : BufR u id g dv vs ls := ⟨hc _ _ h.1, h.2.1.mono hc, h.2.2.mono hc⟩
/-- What Put says: an error, or none. -/
def putP (ls : List (List Nd)) (d : List Nd) : Option Int := if storeL d = false then some 2 else if ∃ x ∈ ls, (agreeP x d).1 = false then some 15 else if ls.length = 1000 then some 7 else none
theorem agreeP_two (x d : List Nd) : (agreeP x d).2 ≠ 0 → (agreeP x d).1 = false := by
  unfold agreeP
  repeat' split
  all_goals simp
theorem putP_clash {ls : List (List Nd)} {d x : List Nd} {i : Nat} (hs : storeL d = true) (hx : ls[i]? = some x) (h : (agreeP x d).1 = false) : putP ls d = some 15 := by
  unfold putP
  rw [if_neg (by simp [hs]), if_pos ⟨x, List.mem_of_getElem? hx, h⟩]
theorem putP_rest {ls : List (List Nd)} {d : List Nd} (hs : storeL d = true) (h : ∀ (k : Nat) y, ls[k]? = some y → (agreeP y d).1 = true) : putP ls d = if ls.length = 1000 then some 7 else none := by
  unfold putP
  rw [if_neg (by simp [hs]), if_neg]
  rintro ⟨x, hx, hh⟩
  obtain ⟨k, hk⟩ := List.getElem?_of_mem hx
  rw [h k x hk] at hh
  cases hh
def InnerOk (ls : List (List Nd)) : Prop := ∀ x ∈ ls, x.length ≤ 100000
noncomputable def R_BPut : Con := runFn (tb [(35, conL ndC fValid), (36, conLLs agreeV), (37, cloneC), (21, R_BLast)]) a18
theorem s_BPut : SoundAt Try.prog 18 R_BPut := run_sound (tb_sound (l := [(35, conL ndC fValid), (36, conLLs agreeV), (37, cloneC), (21, R_BLast)]) (by simpa using ⟨s_JValid, s_Agree, s_jcopy, s_BLast⟩)) mixed Try.func18 k18 c18
theorem n_BPut : noNxtC a18.body = true := by kernel_rfl
theorem w_BPut_err {s : St} {id g : Nat} {dv : AV} {vs : List AV} {ls : List (List Nd)} (hb : BufR s id g dv vs ls) (hg : g + vs.length ≤ 1000000) {v : AV} {d : List Nd} (hr : read ndC s v = some d) (hd : d.length ≤ 100000) (hin : InnerOk ls) {er : Int} (he' : putP ls d = some er) : ∀ env : Env, elen env = a18.ntmps → (∀ i x_, [.ptr id 0, v][i]? = some x_ → E env i = x_) → awp (tb [(35, conL ndC fValid), (36, conLLs agreeV), (37, cloneC), (21, R_BLast)]) a18.body (fun x e t => (∀ i, x ≠ .exit i) ∧ aresults e t a18.results = some (.tup [.int .i64 0, .int .i64 er]) ∧ Keep s t) env s := by
  intro env hlen ha
  have h0 : E env 0 = _ := ha 0 _ rfl
  have h1 : E env 1 = _ := ha 1 _ rfl
  have hlen : elen env = _ := hlen
  simp only [a18] at hlen
  unfold a18
  obtain ⟨l0, l1, lt0⟩ := row2_lod hb.1
  have lL := hb.2.1.lenV
  have hn := hb.2.2.len
  have hrd := out_rdLL hb.2.1 hb.2.2
  have qv := q_StValid false hr (by unfold lim; omega)
  cases hs : storeL d
  · rw [hs] at qv
    have hP : putP ls d = some 2 := by unfold putP; rw [if_pos hs]
    rw [hP] at he'
    injection he' with he'
    subst he'
    simp (config := {contextual := true, maxDischargeDepth := 12}) only [tb_at, h0, h1, hlen, qv, ↓bD0, ↓bD1, ↓bD2, ↓bD3, ↓bD4, ↓bD5, ↓bD6, bU0, bU1, bU2, bU3, bU4, bU5, bU6, bU7, bU8, bU9, bU10, bU11, bU12, bU13, forall_const, List.all_cons, List.all_nil, Option.map_some, List.map_cons, List.map_nil, ne_eq, implies_true, isNx, cs_dec, cs_not, cs_and, cs_or, cs_valid, eq_self, ↓wp_cond, ↓wp_loop, ↓reduceIte, reduceCtorEq, Nat.reduceEqDiff, Nat.reduceLT, Nat.reduceAdd, Nat.reduceMul, Int.ofNat_lt, Int.ofNat_le, exists_const, ae_app, ap_slc, Option.map_none, mkR_none, mkR_some, ar_look, ae_mset, ae_rng, ae_mkmap0, ar_ent, lookV_push, lookV_lowed, msetV_push, msetV_lowed, lt_put, same_put, sto_over, sto_lowed, cs_dead, Option.map_some, beq_self_eq_true, decide_true, cs_true, cs_false, aa_bsl, ↓sg_bsl, ap_nchk, nchkV_ptr, bin_np, bin_npn, bin_npx, bin_npnx, ap_mm, mmV_max, mmV_min, res3, ↓st_callf]
  rw [hs] at qv
  simp (config := {contextual := true, maxDischargeDepth := 12}) only [tb_at, h0, h1, hlen, qv, l1, lL, ↓bD0, ↓bD1, ↓bD2, ↓bD3, ↓bD4, ↓bD5, ↓bD6, bU0, bU1, bU2, bU3, bU4, bU5, bU6, bU7, bU8, bU9, bU10, bU11, bU12, bU13, forall_const, List.all_cons, List.all_nil, Option.map_some, List.map_cons, List.map_nil, ne_eq, implies_true, isNx, cs_dec, cs_not, cs_and, cs_or, cs_valid, eq_self, ↓wp_cond, ↓wp_loop, ↓reduceIte, reduceCtorEq, Nat.reduceEqDiff, Nat.reduceLT, Nat.reduceAdd, Nat.reduceMul, Int.ofNat_lt, Int.ofNat_le, exists_const, ae_app, ap_slc, Option.map_none, mkR_none, mkR_some, ar_look, ae_mset, ae_rng, ae_mkmap0, ar_ent, lookV_push, lookV_lowed, msetV_push, msetV_lowed, lt_put, same_put, sto_over, sto_lowed, cs_dead, Option.map_some, beq_self_eq_true, decide_true, cs_true, cs_false, aa_bsl, ↓sg_bsl, ap_nchk, nchkV_ptr, bin_np, bin_npn, bin_npx, bin_npnx, ap_mm, mmV_max, mmV_min, res3, ↓st_callf]
  obtain ⟨I, hI⟩ : ∃ I : Nat → Env → St → Prop, ∀ n e t, I n e t = (t = s ∧ ∃ i : Nat, n + i = ls.length ∧ elen e = 56 ∧ E e 0 = .ptr id 0 ∧ E e 1 = v ∧ E e 18 = dv ∧ E e 19 = .int .i64 (vs.length : Int) ∧ E e 20 = .int .i64 (i : Int) ∧ ∀ k y, k < i → ls[k]? = some y → (agreeP y d).1 = true) := ⟨fun n e t => (t = s ∧ ∃ i : Nat, n + i = ls.length ∧ elen e = 56 ∧ E e 0 = .ptr id 0 ∧ E e 1 = v ∧ E e 18 = dv ∧ E e 19 = .int .i64 (vs.length : Int) ∧ E e 20 = .int .i64 (i : Int) ∧ ∀ k y, k < i → ls[k]? = some y → (agreeP y d).1 = true), fun _ _ _ => rfl⟩
  refine lwp_inv I (n := ls.length) ?_ ?_
  · rw [hI]
    exact ⟨rfl, 0, by omega, by simp only [E_pne, E_psame, elen_put, Nat.reduceEqDiff, ne_eq, not_false_eq_true, Nat.reduceLT, hlen], by simp only [E_pne, E_psame, elen_put, Nat.reduceEqDiff, ne_eq, not_false_eq_true, Nat.reduceLT, h0], by simp only [E_pne, E_psame, elen_put, Nat.reduceEqDiff, ne_eq, not_false_eq_true, Nat.reduceLT, h1], by simp only [E_pne, E_psame, elen_put, Nat.reduceEqDiff, ne_eq, not_false_eq_true, Nat.reduceLT, hlen], by simp only [E_pne, E_psame, elen_put, Nat.reduceEqDiff, ne_eq, not_false_eq_true, Nat.reduceLT, hlen], by simp only [E_pne, E_psame, elen_put, Nat.reduceEqDiff, ne_eq, not_false_eq_true, Nat.reduceLT, hlen]; rfl, fun k y hk => by omega⟩
  intro n e t hi
  rw [hI] at hi
  obtain ⟨rfl, i, hni, he, e0, e1, e18, e19, e20, hpre⟩ := hi
  by_cases hlt : i < ls.length
  · have hw2 := wrap_add1 (n := i) (by omega)
    obtain ⟨x, hx⟩ := getsome hlt
    obtain ⟨w, i1, hxx, hrw⟩ := rdLL_at hrd hx
    obtain ⟨a1, al⟩ := hxx t (.refl t)
    have hlt2 : ((i : Int) < (vs.length : Int)) = True := eq_true (by omega)
    have qa := q_Agree false hrw hr (hin x (List.mem_of_getElem? hx)) hd
    rw [agreeV_P] at qa
    by_cases hag : (agreeP x d).1 = true
    · have hz2 : (agreeP x d).2 = 0 := by
        by_cases h0 : (agreeP x d).2 = 0
        · exact h0
        · rw [agreeP_two x d h0] at hag; cases hag
      rw [hag, hz2] at qa
      simp (config := {contextual := true, maxDischargeDepth := 12}) only [tb_at, he, e0, e1, e18, e19, e20, hlt2, i1, a1, al, qa, hw2, ↓bD0, ↓bD1, ↓bD2, ↓bD3, ↓bD4, ↓bD5, ↓bD6, bU0, bU1, bU2, bU3, bU4, bU5, bU6, bU7, bU8, bU9, bU10, bU11, bU12, bU13, forall_const, List.all_cons, List.all_nil, Option.map_some, List.map_cons, List.map_nil, ne_eq, implies_true, isNx, cs_dec, cs_not, cs_and, cs_or, cs_valid, eq_self, ↓wp_cond, ↓wp_loop, ↓reduceIte, reduceCtorEq, Nat.reduceEqDiff, Nat.reduceLT, Nat.reduceAdd, Nat.reduceMul, Int.ofNat_lt, Int.ofNat_le, exists_const, ae_app, ap_slc, Option.map_none, mkR_none, mkR_some, ar_look, ae_mset, ae_rng, ae_mkmap0, ar_ent, lookV_push, lookV_lowed, msetV_push, msetV_lowed, lt_put, same_put, sto_over, sto_lowed, cs_dead, Option.map_some, beq_self_eq_true, decide_true, cs_true, cs_false, aa_bsl, ↓sg_bsl, ap_nchk, nchkV_ptr, bin_np, bin_npn, bin_npx, bin_npnx, ap_mm, mmV_max, mmV_min, res3, ↓st_callf]
      refine ⟨n - 1, by omega, ?_⟩
      rw [hI]
      refine ⟨rfl, i + 1, by omega, by simp only [E_pne, E_psame, elen_put, Nat.reduceEqDiff, ne_eq, not_false_eq_true, Nat.reduceLT, he], by simp only [E_pne, E_psame, elen_put, Nat.reduceEqDiff, ne_eq, not_false_eq_true, Nat.reduceLT, e0], by simp only [E_pne, E_psame, elen_put, Nat.reduceEqDiff, ne_eq, not_false_eq_true, Nat.reduceLT, e1], by simp only [E_pne, E_psame, elen_put, Nat.reduceEqDiff, ne_eq, not_false_eq_true, Nat.reduceLT, e18], by simp only [E_pne, E_psame, elen_put, Nat.reduceEqDiff, ne_eq, not_false_eq_true, Nat.reduceLT, e19], by simp only [E_pne, E_psame, elen_put, Nat.reduceEqDiff, ne_eq, not_false_eq_true, Nat.reduceLT, he], ?_⟩
      intro k y hk hy
      by_cases e' : k = i
      · subst e'
        rw [hx] at hy
        cases hy
        exact hag
      · exact hpre k y (by omega) hy
    · have hag : (agreeP x d).1 = false := by simpa using hag
      rw [hag] at qa
      rw [putP_clash hs hx hag] at he'
      injection he' with he'
      subst he'
      by_cases hz2 : (agreeP x d).2 = 0
      · have hz3 := eq_true hz2
        simp (config := {contextual := true, maxDischargeDepth := 12}) only [tb_at, he, e0, e1, e18, e19, e20, hlt2, i1, a1, al, qa, hw2, hz3, ↓bD0, ↓bD1, ↓bD2, ↓bD3, ↓bD4, ↓bD5, ↓bD6, bU0, bU1, bU2, bU3, bU4, bU5, bU6, bU7, bU8, bU9, bU10, bU11, bU12, bU13, forall_const, List.all_cons, List.all_nil, Option.map_some, List.map_cons, List.map_nil, ne_eq, implies_true, isNx, cs_dec, cs_not, cs_and, cs_or, cs_valid, eq_self, ↓wp_cond, ↓wp_loop, ↓reduceIte, reduceCtorEq, Nat.reduceEqDiff, Nat.reduceLT, Nat.reduceAdd, Nat.reduceMul, Int.ofNat_lt, Int.ofNat_le, exists_const, ae_app, ap_slc, Option.map_none, mkR_none, mkR_some, ar_look, ae_mset, ae_rng, ae_mkmap0, ar_ent, lookV_push, lookV_lowed, msetV_push, msetV_lowed, lt_put, same_put, sto_over, sto_lowed, cs_dead, Option.map_some, beq_self_eq_true, decide_true, cs_true, cs_false, aa_bsl, ↓sg_bsl, ap_nchk, nchkV_ptr, bin_np, bin_npn, bin_npx, bin_npnx, ap_mm, mmV_max, mmV_min, res3, ↓st_callf]
      · have hz3 := eq_false hz2
        simp (config := {contextual := true, maxDischargeDepth := 12}) only [tb_at, he, e0, e1, e18, e19, e20, hlt2, i1, a1, al, qa, hw2, hz3, ↓bD0, ↓bD1, ↓bD2, ↓bD3, ↓bD4, ↓bD5, ↓bD6, bU0, bU1, bU2, bU3, bU4, bU5, bU6, bU7, bU8, bU9, bU10, bU11, bU12, bU13, forall_const, List.all_cons, List.all_nil, Option.map_some, List.map_cons, List.map_nil, ne_eq, implies_true, isNx, cs_dec, cs_not, cs_and, cs_or, cs_valid, eq_self, ↓wp_cond, ↓wp_loop, ↓reduceIte, reduceCtorEq, Nat.reduceEqDiff, Nat.reduceLT, Nat.reduceAdd, Nat.reduceMul, Int.ofNat_lt, Int.ofNat_le, exists_const, ae_app, ap_slc, Option.map_none, mkR_none, mkR_some, ar_look, ae_mset, ae_rng, ae_mkmap0, ar_ent, lookV_push, lookV_lowed, msetV_push, msetV_lowed, lt_put, same_put, sto_over, sto_lowed, cs_dead, Option.map_some, beq_self_eq_true, decide_true, cs_true, cs_false, aa_bsl, ↓sg_bsl, ap_nchk, nchkV_ptr, bin_np, bin_npn, bin_npx, bin_npnx, ap_mm, mmV_max, mmV_min, res3, ↓st_callf]
  · have hlt2 : ((i : Int) < (vs.length : Int)) = False := eq_false (by omega)
    have hall : ∀ (k : Nat) y, ls[k]? = some y → (agreeP y d).1 = true := fun k y hy => hpre k y (by have := getlt hy; omega) hy
    have hP := putP_rest hs hall
    by_cases h1000 : ls.length = 1000
    · have hz : ((vs.length : Int) = 1000) = True := eq_true (by omega)
      rw [hP, if_pos h1000] at he'
      injection he' with he'
      subst he'
      simp (config := {contextual := true, maxDischargeDepth := 12}) only [tb_at, he, e0, e1, e18, e19, e20, hlt2, l1, lL, hz, ↓bD0, ↓bD1, ↓bD2, ↓bD3, ↓bD4, ↓bD5, ↓bD6, bU0, bU1, bU2, bU3, bU4, bU5, bU6, bU7, bU8, bU9, bU10, bU11, bU12, bU13, forall_const, List.all_cons, List.all_nil, Option.map_some, List.map_cons, List.map_nil, ne_eq, implies_true, isNx, cs_dec, cs_not, cs_and, cs_or, cs_valid, eq_self, ↓wp_cond, ↓wp_loop, ↓reduceIte, reduceCtorEq, Nat.reduceEqDiff, Nat.reduceLT, Nat.reduceAdd, Nat.reduceMul, Int.ofNat_lt, Int.ofNat_le, exists_const, ae_app, ap_slc, Option.map_none, mkR_none, mkR_some, ar_look, ae_mset, ae_rng, ae_mkmap0, ar_ent, lookV_push, lookV_lowed, msetV_push, msetV_lowed, lt_put, same_put, sto_over, sto_lowed, cs_dead, Option.map_some, beq_self_eq_true, decide_true, cs_true, cs_false, aa_bsl, ↓sg_bsl, ap_nchk, nchkV_ptr, bin_np, bin_npn, bin_npx, bin_npnx, ap_mm, mmV_max, mmV_min, res3, ↓st_callf]
    · rw [hP, if_neg h1000] at he'
      cases he'
theorem q_BPut_err (cl : Bool) {s : St} {id g : Nat} {dv : AV} {vs : List AV} {ls : List (List Nd)} (hb : BufR s id g dv vs ls) (hg : g + vs.length ≤ 1000000) {v : AV} {d : List Nd} (hr : read ndC s v = some d) (hd : d.length ≤ 100000) (hin : InnerOk ls) {er : Int} (he' : putP ls d = some er) : acall R_BPut cl [.ptr id 0, v] s = some (.tup [.int .i64 0, .int .i64 er], s) := run_same n_BPut (by simp [a18]) rfl (w_BPut_err (s := lowd s) hb.low hg (read_low' hr) hd hin he')
theorem w_BPut_ok {s : St} {id g : Nat} {dv : AV} {vs : List AV} {ls : List (List Nd)} (hb : BufR s id g dv vs ls) (hg : g + vs.length < 1000000) {v : AV} {d : List Nd} (hr : read ndC s v = some d) (hd : d.length ≤ 100000) (hin : InnerOk ls) (he' : putP ls d = none) : ∀ env : Env, elen env = a18.ntmps → (∀ i x_, [.ptr id 0, v][i]? = some x_ → E env i = x_) → awp (tb [(35, conL ndC fValid), (36, conLLs agreeV), (37, cloneC), (21, R_BLast)]) a18.body (fun x e t => (∀ i, x ≠ .exit i) ∧ ∃ r, aresults e t a18.results = some r ∧ (r = .tup [.int .i64 ((g + vs.length + 1 : Nat) : Int), .int .i64 0] ∧ ∃ dv' vs', BufR t id g dv' vs' (ls ++ [d]) ∧ ∀ j off n cap z, dv' = .sl j off n cap z → s.next ≤ j) ∧ Chg (id :: outM dv vs) s t ∧ (r.ground = false ∨ t.low < s.next)) env s := by
  intro env hlen ha
  have h0 : E env 0 = _ := ha 0 _ rfl
  have h1 : E env 1 = _ := ha 1 _ rfl
  have hlen : elen env = _ := hlen
  simp only [a18] at hlen
  unfold a18
  obtain ⟨l0, l1, lt0⟩ := row2_lod hb.1
  have lL := hb.2.1.lenV
  have hn := hb.2.2.len
  have hrd := out_rdLL hb.2.1 hb.2.2
  have qv := q_StValid false hr (by unfold lim; omega)
  cases hs : storeL d
  · rw [hs] at qv
    have hP : putP ls d = some 2 := by unfold putP; rw [if_pos hs]
    rw [hP] at he'
    cases he'
  rw [hs] at qv
  simp (config := {contextual := true, maxDischargeDepth := 12}) only [tb_at, h0, h1, hlen, qv, l1, lL, ↓bD0, ↓bD1, ↓bD2, ↓bD3, ↓bD4, ↓bD5, ↓bD6, bU0, bU1, bU2, bU3, bU4, bU5, bU6, bU7, bU8, bU9, bU10, bU11, bU12, bU13, forall_const, List.all_cons, List.all_nil, Option.map_some, List.map_cons, List.map_nil, ne_eq, implies_true, isNx, cs_dec, cs_not, cs_and, cs_or, cs_valid, eq_self, ↓wp_cond, ↓wp_loop, ↓reduceIte, reduceCtorEq, Nat.reduceEqDiff, Nat.reduceLT, Nat.reduceAdd, Nat.reduceMul, Int.ofNat_lt, Int.ofNat_le, exists_const, ae_app, ap_slc, Option.map_none, mkR_none, mkR_some, ar_look, ae_mset, ae_rng, ae_mkmap0, ar_ent, lookV_push, lookV_lowed, msetV_push, msetV_lowed, lt_put, same_put, sto_over, sto_lowed, cs_dead, Option.map_some, beq_self_eq_true, decide_true, cs_true, cs_false, aa_bsl, ↓sg_bsl, ap_nchk, nchkV_ptr, bin_np, bin_npn, bin_npx, bin_npnx, ap_mm, mmV_max, mmV_min, res3, ↓st_callf]
  obtain ⟨I, hI⟩ : ∃ I : Nat → Env → St → Prop, ∀ n e t, I n e t = (t = s ∧ ∃ i : Nat, n + i = ls.length ∧ elen e = 56 ∧ E e 0 = .ptr id 0 ∧ E e 1 = v ∧ E e 18 = dv ∧ E e 19 = .int .i64 (vs.length : Int) ∧ E e 20 = .int .i64 (i : Int) ∧ ∀ k y, k < i → ls[k]? = some y → (agreeP y d).1 = true) := ⟨fun n e t => (t = s ∧ ∃ i : Nat, n + i = ls.length ∧ elen e = 56 ∧ E e 0 = .ptr id 0 ∧ E e 1 = v ∧ E e 18 = dv ∧ E e 19 = .int .i64 (vs.length : Int) ∧ E e 20 = .int .i64 (i : Int) ∧ ∀ k y, k < i → ls[k]? = some y → (agreeP y d).1 = true), fun _ _ _ => rfl⟩
  refine lwp_inv I (n := ls.length) ?_ ?_
  · rw [hI]
    exact ⟨rfl, 0, by omega, by simp only [E_pne, E_psame, elen_put, Nat.reduceEqDiff, ne_eq, not_false_eq_true, Nat.reduceLT, hlen], by simp only [E_pne, E_psame, elen_put, Nat.reduceEqDiff, ne_eq, not_false_eq_true, Nat.reduceLT, h0], by simp only [E_pne, E_psame, elen_put, Nat.reduceEqDiff, ne_eq, not_false_eq_true, Nat.reduceLT, h1], by simp only [E_pne, E_psame, elen_put, Nat.reduceEqDiff, ne_eq, not_false_eq_true, Nat.reduceLT, hlen], by simp only [E_pne, E_psame, elen_put, Nat.reduceEqDiff, ne_eq, not_false_eq_true, Nat.reduceLT, hlen], by simp only [E_pne, E_psame, elen_put, Nat.reduceEqDiff, ne_eq, not_false_eq_true, Nat.reduceLT, hlen]; rfl, fun k y hk => by omega⟩
  intro n e t hi
  rw [hI] at hi
  obtain ⟨rfl, i, hni, he, e0, e1, e18, e19, e20, hpre⟩ := hi
  by_cases hlt : i < ls.length
  · have hw2 := wrap_add1 (n := i) (by omega)
    obtain ⟨x, hx⟩ := getsome hlt
    obtain ⟨w, i1, hxx, hrw⟩ := rdLL_at hrd hx
    obtain ⟨a1, al⟩ := hxx t (.refl t)
    have hlt2 : ((i : Int) < (vs.length : Int)) = True := eq_true (by omega)
    have qa := q_Agree false hrw hr (hin x (List.mem_of_getElem? hx)) hd
    rw [agreeV_P] at qa
    by_cases hag : (agreeP x d).1 = true
    · have hz2 : (agreeP x d).2 = 0 := by
        by_cases h0 : (agreeP x d).2 = 0
        · exact h0
        · rw [agreeP_two x d h0] at hag; cases hag
      rw [hag, hz2] at qa
      simp (config := {contextual := true, maxDischargeDepth := 12}) only [tb_at, he, e0, e1, e18, e19, e20, hlt2, i1, a1, al, qa, hw2, ↓bD0, ↓bD1, ↓bD2, ↓bD3, ↓bD4, ↓bD5, ↓bD6, bU0, bU1, bU2, bU3, bU4, bU5, bU6, bU7, bU8, bU9, bU10, bU11, bU12, bU13, forall_const, List.all_cons, List.all_nil, Option.map_some, List.map_cons, List.map_nil, ne_eq, implies_true, isNx, cs_dec, cs_not, cs_and, cs_or, cs_valid, eq_self, ↓wp_cond, ↓wp_loop, ↓reduceIte, reduceCtorEq, Nat.reduceEqDiff, Nat.reduceLT, Nat.reduceAdd, Nat.reduceMul, Int.ofNat_lt, Int.ofNat_le, exists_const, ae_app, ap_slc, Option.map_none, mkR_none, mkR_some, ar_look, ae_mset, ae_rng, ae_mkmap0, ar_ent, lookV_push, lookV_lowed, msetV_push, msetV_lowed, lt_put, same_put, sto_over, sto_lowed, cs_dead, Option.map_some, beq_self_eq_true, decide_true, cs_true, cs_false, aa_bsl, ↓sg_bsl, ap_nchk, nchkV_ptr, bin_np, bin_npn, bin_npx, bin_npnx, ap_mm, mmV_max, mmV_min, res3, ↓st_callf]
      refine ⟨n - 1, by omega, ?_⟩
      rw [hI]
      refine ⟨rfl, i + 1, by omega, by simp only [E_pne, E_psame, elen_put, Nat.reduceEqDiff, ne_eq, not_false_eq_true, Nat.reduceLT, he], by simp only [E_pne, E_psame, elen_put, Nat.reduceEqDiff, ne_eq, not_false_eq_true, Nat.reduceLT, e0], by simp only [E_pne, E_psame, elen_put, Nat.reduceEqDiff, ne_eq, not_false_eq_true, Nat.reduceLT, e1], by simp only [E_pne, E_psame, elen_put, Nat.reduceEqDiff, ne_eq, not_false_eq_true, Nat.reduceLT, e18], by simp only [E_pne, E_psame, elen_put, Nat.reduceEqDiff, ne_eq, not_false_eq_true, Nat.reduceLT, e19], by simp only [E_pne, E_psame, elen_put, Nat.reduceEqDiff, ne_eq, not_false_eq_true, Nat.reduceLT, he], ?_⟩
      intro k y hk hy
      by_cases e' : k = i
      · subst e'
        rw [hx] at hy
        cases hy
        exact hag
      · exact hpre k y (by omega) hy
    · have hag : (agreeP x d).1 = false := by simpa using hag
      rw [hag] at qa
      rw [putP_clash hs hx hag] at he'
      cases he'
  · have hlt2 : ((i : Int) < (vs.length : Int)) = False := eq_false (by omega)
    have hall : ∀ (k : Nat) y, ls[k]? = some y → (agreeP y d).1 = true := fun k y hy => hpre k y (by have := getlt hy; omega) hy
    have hP := putP_rest hs hall
    by_cases h1000 : ls.length = 1000
    · rw [hP, if_pos h1000] at he'
      cases he'
    · have hz : ((vs.length : Int) = 1000) = False := eq_false (by omega)
      obtain ⟨v', t1, hcl, hnd, hK1⟩ := cloneF_call (s := t.reserve 1) ((keep_reserve t 1).read hr) (by unfold lim; omega)
      have hun : t1.get t.next = some .unborn := by rw [hK1.get t.next (by simp), St.get_reserve]; simp
      have hbsl := bsl1 hnd.read
      have hK2 : Keep t (t1.born t.next (.row [v'] true)) := ((keep_reserve t 1).trans hK1).born _ (Nat.le_refl _) (St.get_lt hun)
      have hO2 : OutR (t1.born t.next (.row [v'] true)) dv vs := hb.2.1.keep (hK2.chg []) (fun _ _ _ _ _ _ => by simp)
      have hI2 : InR (t1.born t.next (.row [v'] true)) vs ls := hb.2.2.keep (hK2.chg []) (.nil _)
      have hnd2 : NdR (t1.born t.next (.row [v'] true)) v' d := hnd.keep (Chg.born hun _) (fun j hj l' own h => by simp at hj; subst hj; rw [hun] at h; cases h)
      obtain ⟨t3, happ, hg3, hn3, hC3⟩ := out_appV (x := .sl t.next 0 1 (some 1) 1) hO2 (by unfold roomBytes; omega) rfl (born_self hun (.row [v'] true))
      have hidM : id ∉ outM dv vs := fun h => by
        obtain ⟨off, n', cap, z, e⟩ := outM_in h
        exact out_two hb.1 hb.2.1 hb.2.2 (.inl ⟨_, _, rfl⟩) _ _ _ _ _ e rfl
      have hb2 := hK2.blk hb.1
      have hb3 : t3.get id = some (.row [.int .i64 (g : Int), dv] true) := hC3.blk hb2 hidM
      have hsto := (row2_sto hb3 (x := .sl (t1.born t.next (.row [v'] true)).next 0 (vs.length + 1) none 1) rfl rfl).2
      have hIJ : InR t3 (vs ++ [v']) (ls ++ [d]) := InR.app (hI2.keep hC3 (apart_out hO2 hI2)) ⟨hnd2.keep hC3 (apart_out hO2 hI2), trivial⟩
      have hlt3 := St.get_lt hb3
      have hnx : t.next < (t1.born t.next (.row [v'] true)).next := by have := St.get_lt hun; simpa using this
      have hlid : id < t.next := lt0
      have hne : (t1.born t.next (.row [v'] true)).next ≠ id := by omega
      have hC4 : Chg [id] t3 (t3.put id (.row [.int .i64 (g : Int), .sl (t1.born t.next (.row [v'] true)).next 0 (vs.length + 1) none 1] true)) := (Chg.refl _ _).put _ (.inl (by simp)) hlt3
      have hB4 : BufR (t3.put id (.row [.int .i64 (g : Int), .sl (t1.born t.next (.row [v'] true)).next 0 (vs.length + 1) none 1] true)) id g (.sl (t1.born t.next (.row [v'] true)).next 0 (vs.length + 1) none 1) (vs ++ [v']) (ls ++ [d]) := by
        refine ⟨St.get_put_same hb3, .inr ⟨(t1.born t.next (.row [v'] true)).next, none, by simp, ?_, .inl ⟨rfl, by simp⟩⟩, hIJ.keep hC4 (apart_two hb3)⟩
        rw [St.get_put_ne _ _ hlt3 hne]
        exact hg3
      have ql := q_BLast false hB4 (by simp; omega)
      have hlen' : ((g + (vs ++ [v']).length : Nat) : Int) = ((g + vs.length + 1 : Nat) : Int) := by simp; omega
      rw [hlen'] at ql
      simp (config := {contextual := true, maxDischargeDepth := 12}) only [tb_at, he, e0, e1, e18, e19, e20, hlt2, l1, lL, hz, lt0, hcl, hun, hbsl, happ, hsto, ql, ↓bD0, ↓bD1, ↓bD2, ↓bD3, ↓bD4, ↓bD5, ↓bD6, bU0, bU1, bU2, bU3, bU4, bU5, bU6, bU7, bU8, bU9, bU10, bU11, bU12, bU13, forall_const, List.all_cons, List.all_nil, Option.map_some, List.map_cons, List.map_nil, ne_eq, implies_true, isNx, cs_dec, cs_not, cs_and, cs_or, cs_valid, eq_self, ↓wp_cond, ↓wp_loop, ↓reduceIte, reduceCtorEq, Nat.reduceEqDiff, Nat.reduceLT, Nat.reduceAdd, Nat.reduceMul, Int.ofNat_lt, Int.ofNat_le, exists_const, ae_app, ap_slc, Option.map_none, mkR_none, mkR_some, ar_look, ae_mset, ae_rng, ae_mkmap0, ar_ent, lookV_push, lookV_lowed, msetV_push, msetV_lowed, lt_put, same_put, sto_over, sto_lowed, cs_dead, Option.map_some, beq_self_eq_true, decide_true, cs_true, cs_false, aa_bsl, ↓sg_bsl, ap_nchk, nchkV_ptr, bin_np, bin_npn, bin_npx, bin_npnx, ap_mm, mmV_max, mmV_min, res3, ↓st_callf]
      refine ⟨_, rfl, ⟨rfl, _, _, hB4, fun j off n' cap z e => ?_⟩, ?_, .inr ?_⟩
      · injection e with e1
        omega
      · exact (((hK2.chg (id :: outM dv vs)).trans hC3 (fun k hk => .inl (by simp [hk]))).trans hC4 (fun k hk => .inl (by simp at hk; simp [hk])))
      · show min t3.low id < t.next
        omega
theorem q_BPut_ok {s : St} {id g : Nat} {dv : AV} {vs : List AV} {ls : List (List Nd)} (hb : BufR s id g dv vs ls) (hg : g + vs.length < 1000000) {v : AV} {d : List Nd} (hr : read ndC s v = some d) (hd : d.length ≤ 100000) (hin : InnerOk ls) (he' : putP ls d = none) : ∃ t, acall R_BPut false [.ptr id 0, v] s = some (.tup [.int .i64 ((g + vs.length + 1 : Nat) : Int), .int .i64 0], t) ∧ (∃ dv' vs', BufR t id g dv' vs' (ls ++ [d]) ∧ ∀ j off n cap z, dv' = .sl j off n cap z → s.next ≤ j) ∧ Chg (id :: outM dv vs) s t ∧ t.low < s.next := by
  obtain ⟨r, t, h1, ⟨rfl, h2⟩, h3, h4⟩ := run_newl n_BPut (by simp [a18]) (Q := fun r t => r = .tup [.int .i64 ((g + vs.length + 1 : Nat) : Int), .int .i64 0] ∧ ∃ dv' vs', BufR t id g dv' vs' (ls ++ [d]) ∧ ∀ j off n cap z, dv' = .sl j off n cap z → s.next ≤ j) (fun r t t' hg hn hq => by
    have hmono : ∀ id b, t.get id = some b → t'.get id = some b := fun id b hb => by rw [hg]; exact hb
    obtain ⟨q1, dv', vs', q2, q3⟩ := hq
    exact ⟨q1, dv', vs', q2.mono hmono, q3⟩) (w_BPut_ok (s := lowd s) hb.low hg (read_low' hr) hd hin he')
  exact ⟨t, h1, h2, h3, h4.resolve_left (by intro h; cases h)⟩
theorem w_BPut_nil {s : St} {v : AV} : ∀ env : Env, elen env = a18.ntmps → (∀ i x_, [.nilp, v][i]? = some x_ → E env i = x_) → awp (tb [(35, conL ndC fValid), (36, conLLs agreeV), (37, cloneC), (21, R_BLast)]) a18.body (fun x e t => (∀ i, x ≠ .exit i) ∧ aresults e t a18.results = some (.tup [.int .i64 0, .int .i64 1]) ∧ Keep s t) env s := by
  intro env hlen ha
  have h0 : E env 0 = _ := ha 0 _ rfl
  have h1 : E env 1 = _ := ha 1 _ rfl
  have hlen : elen env = _ := hlen
  simp only [a18] at hlen
  unfold a18
  simp (config := {contextual := true, maxDischargeDepth := 12}) only [tb_at, h0, h1, hlen, ↓bD0, ↓bD1, ↓bD2, ↓bD3, ↓bD4, ↓bD5, ↓bD6, bU0, bU1, bU2, bU3, bU4, bU5, bU6, bU7, bU8, bU9, bU10, bU11, bU12, bU13, forall_const, List.all_cons, List.all_nil, Option.map_some, List.map_cons, List.map_nil, ne_eq, implies_true, isNx, cs_dec, cs_not, cs_and, cs_or, cs_valid, eq_self, ↓wp_cond, ↓wp_loop, ↓reduceIte, reduceCtorEq, Nat.reduceEqDiff, Nat.reduceLT, Nat.reduceAdd, Nat.reduceMul, Int.ofNat_lt, Int.ofNat_le, exists_const, ae_app, ap_slc, Option.map_none, mkR_none, mkR_some, ar_look, ae_mset, ae_rng, ae_mkmap0, ar_ent, lookV_push, lookV_lowed, msetV_push, msetV_lowed, lt_put, same_put, sto_over, sto_lowed, cs_dead, Option.map_some, beq_self_eq_true, decide_true, cs_true, cs_false, aa_bsl, ↓sg_bsl, ap_nchk, nchkV_ptr, bin_np, bin_npn, bin_npx, bin_npnx, ap_mm, mmV_max, mmV_min, res3, ↓st_callf]
theorem q_BPut_nil (cl : Bool) {s : St} {v : AV} : acall R_BPut cl [.nilp, v] s = some (.tup [.int .i64 0, .int .i64 1], s) := run_same n_BPut (by simp [a18]) rfl (w_BPut_nil (s := lowd s) )
theorem w_From_nil {s : St} {v : AV} : ∀ env : Env, elen env = a34.ntmps → (∀ i x_, [.nilp, v][i]? = some x_ → E env i = x_) → awp (tb [(21, R_BLast), (22, R_Between)]) a34.body (fun x e t => (∀ i, x ≠ .exit i) ∧ aresults e t a34.results = some (.tup [.nils, .int .i64 0, .int .i64 1]) ∧ Keep s t) env s := by
  intro env hlen ha
  have h0 : E env 0 = _ := ha 0 _ rfl
  have h1 : E env 1 = _ := ha 1 _ rfl
  have hlen : elen env = _ := hlen
  simp only [a34] at hlen
  unfold a34
  simp (config := {contextual := true, maxDischargeDepth := 12}) only [tb_at, h0, h1, hlen, ↓bD0, ↓bD1, ↓bD2, ↓bD3, ↓bD4, ↓bD5, ↓bD6, bU0, bU1, bU2, bU3, bU4, bU5, bU6, bU7, bU8, bU9, bU10, bU11, bU12, bU13, forall_const, List.all_cons, List.all_nil, Option.map_some, List.map_cons, List.map_nil, ne_eq, implies_true, isNx, cs_dec, cs_not, cs_and, cs_or, cs_valid, eq_self, ↓wp_cond, ↓wp_loop, ↓reduceIte, reduceCtorEq, Nat.reduceEqDiff, Nat.reduceLT, Nat.reduceAdd, Nat.reduceMul, Int.ofNat_lt, Int.ofNat_le, exists_const, ae_app, ap_slc, Option.map_none, mkR_none, mkR_some, ar_look, ae_mset, ae_rng, ae_mkmap0, ar_ent, lookV_push, lookV_lowed, msetV_push, msetV_lowed, lt_put, same_put, sto_over, sto_lowed, cs_dead, Option.map_some, beq_self_eq_true, decide_true, cs_true, cs_false, aa_bsl, ↓sg_bsl, ap_nchk, nchkV_ptr, bin_np, bin_npn, bin_npx, bin_npnx, ap_mm, mmV_max, mmV_min, res3, ↓st_callf]
theorem q_From_nil (cl : Bool) {s : St} {v : AV} : acall R_From cl [.nilp, v] s = some (.tup [.nils, .int .i64 0, .int .i64 1], s) := run_same n_From (by simp [a34]) rfl (w_From_nil (s := lowd s) )
theorem w_Between_nil {s : St} {v w : AV} : ∀ env : Env, elen env = a22.ntmps → (∀ i x_, [.nilp, v, w][i]? = some x_ → E env i = x_) → awp (tb [(20, R_BFirst), (21, R_BLast), (25, conF ndC pAll)]) a22.body (fun x e t => (∀ i, x ≠ .exit i) ∧ aresults e t a22.results = some (.tup [.nils, .int .i64 1]) ∧ Keep s t) env s := by
  intro env hlen ha
  have h0 : E env 0 = _ := ha 0 _ rfl
  have h1 : E env 1 = _ := ha 1 _ rfl
  have h2 : E env 2 = _ := ha 2 _ rfl
  have hlen : elen env = _ := hlen
  simp only [a22] at hlen
  unfold a22
  simp (config := {contextual := true, maxDischargeDepth := 12}) only [tb_at, h0, h1, h2, hlen, ↓bD0, ↓bD1, ↓bD2, ↓bD3, ↓bD4, ↓bD5, ↓bD6, bU0, bU1, bU2, bU3, bU4, bU5, bU6, bU7, bU8, bU9, bU10, bU11, bU12, bU13, forall_const, List.all_cons, List.all_nil, Option.map_some, List.map_cons, List.map_nil, ne_eq, implies_true, isNx, cs_dec, cs_not, cs_and, cs_or, cs_valid, eq_self, ↓wp_cond, ↓wp_loop, ↓reduceIte, reduceCtorEq, Nat.reduceEqDiff, Nat.reduceLT, Nat.reduceAdd, Nat.reduceMul, Int.ofNat_lt, Int.ofNat_le, exists_const, ae_app, ap_slc, Option.map_none, mkR_none, mkR_some, ar_look, ae_mset, ae_rng, ae_mkmap0, ar_ent, lookV_push, lookV_lowed, msetV_push, msetV_lowed, lt_put, same_put, sto_over, sto_lowed, cs_dead, Option.map_some, beq_self_eq_true, decide_true, cs_true, cs_false, aa_bsl, ↓sg_bsl, ap_nchk, nchkV_ptr, bin_np, bin_npn, bin_npx, bin_npnx, ap_mm, mmV_max, mmV_min, res3, ↓st_callf]
theorem q_Between_nil (cl : Bool) {s : St} {v w : AV} : acall R_Between cl [.nilp, v, w] s = some (.tup [.nils, .int .i64 1], s) := run_same n_Between (by simp [a22]) rfl (w_Between_nil (s := lowd s) )

def fgP (g n : Nat) (u : Int) : Option Int := if u < 0 then some 2 else if ((g + n : Nat) : Int) < u then some 3 else none
noncomputable def R_Forget : Con := runFn (tb [(21, R_BLast)]) a26
theorem s_Forget : SoundAt Try.prog 26 R_Forget := run_sound (tb_sound (l := [(21, R_BLast)]) (by simpa using s_BLast)) mixed Try.func26 k26 c26
theorem n_Forget : noNxtC a26.body = true := by kernel_rfl
theorem w_Forget_nil {s : St} {v : AV} : ∀ env : Env, elen env = a26.ntmps → (∀ i x_, [.nilp, v][i]? = some x_ → E env i = x_) → awp (tb [(21, R_BLast)]) a26.body (fun x e t => (∀ i, x ≠ .exit i) ∧ aresults e t a26.results = some (.tup [.int .i64 0, .int .i64 1]) ∧ Keep s t) env s := by
  intro env hlen ha
  have h0 : E env 0 = _ := ha 0 _ rfl
  have h1 : E env 1 = _ := ha 1 _ rfl
  have hlen : elen env = _ := hlen
  simp only [a26] at hlen
  unfold a26
  simp (config := {contextual := true, maxDischargeDepth := 12}) only [tb_at, h0, h1, hlen, ↓bD0, ↓bD1, ↓bD2, ↓bD3, ↓bD4, ↓bD5, ↓bD6, bU0, bU1, bU2, bU3, bU4, bU5, bU6, bU7, bU8, bU9, bU10, bU11, bU12, bU13, forall_const, List.all_cons, List.all_nil, Option.map_some, List.map_cons, List.map_nil, ne_eq, implies_true, isNx, cs_dec, cs_not, cs_and, cs_or, cs_valid, eq_self, ↓wp_cond, ↓wp_loop, ↓reduceIte, reduceCtorEq, Nat.reduceEqDiff, Nat.reduceLT, Nat.reduceAdd, Nat.reduceMul, Int.ofNat_lt, Int.ofNat_le, exists_const, ae_app, ap_slc, Option.map_none, mkR_none, mkR_some, ar_look, ae_mset, ae_rng, ae_mkmap0, ar_ent, lookV_push, lookV_lowed, msetV_push, msetV_lowed, lt_put, same_put, sto_over, sto_lowed, cs_dead, Option.map_some, beq_self_eq_true, decide_true, cs_true, cs_false, aa_bsl, ↓sg_bsl, ap_nchk, nchkV_ptr, bin_np, bin_npn, bin_npx, bin_npnx, ap_mm, mmV_max, mmV_min, res3, ↓st_callf]
theorem q_Forget_nil (cl : Bool) {s : St} {v : AV} : acall R_Forget cl [.nilp, v] s = some (.tup [.int .i64 0, .int .i64 1], s) := run_same n_Forget (by simp [a26]) rfl (w_Forget_nil (s := lowd s) )
theorem w_Forget_err {s : St} {id g : Nat} {dv : AV} {vs : List AV} {ls : List (List Nd)} (hb : BufR s id g dv vs ls) (hg : g + vs.length ≤ 1000000) {u : Int} {er : Int} (he : fgP g vs.length u = some er) : ∀ env : Env, elen env = a26.ntmps → (∀ i x_, [.ptr id 0, .int .i64 u][i]? = some x_ → E env i = x_) → awp (tb [(21, R_BLast)]) a26.body (fun x e t => (∀ i, x ≠ .exit i) ∧ aresults e t a26.results = some (.tup [.int .i64 0, .int .i64 er]) ∧ Keep s t) env s := by
  intro env hlen ha
  have h0 : E env 0 = _ := ha 0 _ rfl
  have h1 : E env 1 = _ := ha 1 _ rfl
  have hlen : elen env = _ := hlen
  simp only [a26] at hlen
  unfold a26
  have ql := q_BLast false hb hg
  by_cases c1 : u < 0
  · have hz := eq_true c1
    unfold fgP at he
    rw [if_pos c1] at he
    injection he with he
    subst he
    simp (config := {contextual := true, maxDischargeDepth := 12}) only [tb_at, h0, h1, hlen, ql, hz, ↓bD0, ↓bD1, ↓bD2, ↓bD3, ↓bD4, ↓bD5, ↓bD6, bU0, bU1, bU2, bU3, bU4, bU5, bU6, bU7, bU8, bU9, bU10, bU11, bU12, bU13, forall_const, List.all_cons, List.all_nil, Option.map_some, List.map_cons, List.map_nil, ne_eq, implies_true, isNx, cs_dec, cs_not, cs_and, cs_or, cs_valid, eq_self, ↓wp_cond, ↓wp_loop, ↓reduceIte, reduceCtorEq, Nat.reduceEqDiff, Nat.reduceLT, Nat.reduceAdd, Nat.reduceMul, Int.ofNat_lt, Int.ofNat_le, exists_const, ae_app, ap_slc, Option.map_none, mkR_none, mkR_some, ar_look, ae_mset, ae_rng, ae_mkmap0, ar_ent, lookV_push, lookV_lowed, msetV_push, msetV_lowed, lt_put, same_put, sto_over, sto_lowed, cs_dead, Option.map_some, beq_self_eq_true, decide_true, cs_true, cs_false, aa_bsl, ↓sg_bsl, ap_nchk, nchkV_ptr, bin_np, bin_npn, bin_npx, bin_npnx, ap_mm, mmV_max, mmV_min, res3, ↓st_callf]
  · have hz := eq_false c1
    unfold fgP at he
    rw [if_neg c1] at he
    by_cases c2 : ((g + vs.length : Nat) : Int) < u
    · have hz2 := eq_true c2
      rw [if_pos c2] at he
      injection he with he
      subst he
      simp (config := {contextual := true, maxDischargeDepth := 12}) only [tb_at, h0, h1, hlen, ql, hz, hz2, ↓bD0, ↓bD1, ↓bD2, ↓bD3, ↓bD4, ↓bD5, ↓bD6, bU0, bU1, bU2, bU3, bU4, bU5, bU6, bU7, bU8, bU9, bU10, bU11, bU12, bU13, forall_const, List.all_cons, List.all_nil, Option.map_some, List.map_cons, List.map_nil, ne_eq, implies_true, isNx, cs_dec, cs_not, cs_and, cs_or, cs_valid, eq_self, ↓wp_cond, ↓wp_loop, ↓reduceIte, reduceCtorEq, Nat.reduceEqDiff, Nat.reduceLT, Nat.reduceAdd, Nat.reduceMul, Int.ofNat_lt, Int.ofNat_le, exists_const, ae_app, ap_slc, Option.map_none, mkR_none, mkR_some, ar_look, ae_mset, ae_rng, ae_mkmap0, ar_ent, lookV_push, lookV_lowed, msetV_push, msetV_lowed, lt_put, same_put, sto_over, sto_lowed, cs_dead, Option.map_some, beq_self_eq_true, decide_true, cs_true, cs_false, aa_bsl, ↓sg_bsl, ap_nchk, nchkV_ptr, bin_np, bin_npn, bin_npx, bin_npnx, ap_mm, mmV_max, mmV_min, res3, ↓st_callf]
    · rw [if_neg c2] at he
      cases he
theorem q_Forget_err (cl : Bool) {s : St} {id g : Nat} {dv : AV} {vs : List AV} {ls : List (List Nd)} (hb : BufR s id g dv vs ls) (hg : g + vs.length ≤ 1000000) {u : Int} {er : Int} (he : fgP g vs.length u = some er) : acall R_Forget cl [.ptr id 0, .int .i64 u] s = some (.tup [.int .i64 0, .int .i64 er], s) := run_same n_Forget (by simp [a26]) rfl (w_Forget_err (s := lowd s) hb.low hg he)

theorem out_from {v : AV} {vs : List AV} (h : OutR t v vs) {a : Nat} (ha : a ≤ vs.length) : ∃ v', slcV 1 v (some (.int .i64 (a : Int))) none = some v' ∧ shown t 1 v' = some (vs.drop a) ∧ lenOf v' = some (vs.length - a) := by
  rcases h with ⟨rfl, rfl⟩ | ⟨j, cap, rfl, hg, hcap⟩
  · simp at ha
    subst ha
    exact ⟨.nils, by simp [slcV, optNat, asNatIn], by simp [shown], by simp [lenOf]⟩
  · have e1 : optNat (some (.int .i64 (a : Int))) vs.length 0 = some a := by simp [optNat, asNatIn]; omega
    have e0 : optNat none vs.length vs.length = some vs.length := rfl
    have hs : ∀ cap', shown t 1 (.sl j (0 + a * 1) (vs.length - a) cap' 1) = some (vs.drop a) := fun cap' => by
      simp only [shown, if_true, hg, Nat.zero_add, Nat.mul_one]
      rw [if_pos (by omega), List.take_of_length_le (by simp)]
    rcases hcap with ⟨rfl, _⟩ | rfl
    · exact ⟨.sl j (0 + a * 1) (vs.length - a) none 1, by simp only [slcV, if_true, e0, e1], hs none, rfl⟩
    · exact ⟨.sl j (0 + a * 1) (vs.length - a) (some (vs.length - a)) 1, by simp only [slcV, if_true, e0, e1], hs (some (vs.length - a)), rfl⟩
def mkslV (z : List AV) (bytes : Nat) (l c : AV) : Option ((Nat → AV) × AB) := match l, c with
  | .int .i64 l, .int .i64 c =>
    if 0 ≤ l ∧ l ≤ c ∧ (bytes : Int) * c ≤ roomBytes ∧ c ≤ 9223372036854775807 then
        some (fun id => .sl id 0 l.toNat (some c.toNat) z.length, .row (zeros z c.toNat) true)
      else none
  | _, _ => none
theorem aa_mksl {env : Env} (z : List AV) (b : Nat) (l c : AO) : aalloc env (.mksl z b l c) = mkslV z b (aev env l) (aev env c) := by
  simp only [aalloc, mkslV]
  rfl
theorem mkslV_nat (z : List AV) (b n : Nat) (h : b * n ≤ roomBytes) (h2 : n ≤ 1000000) : mkslV z b (.int .i64 (n : Int)) (.int .i64 (n : Int)) = some (fun id => .sl id 0 n (some n) z.length, .row (zeros z n) true) := by
  simp only [mkslV]
  rw [if_pos ⟨by omega, by omega, by rw [← Int.natCast_mul]; unfold roomBytes at *; omega, by omega⟩]
  simp
def copyV (s : St) (sz : Nat) (d x : AV) : Option (AV × St) := match d, shown s sz x, lenOf x with
    | .nils, some _, some _ => some (.int .i64 0, s)
    | .sl id off len _ z, some new, some k =>
      if z = sz then
        match s.get id with
        | some (.row cs true) =>
          if off + len * sz ≤ cs.length then
            some (.int .i64 ((min k len : Nat) : Int), s.put id (.row (setAt cs off (new.take (min k len * sz))) true))
          else none
        | _ => none
      else none
    | _, _, _ => none
theorem ae_copy {call : Nat → List AV → St → Option (AV × St)} {env : Env} (sz : Nat) (d x : AO) : aeff call env s (.copy sz d x) = copyV s sz (aev env d) (aev env x) := by
  simp only [aeff, copyV]
  rfl
/-- Copied as a whole into a row of the same length. -/
theorem copyV_all {id n : Nat} {cap : Option Nat} {x : AV} {cs new : List AV} (h1 : shown s 1 x = some new) (h2 : lenOf x = some n) (hn : new.length = n) (hg : s.get id = some (.row cs true)) (hc : cs.length = n) : copyV s 1 (.sl id 0 n cap 1) x = some (.int .i64 (n : Int), s.put id (.row new true)) := by
  simp only [copyV, h1, h2, if_true, hg]
  rw [if_pos (by omega), Nat.min_self]
  congr 4
  simp only [setAt, List.take_zero, List.nil_append, Nat.mul_one]
  rw [List.take_of_length_le (by omega), Nat.zero_add, List.drop_of_length_le (by omega), List.append_nil]
def slc3V (sz : Nat) (x h m : AV) : Option AV := apure [] (.slc sz (.c x) none (some (.c h)) (some (.c m)))
theorem ap_slc3 {env : Env} (sz : Nat) (x h m : AO) : apure env (.slc sz x none (some h) (some m)) = slc3V sz (aev env x) (aev env h) (aev env m) := nrfl rfl
theorem slc3V_all (j n : Nat) : slc3V 1 (.sl j 0 n (some n) 1) (.int .i64 (n : Int)) (.int .i64 (n : Int)) = some (.sl j 0 n (some n) 1) := by
  simp [slc3V, apure, aev, optNat, asNatIn]
theorem w_Forget_ok {s : St} {id g : Nat} {dv : AV} {vs : List AV} {ls : List (List Nd)} (hb : BufR s id g dv vs ls) (hg : g + vs.length ≤ 1000000) {u : Int} (h0u : 0 ≤ u) (hu : u ≤ ((g + vs.length : Nat) : Int)) : ∀ env : Env, elen env = a26.ntmps → (∀ i x_, [.ptr id 0, .int .i64 u][i]? = some x_ → E env i = x_) → awp (tb [(21, R_BLast)]) a26.body (fun x e t => (∀ i, x ≠ .exit i) ∧ ∃ r, aresults e t a26.results = some r ∧ (r = .tup [.int .i64 (((u - (g : Int)).toNat : Nat) : Int), .int .i64 0] ∧ ∃ dv' vs', BufR t id (g + (u - (g : Int)).toNat) dv' vs' (ls.drop (u - (g : Int)).toNat) ∧ ∀ j off n cap z, dv' = .sl j off n cap z → s.next ≤ j) ∧ Chg [id] s t ∧ (r.ground = false ∨ t.low < s.next)) env s := by
  intro env hlen ha
  have h0 : E env 0 = _ := ha 0 _ rfl
  have h1 : E env 1 = _ := ha 1 _ rfl
  have hlen : elen env = _ := hlen
  simp only [a26] at hlen
  unfold a26
  obtain ⟨l0, l1, lt0⟩ := row2_lod hb.1
  have lL := hb.2.1.lenV
  have hn := hb.2.2.len
  have ql := q_BLast false hb hg
  have hz : (u < 0) = False := eq_false (by omega)
  have hz2 : (((g + vs.length : Nat) : Int) < u) = False := eq_false (by omega)
  obtain ⟨a, ha'⟩ : ∃ a : Nat, a = (u - (g : Int)).toNat := ⟨_, rfl⟩
  rw [← ha']
  have ham : a ≤ vs.length := by omega
  have w1 : IntKind.i64.wrap (u - (g : Int)) = u - (g : Int) := by
    simp only [IntKind.wrap, IntKind.signed, IntKind.bits]
    simp
    omega
  have hmax : max 0 (u - (g : Int)) = (a : Int) := by omega
  have w2 : IntKind.i64.wrap ((vs.length : Int) - (a : Int)) = ((vs.length - a : Nat) : Int) := by
    have e : (vs.length : Int) - (a : Int) = ((vs.length - a : Nat) : Int) := by omega
    rw [e]
    exact wrap_nat (by omega)
  have w3 : IntKind.i64.wrap ((g : Int) + (a : Int)) = ((g + a : Nat) : Int) := by
    rw [← Int.natCast_add]
    exact wrap_nat (by omega)
  have hmk := mkslV_nat [.nils] 24 (vs.length - a) (by unfold roomBytes; omega) (by omega)
  obtain ⟨x, hx1, hx2, hx3⟩ := out_from (hb.2.1.keep (u := s.push (.row (zeros [.nils] (vs.length - a)) true)) (((Keep.refl s).push _).chg []) (fun _ _ _ _ _ _ => by simp)) ham
  have hgn : (s.push (.row (zeros [.nils] (vs.length - a)) true)).get s.next = some (.row (zeros [.nils] (vs.length - a)) true) := St.get_push_new _ _
  have hcp := copyV_all (id := s.next) (n := vs.length - a) (cap := some (vs.length - a)) hx2 hx3 (by simp) hgn (by simp [zeros])
  have hlid : id < s.next := lt0
  have hK1 : Keep s ((s.push (.row (zeros [.nils] (vs.length - a)) true)).put s.next (.row (vs.drop a) true)) := ((Keep.refl s).push _).put _ (Nat.le_refl _) (by simp)
  have hb1 := hK1.blk hb.1
  obtain ⟨m0, m1, mlt⟩ := row2_lod hb1
  have hs1 := (row2_sto hb.1 (x := .sl s.next 0 (vs.length - a) (some (vs.length - a)) 1) rfl rfl).2
  have hb2 := St.get_put_same (b := .row [.int .i64 (g : Int), .sl s.next 0 (vs.length - a) (some (vs.length - a)) 1] true) hb.1
  have hs2 := (row2_sto hb2 (x := .int .i64 ((g + a : Nat) : Int)) rfl rfl).1
  simp (config := {contextual := true, maxDischargeDepth := 12}) only [tb_at, h0, h1, hlen, hz, hz2, ql, l0, l1, lL, lt0, w1, hmax, w2, w3, hmk, hx1, hcp, m0, m1, mlt, hs1, hs2, List.length_cons, List.length_nil, ↓bD0, ↓bD1, ↓bD2, ↓bD3, ↓bD4, ↓bD5, ↓bD6, bU0, bU1, bU2, bU3, bU4, bU5, bU6, bU7, bU8, bU9, bU10, bU11, bU12, bU13, forall_const, List.all_cons, List.all_nil, Option.map_some, List.map_cons, List.map_nil, ne_eq, implies_true, isNx, cs_dec, cs_not, cs_and, cs_or, cs_valid, eq_self, ↓wp_cond, ↓wp_loop, ↓reduceIte, reduceCtorEq, Nat.reduceEqDiff, Nat.reduceLT, Nat.reduceAdd, Nat.reduceMul, Int.ofNat_lt, Int.ofNat_le, exists_const, ae_app, ap_slc, Option.map_none, mkR_none, mkR_some, ar_look, ae_mset, ae_rng, ae_mkmap0, ar_ent, lookV_push, lookV_lowed, msetV_push, msetV_lowed, lt_put, same_put, sto_over, sto_lowed, cs_dead, Option.map_some, beq_self_eq_true, decide_true, cs_true, cs_false, aa_bsl, ↓sg_bsl, ap_nchk, nchkV_ptr, bin_np, bin_npn, bin_npx, bin_npnx, ap_mm, mmV_max, mmV_min, res3, ↓st_callf, aa_mksl, ae_copy, ap_slc3, slc3V_all]
  have hC2 : Chg [id] s ((s.put id (.row [.int .i64 (g : Int), .sl s.next 0 (vs.length - a) (some (vs.length - a)) 1] true)).put id (.row [.int .i64 ((g + a : Nat) : Int), .sl s.next 0 (vs.length - a) (some (vs.length - a)) 1] true)) :=
    ((Chg.refl [id] s).put _ (.inl (by simp)) hlid).put _ (.inl (by simp)) (by simpa using hlid)
  have hC3 := (hC2.trans ((keep_lowed _).chg []) (by simp)).push (.row (vs.drop a) true)
  refine ⟨_, rfl, ⟨rfl, _, vs.drop a, ⟨?_, .inr ⟨s.next, some (vs.length - a), by rw [List.length_drop], ?_, .inr (by rw [List.length_drop])⟩, (hb.2.2.drop a).keep hC3 (apart_two hb.1)⟩, fun j off n cap z e => ?_⟩, hC3, .inr ?_⟩
  · exact get_push_some _ (St.get_put_same hb2)
  · exact St.get_push_new (St.lowed _) _
  · injection e with e1
    omega
  · show min (min (min s.low id) id) s.next < s.next
    omega
theorem q_Forget_ok {s : St} {id g : Nat} {dv : AV} {vs : List AV} {ls : List (List Nd)} (hb : BufR s id g dv vs ls) (hg : g + vs.length ≤ 1000000) {u : Int} (h0u : 0 ≤ u) (hu : u ≤ ((g + vs.length : Nat) : Int)) : ∃ t, acall R_Forget false [.ptr id 0, .int .i64 u] s = some (.tup [.int .i64 (((u - (g : Int)).toNat : Nat) : Int), .int .i64 0], t) ∧ (∃ dv' vs', BufR t id (g + (u - (g : Int)).toNat) dv' vs' (ls.drop (u - (g : Int)).toNat) ∧ ∀ j off n cap z, dv' = .sl j off n cap z → s.next ≤ j) ∧ Chg ([id]) s t ∧ t.low < s.next := by
  obtain ⟨r, t, h1, ⟨rfl, h2⟩, h3, h4⟩ := run_newl n_Forget (by simp [a26]) (Q := fun r t => r = .tup [.int .i64 (((u - (g : Int)).toNat : Nat) : Int), .int .i64 0] ∧ ∃ dv' vs', BufR t id (g + (u - (g : Int)).toNat) dv' vs' (ls.drop (u - (g : Int)).toNat) ∧ ∀ j off n cap z, dv' = .sl j off n cap z → s.next ≤ j) (fun r t t' hg hn hq => by
    have hmono : ∀ id b, t.get id = some b → t'.get id = some b := fun id b hb => by rw [hg]; exact hb
    obtain ⟨q1, dv', vs', q2, q3⟩ := hq
    exact ⟨q1, dv', vs', q2.mono hmono, q3⟩) (w_Forget_ok (s := lowd s) hb.low hg h0u hu)
  exact ⟨t, h1, h2, h3, h4.resolve_left (by intro h; cases h)⟩

theorem OutR.one {v : AV} {vs : List AV} (h : OutR t v vs) : v.cells = [v] ∧ v.one = true := by
  rcases h with ⟨rfl, _⟩ | ⟨j, cap, rfl, _⟩ <;> exact ⟨rfl, rfl⟩
theorem bin_nss (id off n : Nat) (cap : Option Nat) (z : Nat) : binOp .eql .ns (.sl id off n cap z) .nils = some (.bool false) := nrfl rfl
theorem bin_nsn : binOp .eql .ns .nils .nils = some (.bool true) := nrfl rfl
theorem bsl0 : bslV [] 0 1 [] = some (fun id => .sl id 0 0 (some 0) 1, .row [] true) := nrfl rfl
theorem fstep_0 {a b v : AV} (h : v.cells = [v] ∧ v.one = true) (K : List AV → Option (List AV)) : fstep [a, b] 0 1 v K = K [v, b] := by
  simp [fstep, h.1, h.2, setAt]
theorem fstep_1 {a b v : AV} (h : v.cells = [v] ∧ v.one = true) (K : List AV → Option (List AV)) : fstep [a, b] 1 1 v K = K [a, v] := by
  simp [fstep, h.1, h.2, setAt]
theorem boxV_2 {a b : AV} (ha : a.one = true) (hb : b.one = true) : boxV 2 (.agg [a, b]) = some (fun id => .ptr id 0, .row [a, b] true) := by
  simp [boxV, AV.cells, ha, hb]
noncomputable def R_ClS : Con := runFn (tb []) a41
theorem s_ClS : SoundAt Try.prog 41 R_ClS := run_sound (tb_sound (l := []) (by simp)) mixed Try.func41 k41 c41
theorem n_ClS : noNxtC a41.body = true := by kernel_rfl
theorem w_ClS {s : St} {dv : AV} {vs : List AV} (ho : OutR s dv vs) (hl : vs.length ≤ 1000000) : ∀ env : Env, elen env = a41.ntmps → (∀ i x_, [dv][i]? = some x_ → E env i = x_) → awp (tb []) a41.body (fun x e t => (∀ i, x ≠ .exit i) ∧ ∃ r, aresults e t a41.results = some r ∧ OutR t r vs ∧ (∀ j off n cap z, r = .sl j off n cap z → s.next ≤ j) ∧ Keep s t) env s := by
  intro env hlen ha
  have h0 : E env 0 = _ := ha 0 _ rfl
  have hlen : elen env = _ := hlen
  simp only [a41] at hlen
  unfold a41
  rcases ho with ⟨rfl, rfl⟩ | ⟨j, cap, rfl, hg, hcap⟩
  · simp (config := {contextual := true, maxDischargeDepth := 12}) only [tb_at, h0, hlen, ↓bD0, ↓bD1, ↓bD2, ↓bD3, ↓bD4, ↓bD5, ↓bD6, bU0, bU1, bU2, bU3, bU4, bU5, bU6, bU7, bU8, bU9, bU10, bU11, bU12, bU13, forall_const, List.all_cons, List.all_nil, Option.map_some, List.map_cons, List.map_nil, ne_eq, implies_true, isNx, cs_dec, cs_not, cs_and, cs_or, cs_valid, eq_self, ↓wp_cond, ↓wp_loop, ↓reduceIte, reduceCtorEq, Nat.reduceEqDiff, Nat.reduceLT, Nat.reduceAdd, Nat.reduceMul, Int.ofNat_lt, Int.ofNat_le, exists_const, ae_app, ap_slc, Option.map_none, mkR_none, mkR_some, ar_look, ae_mset, ae_rng, ae_mkmap0, ar_ent, lookV_push, lookV_lowed, msetV_push, msetV_lowed, lt_put, same_put, sto_over, sto_lowed, cs_dead, Option.map_some, beq_self_eq_true, decide_true, cs_true, cs_false, aa_bsl, ↓sg_bsl, ap_nchk, nchkV_ptr, bin_np, bin_npn, bin_npx, bin_npnx, ap_mm, mmV_max, mmV_min, res3, ↓st_callf, aa_mksl, ae_copy, ap_slc3, slc3V_all, bin_nss, bin_nsn, aa_bsl]
    exact ⟨_, rfl, .inl ⟨rfl, rfl⟩, fun _ _ _ _ _ e => by (cases e)⟩
  · have hgn : (s.push (.row [] true)).get s.next = some (.row [] true) := St.get_push_new _ _
    have hg1 : (s.push (.row [] true)).get j = some (.row vs true) := get_push_some _ hg
    have hs : shown (s.push (.row [] true)) 1 (.sl j 0 vs.length cap 1) = some vs := by
      simp only [shown, if_true, hg1, Nat.zero_add, Nat.mul_one, Nat.le_refl, List.drop_zero, List.take_length]
    cases hv : vs with
    | nil =>
      subst hv
      have hap : appV (s.push (.row [] true)) 1 24 (.sl s.next 0 0 (some 0) 1) (.sl j 0 0 cap 1) = some (.sl s.next 0 0 (some 0) 1, s.push (.row [] true)) := by
        have hs : shown (s.push (.row [] true)) 1 (.sl j 0 0 cap 1) = some [] := hs
        simp only [appV, hs, lenOf, aappend, if_true, hgn]
      have h0 : E env 0 = .sl j 0 0 cap 1 := h0
      simp (config := {contextual := true, maxDischargeDepth := 12}) only [tb_at, h0, hlen, bsl0, hap, ↓bD0, ↓bD1, ↓bD2, ↓bD3, ↓bD4, ↓bD5, ↓bD6, bU0, bU1, bU2, bU3, bU4, bU5, bU6, bU7, bU8, bU9, bU10, bU11, bU12, bU13, forall_const, List.all_cons, List.all_nil, Option.map_some, List.map_cons, List.map_nil, ne_eq, implies_true, isNx, cs_dec, cs_not, cs_and, cs_or, cs_valid, eq_self, ↓wp_cond, ↓wp_loop, ↓reduceIte, reduceCtorEq, Nat.reduceEqDiff, Nat.reduceLT, Nat.reduceAdd, Nat.reduceMul, Int.ofNat_lt, Int.ofNat_le, exists_const, ae_app, ap_slc, Option.map_none, mkR_none, mkR_some, ar_look, ae_mset, ae_rng, ae_mkmap0, ar_ent, lookV_push, lookV_lowed, msetV_push, msetV_lowed, lt_put, same_put, sto_over, sto_lowed, cs_dead, Option.map_some, beq_self_eq_true, decide_true, cs_true, cs_false, aa_bsl, ↓sg_bsl, ap_nchk, nchkV_ptr, bin_np, bin_npn, bin_npx, bin_npnx, ap_mm, mmV_max, mmV_min, res3, ↓st_callf, aa_mksl, ae_copy, ap_slc3, slc3V_all, bin_nss, bin_nsn, aa_bsl]
      exact ⟨_, rfl, .inr ⟨s.next, some 0, rfl, hgn, .inr rfl⟩, fun j off n cap z e => by (injection e with e1; omega)⟩
    | cons a r =>
      rw [← hv]
      have hn0 : vs.length ≠ 0 := by rw [hv]; simp
      have hap : appV (s.push (.row [] true)) 1 24 (.sl s.next 0 0 (some 0) 1) (.sl j 0 vs.length cap 1) = some (.sl (s.next + 1) 0 vs.length none 1, (s.push (.row [] true)).push (.row vs true)) := by
        simp only [appV, hs, lenOf, aappend, if_true, hgn, if_neg hn0]
        rw [if_pos ⟨by simp, by unfold roomBytes; omega⟩, if_neg (by omega)]
        simp
      simp (config := {contextual := true, maxDischargeDepth := 12}) only [tb_at, h0, hlen, bsl0, hap, ↓bD0, ↓bD1, ↓bD2, ↓bD3, ↓bD4, ↓bD5, ↓bD6, bU0, bU1, bU2, bU3, bU4, bU5, bU6, bU7, bU8, bU9, bU10, bU11, bU12, bU13, forall_const, List.all_cons, List.all_nil, Option.map_some, List.map_cons, List.map_nil, ne_eq, implies_true, isNx, cs_dec, cs_not, cs_and, cs_or, cs_valid, eq_self, ↓wp_cond, ↓wp_loop, ↓reduceIte, reduceCtorEq, Nat.reduceEqDiff, Nat.reduceLT, Nat.reduceAdd, Nat.reduceMul, Int.ofNat_lt, Int.ofNat_le, exists_const, ae_app, ap_slc, Option.map_none, mkR_none, mkR_some, ar_look, ae_mset, ae_rng, ae_mkmap0, ar_ent, lookV_push, lookV_lowed, msetV_push, msetV_lowed, lt_put, same_put, sto_over, sto_lowed, cs_dead, Option.map_some, beq_self_eq_true, decide_true, cs_true, cs_false, aa_bsl, ↓sg_bsl, ap_nchk, nchkV_ptr, bin_np, bin_npn, bin_npx, bin_npnx, ap_mm, mmV_max, mmV_min, res3, ↓st_callf, aa_mksl, ae_copy, ap_slc3, slc3V_all, bin_nss, bin_nsn, aa_bsl]
      exact ⟨_, rfl, .inr ⟨s.next + 1, none, rfl, St.get_push_new (s.push _) _, .inl ⟨rfl, by rw [hv]; simp⟩⟩, fun j off n cap z e => by (injection e with e1; omega)⟩
theorem q_ClS {s : St} {dv : AV} {vs : List AV} (ho : OutR s dv vs) (hl : vs.length ≤ 1000000) : ∃ v t, acall R_ClS false [dv] s = some (v, t) ∧ OutR t v vs ∧ (∀ j off n cap z, v = .sl j off n cap z → s.next ≤ j) ∧ Keep s t := by
  obtain ⟨r, t, h1, h2, h3, h4⟩ := run_awp n_ClS (args := [dv]) (by simp [a41]) (Q := fun r t => OutR t r vs ∧ (∀ j off n cap z, r = .sl j off n cap z → (lowd s).next ≤ j) ∧ Keep (lowd s) t) (w_ClS (s := lowd s) (ho.keep ((keep_lowd s).chg []) (fun _ _ _ _ _ _ => by simp)) hl)
  rcases h2 with ⟨rfl, rfl⟩ | ⟨j, cap, rfl, h5⟩
  · exact ⟨.nils, s, acall_same h1 h4 rfl, .inl ⟨rfl, rfl⟩, fun _ _ _ _ _ e => by (cases e), .refl s⟩
  · obtain ⟨t', g1, g2, g3, g4⟩ := acall_new h1 (h4.chg []) (.inl rfl)
    exact ⟨_, t', g1, OutR.mono (t := t) (fun id b hb => by rw [g2]; exact hb) (.inr ⟨j, cap, rfl, h5⟩), h3, g4.keep⟩
theorem qF_ClS {s : St} {dv : AV} {vs : List AV} (ho : OutR s dv vs) (hl : vs.length ≤ 1000000) : ∃ v t, acallF R_ClS [dv] s = some (v, t) ∧ OutR t v vs ∧ (∀ j off n cap z, v = .sl j off n cap z → s.next ≤ j) ∧ Keep s t := by
  obtain ⟨v, t, h1, h2, h3, h4⟩ := q_ClS (ho.keep ((keep_lowd s).chg []) (fun _ _ _ _ _ _ => by simp)) hl
  obtain ⟨t', g1, g2, g3, g4⟩ := acallF_keep h1 h4
  exact ⟨v, t', g1, h2.mono fun id b hb => by rw [g2]; exact hb, h3, g4⟩
noncomputable def R_BCopy : Con := runFn (tb [(41, R_ClS)]) a29
theorem s_BCopy : SoundAt Try.prog 29 R_BCopy := run_sound (tb_sound (l := [(41, R_ClS)]) (by simpa using s_ClS)) mixed Try.func29 k29 c29
theorem n_BCopy : noNxtC a29.body = true := by kernel_rfl
theorem w_BCopy_nil {s : St}  : ∀ env : Env, elen env = a29.ntmps → (∀ i x_, [.nilp][i]? = some x_ → E env i = x_) → awp (tb [(41, R_ClS)]) a29.body (fun x e t => (∀ i, x ≠ .exit i) ∧ aresults e t a29.results = some (.nilp) ∧ Keep s t) env s := by
  intro env hlen ha
  have h0 : E env 0 = _ := ha 0 _ rfl
  have hlen : elen env = _ := hlen
  simp only [a29] at hlen
  unfold a29
  simp (config := {contextual := true, maxDischargeDepth := 12}) only [tb_at, h0, hlen, ↓bD0, ↓bD1, ↓bD2, ↓bD3, ↓bD4, ↓bD5, ↓bD6, bU0, bU1, bU2, bU3, bU4, bU5, bU6, bU7, bU8, bU9, bU10, bU11, bU12, bU13, forall_const, List.all_cons, List.all_nil, Option.map_some, List.map_cons, List.map_nil, ne_eq, implies_true, isNx, cs_dec, cs_not, cs_and, cs_or, cs_valid, eq_self, ↓wp_cond, ↓wp_loop, ↓reduceIte, reduceCtorEq, Nat.reduceEqDiff, Nat.reduceLT, Nat.reduceAdd, Nat.reduceMul, Int.ofNat_lt, Int.ofNat_le, exists_const, ae_app, ap_slc, Option.map_none, mkR_none, mkR_some, ar_look, ae_mset, ae_rng, ae_mkmap0, ar_ent, lookV_push, lookV_lowed, msetV_push, msetV_lowed, lt_put, same_put, sto_over, sto_lowed, cs_dead, Option.map_some, beq_self_eq_true, decide_true, cs_true, cs_false, aa_bsl, ↓sg_bsl, ap_nchk, nchkV_ptr, bin_np, bin_npn, bin_npx, bin_npnx, ap_mm, mmV_max, mmV_min, res3, ↓st_callf, aa_mksl, ae_copy, ap_slc3, slc3V_all, bin_nss, bin_nsn, aa_bsl]
theorem q_BCopy_nil (cl : Bool) {s : St}  : acall R_BCopy cl [.nilp] s = some (.nilp, s) := run_same n_BCopy (by simp [a29]) rfl (w_BCopy_nil (s := lowd s) )
theorem w_BCopy_ok {s : St} {id g : Nat} {dv : AV} {vs : List AV} {ls : List (List Nd)} (hb : BufR s id g dv vs ls) (hg : g + vs.length ≤ 1000000) : ∀ env : Env, elen env = a29.ntmps → (∀ i x_, [.ptr id 0][i]? = some x_ → E env i = x_) → awp (tb [(41, R_ClS)]) a29.body (fun x e t => (∀ i, x ≠ .exit i) ∧ ∃ r, aresults e t a29.results = some r ∧ (∃ id' dv', BufR t id' g dv' vs ls ∧ s.next ≤ id' ∧ (∀ j off n cap z, dv' = .sl j off n cap z → s.next ≤ j) ∧ r = .ptr id' 0) ∧ Chg [] s t ∧ (r.ground = false ∨ t.low < s.next)) env s := by
  intro env hlen ha
  have h0 : E env 0 = _ := ha 0 _ rfl
  have hlen : elen env = _ := hlen
  simp only [a29] at hlen
  unfold a29
  obtain ⟨l0, l1, lt0⟩ := row2_lod hb.1
  obtain ⟨v', t1, hcl, ho, hfr, hK1⟩ := qF_ClS (s := s.reserve 1) (hb.2.1.keep ((keep_reserve s 1).chg []) (fun _ _ _ _ _ _ => by simp)) (by omega)
  have hun : t1.get s.next = some .unborn := by rw [hK1.get s.next (by simp), St.get_reserve]; simp
  have hf0 := fstep_0 (a := .int .i64 0) (b := .nils) (v := .int .i64 (g : Int)) ⟨rfl, rfl⟩
  have hf1 := fstep_1 (a := .int .i64 (g : Int)) (b := .nils) ho.one
  have hbx := boxV_2 (a := .int .i64 (g : Int)) rfl ho.one.2
  simp (config := {contextual := true, maxDischargeDepth := 12}) only [tb_at, h0, hlen, l0, l1, lt0, hcl, hun, hf0, hf1, hbx, ↓bD0, ↓bD1, ↓bD2, ↓bD3, ↓bD4, ↓bD5, ↓bD6, bU0, bU1, bU2, bU3, bU4, bU5, bU6, bU7, bU8, bU9, bU10, bU11, bU12, bU13, forall_const, List.all_cons, List.all_nil, Option.map_some, List.map_cons, List.map_nil, ne_eq, implies_true, isNx, cs_dec, cs_not, cs_and, cs_or, cs_valid, eq_self, ↓wp_cond, ↓wp_loop, ↓reduceIte, reduceCtorEq, Nat.reduceEqDiff, Nat.reduceLT, Nat.reduceAdd, Nat.reduceMul, Int.ofNat_lt, Int.ofNat_le, exists_const, ae_app, ap_slc, Option.map_none, mkR_none, mkR_some, ar_look, ae_mset, ae_rng, ae_mkmap0, ar_ent, lookV_push, lookV_lowed, msetV_push, msetV_lowed, lt_put, same_put, sto_over, sto_lowed, cs_dead, Option.map_some, beq_self_eq_true, decide_true, cs_true, cs_false, aa_bsl, ↓sg_bsl, ap_nchk, nchkV_ptr, bin_np, bin_npn, bin_npx, bin_npnx, ap_mm, mmV_max, mmV_min, res3, ↓st_callf, aa_mksl, ae_copy, ap_slc3, slc3V_all, bin_nss, bin_nsn, aa_bsl]
  have hK : Keep s (t1.born s.next (.row [.int .i64 (g : Int), v'] true)) := ((keep_reserve s 1).trans hK1).born _ (Nat.le_refl _) (St.get_lt hun)
  have hch := Chg.born hun (.row [.int .i64 (g : Int), v'] true)
  refine ⟨_, rfl, ⟨s.next, v', ⟨born_self hun _, ho.keep hch (fun j off n cap z e => ?_), (hb.2.2.keep (hK.chg []) (.nil _))⟩, Nat.le_refl _, fun j off n cap z e => ?_, rfl⟩, hK.chg [], .inl rfl⟩
  · have := hfr j off n cap z e
    simp at this ⊢
    omega
  · have := hfr j off n cap z e
    simp at this
    omega
theorem q_BCopy {s : St} {id g : Nat} {dv : AV} {vs : List AV} {ls : List (List Nd)} (hb : BufR s id g dv vs ls) (hg : g + vs.length ≤ 1000000) : ∃ id' dv' t, acall R_BCopy false [.ptr id 0] s = some (.ptr id' 0, t) ∧ BufR t id' g dv' vs ls ∧ s.next ≤ id' ∧ (∀ j off n cap z, dv' = .sl j off n cap z → s.next ≤ j) ∧ Keep s t := by
  obtain ⟨r, t, h1, ⟨id', dv', h2, h3, h4, rfl⟩, h5⟩ := run_new n_BCopy (by simp [a29]) (Q := fun r t => ∃ id' dv', BufR t id' g dv' vs ls ∧ s.next ≤ id' ∧ (∀ j off n cap z, dv' = .sl j off n cap z → s.next ≤ j) ∧ r = .ptr id' 0) (fun r t t' hg hn hq => by
    obtain ⟨id', dv', q1, q2⟩ := hq
    exact ⟨id', dv', q1.mono fun id b hb => by rw [hg]; exact hb, q2⟩) (w_BCopy_ok (s := lowd s) hb.low hg)
  exact ⟨id', dv', t, h1, h2, h3, h4, h5.keep⟩

end Go.AM
end
/-
  The reference's buffer: Put, Between, From, Forget. Own work of this project; in part printed by a program of it.
-/
section
set_option linter.unusedVariables false
set_option linter.unusedSimpArgs false
set_option maxRecDepth 100000
set_option maxHeartbeats 8000000
namespace Go.AM
open Go Go.Proofs

variable {s t u : St}
def RefR (t : St) (id : Nat) (dv : AV) (vs : List AV) (ls : List (List Nd)) (g : Nat) : Prop := t.get id = some (.row [dv, .int .i64 (g : Int)] true) ∧ OutR t dv vs ∧ InR t vs ls
theorem RefR.keep {M : List Nat} (hc : Chg M t u) (ha : Apart t M) {id g : Nat} {dv : AV} {vs : List AV} {ls : List (List Nd)} (h : RefR t id dv vs ls g) (hid : id ∉ M) (hm : ∀ j off n cap z, dv = .sl j off n cap z → j ∉ M) : RefR u id dv vs ls g :=
  ⟨hc.blk h.1 hid, h.2.1.keep hc hm, h.2.2.keep hc ha⟩
theorem RefR.keep0 (hk : Keep t u) {id g : Nat} {dv : AV} {vs : List AV} {ls : List (List Nd)} (h : RefR t id dv vs ls g) : RefR u id dv vs ls g := h.keep (hk.chg []) (.nil t) (by simp) (fun _ _ _ _ _ _ => by simp)
theorem RefR.low {id g : Nat} {dv : AV} {vs : List AV} {ls : List (List Nd)} (h : RefR s id dv vs ls g) : RefR (lowd s) id dv vs ls g := h.keep0 (keep_lowd s)
theorem RefR.mono (hc : ∀ id b, t.get id = some b → u.get id = some b) {id g : Nat} {dv : AV} {vs : List AV} {ls : List (List Nd)} (h : RefR t id dv vs ls g) : RefR u id dv vs ls g := ⟨hc _ _ h.1, h.2.1.mono hc, h.2.2.mono hc⟩
theorem refJ_len (l : List Nd) : ∀ (m : List Nd), (refJ l m).length ≤ l.length + m.length := by
  intro m
  unfold refJ
  induction m generalizing l with
  | nil => simp
  | cons x m ih =>
    simp only [List.foldl_cons, List.length_cons]
    have := ih (jstep l x)
    have := jstep_len l x
    omega

def rbetP (g : Nat) (ls : List (List Nd)) (f l : Int) : List Nd × Int := if f < 1 ∨ l < f then ([], 2) else if f ≤ (g : Int) ∨ (ls.length : Int) < l then ([], 9) else (((ls.drop (f - 1).toNat).take (l.toNat - (f - 1).toNat)).foldl refJ [], 0)
theorem fold_len (a : List Nd) : ∀ (ls : List (List Nd)), (ls.foldl refJ a).length ≤ a.length + ls.flatten.length := by
  intro ls
  induction ls generalizing a with
  | nil => simp
  | cons l ls ih =>
    simp only [List.foldl_cons, List.flatten_cons, List.length_append]
    have := ih (refJ a l)
    have := refJ_len a l
    omega
theorem wrap_in {x : Int} (h1 : -4611686018427387904 ≤ x) (h2 : x ≤ 4611686018427387904) : IntKind.i64.wrap x = x := by
  simp only [IntKind.wrap, IntKind.signed, IntKind.bits]
  simp
  omega
noncomputable def R_RBetween : Con := runFn (tb [(33, conF ndC (pLL ndC ndC gRJoin))]) a11
theorem s_RBetween : SoundAt Try.prog 11 R_RBetween := run_sound (tb_sound (l := [(33, conF ndC (pLL ndC ndC gRJoin))]) (by simpa using s_RJoin)) mixed Try.func11 k11 c11
theorem n_RBetween : noNxtC a11.body = true := by kernel_rfl
theorem w_RBetween {s : St} {id g : Nat} {dv : AV} {vs : List AV} {ls : List (List Nd)} (hb : RefR s id dv vs ls g) (hg : g ≤ vs.length) (hv1 : vs.length ≤ 1000000) (f l : Int) (hfl : ls.flatten.length ≤ 10000) : ∀ env : Env, elen env = a11.ntmps → (∀ i x_, [.ptr id 0, .int .i64 f, .int .i64 l][i]? = some x_ → E env i = x_) → awp (tb [(33, conF ndC (pLL ndC ndC gRJoin))]) a11.body (fun x e t => (∀ i, x ≠ .exit i) ∧ Keep s t ∧ ∃ v, aresults e t a11.results = some (.tup [v, .int .i64 (rbetP g ls f l).2]) ∧ Own ndC s t v (rbetP g ls f l).1) env s := by
  intro env hlen ha
  have h0 : E env 0 = _ := ha 0 _ rfl
  have h1 : E env 1 = _ := ha 1 _ rfl
  have h2 : E env 2 = _ := ha 2 _ rfl
  have hlen : elen env = _ := hlen
  simp only [a11] at hlen
  unfold a11
  obtain ⟨l0, l1, lt0⟩ := row2_lod hb.1
  have lL := hb.2.1.lenV
  have hn := hb.2.2.len
  by_cases c1 : f < 1 ∨ l < f
  · have hz : (decide (f < 1) || decide (l < f)) = true := by simpa using c1
    have hP : rbetP g ls f l = ([], 2) := by unfold rbetP; rw [if_pos c1]
    rw [hP]
    simp (config := {contextual := true, maxDischargeDepth := 12}) only [tb_at, h0, h1, h2, hlen, hz, ↓bD0, ↓bD1, ↓bD2, ↓bD3, ↓bD4, ↓bD5, ↓bD6, bU0, bU1, bU2, bU3, bU4, bU5, bU6, bU7, bU8, bU9, bU10, bU11, bU12, bU13, forall_const, List.all_cons, List.all_nil, Option.map_some, List.map_cons, List.map_nil, ne_eq, implies_true, isNx, cs_dec, cs_not, cs_and, cs_or, cs_valid, eq_self, ↓wp_cond, ↓wp_loop, ↓reduceIte, reduceCtorEq, Nat.reduceEqDiff, Nat.reduceLT, Nat.reduceAdd, Nat.reduceMul, Int.ofNat_lt, Int.ofNat_le, exists_const, ae_app, ap_slc, Option.map_none, mkR_none, mkR_some, ar_look, ae_mset, ae_rng, ae_mkmap0, ar_ent, lookV_push, lookV_lowed, msetV_push, msetV_lowed, lt_put, same_put, sto_over, sto_lowed, cs_dead, Option.map_some, beq_self_eq_true, decide_true, cs_true, cs_false, aa_bsl, ↓sg_bsl, ap_nchk, nchkV_ptr, bin_np, bin_npn, bin_npx, bin_npnx, ap_mm, mmV_max, mmV_min, res3, ↓st_callf, aa_mksl, ae_copy, ap_slc3, slc3V_all, bin_nss, bin_nsn, aa_bsl]
    exact ⟨_, rfl, .nil _ _ _⟩
  have hz : (decide (f < 1) || decide (l < f)) = false := by simpa using c1
  by_cases c2 : f ≤ (g : Int) ∨ (vs.length : Int) < l
  · have hz2 : (decide (f ≤ (g : Int)) || decide ((vs.length : Int) < l)) = true := by simpa using c2
    have hP : rbetP g ls f l = ([], 9) := by unfold rbetP; rw [if_neg c1, if_pos (by rw [← hn]; exact c2)]
    rw [hP]
    simp (config := {contextual := true, maxDischargeDepth := 12}) only [tb_at, h0, h1, h2, hlen, hz, l0, l1, lL, hz2, ↓bD0, ↓bD1, ↓bD2, ↓bD3, ↓bD4, ↓bD5, ↓bD6, bU0, bU1, bU2, bU3, bU4, bU5, bU6, bU7, bU8, bU9, bU10, bU11, bU12, bU13, forall_const, List.all_cons, List.all_nil, Option.map_some, List.map_cons, List.map_nil, ne_eq, implies_true, isNx, cs_dec, cs_not, cs_and, cs_or, cs_valid, eq_self, ↓wp_cond, ↓wp_loop, ↓reduceIte, reduceCtorEq, Nat.reduceEqDiff, Nat.reduceLT, Nat.reduceAdd, Nat.reduceMul, Int.ofNat_lt, Int.ofNat_le, exists_const, ae_app, ap_slc, Option.map_none, mkR_none, mkR_some, ar_look, ae_mset, ae_rng, ae_mkmap0, ar_ent, lookV_push, lookV_lowed, msetV_push, msetV_lowed, lt_put, same_put, sto_over, sto_lowed, cs_dead, Option.map_some, beq_self_eq_true, decide_true, cs_true, cs_false, aa_bsl, ↓sg_bsl, ap_nchk, nchkV_ptr, bin_np, bin_npn, bin_npx, bin_npnx, ap_mm, mmV_max, mmV_min, res3, ↓st_callf, aa_mksl, ae_copy, ap_slc3, slc3V_all, bin_nss, bin_nsn, aa_bsl]
    exact ⟨_, rfl, .nil _ _ _⟩
  have hz2 : (decide (f ≤ (g : Int)) || decide ((vs.length : Int) < l)) = false := by simpa using c2
  have hP : rbetP g ls f l = (((ls.drop (f - 1).toNat).take (l.toNat - (f - 1).toNat)).foldl refJ [], 0) := by unfold rbetP; rw [if_neg c1, if_neg (by rw [← hn]; exact c2)]
  rw [hP]
  obtain ⟨a, ha'⟩ : ∃ a : Nat, (a : Int) = f - 1 := ⟨(f - 1).toNat, by omega⟩
  obtain ⟨b, hb'⟩ : ∃ b : Nat, (b : Int) = l := ⟨l.toNat, by omega⟩
  rw [← ha', ← hb', Int.toNat_natCast, Int.toNat_natCast]
  have hrd := out_rdLL hb.2.1 hb.2.2
  have hab : a + 1 ≤ b := by omega
  have hbn : b ≤ ls.length := by omega
  simp (config := {contextual := true, maxDischargeDepth := 12}) only [tb_at, h0, h1, h2, hlen, hz, l0, l1, lL, hz2, ↓bD0, ↓bD1, ↓bD2, ↓bD3, ↓bD4, ↓bD5, ↓bD6, bU0, bU1, bU2, bU3, bU4, bU5, bU6, bU7, bU8, bU9, bU10, bU11, bU12, bU13, forall_const, List.all_cons, List.all_nil, Option.map_some, List.map_cons, List.map_nil, ne_eq, implies_true, isNx, cs_dec, cs_not, cs_and, cs_or, cs_valid, eq_self, ↓wp_cond, ↓wp_loop, ↓reduceIte, reduceCtorEq, Nat.reduceEqDiff, Nat.reduceLT, Nat.reduceAdd, Nat.reduceMul, Int.ofNat_lt, Int.ofNat_le, exists_const, ae_app, ap_slc, Option.map_none, mkR_none, mkR_some, ar_look, ae_mset, ae_rng, ae_mkmap0, ar_ent, lookV_push, lookV_lowed, msetV_push, msetV_lowed, lt_put, same_put, sto_over, sto_lowed, cs_dead, Option.map_some, beq_self_eq_true, decide_true, cs_true, cs_false, aa_bsl, ↓sg_bsl, ap_nchk, nchkV_ptr, bin_np, bin_npn, bin_npx, bin_npnx, ap_mm, mmV_max, mmV_min, res3, ↓st_callf, aa_mksl, ae_copy, ap_slc3, slc3V_all, bin_nss, bin_nsn, aa_bsl]
  obtain ⟨I, hI⟩ : ∃ I : Nat → Env → St → Prop, ∀ n e t, I n e t = (Keep s t ∧ ∃ i : Nat, a + i + n = b ∧ elen e = 49 ∧ E e 0 = .ptr id 0 ∧ E e 2 = .int .i64 l ∧ E e 9 = .int .i64 ((a + i + 1 : Nat) : Int) ∧ Own ndC s t (E e 8) (((ls.drop a).take i).foldl refJ [])) := ⟨fun n e t => (Keep s t ∧ ∃ i : Nat, a + i + n = b ∧ elen e = 49 ∧ E e 0 = .ptr id 0 ∧ E e 2 = .int .i64 l ∧ E e 9 = .int .i64 ((a + i + 1 : Nat) : Int) ∧ Own ndC s t (E e 8) (((ls.drop a).take i).foldl refJ [])), fun _ _ _ => rfl⟩
  refine lwp_inv I (n := b - a) ?_ ?_
  · rw [hI]
    refine ⟨.refl s, 0, by omega, by simp only [E_pne, E_psame, elen_put, Nat.reduceEqDiff, ne_eq, not_false_eq_true, Nat.reduceLT, hlen], by simp only [E_pne, E_psame, elen_put, Nat.reduceEqDiff, ne_eq, not_false_eq_true, Nat.reduceLT, h0], by simp only [E_pne, E_psame, elen_put, Nat.reduceEqDiff, ne_eq, not_false_eq_true, Nat.reduceLT, h2], ?_, ?_⟩
    · simp only [E_pne, E_psame, elen_put, Nat.reduceEqDiff, ne_eq, not_false_eq_true, Nat.reduceLT, hlen, h1]
      congr 1
      omega
    · simp only [E_pne, E_psame, elen_put, Nat.reduceEqDiff, ne_eq, not_false_eq_true, Nat.reduceLT, hlen]
      exact .nil _ _ _
  intro n e t hi
  rw [hI] at hi
  obtain ⟨hK, i, hni, he, e0, e2, e9, hO⟩ := hi
  obtain ⟨m0, m1, mlt⟩ := row2_lod (hK.blk hb.1)
  by_cases hlt : a + i < b
  · have hz3 : (((a + i + 1 : Nat) : Int) ≤ l) = True := eq_true (by omega)
    have hw1 := wrap_sub1 (n := a + i) (by omega)
    have hw2 := wrap_add1 (n := a + i + 1) (by omega)
    obtain ⟨x, hx⟩ := getsome (l := ls) (i := a + i) (by omega)
    obtain ⟨w, i1, hxx, hrw⟩ := rdLL_at hrd hx
    obtain ⟨a1, al⟩ := hxx t hK
    have hxl : ((ls.drop a).take i).flatten.length + x.length ≤ 10000 := by
      have h1 := flat_take (ls.drop a) (i + 1)
      have h2 : (ls.drop a).flatten.length ≤ ls.flatten.length := by
        conv => rhs; rw [← List.take_append_drop a ls, List.flatten_append, List.length_append]
        omega
      have h3 : (ls.drop a)[i]? = some x := by rw [List.getElem?_drop]; exact hx
      rw [flat_step h3, List.length_append] at h1
      omega
    have hfo := fold_len [] ((ls.drop a).take i)
    simp only [List.length_nil, Nat.zero_add] at hfo
    have hgr : gRJoin (((ls.drop a).take i).foldl refJ []) x = some (refJ (((ls.drop a).take i).foldl refJ []) x, none) := by
      unfold gRJoin
      rw [if_pos ⟨by omega, by omega⟩]
    obtain ⟨u, t2, hc, hK2, hO2⟩ := fresh_LL (D := ndC) (f := gRJoin) hO.read (hK.read hrw) (by unfold lim; omega) (by unfold lim; omega) hgr (fun x hx => by cases hx)
    rw [mkR_none] at hc
    simp (config := {contextual := true, maxDischargeDepth := 12}) only [tb_at, he, e0, e2, e9, hz3, m0, m1, hw1, i1, a1, al, hc, hw2, ↓bD0, ↓bD1, ↓bD2, ↓bD3, ↓bD4, ↓bD5, ↓bD6, bU0, bU1, bU2, bU3, bU4, bU5, bU6, bU7, bU8, bU9, bU10, bU11, bU12, bU13, forall_const, List.all_cons, List.all_nil, Option.map_some, List.map_cons, List.map_nil, ne_eq, implies_true, isNx, cs_dec, cs_not, cs_and, cs_or, cs_valid, eq_self, ↓wp_cond, ↓wp_loop, ↓reduceIte, reduceCtorEq, Nat.reduceEqDiff, Nat.reduceLT, Nat.reduceAdd, Nat.reduceMul, Int.ofNat_lt, Int.ofNat_le, exists_const, ae_app, ap_slc, Option.map_none, mkR_none, mkR_some, ar_look, ae_mset, ae_rng, ae_mkmap0, ar_ent, lookV_push, lookV_lowed, msetV_push, msetV_lowed, lt_put, same_put, sto_over, sto_lowed, cs_dead, Option.map_some, beq_self_eq_true, decide_true, cs_true, cs_false, aa_bsl, ↓sg_bsl, ap_nchk, nchkV_ptr, bin_np, bin_npn, bin_npx, bin_npnx, ap_mm, mmV_max, mmV_min, res3, ↓st_callf, aa_mksl, ae_copy, ap_slc3, slc3V_all, bin_nss, bin_nsn, aa_bsl]
    refine ⟨n - 1, by omega, ?_⟩
    rw [hI]
    refine ⟨hK.trans hK2, i + 1, by omega, by simp only [E_pne, E_psame, elen_put, Nat.reduceEqDiff, ne_eq, not_false_eq_true, Nat.reduceLT, he], by simp only [E_pne, E_psame, elen_put, Nat.reduceEqDiff, ne_eq, not_false_eq_true, Nat.reduceLT, e0], by simp only [E_pne, E_psame, elen_put, Nat.reduceEqDiff, ne_eq, not_false_eq_true, Nat.reduceLT, e2], by simp only [E_pne, E_psame, elen_put, Nat.reduceEqDiff, ne_eq, not_false_eq_true, Nat.reduceLT, he]; rfl, ?_⟩
    simp only [E_pne, E_psame, elen_put, Nat.reduceEqDiff, ne_eq, not_false_eq_true, Nat.reduceLT, he]
    have h3 : (ls.drop a)[i]? = some x := by rw [List.getElem?_drop]; exact hx
    rw [List.take_add_one, h3]
    simp only [Option.toList_some, List.foldl_append, List.foldl_cons, List.foldl_nil]
    exact hO2.from hK.next
  · have hz3 : (((a + i + 1 : Nat) : Int) ≤ l) = False := eq_false (by omega)
    simp (config := {contextual := true, maxDischargeDepth := 12}) only [tb_at, he, e0, e2, e9, hz3, ↓bD0, ↓bD1, ↓bD2, ↓bD3, ↓bD4, ↓bD5, ↓bD6, bU0, bU1, bU2, bU3, bU4, bU5, bU6, bU7, bU8, bU9, bU10, bU11, bU12, bU13, forall_const, List.all_cons, List.all_nil, Option.map_some, List.map_cons, List.map_nil, ne_eq, implies_true, isNx, cs_dec, cs_not, cs_and, cs_or, cs_valid, eq_self, ↓wp_cond, ↓wp_loop, ↓reduceIte, reduceCtorEq, Nat.reduceEqDiff, Nat.reduceLT, Nat.reduceAdd, Nat.reduceMul, Int.ofNat_lt, Int.ofNat_le, exists_const, ae_app, ap_slc, Option.map_none, mkR_none, mkR_some, ar_look, ae_mset, ae_rng, ae_mkmap0, ar_ent, lookV_push, lookV_lowed, msetV_push, msetV_lowed, lt_put, same_put, sto_over, sto_lowed, cs_dead, Option.map_some, beq_self_eq_true, decide_true, cs_true, cs_false, aa_bsl, ↓sg_bsl, ap_nchk, nchkV_ptr, bin_np, bin_npn, bin_npx, bin_npnx, ap_mm, mmV_max, mmV_min, res3, ↓st_callf, aa_mksl, ae_copy, ap_slc3, slc3V_all, bin_nss, bin_nsn, aa_bsl]
    refine ⟨hK, _, rfl, ?_⟩
    have : b - a = i := by omega
    rw [this]
    exact hO
theorem q_RBetween {s : St} {id g : Nat} {dv : AV} {vs : List AV} {ls : List (List Nd)} (hb : RefR s id dv vs ls g) (hg : g ≤ vs.length) (hv1 : vs.length ≤ 1000000) (f l : Int) (hfl : ls.flatten.length ≤ 10000) : ∃ v t, acall R_RBetween false [.ptr id 0, .int .i64 f, .int .i64 l] s = some (.tup [v, .int .i64 (rbetP g ls f l).2], t) ∧ Own ndC s t v ((rbetP g ls f l).1) ∧ Keep s t := run_fresh n_RBetween (by simp [a11]) (fun v => .tup [v, .int .i64 (rbetP g ls f l).2]) (fun _ _ _ _ _ => rfl) (w_RBetween (s := lowd s) hb.low hg hv1 f l hfl)

def rfrP (g : Nat) (ls : List (List Nd)) (n : Int) : List Nd × Int × Int := if n < 1 then ([], 0, 2) else if n ≤ (g : Int) ∨ (ls.length : Int) < n then ([], 0, 9) else ((rbetP g ls n (ls.length : Int)).1, (ls.length : Int), (rbetP g ls n (ls.length : Int)).2)
noncomputable def R_RFrom : Con := runFn (tb [(11, R_RBetween)]) a13
theorem s_RFrom : SoundAt Try.prog 13 R_RFrom := run_sound (tb_sound (l := [(11, R_RBetween)]) (by simpa using s_RBetween)) mixed Try.func13 k13 c13
theorem n_RFrom : noNxtC a13.body = true := by kernel_rfl
theorem w_RFrom {s : St} {id g : Nat} {dv : AV} {vs : List AV} {ls : List (List Nd)} (hb : RefR s id dv vs ls g) (hg : g ≤ vs.length) (hv1 : vs.length ≤ 1000000) (n : Int) (hfl : ls.flatten.length ≤ 10000) : ∀ env : Env, elen env = a13.ntmps → (∀ i x_, [.ptr id 0, .int .i64 n][i]? = some x_ → E env i = x_) → awp (tb [(11, R_RBetween)]) a13.body (fun x e t => (∀ i, x ≠ .exit i) ∧ Keep s t ∧ ∃ v, aresults e t a13.results = some (.tup [v, .int .i64 (rfrP g ls n).2.1, .int .i64 (rfrP g ls n).2.2]) ∧ Own ndC s t v (rfrP g ls n).1) env s := by
  intro env hlen ha
  have h0 : E env 0 = _ := ha 0 _ rfl
  have h1 : E env 1 = _ := ha 1 _ rfl
  have hlen : elen env = _ := hlen
  simp only [a13] at hlen
  unfold a13
  obtain ⟨l0, l1, lt0⟩ := row2_lod hb.1
  have lL := hb.2.1.lenV
  have hn := hb.2.2.len
  by_cases c1 : n < 1
  · have hz : (n < 1) = True := eq_true c1
    have hP : rfrP g ls n = ([], 0, 2) := by unfold rfrP; rw [if_pos c1]
    rw [hP]
    simp (config := {contextual := true, maxDischargeDepth := 12}) only [tb_at, h0, h1, hlen, hz, ↓bD0, ↓bD1, ↓bD2, ↓bD3, ↓bD4, ↓bD5, ↓bD6, bU0, bU1, bU2, bU3, bU4, bU5, bU6, bU7, bU8, bU9, bU10, bU11, bU12, bU13, forall_const, List.all_cons, List.all_nil, Option.map_some, List.map_cons, List.map_nil, ne_eq, implies_true, isNx, cs_dec, cs_not, cs_and, cs_or, cs_valid, eq_self, ↓wp_cond, ↓wp_loop, ↓reduceIte, reduceCtorEq, Nat.reduceEqDiff, Nat.reduceLT, Nat.reduceAdd, Nat.reduceMul, Int.ofNat_lt, Int.ofNat_le, exists_const, ae_app, ap_slc, Option.map_none, mkR_none, mkR_some, ar_look, ae_mset, ae_rng, ae_mkmap0, ar_ent, lookV_push, lookV_lowed, msetV_push, msetV_lowed, lt_put, same_put, sto_over, sto_lowed, cs_dead, Option.map_some, beq_self_eq_true, decide_true, cs_true, cs_false, aa_bsl, ↓sg_bsl, ap_nchk, nchkV_ptr, bin_np, bin_npn, bin_npx, bin_npnx, ap_mm, mmV_max, mmV_min, res3, ↓st_callf, aa_mksl, ae_copy, ap_slc3, slc3V_all, bin_nss, bin_nsn, aa_bsl]
    exact ⟨_, rfl, .nil _ _ _⟩
  have hz : (n < 1) = False := eq_false c1
  by_cases c2 : n ≤ (g : Int) ∨ (vs.length : Int) < n
  · have hz2 : (decide (n ≤ (g : Int)) || decide ((vs.length : Int) < n)) = true := by simpa using c2
    have hP : rfrP g ls n = ([], 0, 9) := by unfold rfrP; rw [if_neg c1, if_pos (by rw [← hn]; exact c2)]
    rw [hP]
    simp (config := {contextual := true, maxDischargeDepth := 12}) only [tb_at, h0, h1, hlen, hz, l0, l1, lL, hz2, ↓bD0, ↓bD1, ↓bD2, ↓bD3, ↓bD4, ↓bD5, ↓bD6, bU0, bU1, bU2, bU3, bU4, bU5, bU6, bU7, bU8, bU9, bU10, bU11, bU12, bU13, forall_const, List.all_cons, List.all_nil, Option.map_some, List.map_cons, List.map_nil, ne_eq, implies_true, isNx, cs_dec, cs_not, cs_and, cs_or, cs_valid, eq_self, ↓wp_cond, ↓wp_loop, ↓reduceIte, reduceCtorEq, Nat.reduceEqDiff, Nat.reduceLT, Nat.reduceAdd, Nat.reduceMul, Int.ofNat_lt, Int.ofNat_le, exists_const, ae_app, ap_slc, Option.map_none, mkR_none, mkR_some, ar_look, ae_mset, ae_rng, ae_mkmap0, ar_ent, lookV_push, lookV_lowed, msetV_push, msetV_lowed, lt_put, same_put, sto_over, sto_lowed, cs_dead, Option.map_some, beq_self_eq_true, decide_true, cs_true, cs_false, aa_bsl, ↓sg_bsl, ap_nchk, nchkV_ptr, bin_np, bin_npn, bin_npx, bin_npnx, ap_mm, mmV_max, mmV_min, res3, ↓st_callf, aa_mksl, ae_copy, ap_slc3, slc3V_all, bin_nss, bin_nsn, aa_bsl]
    exact ⟨_, rfl, .nil _ _ _⟩
  have hz2 : (decide (n ≤ (g : Int)) || decide ((vs.length : Int) < n)) = false := by simpa using c2
  have hP : rfrP g ls n = ((rbetP g ls n (vs.length : Int)).1, (vs.length : Int), (rbetP g ls n (vs.length : Int)).2) := by unfold rfrP; rw [if_neg c1, ← hn, if_neg c2]
  rw [hP]
  obtain ⟨v, t, hc, hO, hK⟩ := q_RBetween hb hg hv1 n (vs.length : Int) hfl
  obtain ⟨m0, m1, mlt⟩ := row2_lod (hK.blk hb.1)
  simp (config := {contextual := true, maxDischargeDepth := 12}) only [tb_at, h0, h1, hlen, hz, l0, l1, lL, hz2, hc, m0, m1, ↓bD0, ↓bD1, ↓bD2, ↓bD3, ↓bD4, ↓bD5, ↓bD6, bU0, bU1, bU2, bU3, bU4, bU5, bU6, bU7, bU8, bU9, bU10, bU11, bU12, bU13, forall_const, List.all_cons, List.all_nil, Option.map_some, List.map_cons, List.map_nil, ne_eq, implies_true, isNx, cs_dec, cs_not, cs_and, cs_or, cs_valid, eq_self, ↓wp_cond, ↓wp_loop, ↓reduceIte, reduceCtorEq, Nat.reduceEqDiff, Nat.reduceLT, Nat.reduceAdd, Nat.reduceMul, Int.ofNat_lt, Int.ofNat_le, exists_const, ae_app, ap_slc, Option.map_none, mkR_none, mkR_some, ar_look, ae_mset, ae_rng, ae_mkmap0, ar_ent, lookV_push, lookV_lowed, msetV_push, msetV_lowed, lt_put, same_put, sto_over, sto_lowed, cs_dead, Option.map_some, beq_self_eq_true, decide_true, cs_true, cs_false, aa_bsl, ↓sg_bsl, ap_nchk, nchkV_ptr, bin_np, bin_npn, bin_npx, bin_npnx, ap_mm, mmV_max, mmV_min, res3, ↓st_callf, aa_mksl, ae_copy, ap_slc3, slc3V_all, bin_nss, bin_nsn, aa_bsl]
  exact ⟨hK, _, rfl, hO⟩
theorem q_RFrom {s : St} {id g : Nat} {dv : AV} {vs : List AV} {ls : List (List Nd)} (hb : RefR s id dv vs ls g) (hg : g ≤ vs.length) (hv1 : vs.length ≤ 1000000) (n : Int) (hfl : ls.flatten.length ≤ 10000) : ∃ v t, acall R_RFrom false [.ptr id 0, .int .i64 n] s = some (.tup [v, .int .i64 (rfrP g ls n).2.1, .int .i64 (rfrP g ls n).2.2], t) ∧ Own ndC s t v ((rfrP g ls n).1) ∧ Keep s t := run_fresh n_RFrom (by simp [a13]) (fun v => .tup [v, .int .i64 (rfrP g ls n).2.1, .int .i64 (rfrP g ls n).2.2]) (fun _ _ _ _ _ => rfl) (w_RFrom (s := lowd s) hb.low hg hv1 n hfl)

def rfgP (n : Nat) (u : Int) : Option Int := if u < 0 then some 2 else if (n : Int) < u then some 3 else none
noncomputable def R_RForget : Con := runFn (tb []) a15
theorem s_RForget : SoundAt Try.prog 15 R_RForget := run_sound (tb_sound (l := []) (by simp)) mixed Try.func15 k15 c15
theorem n_RForget : noNxtC a15.body = true := by kernel_rfl
theorem w_RForget_err {s : St} {id g : Nat} {dv : AV} {vs : List AV} {ls : List (List Nd)} (hb : RefR s id dv vs ls g) (hg : g ≤ vs.length) (hv1 : vs.length ≤ 1000000) {u : Int} {er : Int} (he : rfgP vs.length u = some er) : ∀ env : Env, elen env = a15.ntmps → (∀ i x_, [.ptr id 0, .int .i64 u][i]? = some x_ → E env i = x_) → awp (tb []) a15.body (fun x e t => (∀ i, x ≠ .exit i) ∧ aresults e t a15.results = some (.tup [.int .i64 0, .int .i64 er]) ∧ Keep s t) env s := by
  intro env hlen ha
  have h0 : E env 0 = _ := ha 0 _ rfl
  have h1 : E env 1 = _ := ha 1 _ rfl
  have hlen : elen env = _ := hlen
  simp only [a15] at hlen
  unfold a15
  obtain ⟨l0, l1, lt0⟩ := row2_lod hb.1
  have lL := hb.2.1.lenV
  by_cases c1 : u < 0
  · have hz := eq_true c1
    unfold rfgP at he
    rw [if_pos c1] at he
    injection he with he
    subst he
    simp (config := {contextual := true, maxDischargeDepth := 12}) only [tb_at, h0, h1, hlen, hz, ↓bD0, ↓bD1, ↓bD2, ↓bD3, ↓bD4, ↓bD5, ↓bD6, bU0, bU1, bU2, bU3, bU4, bU5, bU6, bU7, bU8, bU9, bU10, bU11, bU12, bU13, forall_const, List.all_cons, List.all_nil, Option.map_some, List.map_cons, List.map_nil, ne_eq, implies_true, isNx, cs_dec, cs_not, cs_and, cs_or, cs_valid, eq_self, ↓wp_cond, ↓wp_loop, ↓reduceIte, reduceCtorEq, Nat.reduceEqDiff, Nat.reduceLT, Nat.reduceAdd, Nat.reduceMul, Int.ofNat_lt, Int.ofNat_le, exists_const, ae_app, ap_slc, Option.map_none, mkR_none, mkR_some, ar_look, ae_mset, ae_rng, ae_mkmap0, ar_ent, lookV_push, lookV_lowed, msetV_push, msetV_lowed, lt_put, same_put, sto_over, sto_lowed, cs_dead, Option.map_some, beq_self_eq_true, decide_true, cs_true, cs_false, aa_bsl, ↓sg_bsl, ap_nchk, nchkV_ptr, bin_np, bin_npn, bin_npx, bin_npnx, ap_mm, mmV_max, mmV_min, res3, ↓st_callf, aa_mksl, ae_copy, ap_slc3, slc3V_all, bin_nss, bin_nsn, aa_bsl]
  · have hz := eq_false c1
    unfold rfgP at he
    rw [if_neg c1] at he
    by_cases c2 : (vs.length : Int) < u
    · have hz2 := eq_true c2
      rw [if_pos c2] at he
      injection he with he
      subst he
      simp (config := {contextual := true, maxDischargeDepth := 12}) only [tb_at, h0, h1, hlen, l0, l1, lL, hz, hz2, ↓bD0, ↓bD1, ↓bD2, ↓bD3, ↓bD4, ↓bD5, ↓bD6, bU0, bU1, bU2, bU3, bU4, bU5, bU6, bU7, bU8, bU9, bU10, bU11, bU12, bU13, forall_const, List.all_cons, List.all_nil, Option.map_some, List.map_cons, List.map_nil, ne_eq, implies_true, isNx, cs_dec, cs_not, cs_and, cs_or, cs_valid, eq_self, ↓wp_cond, ↓wp_loop, ↓reduceIte, reduceCtorEq, Nat.reduceEqDiff, Nat.reduceLT, Nat.reduceAdd, Nat.reduceMul, Int.ofNat_lt, Int.ofNat_le, exists_const, ae_app, ap_slc, Option.map_none, mkR_none, mkR_some, ar_look, ae_mset, ae_rng, ae_mkmap0, ar_ent, lookV_push, lookV_lowed, msetV_push, msetV_lowed, lt_put, same_put, sto_over, sto_lowed, cs_dead, Option.map_some, beq_self_eq_true, decide_true, cs_true, cs_false, aa_bsl, ↓sg_bsl, ap_nchk, nchkV_ptr, bin_np, bin_npn, bin_npx, bin_npnx, ap_mm, mmV_max, mmV_min, res3, ↓st_callf, aa_mksl, ae_copy, ap_slc3, slc3V_all, bin_nss, bin_nsn, aa_bsl]
    · rw [if_neg c2] at he
      cases he
theorem q_RForget_err (cl : Bool) {s : St} {id g : Nat} {dv : AV} {vs : List AV} {ls : List (List Nd)} (hb : RefR s id dv vs ls g) (hg : g ≤ vs.length) (hv1 : vs.length ≤ 1000000) {u : Int} {er : Int} (he : rfgP vs.length u = some er) : acall R_RForget cl [.ptr id 0, .int .i64 u] s = some (.tup [.int .i64 0, .int .i64 er], s) := run_same n_RForget (by simp [a15]) rfl (w_RForget_err (s := lowd s) hb.low hg hv1 he)
theorem w_RForget_ok {s : St} {id g : Nat} {dv : AV} {vs : List AV} {ls : List (List Nd)} (hb : RefR s id dv vs ls g) (hg : g ≤ vs.length) (hv1 : vs.length ≤ 1000000) {u : Int} (h0u : 0 ≤ u) (hu : u ≤ (vs.length : Int)) : ∀ env : Env, elen env = a15.ntmps → (∀ i x_, [.ptr id 0, .int .i64 u][i]? = some x_ → E env i = x_) → awp (tb []) a15.body (fun x e t => (∀ i, x ≠ .exit i) ∧ ∃ r, aresults e t a15.results = some r ∧ (r = .tup [.int .i64 (((u - (g : Int)).toNat : Nat) : Int), .int .i64 0] ∧ RefR t id dv vs ls (g + (u - (g : Int)).toNat)) ∧ Chg [id] s t ∧ (r.ground = false ∨ t.low < s.next)) env s := by
  intro env hlen ha
  have h0 : E env 0 = _ := ha 0 _ rfl
  have h1 : E env 1 = _ := ha 1 _ rfl
  have hlen : elen env = _ := hlen
  simp only [a15] at hlen
  unfold a15
  obtain ⟨l0, l1, lt0⟩ := row2_lod hb.1
  have lL := hb.2.1.lenV
  have hz : (u < 0) = False := eq_false (by omega)
  have hz2 : ((vs.length : Int) < u) = False := eq_false (by omega)
  obtain ⟨a, ha'⟩ : ∃ a : Nat, a = (u - (g : Int)).toNat := ⟨_, rfl⟩
  rw [← ha']
  have w1 : IntKind.i64.wrap (u - (g : Int)) = u - (g : Int) := wrap_in (by omega) (by omega)
  have hmax : max 0 (u - (g : Int)) = (a : Int) := by omega
  have w3 : IntKind.i64.wrap ((g : Int) + (a : Int)) = ((g + a : Nat) : Int) := by
    rw [← Int.natCast_add]
    exact wrap_nat (by omega)
  have hs1 := (row2_sto hb.1 (x := .int .i64 ((g + a : Nat) : Int)) rfl rfl).2
  have hlid : id < s.next := lt0
  simp (config := {contextual := true, maxDischargeDepth := 12}) only [tb_at, h0, h1, hlen, hz, hz2, l0, l1, lL, lt0, w1, hmax, w3, hs1, ↓bD0, ↓bD1, ↓bD2, ↓bD3, ↓bD4, ↓bD5, ↓bD6, bU0, bU1, bU2, bU3, bU4, bU5, bU6, bU7, bU8, bU9, bU10, bU11, bU12, bU13, forall_const, List.all_cons, List.all_nil, Option.map_some, List.map_cons, List.map_nil, ne_eq, implies_true, isNx, cs_dec, cs_not, cs_and, cs_or, cs_valid, eq_self, ↓wp_cond, ↓wp_loop, ↓reduceIte, reduceCtorEq, Nat.reduceEqDiff, Nat.reduceLT, Nat.reduceAdd, Nat.reduceMul, Int.ofNat_lt, Int.ofNat_le, exists_const, ae_app, ap_slc, Option.map_none, mkR_none, mkR_some, ar_look, ae_mset, ae_rng, ae_mkmap0, ar_ent, lookV_push, lookV_lowed, msetV_push, msetV_lowed, lt_put, same_put, sto_over, sto_lowed, cs_dead, Option.map_some, beq_self_eq_true, decide_true, cs_true, cs_false, aa_bsl, ↓sg_bsl, ap_nchk, nchkV_ptr, bin_np, bin_npn, bin_npx, bin_npnx, ap_mm, mmV_max, mmV_min, res3, ↓st_callf, aa_mksl, ae_copy, ap_slc3, slc3V_all, bin_nss, bin_nsn, aa_bsl]
  have hC : Chg [id] s (s.put id (.row [dv, .int .i64 ((g + a : Nat) : Int)] true)) := (Chg.refl [id] s).put _ (.inl (by simp)) hlid
  refine ⟨_, rfl, ⟨rfl, St.get_put_same hb.1, hb.2.1.keep hC (fun j off n cap z e => ?_), hb.2.2.keep hC (apart_two hb.1)⟩, hC, .inr ?_⟩
  · have := out_two hb.1 hb.2.1 hb.2.2 (.inr ⟨_, _, rfl⟩) j off n cap z e
    simpa using this
  · show min s.low id < s.next
    omega
theorem q_RForget_ok {s : St} {id g : Nat} {dv : AV} {vs : List AV} {ls : List (List Nd)} (hb : RefR s id dv vs ls g) (hg : g ≤ vs.length) (hv1 : vs.length ≤ 1000000) {u : Int} (h0u : 0 ≤ u) (hu : u ≤ (vs.length : Int)) : ∃ t, acall R_RForget false [.ptr id 0, .int .i64 u] s = some (.tup [.int .i64 (((u - (g : Int)).toNat : Nat) : Int), .int .i64 0], t) ∧ (RefR t id dv vs ls (g + (u - (g : Int)).toNat)) ∧ Chg ([id]) s t ∧ t.low < s.next := by
  obtain ⟨r, t, h1, ⟨rfl, h2⟩, h3, h4⟩ := run_newl n_RForget (by simp [a15]) (Q := fun r t => r = .tup [.int .i64 (((u - (g : Int)).toNat : Nat) : Int), .int .i64 0] ∧ RefR t id dv vs ls (g + (u - (g : Int)).toNat)) (fun r t t' hg hn hq => by
    have hmono : ∀ id b, t.get id = some b → t'.get id = some b := fun id b hb => by rw [hg]; exact hb
    exact ⟨hq.1, hq.2.mono hmono⟩) (w_RForget_ok (s := lowd s) hb.low hg hv1 h0u hu)
  exact ⟨t, h1, h2, h3, h4.resolve_left (by intro h; cases h)⟩

def rputP (ls : List (List Nd)) (d : List Nd) : Option Int := if storeL d = false then some 2 else if ∃ x ∈ ls, agreeL x d = false then some 15 else if 1000 ≤ ls.length then some 7 else none
theorem rputP_clash {ls : List (List Nd)} {d x : List Nd} {i : Nat} (hs : storeL d = true) (hx : ls[i]? = some x) (h : agreeL x d = false) : rputP ls d = some 15 := by
  unfold rputP
  rw [if_neg (by simp [hs]), if_pos ⟨x, List.mem_of_getElem? hx, h⟩]
theorem rputP_rest {ls : List (List Nd)} {d : List Nd} (hs : storeL d = true) (h : ∀ (k : Nat) y, ls[k]? = some y → agreeL y d = true) : rputP ls d = if 1000 ≤ ls.length then some 7 else none := by
  unfold rputP
  rw [if_neg (by simp [hs]), if_neg]
  rintro ⟨x, hx, hh⟩
  obtain ⟨k, hk⟩ := List.getElem?_of_mem hx
  rw [h k x hk] at hh
  cases hh
theorem own_NdR {v : AV} {l : List Nd} (h : Own ndC s t v l) : NdR t v l := by
  rcases h with ⟨rfl, rfl⟩ | ⟨j, rfl, hne, hj, hg⟩
  · exact .inl ⟨rfl, rfl⟩
  · exact .inr ⟨j, 0, l.length, none, l, true, rfl, hg, read_of rfl hg (by rw [cells_len]; omega) (by rw [List.drop_zero, ← cells_len, List.take_length])⟩
/-- append(nil, dv...) -/
theorem app_nil {dv : AV} {vs : List AV} (h : OutR t dv vs) (hl : vs.length ≤ 1000000) : ∃ v' t', appV t 1 24 .nils dv = some (v', t') ∧ OutR t' v' vs ∧ (∀ j off n cap z, v' = .sl j off n cap z → t.next ≤ j) ∧ Keep t t' := by
  rcases h with ⟨rfl, rfl⟩ | ⟨j, cap, rfl, hg, hcap⟩
  · exact ⟨.nils, t, by simp [appV, shown, lenOf, aappend], .inl ⟨rfl, rfl⟩, fun _ _ _ _ _ e => by (cases e), .refl t⟩
  · have hs : shown t 1 (.sl j 0 vs.length cap 1) = some vs := by
      simp only [shown, if_true, hg, Nat.zero_add, Nat.mul_one, Nat.le_refl, List.drop_zero, List.take_length]
    by_cases h0 : vs.length = 0
    · have hv : vs = [] := List.length_eq_zero_iff.1 h0
      subst hv
      have hs : shown t 1 (.sl j 0 0 cap 1) = some [] := hs
      exact ⟨.nils, t, by simp only [appV, hs, lenOf, aappend, List.length_nil, if_true], .inl ⟨rfl, rfl⟩, fun _ _ _ _ _ e => by (cases e), .refl t⟩
    · refine ⟨.sl t.next 0 vs.length none 1, t.push (.row vs true), ?_, .inr ⟨t.next, none, rfl, St.get_push_new _ _, .inl ⟨rfl, fun e => h0 (by rw [e]; rfl)⟩⟩, fun j off n cap z e => by (injection e with e1; omega), (Keep.refl t).push _⟩
      simp only [appV, hs, lenOf, aappend, if_neg h0]
      rw [if_pos (by unfold roomBytes; omega)]
noncomputable def R_RPut : Con := runFn (tb [(31, conL ndC fStore), (32, conLL ndC ndC fAgree), (27, conF ndC (pL ndC gCopy))]) a9
theorem s_RPut : SoundAt Try.prog 9 R_RPut := run_sound (tb_sound (l := [(31, conL ndC fStore), (32, conLL ndC ndC fAgree), (27, conF ndC (pL ndC gCopy))]) (by simpa using ⟨s_Store, s_RAgree, s_RCopy⟩)) mixed Try.func9 k9 c9
theorem n_RPut : noNxtC a9.body = true := by kernel_rfl
theorem w_RPut_err {s : St} {id g : Nat} {dv : AV} {vs : List AV} {ls : List (List Nd)} (hb : RefR s id dv vs ls g) (hg : g ≤ vs.length) (hv1 : vs.length ≤ 1000000) {v : AV} {d : List Nd} (hr : read ndC s v = some d) (hd : d.length ≤ 100000) (hin : InnerOk ls) {er : Int} (he' : rputP (ls.drop g) d = some er) : ∀ env : Env, elen env = a9.ntmps → (∀ i x_, [.ptr id 0, v][i]? = some x_ → E env i = x_) → awp (tb [(31, conL ndC fStore), (32, conLL ndC ndC fAgree), (27, conF ndC (pL ndC gCopy))]) a9.body (fun x e t => (∀ i, x ≠ .exit i) ∧ aresults e t a9.results = some (.tup [.int .i64 0, .int .i64 er]) ∧ Keep s t) env s := by
  intro env hlen ha
  have h0 : E env 0 = _ := ha 0 _ rfl
  have h1 : E env 1 = _ := ha 1 _ rfl
  have hlen : elen env = _ := hlen
  simp only [a9] at hlen
  unfold a9
  obtain ⟨l0, l1, lt0⟩ := row2_lod hb.1
  have lL := hb.2.1.lenV
  have hn := hb.2.2.len
  have hrd := out_rdLL hb.2.1 hb.2.2
  have qv := q_Store false hr (by unfold lim; omega)
  cases hs : storeL d
  · rw [hs] at qv
    have hP : rputP (ls.drop g) d = some 2 := by unfold rputP; rw [if_pos hs]
    rw [hP] at he'
    injection he' with he'
    subst he'
    simp (config := {contextual := true, maxDischargeDepth := 12}) only [tb_at, h0, h1, hlen, qv, ↓bD0, ↓bD1, ↓bD2, ↓bD3, ↓bD4, ↓bD5, ↓bD6, bU0, bU1, bU2, bU3, bU4, bU5, bU6, bU7, bU8, bU9, bU10, bU11, bU12, bU13, forall_const, List.all_cons, List.all_nil, Option.map_some, List.map_cons, List.map_nil, ne_eq, implies_true, isNx, cs_dec, cs_not, cs_and, cs_or, cs_valid, eq_self, ↓wp_cond, ↓wp_loop, ↓reduceIte, reduceCtorEq, Nat.reduceEqDiff, Nat.reduceLT, Nat.reduceAdd, Nat.reduceMul, Int.ofNat_lt, Int.ofNat_le, exists_const, ae_app, ap_slc, Option.map_none, mkR_none, mkR_some, ar_look, ae_mset, ae_rng, ae_mkmap0, ar_ent, lookV_push, lookV_lowed, msetV_push, msetV_lowed, lt_put, same_put, sto_over, sto_lowed, cs_dead, Option.map_some, beq_self_eq_true, decide_true, cs_true, cs_false, aa_bsl, ↓sg_bsl, ap_nchk, nchkV_ptr, bin_np, bin_npn, bin_npx, bin_npnx, ap_mm, mmV_max, mmV_min, res3, ↓st_callf, aa_mksl, ae_copy, ap_slc3, slc3V_all, bin_nss, bin_nsn, aa_bsl]
  rw [hs] at qv
  simp (config := {contextual := true, maxDischargeDepth := 12}) only [tb_at, h0, h1, hlen, qv, l1, lL, ↓bD0, ↓bD1, ↓bD2, ↓bD3, ↓bD4, ↓bD5, ↓bD6, bU0, bU1, bU2, bU3, bU4, bU5, bU6, bU7, bU8, bU9, bU10, bU11, bU12, bU13, forall_const, List.all_cons, List.all_nil, Option.map_some, List.map_cons, List.map_nil, ne_eq, implies_true, isNx, cs_dec, cs_not, cs_and, cs_or, cs_valid, eq_self, ↓wp_cond, ↓wp_loop, ↓reduceIte, reduceCtorEq, Nat.reduceEqDiff, Nat.reduceLT, Nat.reduceAdd, Nat.reduceMul, Int.ofNat_lt, Int.ofNat_le, exists_const, ae_app, ap_slc, Option.map_none, mkR_none, mkR_some, ar_look, ae_mset, ae_rng, ae_mkmap0, ar_ent, lookV_push, lookV_lowed, msetV_push, msetV_lowed, lt_put, same_put, sto_over, sto_lowed, cs_dead, Option.map_some, beq_self_eq_true, decide_true, cs_true, cs_false, aa_bsl, ↓sg_bsl, ap_nchk, nchkV_ptr, bin_np, bin_npn, bin_npx, bin_npnx, ap_mm, mmV_max, mmV_min, res3, ↓st_callf, aa_mksl, ae_copy, ap_slc3, slc3V_all, bin_nss, bin_nsn, aa_bsl]
  obtain ⟨I, hI⟩ : ∃ I : Nat → Env → St → Prop, ∀ n e t, I n e t = (t = s ∧ ∃ i : Nat, g + i + n = ls.length ∧ elen e = 61 ∧ E e 0 = .ptr id 0 ∧ E e 1 = v ∧ E e 6 = .int .i64 ((g + i : Nat) : Int) ∧ ∀ k y, k < i → (ls.drop g)[k]? = some y → agreeL y d = true) := ⟨fun n e t => (t = s ∧ ∃ i : Nat, g + i + n = ls.length ∧ elen e = 61 ∧ E e 0 = .ptr id 0 ∧ E e 1 = v ∧ E e 6 = .int .i64 ((g + i : Nat) : Int) ∧ ∀ k y, k < i → (ls.drop g)[k]? = some y → agreeL y d = true), fun _ _ _ => rfl⟩
  refine lwp_inv I (n := ls.length - g) ?_ ?_
  · rw [hI]
    exact ⟨rfl, 0, by omega, by simp only [E_pne, E_psame, elen_put, Nat.reduceEqDiff, ne_eq, not_false_eq_true, Nat.reduceLT, hlen], by simp only [E_pne, E_psame, elen_put, Nat.reduceEqDiff, ne_eq, not_false_eq_true, Nat.reduceLT, h0], by simp only [E_pne, E_psame, elen_put, Nat.reduceEqDiff, ne_eq, not_false_eq_true, Nat.reduceLT, h1], by simp only [E_pne, E_psame, elen_put, Nat.reduceEqDiff, ne_eq, not_false_eq_true, Nat.reduceLT, hlen]; rfl, fun k y hk => by omega⟩
  intro n e t hi
  rw [hI] at hi
  obtain ⟨rfl, i, hni, he, e0, e1, e6, hpre⟩ := hi
  by_cases hlt : g + i < ls.length
  · have hw2 := wrap_add1 (n := g + i) (by omega)
    obtain ⟨x, hx⟩ := getsome hlt
    have hx2 : (ls.drop g)[i]? = some x := by rw [List.getElem?_drop]; exact hx
    obtain ⟨w, i1, hxx, hrw⟩ := rdLL_at hrd hx
    obtain ⟨a1, al⟩ := hxx t (.refl t)
    have hlt2 : (((g + i : Nat) : Int) < (vs.length : Int)) = True := eq_true (by omega)
    have hxm := hin x (List.mem_of_getElem? hx)
    have qa := q_RAgree false hrw hr (by unfold lim; omega) (by unfold lim; omega)
    cases hag : agreeL x d
    · rw [hag] at qa
      rw [rputP_clash hs hx2 hag] at he'
      injection he' with he'
      subst he'
      simp (config := {contextual := true, maxDischargeDepth := 12}) only [tb_at, he, e0, e1, e6, hlt2, l0, l1, lL, i1, a1, al, qa, hw2, ↓bD0, ↓bD1, ↓bD2, ↓bD3, ↓bD4, ↓bD5, ↓bD6, bU0, bU1, bU2, bU3, bU4, bU5, bU6, bU7, bU8, bU9, bU10, bU11, bU12, bU13, forall_const, List.all_cons, List.all_nil, Option.map_some, List.map_cons, List.map_nil, ne_eq, implies_true, isNx, cs_dec, cs_not, cs_and, cs_or, cs_valid, eq_self, ↓wp_cond, ↓wp_loop, ↓reduceIte, reduceCtorEq, Nat.reduceEqDiff, Nat.reduceLT, Nat.reduceAdd, Nat.reduceMul, Int.ofNat_lt, Int.ofNat_le, exists_const, ae_app, ap_slc, Option.map_none, mkR_none, mkR_some, ar_look, ae_mset, ae_rng, ae_mkmap0, ar_ent, lookV_push, lookV_lowed, msetV_push, msetV_lowed, lt_put, same_put, sto_over, sto_lowed, cs_dead, Option.map_some, beq_self_eq_true, decide_true, cs_true, cs_false, aa_bsl, ↓sg_bsl, ap_nchk, nchkV_ptr, bin_np, bin_npn, bin_npx, bin_npnx, ap_mm, mmV_max, mmV_min, res3, ↓st_callf, aa_mksl, ae_copy, ap_slc3, slc3V_all, bin_nss, bin_nsn, aa_bsl]
    · rw [hag] at qa
      simp (config := {contextual := true, maxDischargeDepth := 12}) only [tb_at, he, e0, e1, e6, hlt2, l0, l1, lL, i1, a1, al, qa, hw2, ↓bD0, ↓bD1, ↓bD2, ↓bD3, ↓bD4, ↓bD5, ↓bD6, bU0, bU1, bU2, bU3, bU4, bU5, bU6, bU7, bU8, bU9, bU10, bU11, bU12, bU13, forall_const, List.all_cons, List.all_nil, Option.map_some, List.map_cons, List.map_nil, ne_eq, implies_true, isNx, cs_dec, cs_not, cs_and, cs_or, cs_valid, eq_self, ↓wp_cond, ↓wp_loop, ↓reduceIte, reduceCtorEq, Nat.reduceEqDiff, Nat.reduceLT, Nat.reduceAdd, Nat.reduceMul, Int.ofNat_lt, Int.ofNat_le, exists_const, ae_app, ap_slc, Option.map_none, mkR_none, mkR_some, ar_look, ae_mset, ae_rng, ae_mkmap0, ar_ent, lookV_push, lookV_lowed, msetV_push, msetV_lowed, lt_put, same_put, sto_over, sto_lowed, cs_dead, Option.map_some, beq_self_eq_true, decide_true, cs_true, cs_false, aa_bsl, ↓sg_bsl, ap_nchk, nchkV_ptr, bin_np, bin_npn, bin_npx, bin_npnx, ap_mm, mmV_max, mmV_min, res3, ↓st_callf, aa_mksl, ae_copy, ap_slc3, slc3V_all, bin_nss, bin_nsn, aa_bsl]
      refine ⟨n - 1, by omega, ?_⟩
      rw [hI]
      refine ⟨rfl, i + 1, by omega, by simp only [E_pne, E_psame, elen_put, Nat.reduceEqDiff, ne_eq, not_false_eq_true, Nat.reduceLT, he], by simp only [E_pne, E_psame, elen_put, Nat.reduceEqDiff, ne_eq, not_false_eq_true, Nat.reduceLT, e0], by simp only [E_pne, E_psame, elen_put, Nat.reduceEqDiff, ne_eq, not_false_eq_true, Nat.reduceLT, e1], by simp only [E_pne, E_psame, elen_put, Nat.reduceEqDiff, ne_eq, not_false_eq_true, Nat.reduceLT, he]; rfl, ?_⟩
      intro k y hk hy
      by_cases e' : k = i
      · subst e'
        rw [hx2] at hy
        cases hy
        exact hag
      · exact hpre k y (by omega) hy
  · have hlt2 : (((g + i : Nat) : Int) < (vs.length : Int)) = False := eq_false (by omega)
    have hall : ∀ (k : Nat) y, (ls.drop g)[k]? = some y → agreeL y d = true := fun k y hy => hpre k y (by have := getlt hy; rw [List.length_drop] at this; omega) hy
    have hP := rputP_rest hs hall
    rw [List.length_drop] at hP
    have w1 : IntKind.i64.wrap ((vs.length : Int) - (g : Int)) = ((ls.length - g : Nat) : Int) := by
      have e : (vs.length : Int) - (g : Int) = ((ls.length - g : Nat) : Int) := by omega
      rw [e]
      exact wrap_nat (by omega)
    by_cases h1000 : 1000 ≤ ls.length - g
    · have hz : ((1000 : Int) ≤ ((ls.length - g : Nat) : Int)) = True := eq_true (by omega)
      rw [hP, if_pos h1000] at he'
      injection he' with he'
      subst he'
      simp (config := {contextual := true, maxDischargeDepth := 12}) only [tb_at, he, e0, e1, e6, hlt2, l0, l1, lL, w1, hz, lt0, ↓bD0, ↓bD1, ↓bD2, ↓bD3, ↓bD4, ↓bD5, ↓bD6, bU0, bU1, bU2, bU3, bU4, bU5, bU6, bU7, bU8, bU9, bU10, bU11, bU12, bU13, forall_const, List.all_cons, List.all_nil, Option.map_some, List.map_cons, List.map_nil, ne_eq, implies_true, isNx, cs_dec, cs_not, cs_and, cs_or, cs_valid, eq_self, ↓wp_cond, ↓wp_loop, ↓reduceIte, reduceCtorEq, Nat.reduceEqDiff, Nat.reduceLT, Nat.reduceAdd, Nat.reduceMul, Int.ofNat_lt, Int.ofNat_le, exists_const, ae_app, ap_slc, Option.map_none, mkR_none, mkR_some, ar_look, ae_mset, ae_rng, ae_mkmap0, ar_ent, lookV_push, lookV_lowed, msetV_push, msetV_lowed, lt_put, same_put, sto_over, sto_lowed, cs_dead, Option.map_some, beq_self_eq_true, decide_true, cs_true, cs_false, aa_bsl, ↓sg_bsl, ap_nchk, nchkV_ptr, bin_np, bin_npn, bin_npx, bin_npnx, ap_mm, mmV_max, mmV_min, res3, ↓st_callf, aa_mksl, ae_copy, ap_slc3, slc3V_all, bin_nss, bin_nsn, aa_bsl]
    · rw [hP, if_neg h1000] at he'
      cases he'
theorem q_RPut_err (cl : Bool) {s : St} {id g : Nat} {dv : AV} {vs : List AV} {ls : List (List Nd)} (hb : RefR s id dv vs ls g) (hg : g ≤ vs.length) (hv1 : vs.length ≤ 1000000) {v : AV} {d : List Nd} (hr : read ndC s v = some d) (hd : d.length ≤ 100000) (hin : InnerOk ls) {er : Int} (he' : rputP (ls.drop g) d = some er) : acall R_RPut cl [.ptr id 0, v] s = some (.tup [.int .i64 0, .int .i64 er], s) := run_same n_RPut (by simp [a9]) rfl (w_RPut_err (s := lowd s) hb.low hg hv1 (read_low' hr) hd hin he')
theorem w_RPut_ok {s : St} {id g : Nat} {dv : AV} {vs : List AV} {ls : List (List Nd)} (hb : RefR s id dv vs ls g) (hg : g ≤ vs.length) (hv1 : vs.length ≤ 1000000) {v : AV} {d : List Nd} (hr : read ndC s v = some d) (hd : d.length ≤ 100000) (hin : InnerOk ls) (he' : rputP (ls.drop g) d = none) (hv2 : vs.length < 1000000) : ∀ env : Env, elen env = a9.ntmps → (∀ i x_, [.ptr id 0, v][i]? = some x_ → E env i = x_) → awp (tb [(31, conL ndC fStore), (32, conLL ndC ndC fAgree), (27, conF ndC (pL ndC gCopy))]) a9.body (fun x e t => (∀ i, x ≠ .exit i) ∧ ∃ r, aresults e t a9.results = some r ∧ (r = .tup [.int .i64 ((vs.length + 1 : Nat) : Int), .int .i64 0] ∧ ∃ dv' vs', RefR t id dv' vs' (ls ++ [d]) g ∧ ∀ j off n cap z, dv' = .sl j off n cap z → s.next ≤ j) ∧ Chg [id] s t ∧ (r.ground = false ∨ t.low < s.next)) env s := by
  intro env hlen ha
  have h0 : E env 0 = _ := ha 0 _ rfl
  have h1 : E env 1 = _ := ha 1 _ rfl
  have hlen : elen env = _ := hlen
  simp only [a9] at hlen
  unfold a9
  obtain ⟨l0, l1, lt0⟩ := row2_lod hb.1
  have lL := hb.2.1.lenV
  have hn := hb.2.2.len
  have hrd := out_rdLL hb.2.1 hb.2.2
  have qv := q_Store false hr (by unfold lim; omega)
  cases hs : storeL d
  · rw [hs] at qv
    have hP : rputP (ls.drop g) d = some 2 := by unfold rputP; rw [if_pos hs]
    rw [hP] at he'
    cases he'
  rw [hs] at qv
  simp (config := {contextual := true, maxDischargeDepth := 12}) only [tb_at, h0, h1, hlen, qv, l1, lL, ↓bD0, ↓bD1, ↓bD2, ↓bD3, ↓bD4, ↓bD5, ↓bD6, bU0, bU1, bU2, bU3, bU4, bU5, bU6, bU7, bU8, bU9, bU10, bU11, bU12, bU13, forall_const, List.all_cons, List.all_nil, Option.map_some, List.map_cons, List.map_nil, ne_eq, implies_true, isNx, cs_dec, cs_not, cs_and, cs_or, cs_valid, eq_self, ↓wp_cond, ↓wp_loop, ↓reduceIte, reduceCtorEq, Nat.reduceEqDiff, Nat.reduceLT, Nat.reduceAdd, Nat.reduceMul, Int.ofNat_lt, Int.ofNat_le, exists_const, ae_app, ap_slc, Option.map_none, mkR_none, mkR_some, ar_look, ae_mset, ae_rng, ae_mkmap0, ar_ent, lookV_push, lookV_lowed, msetV_push, msetV_lowed, lt_put, same_put, sto_over, sto_lowed, cs_dead, Option.map_some, beq_self_eq_true, decide_true, cs_true, cs_false, aa_bsl, ↓sg_bsl, ap_nchk, nchkV_ptr, bin_np, bin_npn, bin_npx, bin_npnx, ap_mm, mmV_max, mmV_min, res3, ↓st_callf, aa_mksl, ae_copy, ap_slc3, slc3V_all, bin_nss, bin_nsn, aa_bsl]
  obtain ⟨I, hI⟩ : ∃ I : Nat → Env → St → Prop, ∀ n e t, I n e t = (t = s ∧ ∃ i : Nat, g + i + n = ls.length ∧ elen e = 61 ∧ E e 0 = .ptr id 0 ∧ E e 1 = v ∧ E e 6 = .int .i64 ((g + i : Nat) : Int) ∧ ∀ k y, k < i → (ls.drop g)[k]? = some y → agreeL y d = true) := ⟨fun n e t => (t = s ∧ ∃ i : Nat, g + i + n = ls.length ∧ elen e = 61 ∧ E e 0 = .ptr id 0 ∧ E e 1 = v ∧ E e 6 = .int .i64 ((g + i : Nat) : Int) ∧ ∀ k y, k < i → (ls.drop g)[k]? = some y → agreeL y d = true), fun _ _ _ => rfl⟩
  refine lwp_inv I (n := ls.length - g) ?_ ?_
  · rw [hI]
    exact ⟨rfl, 0, by omega, by simp only [E_pne, E_psame, elen_put, Nat.reduceEqDiff, ne_eq, not_false_eq_true, Nat.reduceLT, hlen], by simp only [E_pne, E_psame, elen_put, Nat.reduceEqDiff, ne_eq, not_false_eq_true, Nat.reduceLT, h0], by simp only [E_pne, E_psame, elen_put, Nat.reduceEqDiff, ne_eq, not_false_eq_true, Nat.reduceLT, h1], by simp only [E_pne, E_psame, elen_put, Nat.reduceEqDiff, ne_eq, not_false_eq_true, Nat.reduceLT, hlen]; rfl, fun k y hk => by omega⟩
  intro n e t hi
  rw [hI] at hi
  obtain ⟨rfl, i, hni, he, e0, e1, e6, hpre⟩ := hi
  by_cases hlt : g + i < ls.length
  · have hw2 := wrap_add1 (n := g + i) (by omega)
    obtain ⟨x, hx⟩ := getsome hlt
    have hx2 : (ls.drop g)[i]? = some x := by rw [List.getElem?_drop]; exact hx
    obtain ⟨w, i1, hxx, hrw⟩ := rdLL_at hrd hx
    obtain ⟨a1, al⟩ := hxx t (.refl t)
    have hlt2 : (((g + i : Nat) : Int) < (vs.length : Int)) = True := eq_true (by omega)
    have hxm := hin x (List.mem_of_getElem? hx)
    have qa := q_RAgree false hrw hr (by unfold lim; omega) (by unfold lim; omega)
    cases hag : agreeL x d
    · rw [hag] at qa
      rw [rputP_clash hs hx2 hag] at he'
      cases he'
    · rw [hag] at qa
      simp (config := {contextual := true, maxDischargeDepth := 12}) only [tb_at, he, e0, e1, e6, hlt2, l0, l1, lL, i1, a1, al, qa, hw2, ↓bD0, ↓bD1, ↓bD2, ↓bD3, ↓bD4, ↓bD5, ↓bD6, bU0, bU1, bU2, bU3, bU4, bU5, bU6, bU7, bU8, bU9, bU10, bU11, bU12, bU13, forall_const, List.all_cons, List.all_nil, Option.map_some, List.map_cons, List.map_nil, ne_eq, implies_true, isNx, cs_dec, cs_not, cs_and, cs_or, cs_valid, eq_self, ↓wp_cond, ↓wp_loop, ↓reduceIte, reduceCtorEq, Nat.reduceEqDiff, Nat.reduceLT, Nat.reduceAdd, Nat.reduceMul, Int.ofNat_lt, Int.ofNat_le, exists_const, ae_app, ap_slc, Option.map_none, mkR_none, mkR_some, ar_look, ae_mset, ae_rng, ae_mkmap0, ar_ent, lookV_push, lookV_lowed, msetV_push, msetV_lowed, lt_put, same_put, sto_over, sto_lowed, cs_dead, Option.map_some, beq_self_eq_true, decide_true, cs_true, cs_false, aa_bsl, ↓sg_bsl, ap_nchk, nchkV_ptr, bin_np, bin_npn, bin_npx, bin_npnx, ap_mm, mmV_max, mmV_min, res3, ↓st_callf, aa_mksl, ae_copy, ap_slc3, slc3V_all, bin_nss, bin_nsn, aa_bsl]
      refine ⟨n - 1, by omega, ?_⟩
      rw [hI]
      refine ⟨rfl, i + 1, by omega, by simp only [E_pne, E_psame, elen_put, Nat.reduceEqDiff, ne_eq, not_false_eq_true, Nat.reduceLT, he], by simp only [E_pne, E_psame, elen_put, Nat.reduceEqDiff, ne_eq, not_false_eq_true, Nat.reduceLT, e0], by simp only [E_pne, E_psame, elen_put, Nat.reduceEqDiff, ne_eq, not_false_eq_true, Nat.reduceLT, e1], by simp only [E_pne, E_psame, elen_put, Nat.reduceEqDiff, ne_eq, not_false_eq_true, Nat.reduceLT, he]; rfl, ?_⟩
      intro k y hk hy
      by_cases e' : k = i
      · subst e'
        rw [hx2] at hy
        cases hy
        exact hag
      · exact hpre k y (by omega) hy
  · have hlt2 : (((g + i : Nat) : Int) < (vs.length : Int)) = False := eq_false (by omega)
    have hall : ∀ (k : Nat) y, (ls.drop g)[k]? = some y → agreeL y d = true := fun k y hy => hpre k y (by have := getlt hy; rw [List.length_drop] at this; omega) hy
    have hP := rputP_rest hs hall
    rw [List.length_drop] at hP
    have w1 : IntKind.i64.wrap ((vs.length : Int) - (g : Int)) = ((ls.length - g : Nat) : Int) := by
      have e : (vs.length : Int) - (g : Int) = ((ls.length - g : Nat) : Int) := by omega
      rw [e]
      exact wrap_nat (by omega)
    by_cases h1000 : 1000 ≤ ls.length - g
    · rw [hP, if_pos h1000] at he'
      cases he'
    · have hz : ((1000 : Int) ≤ ((ls.length - g : Nat) : Int)) = False := eq_false (by omega)
      obtain ⟨dv1, t1, happ1, ho1, hf1, hK1⟩ := app_nil hb.2.1 hv1
      obtain ⟨v', t2, hc, hK2, hO2⟩ := fresh_L (D := ndC) (f := gCopy) (hK1.read hr) (by unfold lim; omega) rfl (fun x hx => by cases hx)
      rw [mkR_none] at hc
      have hnd := own_NdR hO2
      have hbsl := bsl1 hnd.read
      have hK3 : Keep t (t2.push (.row [v'] true)) := (hK1.trans hK2).push _
      have ho3 : OutR (t2.push (.row [v'] true)) dv1 vs := ho1.keep ((hK2.push _).chg []) (fun _ _ _ _ _ _ => by simp)
      have hi3 : InR (t2.push (.row [v'] true)) vs ls := hb.2.2.keep (hK3.chg []) (.nil _)
      have hnd3 : NdR (t2.push (.row [v'] true)) v' d := hnd.mono fun id b h => get_push_some _ h
      obtain ⟨t3, happ, hg3, hn3, hC3⟩ := out_appV (x := .sl t2.next 0 1 (some 1) 1) ho3 (by unfold roomBytes; omega) rfl (St.get_push_new _ _)
      have hK4 : Keep t t3 := hK3.chgn hC3 fun k hk => by
        obtain ⟨off, n', cap, z, e⟩ := outM_in hk
        exact hf1 _ _ _ _ _ e
      have hb3 := hK4.blk hb.1
      have hsto := (row2_sto hb3 (x := .sl (t2.push (.row [v'] true)).next 0 (vs.length + 1) none 1) rfl rfl).1
      have hIJ : InR t3 (vs ++ [v']) (ls ++ [d]) := InR.app (hi3.keep hC3 (apart_out ho3 hi3)) ⟨hnd3.keep hC3 (apart_out ho3 hi3), trivial⟩
      have hlt3 := St.get_lt hb3
      have hlid : id < t.next := lt0
      have hnx := hK3.next
      have hne : (t2.push (.row [v'] true)).next ≠ id := by omega
      have hb4 := St.get_put_same (b := .row [.sl (t2.push (.row [v'] true)).next 0 (vs.length + 1) none 1, .int .i64 (g : Int)] true) hb3
      obtain ⟨m0, _, mlt⟩ := row2_lod hb4
      have hC4 : Chg [id] t3 (t3.put id (.row [.sl (t2.push (.row [v'] true)).next 0 (vs.length + 1) none 1, .int .i64 (g : Int)] true)) := (Chg.refl _ _).put _ (.inl (by simp)) hlt3
      have hB4 : RefR (t3.put id (.row [.sl (t2.push (.row [v'] true)).next 0 (vs.length + 1) none 1, .int .i64 (g : Int)] true)) id (.sl (t2.push (.row [v'] true)).next 0 (vs.length + 1) none 1) (vs ++ [v']) (ls ++ [d]) g := by
        refine ⟨hb4, .inr ⟨(t2.push (.row [v'] true)).next, none, by simp, ?_, .inl ⟨rfl, by simp⟩⟩, hIJ.keep hC4 (apart_two hb3)⟩
        rw [St.get_put_ne _ _ hlt3 hne]
        exact hg3
      simp (config := {contextual := true, maxDischargeDepth := 12}) only [tb_at, he, e0, e1, e6, hlt2, l0, l1, lL, w1, hz, lt0, happ1, hc, hbsl, happ, hsto, m0, ↓bD0, ↓bD1, ↓bD2, ↓bD3, ↓bD4, ↓bD5, ↓bD6, bU0, bU1, bU2, bU3, bU4, bU5, bU6, bU7, bU8, bU9, bU10, bU11, bU12, bU13, forall_const, List.all_cons, List.all_nil, Option.map_some, List.map_cons, List.map_nil, ne_eq, implies_true, isNx, cs_dec, cs_not, cs_and, cs_or, cs_valid, eq_self, ↓wp_cond, ↓wp_loop, ↓reduceIte, reduceCtorEq, Nat.reduceEqDiff, Nat.reduceLT, Nat.reduceAdd, Nat.reduceMul, Int.ofNat_lt, Int.ofNat_le, exists_const, ae_app, ap_slc, Option.map_none, mkR_none, mkR_some, ar_look, ae_mset, ae_rng, ae_mkmap0, ar_ent, lookV_push, lookV_lowed, msetV_push, msetV_lowed, lt_put, same_put, sto_over, sto_lowed, cs_dead, Option.map_some, beq_self_eq_true, decide_true, cs_true, cs_false, aa_bsl, ↓sg_bsl, ap_nchk, nchkV_ptr, bin_np, bin_npn, bin_npx, bin_npnx, ap_mm, mmV_max, mmV_min, res3, ↓st_callf, aa_mksl, ae_copy, ap_slc3, slc3V_all, bin_nss, bin_nsn, aa_bsl]
      refine ⟨_, rfl, ⟨rfl, _, _, hB4, fun j off n' cap z e => ?_⟩, (hK4.chg _).trans hC4 (fun k hk => .inl hk), .inr ?_⟩
      · injection e with e1
        omega
      · show min t3.low id < t.next
        omega
theorem q_RPut_ok {s : St} {id g : Nat} {dv : AV} {vs : List AV} {ls : List (List Nd)} (hb : RefR s id dv vs ls g) (hg : g ≤ vs.length) (hv1 : vs.length ≤ 1000000) {v : AV} {d : List Nd} (hr : read ndC s v = some d) (hd : d.length ≤ 100000) (hin : InnerOk ls) (he' : rputP (ls.drop g) d = none) (hv2 : vs.length < 1000000) : ∃ t, acall R_RPut false [.ptr id 0, v] s = some (.tup [.int .i64 ((vs.length + 1 : Nat) : Int), .int .i64 0], t) ∧ (∃ dv' vs', RefR t id dv' vs' (ls ++ [d]) g ∧ ∀ j off n cap z, dv' = .sl j off n cap z → s.next ≤ j) ∧ Chg ([id]) s t ∧ t.low < s.next := by
  obtain ⟨r, t, h1, ⟨rfl, h2⟩, h3, h4⟩ := run_newl n_RPut (by simp [a9]) (Q := fun r t => r = .tup [.int .i64 ((vs.length + 1 : Nat) : Int), .int .i64 0] ∧ ∃ dv' vs', RefR t id dv' vs' (ls ++ [d]) g ∧ ∀ j off n cap z, dv' = .sl j off n cap z → s.next ≤ j) (fun r t t' hg hn hq => by
    have hmono : ∀ id b, t.get id = some b → t'.get id = some b := fun id b hb => by rw [hg]; exact hb
    obtain ⟨q1, dv', vs', q2, q3⟩ := hq
    exact ⟨q1, dv', vs', q2.mono hmono, q3⟩) (w_RPut_ok (s := lowd s) hb.low hg hv1 (read_low' hr) hd hin he' hv2)
  exact ⟨t, h1, h2, h3, h4.resolve_left (by intro h; cases h)⟩

end Go.AM
end
/-
  join.Join in a form that the kernel runs. Own work of this project.
-/
section
set_option linter.unusedVariables false
set_option linter.unusedSimpArgs false
set_option maxRecDepth 100000
set_option maxHeartbeats 4000000
namespace Go.AM
open Go Go.Proofs

def joinF : Nat → List Nd → List Nd → Option (List Nd)
  | 0, a, b => some (a ++ b)
  | n + 1, [], b => some b
  | n + 1, x :: a, [] => some (x :: a)
  | n + 1, x :: a, y :: b =>
    if x.d.before y.d = true then (joinF n a (y :: b)).map (x :: ·)
    else if y.d.before x.d = true then (joinF n (x :: a) b).map (y :: ·)
    else if x.clash y = true then none
    else (joinF n a b).map (x.merge y :: ·)
theorem joinF_eq : ∀ (n : Nat) (a b : List Nd), a.length + b.length ≤ n → joinF n a b = joinL a b
  | 0, a, b, h => by
    have h1 : a = [] := List.length_eq_zero_iff.1 (by omega)
    have h2 : b = [] := List.length_eq_zero_iff.1 (by omega)
    subst h1; subst h2
    simp [joinF, joinL]
  | n + 1, [], b, _ => by simp [joinF, joinL]
  | n + 1, x :: a, [], _ => by simp [joinF, joinL]
  | n + 1, x :: a, y :: b, h => by
    simp only [List.length_cons] at h
    rw [joinF, joinL, joinF_eq n a (y :: b) (by simp; omega), joinF_eq n (x :: a) b (by simp; omega), joinF_eq n a b (by omega)]
def gJoinK (a b : List Nd) : Option (List Nd × Option AV) :=
  if storeL a = true ∧ storeL b = true then match joinF (a.length + b.length) a b with
    | some l => some (l, some (.int .i64 0))
    | none => some ([], some (.int .i64 15))
  else some ([], some (.int .i64 2))
theorem gJoinK_eq : gJoinK = gJoin := by
  funext a b
  rw [gJoinK, gJoin, joinF_eq _ a b (Nat.le_refl _)]
  rfl
theorem s_JoinK : SoundAt Try.prog 23 (conF ndC (pLL ndC ndC gJoinK)) := by
  rw [gJoinK_eq]
  exact s_Join

def isTrue : Option (AV × St) → Bool
  | some (.bool true, _) => true
  | _ => false
theorem isTrue_ex {o : Option (AV × St)} (h : isTrue o = true) : ∃ s, o = some (.bool true, s) := by
  unfold isTrue at h
  split at h
  · exact ⟨_, rfl⟩
  · cases h
end Go.AM
end
/-
  The chapter's examples: 'known' answers true. Own work of this project; in part printed by a program of it.
-/
section
set_option linter.unusedVariables false
set_option linter.unusedSimpArgs false
set_option maxRecDepth 100000
set_option maxHeartbeats 4000000
namespace Go.AM
open Go Go.Proofs

def tabK : Nat → AFun
  | 8 => .code a8
  | 10 => .code a10
  | 14 => .code a14
  | 12 => .code a12
  | 16 => .code a16
  | 17 => .code a17
  | 18 => .code a18
  | 19 => .code a19
  | 20 => .code a20
  | 21 => .code a21
  | 22 => .code a22
  | 26 => .code a26
  | 34 => .code a34
  | 36 => .code a36
  | 25 => .code a25
  | 23 => .con (conF ndC (pLL ndC ndC gJoinK))
  | 24 => .con (conLL ndC ndC fSame)
  | 40 => .con (conF ndC (pL ndC gOf))
  | 35 => .con (conL ndC fValid)
  | 37 => .con (cloneC)
  | _ => .no
theorem tabK_ok : ∀ f, FunOk Try.prog f (tabK f) := by
  intro f
  unfold tabK
  split
  · exact ⟨k8, _, Try.func8, c8⟩
  · exact ⟨k10, _, Try.func10, c10⟩
  · exact ⟨k14, _, Try.func14, c14⟩
  · exact ⟨k12, _, Try.func12, c12⟩
  · exact ⟨k16, _, Try.func16, c16⟩
  · exact ⟨k17, _, Try.func17, c17⟩
  · exact ⟨k18, _, Try.func18, c18⟩
  · exact ⟨k19, _, Try.func19, c19⟩
  · exact ⟨k20, _, Try.func20, c20⟩
  · exact ⟨k21, _, Try.func21, c21⟩
  · exact ⟨k22, _, Try.func22, c22⟩
  · exact ⟨k26, _, Try.func26, c26⟩
  · exact ⟨k34, _, Try.func34, c34⟩
  · exact ⟨k36, _, Try.func36, c36⟩
  · exact ⟨k25, _, Try.func25, c25⟩
  · exact s_JoinK
  · exact s_Same
  · exact s_Of
  · exact s_JValid
  · exact s_jcopy
  · trivial
theorem known_run : isTrue (acalls tabK 100 9 8 [] St.empty) = true := by kernel_rfl
theorem s_known : SoundAt Try.prog 8 (closed [] (.bool true)) := by
  obtain ⟨s, hs⟩ := isTrue_ex known_run
  exact closed_sound (acalls_sound mixed tabK_ok 9 _) hs rfl
end Go.AM
end
/-
  The helpers of the statements of layer 24; BufferNil. Own work of this project; in part printed by a program of it.
-/
section
set_option linter.unusedVariables false
set_option linter.unusedSimpArgs false
set_option maxRecDepth 100000
set_option maxHeartbeats 8000000
namespace Go.AM
open Go Go.Proofs

variable {s t u : St}
theorem extV_2 (a b c : AV) (r : List AV) : extV 2 (.tup (a :: b :: c :: r)) = some c := nrfl rfl
noncomputable def R_puts : Con := runFn (tb [(18, R_BPut)]) a10
theorem s_puts : SoundAt Try.prog 10 R_puts := run_sound (tb_sound (l := [(18, R_BPut)]) (by simpa using s_BPut)) mixed Try.func10 k10 c10
theorem n_puts : noNxtC a10.body = true := by kernel_rfl
theorem w_puts_nil {s : St} {v : AV} (w c : Int) : ∀ env : Env, elen env = a10.ntmps → (∀ i x_, [.nilp, v, .int .i64 w, .int .i64 c][i]? = some x_ → E env i = x_) → awp (tb [(18, R_BPut)]) a10.body (fun x e t => (∀ i, x ≠ .exit i) ∧ aresults e t a10.results = some (.bool (decide (0 = w) && decide (1 = c))) ∧ Keep s t) env s := by
  intro env hlen ha
  have h0 : E env 0 = _ := ha 0 _ rfl
  have h1 : E env 1 = _ := ha 1 _ rfl
  have h2 : E env 2 = _ := ha 2 _ rfl
  have h3 : E env 3 = _ := ha 3 _ rfl
  have hlen : elen env = _ := hlen
  simp only [a10] at hlen
  unfold a10
  have q := q_BPut_nil false (s := s) (v := v)
  simp (config := {contextual := true, maxDischargeDepth := 12}) only [tb_at, h0, h1, h2, h3, hlen, q, ↓bD0, ↓bD1, ↓bD2, ↓bD3, ↓bD4, ↓bD5, ↓bD6, bU0, bU1, bU2, bU3, bU4, bU5, bU6, bU7, bU8, bU9, bU10, bU11, bU12, bU13, forall_const, List.all_cons, List.all_nil, Option.map_some, List.map_cons, List.map_nil, ne_eq, implies_true, isNx, cs_dec, cs_not, cs_and, cs_or, cs_valid, eq_self, ↓wp_cond, ↓wp_loop, ↓reduceIte, reduceCtorEq, Nat.reduceEqDiff, Nat.reduceLT, Nat.reduceAdd, Nat.reduceMul, Int.ofNat_lt, Int.ofNat_le, exists_const, ae_app, ap_slc, Option.map_none, mkR_none, mkR_some, ar_look, ae_mset, ae_rng, ae_mkmap0, ar_ent, lookV_push, lookV_lowed, msetV_push, msetV_lowed, lt_put, same_put, sto_over, sto_lowed, cs_dead, Option.map_some, beq_self_eq_true, decide_true, cs_true, cs_false, aa_bsl, ↓sg_bsl, ap_nchk, nchkV_ptr, bin_np, bin_npn, bin_npx, bin_npnx, ap_mm, mmV_max, mmV_min, res3, ↓st_callf, aa_mksl, ae_copy, ap_slc3, slc3V_all, bin_nss, bin_nsn, aa_bsl, extV_2, q_known]
theorem q_puts_nil (cl : Bool) {s : St} {v : AV} (w c : Int) : acall R_puts cl [.nilp, v, .int .i64 w, .int .i64 c] s = some (.bool (decide (0 = w) && decide (1 = c)), s) := run_same n_puts (by simp [a10]) rfl (w_puts_nil (s := lowd s) w c)
theorem w_puts_err {s : St} {id g : Nat} {dv : AV} {vs : List AV} {ls : List (List Nd)} (hb : BufR s id g dv vs ls) (hg : g + vs.length ≤ 1000000) {v : AV} {d : List Nd} (hr : read ndC s v = some d) (hd : d.length ≤ 100000) (hin : InnerOk ls) (w c : Int) {er : Int} (he' : putP ls d = some er) : ∀ env : Env, elen env = a10.ntmps → (∀ i x_, [.ptr id 0, v, .int .i64 w, .int .i64 c][i]? = some x_ → E env i = x_) → awp (tb [(18, R_BPut)]) a10.body (fun x e t => (∀ i, x ≠ .exit i) ∧ aresults e t a10.results = some (.bool (decide (0 = w) && decide (er = c))) ∧ Keep s t) env s := by
  intro env hlen ha
  have h0 : E env 0 = _ := ha 0 _ rfl
  have h1 : E env 1 = _ := ha 1 _ rfl
  have h2 : E env 2 = _ := ha 2 _ rfl
  have h3 : E env 3 = _ := ha 3 _ rfl
  have hlen : elen env = _ := hlen
  simp only [a10] at hlen
  unfold a10
  have q := q_BPut_err false hb hg hr hd hin he'
  simp (config := {contextual := true, maxDischargeDepth := 12}) only [tb_at, h0, h1, h2, h3, hlen, q, ↓bD0, ↓bD1, ↓bD2, ↓bD3, ↓bD4, ↓bD5, ↓bD6, bU0, bU1, bU2, bU3, bU4, bU5, bU6, bU7, bU8, bU9, bU10, bU11, bU12, bU13, forall_const, List.all_cons, List.all_nil, Option.map_some, List.map_cons, List.map_nil, ne_eq, implies_true, isNx, cs_dec, cs_not, cs_and, cs_or, cs_valid, eq_self, ↓wp_cond, ↓wp_loop, ↓reduceIte, reduceCtorEq, Nat.reduceEqDiff, Nat.reduceLT, Nat.reduceAdd, Nat.reduceMul, Int.ofNat_lt, Int.ofNat_le, exists_const, ae_app, ap_slc, Option.map_none, mkR_none, mkR_some, ar_look, ae_mset, ae_rng, ae_mkmap0, ar_ent, lookV_push, lookV_lowed, msetV_push, msetV_lowed, lt_put, same_put, sto_over, sto_lowed, cs_dead, Option.map_some, beq_self_eq_true, decide_true, cs_true, cs_false, aa_bsl, ↓sg_bsl, ap_nchk, nchkV_ptr, bin_np, bin_npn, bin_npx, bin_npnx, ap_mm, mmV_max, mmV_min, res3, ↓st_callf, aa_mksl, ae_copy, ap_slc3, slc3V_all, bin_nss, bin_nsn, aa_bsl, extV_2, q_known]
theorem q_puts_err (cl : Bool) {s : St} {id g : Nat} {dv : AV} {vs : List AV} {ls : List (List Nd)} (hb : BufR s id g dv vs ls) (hg : g + vs.length ≤ 1000000) {v : AV} {d : List Nd} (hr : read ndC s v = some d) (hd : d.length ≤ 100000) (hin : InnerOk ls) (w c : Int) {er : Int} (he' : putP ls d = some er) : acall R_puts cl [.ptr id 0, v, .int .i64 w, .int .i64 c] s = some (.bool (decide (0 = w) && decide (er = c)), s) := run_same n_puts (by simp [a10]) rfl (w_puts_err (s := lowd s) hb.low hg (read_low' hr) hd hin w c he')
theorem w_puts_ok {s : St} {id g : Nat} {dv : AV} {vs : List AV} {ls : List (List Nd)} (hb : BufR s id g dv vs ls) (hg : g + vs.length < 1000000) {v : AV} {d : List Nd} (hr : read ndC s v = some d) (hd : d.length ≤ 100000) (hin : InnerOk ls) (w c : Int) (he' : putP ls d = none) : ∀ env : Env, elen env = a10.ntmps → (∀ i x_, [.ptr id 0, v, .int .i64 w, .int .i64 c][i]? = some x_ → E env i = x_) → awp (tb [(18, R_BPut)]) a10.body (fun x e t => (∀ i, x ≠ .exit i) ∧ ∃ r, aresults e t a10.results = some r ∧ (r = .bool (decide (((g + vs.length + 1 : Nat) : Int) = w) && decide (0 = c)) ∧ ∃ dv' vs', BufR t id g dv' vs' (ls ++ [d]) ∧ ∀ j off n cap z, dv' = .sl j off n cap z → s.next ≤ j) ∧ Chg (id :: outM dv vs) s t ∧ (r.ground = false ∨ t.low < s.next)) env s := by
  intro env hlen ha
  have h0 : E env 0 = _ := ha 0 _ rfl
  have h1 : E env 1 = _ := ha 1 _ rfl
  have h2 : E env 2 = _ := ha 2 _ rfl
  have h3 : E env 3 = _ := ha 3 _ rfl
  have hlen : elen env = _ := hlen
  simp only [a10] at hlen
  unfold a10
  obtain ⟨t, hq, ⟨dv', vs', x2, x3⟩, hC, hlow⟩ := q_BPut_ok hb hg hr hd hin he'
  simp (config := {contextual := true, maxDischargeDepth := 12}) only [tb_at, h0, h1, h2, h3, hlen, hq, ↓bD0, ↓bD1, ↓bD2, ↓bD3, ↓bD4, ↓bD5, ↓bD6, bU0, bU1, bU2, bU3, bU4, bU5, bU6, bU7, bU8, bU9, bU10, bU11, bU12, bU13, forall_const, List.all_cons, List.all_nil, Option.map_some, List.map_cons, List.map_nil, ne_eq, implies_true, isNx, cs_dec, cs_not, cs_and, cs_or, cs_valid, eq_self, ↓wp_cond, ↓wp_loop, ↓reduceIte, reduceCtorEq, Nat.reduceEqDiff, Nat.reduceLT, Nat.reduceAdd, Nat.reduceMul, Int.ofNat_lt, Int.ofNat_le, exists_const, ae_app, ap_slc, Option.map_none, mkR_none, mkR_some, ar_look, ae_mset, ae_rng, ae_mkmap0, ar_ent, lookV_push, lookV_lowed, msetV_push, msetV_lowed, lt_put, same_put, sto_over, sto_lowed, cs_dead, Option.map_some, beq_self_eq_true, decide_true, cs_true, cs_false, aa_bsl, ↓sg_bsl, ap_nchk, nchkV_ptr, bin_np, bin_npn, bin_npx, bin_npnx, ap_mm, mmV_max, mmV_min, res3, ↓st_callf, aa_mksl, ae_copy, ap_slc3, slc3V_all, bin_nss, bin_nsn, aa_bsl, extV_2, q_known]
  exact ⟨_, rfl, ⟨rfl, dv', vs', x2, x3⟩, hC, .inr hlow⟩
theorem q_puts_ok {s : St} {id g : Nat} {dv : AV} {vs : List AV} {ls : List (List Nd)} (hb : BufR s id g dv vs ls) (hg : g + vs.length < 1000000) {v : AV} {d : List Nd} (hr : read ndC s v = some d) (hd : d.length ≤ 100000) (hin : InnerOk ls) (w c : Int) (he' : putP ls d = none) : ∃ t, acall R_puts false [.ptr id 0, v, .int .i64 w, .int .i64 c] s = some (.bool (decide (((g + vs.length + 1 : Nat) : Int) = w) && decide (0 = c)), t) ∧ (∃ dv' vs', BufR t id g dv' vs' (ls ++ [d]) ∧ ∀ j off n cap z, dv' = .sl j off n cap z → s.next ≤ j) ∧ Chg (id :: outM dv vs) s t ∧ t.low < s.next := by
  obtain ⟨r, t, h1, ⟨rfl, h2⟩, h3, h4⟩ := run_newl n_puts (by simp [a10]) (Q := fun r t => r = .bool (decide (((g + vs.length + 1 : Nat) : Int) = w) && decide (0 = c)) ∧ ∃ dv' vs', BufR t id g dv' vs' (ls ++ [d]) ∧ ∀ j off n cap z, dv' = .sl j off n cap z → s.next ≤ j) (fun r t t' hg hn hq => by
    have hmono : ∀ id b, t.get id = some b → t'.get id = some b := fun id b hb => by rw [hg]; exact hb
    obtain ⟨q1, dv', vs', q2, q3⟩ := hq
    exact ⟨q1, dv', vs', q2.mono hmono, q3⟩) (w_puts_ok (s := lowd s) hb.low hg (read_low' hr) hd hin w c he')
  exact ⟨t, h1, h2, h3, h4.resolve_left (by intro h; cases h)⟩
noncomputable def R_froms : Con := runFn (tb [(34, R_From), (24, conLL ndC ndC fSame)]) a14
theorem s_froms : SoundAt Try.prog 14 R_froms := run_sound (tb_sound (l := [(34, R_From), (24, conLL ndC ndC fSame)]) (by simpa using ⟨s_From, s_Same⟩)) mixed Try.func14 k14 c14
theorem n_froms : noNxtC a14.body = true := by kernel_rfl
theorem w_froms_nil {s : St} {v u : AV} {m : List Nd} (hu : read ndC s u = some m) (hm : m.length ≤ lim) (k c : Int) : ∀ env : Env, elen env = a14.ntmps → (∀ i x_, [.nilp, v, u, .int .i64 k, .int .i64 c][i]? = some x_ → E env i = x_) → awp (tb [(34, R_From), (24, conLL ndC ndC fSame)]) a14.body (fun x e t => (∀ i, x ≠ .exit i) ∧ aresults e t a14.results = some (.bool ((decide (([] : List Nd) = m) && decide (0 = k)) && decide (1 = c))) ∧ Keep s t) env s := by
  intro env hlen ha
  have h0 : E env 0 = _ := ha 0 _ rfl
  have h1 : E env 1 = _ := ha 1 _ rfl
  have h2 : E env 2 = _ := ha 2 _ rfl
  have h3 : E env 3 = _ := ha 3 _ rfl
  have h4 : E env 4 = _ := ha 4 _ rfl
  have hlen : elen env = _ := hlen
  simp only [a14] at hlen
  unfold a14
  have q := q_From_nil false (s := s) (v := v)
  have qs := q_Same false (read_nils ndC s) hu (by simp) hm
  simp (config := {contextual := true, maxDischargeDepth := 12}) only [tb_at, h0, h1, h2, h3, h4, hlen, q, qs, ↓bD0, ↓bD1, ↓bD2, ↓bD3, ↓bD4, ↓bD5, ↓bD6, bU0, bU1, bU2, bU3, bU4, bU5, bU6, bU7, bU8, bU9, bU10, bU11, bU12, bU13, forall_const, List.all_cons, List.all_nil, Option.map_some, List.map_cons, List.map_nil, ne_eq, implies_true, isNx, cs_dec, cs_not, cs_and, cs_or, cs_valid, eq_self, ↓wp_cond, ↓wp_loop, ↓reduceIte, reduceCtorEq, Nat.reduceEqDiff, Nat.reduceLT, Nat.reduceAdd, Nat.reduceMul, Int.ofNat_lt, Int.ofNat_le, exists_const, ae_app, ap_slc, Option.map_none, mkR_none, mkR_some, ar_look, ae_mset, ae_rng, ae_mkmap0, ar_ent, lookV_push, lookV_lowed, msetV_push, msetV_lowed, lt_put, same_put, sto_over, sto_lowed, cs_dead, Option.map_some, beq_self_eq_true, decide_true, cs_true, cs_false, aa_bsl, ↓sg_bsl, ap_nchk, nchkV_ptr, bin_np, bin_npn, bin_npx, bin_npnx, ap_mm, mmV_max, mmV_min, res3, ↓st_callf, aa_mksl, ae_copy, ap_slc3, slc3V_all, bin_nss, bin_nsn, aa_bsl, extV_2, q_known]
theorem q_froms_nil (cl : Bool) {s : St} {v u : AV} {m : List Nd} (hu : read ndC s u = some m) (hm : m.length ≤ lim) (k c : Int) : acall R_froms cl [.nilp, v, u, .int .i64 k, .int .i64 c] s = some (.bool ((decide (([] : List Nd) = m) && decide (0 = k)) && decide (1 = c)), s) := run_same n_froms (by simp [a14]) rfl (w_froms_nil (s := lowd s) (read_low' hu) hm k c)

theorem betP_len (g : Nat) (ls : List (List Nd)) (f l : Int) : (betP g ls f l).1.length ≤ ls.flatten.length := by
  unfold betP
  repeat' split
  · simp
  · simp
  · refine Nat.le_trans (allP_len _) ?_
    refine Nat.le_trans (flat_take _ _) ?_
    conv => rhs; rw [← List.take_append_drop (f - (g + 1 : Nat)).toNat ls, List.flatten_append, List.length_append]
    omega
theorem frP_len (g : Nat) (ls : List (List Nd)) (n : Int) : (frP g ls n).1.length ≤ ls.flatten.length := by
  unfold frP
  repeat' split
  · simp
  · simp
  · exact betP_len _ _ _ _
  · simp
theorem w_froms {s : St} {id g : Nat} {dv : AV} {vs : List AV} {ls : List (List Nd)} (hb : BufR s id g dv vs ls) (hg : g + vs.length ≤ 1000000) (n : Int) (hfl : ls.flatten.length ≤ 100000) (hll : ls.length ≤ 100000) {u : AV} {m : List Nd} (hu : read ndC s u = some m) (hm : m.length ≤ lim) (k c : Int) : ∀ env : Env, elen env = a14.ntmps → (∀ i x_, [.ptr id 0, .int .i64 n, u, .int .i64 k, .int .i64 c][i]? = some x_ → E env i = x_) → awp (tb [(34, R_From), (24, conLL ndC ndC fSame)]) a14.body (fun x e t => (∀ i, x ≠ .exit i) ∧ aresults e t a14.results = some (.bool ((decide ((frP g ls n).1 = m) && decide ((frP g ls n).2.1 = k)) && decide ((frP g ls n).2.2 = c))) ∧ Keep s t) env s := by
  intro env hlen ha
  have h0 : E env 0 = _ := ha 0 _ rfl
  have h1 : E env 1 = _ := ha 1 _ rfl
  have h2 : E env 2 = _ := ha 2 _ rfl
  have h3 : E env 3 = _ := ha 3 _ rfl
  have h4 : E env 4 = _ := ha 4 _ rfl
  have hlen : elen env = _ := hlen
  simp only [a14] at hlen
  unfold a14
  obtain ⟨v, t, hc, hO, hK⟩ := q_From hb hg n hfl hll
  have qs := q_Same false hO.read (hK.read hu) (by have := frP_len g ls n; unfold lim; omega) hm
  simp (config := {contextual := true, maxDischargeDepth := 12}) only [tb_at, h0, h1, h2, h3, h4, hlen, hc, qs, ↓bD0, ↓bD1, ↓bD2, ↓bD3, ↓bD4, ↓bD5, ↓bD6, bU0, bU1, bU2, bU3, bU4, bU5, bU6, bU7, bU8, bU9, bU10, bU11, bU12, bU13, forall_const, List.all_cons, List.all_nil, Option.map_some, List.map_cons, List.map_nil, ne_eq, implies_true, isNx, cs_dec, cs_not, cs_and, cs_or, cs_valid, eq_self, ↓wp_cond, ↓wp_loop, ↓reduceIte, reduceCtorEq, Nat.reduceEqDiff, Nat.reduceLT, Nat.reduceAdd, Nat.reduceMul, Int.ofNat_lt, Int.ofNat_le, exists_const, ae_app, ap_slc, Option.map_none, mkR_none, mkR_some, ar_look, ae_mset, ae_rng, ae_mkmap0, ar_ent, lookV_push, lookV_lowed, msetV_push, msetV_lowed, lt_put, same_put, sto_over, sto_lowed, cs_dead, Option.map_some, beq_self_eq_true, decide_true, cs_true, cs_false, aa_bsl, ↓sg_bsl, ap_nchk, nchkV_ptr, bin_np, bin_npn, bin_npx, bin_npnx, ap_mm, mmV_max, mmV_min, res3, ↓st_callf, aa_mksl, ae_copy, ap_slc3, slc3V_all, bin_nss, bin_nsn, aa_bsl, extV_2, q_known]
  exact hK
theorem q_froms (cl : Bool) {s : St} {id g : Nat} {dv : AV} {vs : List AV} {ls : List (List Nd)} (hb : BufR s id g dv vs ls) (hg : g + vs.length ≤ 1000000) (n : Int) (hfl : ls.flatten.length ≤ 100000) (hll : ls.length ≤ 100000) {u : AV} {m : List Nd} (hu : read ndC s u = some m) (hm : m.length ≤ lim) (k c : Int) : acall R_froms cl [.ptr id 0, .int .i64 n, u, .int .i64 k, .int .i64 c] s = some (.bool ((decide ((frP g ls n).1 = m) && decide ((frP g ls n).2.1 = k)) && decide ((frP g ls n).2.2 = c)), s) := run_same n_froms (by simp [a14]) rfl (w_froms (s := lowd s) hb.low hg n hfl hll (read_low' hu) hm k c)
noncomputable def R_betweens : Con := runFn (tb [(22, R_Between), (24, conLL ndC ndC fSame)]) a12
theorem s_betweens : SoundAt Try.prog 12 R_betweens := run_sound (tb_sound (l := [(22, R_Between), (24, conLL ndC ndC fSame)]) (by simpa using ⟨s_Between, s_Same⟩)) mixed Try.func12 k12 c12
theorem n_betweens : noNxtC a12.body = true := by kernel_rfl
theorem w_betweens_nil {s : St} {v w u : AV} {m : List Nd} (hu : read ndC s u = some m) (hm : m.length ≤ lim) (c : Int) : ∀ env : Env, elen env = a12.ntmps → (∀ i x_, [.nilp, v, w, u, .int .i64 c][i]? = some x_ → E env i = x_) → awp (tb [(22, R_Between), (24, conLL ndC ndC fSame)]) a12.body (fun x e t => (∀ i, x ≠ .exit i) ∧ aresults e t a12.results = some (.bool (decide (([] : List Nd) = m) && decide (1 = c))) ∧ Keep s t) env s := by
  intro env hlen ha
  have h0 : E env 0 = _ := ha 0 _ rfl
  have h1 : E env 1 = _ := ha 1 _ rfl
  have h2 : E env 2 = _ := ha 2 _ rfl
  have h3 : E env 3 = _ := ha 3 _ rfl
  have h4 : E env 4 = _ := ha 4 _ rfl
  have hlen : elen env = _ := hlen
  simp only [a12] at hlen
  unfold a12
  have q := q_Between_nil false (s := s) (v := v) (w := w)
  have qs := q_Same false (read_nils ndC s) hu (by simp) hm
  simp (config := {contextual := true, maxDischargeDepth := 12}) only [tb_at, h0, h1, h2, h3, h4, hlen, q, qs, ↓bD0, ↓bD1, ↓bD2, ↓bD3, ↓bD4, ↓bD5, ↓bD6, bU0, bU1, bU2, bU3, bU4, bU5, bU6, bU7, bU8, bU9, bU10, bU11, bU12, bU13, forall_const, List.all_cons, List.all_nil, Option.map_some, List.map_cons, List.map_nil, ne_eq, implies_true, isNx, cs_dec, cs_not, cs_and, cs_or, cs_valid, eq_self, ↓wp_cond, ↓wp_loop, ↓reduceIte, reduceCtorEq, Nat.reduceEqDiff, Nat.reduceLT, Nat.reduceAdd, Nat.reduceMul, Int.ofNat_lt, Int.ofNat_le, exists_const, ae_app, ap_slc, Option.map_none, mkR_none, mkR_some, ar_look, ae_mset, ae_rng, ae_mkmap0, ar_ent, lookV_push, lookV_lowed, msetV_push, msetV_lowed, lt_put, same_put, sto_over, sto_lowed, cs_dead, Option.map_some, beq_self_eq_true, decide_true, cs_true, cs_false, aa_bsl, ↓sg_bsl, ap_nchk, nchkV_ptr, bin_np, bin_npn, bin_npx, bin_npnx, ap_mm, mmV_max, mmV_min, res3, ↓st_callf, aa_mksl, ae_copy, ap_slc3, slc3V_all, bin_nss, bin_nsn, aa_bsl, extV_2, q_known]
theorem q_betweens_nil (cl : Bool) {s : St} {v w u : AV} {m : List Nd} (hu : read ndC s u = some m) (hm : m.length ≤ lim) (c : Int) : acall R_betweens cl [.nilp, v, w, u, .int .i64 c] s = some (.bool (decide (([] : List Nd) = m) && decide (1 = c)), s) := run_same n_betweens (by simp [a12]) rfl (w_betweens_nil (s := lowd s) (read_low' hu) hm c)
theorem w_betweens {s : St} {id g : Nat} {dv : AV} {vs : List AV} {ls : List (List Nd)} (hb : BufR s id g dv vs ls) (hg : g + vs.length ≤ 1000000) (f l : Int) (hfl : ls.flatten.length ≤ 100000) (hll : ls.length ≤ 100000) {u : AV} {m : List Nd} (hu : read ndC s u = some m) (hm : m.length ≤ lim) (c : Int) : ∀ env : Env, elen env = a12.ntmps → (∀ i x_, [.ptr id 0, .int .i64 f, .int .i64 l, u, .int .i64 c][i]? = some x_ → E env i = x_) → awp (tb [(22, R_Between), (24, conLL ndC ndC fSame)]) a12.body (fun x e t => (∀ i, x ≠ .exit i) ∧ aresults e t a12.results = some (.bool (decide ((betP g ls f l).1 = m) && decide ((betP g ls f l).2 = c))) ∧ Keep s t) env s := by
  intro env hlen ha
  have h0 : E env 0 = _ := ha 0 _ rfl
  have h1 : E env 1 = _ := ha 1 _ rfl
  have h2 : E env 2 = _ := ha 2 _ rfl
  have h3 : E env 3 = _ := ha 3 _ rfl
  have h4 : E env 4 = _ := ha 4 _ rfl
  have hlen : elen env = _ := hlen
  simp only [a12] at hlen
  unfold a12
  obtain ⟨v, t, hc, hO, hK⟩ := q_Between hb hg f l hfl hll
  have qs := q_Same false hO.read (hK.read hu) (by have := betP_len g ls f l; unfold lim; omega) hm
  simp (config := {contextual := true, maxDischargeDepth := 12}) only [tb_at, h0, h1, h2, h3, h4, hlen, hc, qs, ↓bD0, ↓bD1, ↓bD2, ↓bD3, ↓bD4, ↓bD5, ↓bD6, bU0, bU1, bU2, bU3, bU4, bU5, bU6, bU7, bU8, bU9, bU10, bU11, bU12, bU13, forall_const, List.all_cons, List.all_nil, Option.map_some, List.map_cons, List.map_nil, ne_eq, implies_true, isNx, cs_dec, cs_not, cs_and, cs_or, cs_valid, eq_self, ↓wp_cond, ↓wp_loop, ↓reduceIte, reduceCtorEq, Nat.reduceEqDiff, Nat.reduceLT, Nat.reduceAdd, Nat.reduceMul, Int.ofNat_lt, Int.ofNat_le, exists_const, ae_app, ap_slc, Option.map_none, mkR_none, mkR_some, ar_look, ae_mset, ae_rng, ae_mkmap0, ar_ent, lookV_push, lookV_lowed, msetV_push, msetV_lowed, lt_put, same_put, sto_over, sto_lowed, cs_dead, Option.map_some, beq_self_eq_true, decide_true, cs_true, cs_false, aa_bsl, ↓sg_bsl, ap_nchk, nchkV_ptr, bin_np, bin_npn, bin_npx, bin_npnx, ap_mm, mmV_max, mmV_min, res3, ↓st_callf, aa_mksl, ae_copy, ap_slc3, slc3V_all, bin_nss, bin_nsn, aa_bsl, extV_2, q_known]
  exact hK
theorem q_betweens (cl : Bool) {s : St} {id g : Nat} {dv : AV} {vs : List AV} {ls : List (List Nd)} (hb : BufR s id g dv vs ls) (hg : g + vs.length ≤ 1000000) (f l : Int) (hfl : ls.flatten.length ≤ 100000) (hll : ls.length ≤ 100000) {u : AV} {m : List Nd} (hu : read ndC s u = some m) (hm : m.length ≤ lim) (c : Int) : acall R_betweens cl [.ptr id 0, .int .i64 f, .int .i64 l, u, .int .i64 c] s = some (.bool (decide ((betP g ls f l).1 = m) && decide ((betP g ls f l).2 = c)), s) := run_same n_betweens (by simp [a12]) rfl (w_betweens (s := lowd s) hb.low hg f l hfl hll (read_low' hu) hm c)
noncomputable def R_forgets : Con := runFn (tb [(26, R_Forget)]) a16
theorem s_forgets : SoundAt Try.prog 16 R_forgets := run_sound (tb_sound (l := [(26, R_Forget)]) (by simpa using s_Forget)) mixed Try.func16 k16 c16
theorem n_forgets : noNxtC a16.body = true := by kernel_rfl
theorem w_forgets_nil {s : St} {v : AV} (w c : Int) : ∀ env : Env, elen env = a16.ntmps → (∀ i x_, [.nilp, v, .int .i64 w, .int .i64 c][i]? = some x_ → E env i = x_) → awp (tb [(26, R_Forget)]) a16.body (fun x e t => (∀ i, x ≠ .exit i) ∧ aresults e t a16.results = some (.bool (decide (0 = w) && decide (1 = c))) ∧ Keep s t) env s := by
  intro env hlen ha
  have h0 : E env 0 = _ := ha 0 _ rfl
  have h1 : E env 1 = _ := ha 1 _ rfl
  have h2 : E env 2 = _ := ha 2 _ rfl
  have h3 : E env 3 = _ := ha 3 _ rfl
  have hlen : elen env = _ := hlen
  simp only [a16] at hlen
  unfold a16
  have q := q_Forget_nil false (s := s) (v := v)
  simp (config := {contextual := true, maxDischargeDepth := 12}) only [tb_at, h0, h1, h2, h3, hlen, q, ↓bD0, ↓bD1, ↓bD2, ↓bD3, ↓bD4, ↓bD5, ↓bD6, bU0, bU1, bU2, bU3, bU4, bU5, bU6, bU7, bU8, bU9, bU10, bU11, bU12, bU13, forall_const, List.all_cons, List.all_nil, Option.map_some, List.map_cons, List.map_nil, ne_eq, implies_true, isNx, cs_dec, cs_not, cs_and, cs_or, cs_valid, eq_self, ↓wp_cond, ↓wp_loop, ↓reduceIte, reduceCtorEq, Nat.reduceEqDiff, Nat.reduceLT, Nat.reduceAdd, Nat.reduceMul, Int.ofNat_lt, Int.ofNat_le, exists_const, ae_app, ap_slc, Option.map_none, mkR_none, mkR_some, ar_look, ae_mset, ae_rng, ae_mkmap0, ar_ent, lookV_push, lookV_lowed, msetV_push, msetV_lowed, lt_put, same_put, sto_over, sto_lowed, cs_dead, Option.map_some, beq_self_eq_true, decide_true, cs_true, cs_false, aa_bsl, ↓sg_bsl, ap_nchk, nchkV_ptr, bin_np, bin_npn, bin_npx, bin_npnx, ap_mm, mmV_max, mmV_min, res3, ↓st_callf, aa_mksl, ae_copy, ap_slc3, slc3V_all, bin_nss, bin_nsn, aa_bsl, extV_2, q_known]
theorem q_forgets_nil (cl : Bool) {s : St} {v : AV} (w c : Int) : acall R_forgets cl [.nilp, v, .int .i64 w, .int .i64 c] s = some (.bool (decide (0 = w) && decide (1 = c)), s) := run_same n_forgets (by simp [a16]) rfl (w_forgets_nil (s := lowd s) w c)
theorem w_forgets_err {s : St} {id g : Nat} {dv : AV} {vs : List AV} {ls : List (List Nd)} (hb : BufR s id g dv vs ls) (hg : g + vs.length ≤ 1000000) {u : Int} (w c : Int) {er : Int} (he : fgP g vs.length u = some er) : ∀ env : Env, elen env = a16.ntmps → (∀ i x_, [.ptr id 0, .int .i64 u, .int .i64 w, .int .i64 c][i]? = some x_ → E env i = x_) → awp (tb [(26, R_Forget)]) a16.body (fun x e t => (∀ i, x ≠ .exit i) ∧ aresults e t a16.results = some (.bool (decide (0 = w) && decide (er = c))) ∧ Keep s t) env s := by
  intro env hlen ha
  have h0 : E env 0 = _ := ha 0 _ rfl
  have h1 : E env 1 = _ := ha 1 _ rfl
  have h2 : E env 2 = _ := ha 2 _ rfl
  have h3 : E env 3 = _ := ha 3 _ rfl
  have hlen : elen env = _ := hlen
  simp only [a16] at hlen
  unfold a16
  have q := q_Forget_err false hb hg he
  simp (config := {contextual := true, maxDischargeDepth := 12}) only [tb_at, h0, h1, h2, h3, hlen, q, ↓bD0, ↓bD1, ↓bD2, ↓bD3, ↓bD4, ↓bD5, ↓bD6, bU0, bU1, bU2, bU3, bU4, bU5, bU6, bU7, bU8, bU9, bU10, bU11, bU12, bU13, forall_const, List.all_cons, List.all_nil, Option.map_some, List.map_cons, List.map_nil, ne_eq, implies_true, isNx, cs_dec, cs_not, cs_and, cs_or, cs_valid, eq_self, ↓wp_cond, ↓wp_loop, ↓reduceIte, reduceCtorEq, Nat.reduceEqDiff, Nat.reduceLT, Nat.reduceAdd, Nat.reduceMul, Int.ofNat_lt, Int.ofNat_le, exists_const, ae_app, ap_slc, Option.map_none, mkR_none, mkR_some, ar_look, ae_mset, ae_rng, ae_mkmap0, ar_ent, lookV_push, lookV_lowed, msetV_push, msetV_lowed, lt_put, same_put, sto_over, sto_lowed, cs_dead, Option.map_some, beq_self_eq_true, decide_true, cs_true, cs_false, aa_bsl, ↓sg_bsl, ap_nchk, nchkV_ptr, bin_np, bin_npn, bin_npx, bin_npnx, ap_mm, mmV_max, mmV_min, res3, ↓st_callf, aa_mksl, ae_copy, ap_slc3, slc3V_all, bin_nss, bin_nsn, aa_bsl, extV_2, q_known]
theorem q_forgets_err (cl : Bool) {s : St} {id g : Nat} {dv : AV} {vs : List AV} {ls : List (List Nd)} (hb : BufR s id g dv vs ls) (hg : g + vs.length ≤ 1000000) {u : Int} (w c : Int) {er : Int} (he : fgP g vs.length u = some er) : acall R_forgets cl [.ptr id 0, .int .i64 u, .int .i64 w, .int .i64 c] s = some (.bool (decide (0 = w) && decide (er = c)), s) := run_same n_forgets (by simp [a16]) rfl (w_forgets_err (s := lowd s) hb.low hg w c he)
theorem w_forgets_ok {s : St} {id g : Nat} {dv : AV} {vs : List AV} {ls : List (List Nd)} (hb : BufR s id g dv vs ls) (hg : g + vs.length ≤ 1000000) {u : Int} (w c : Int) (h0u : 0 ≤ u) (hu : u ≤ ((g + vs.length : Nat) : Int)) : ∀ env : Env, elen env = a16.ntmps → (∀ i x_, [.ptr id 0, .int .i64 u, .int .i64 w, .int .i64 c][i]? = some x_ → E env i = x_) → awp (tb [(26, R_Forget)]) a16.body (fun x e t => (∀ i, x ≠ .exit i) ∧ ∃ r, aresults e t a16.results = some r ∧ (r = .bool (decide ((((u - (g : Int)).toNat : Nat) : Int) = w) && decide (0 = c)) ∧ ∃ dv' vs', BufR t id (g + (u - (g : Int)).toNat) dv' vs' (ls.drop (u - (g : Int)).toNat) ∧ ∀ j off n cap z, dv' = .sl j off n cap z → s.next ≤ j) ∧ Chg [id] s t ∧ (r.ground = false ∨ t.low < s.next)) env s := by
  intro env hlen ha
  have h0 : E env 0 = _ := ha 0 _ rfl
  have h1 : E env 1 = _ := ha 1 _ rfl
  have h2 : E env 2 = _ := ha 2 _ rfl
  have h3 : E env 3 = _ := ha 3 _ rfl
  have hlen : elen env = _ := hlen
  simp only [a16] at hlen
  unfold a16
  obtain ⟨t, hq, ⟨dv', vs', x2, x3⟩, hC, hlow⟩ := q_Forget_ok hb hg h0u hu
  simp (config := {contextual := true, maxDischargeDepth := 12}) only [tb_at, h0, h1, h2, h3, hlen, hq, ↓bD0, ↓bD1, ↓bD2, ↓bD3, ↓bD4, ↓bD5, ↓bD6, bU0, bU1, bU2, bU3, bU4, bU5, bU6, bU7, bU8, bU9, bU10, bU11, bU12, bU13, forall_const, List.all_cons, List.all_nil, Option.map_some, List.map_cons, List.map_nil, ne_eq, implies_true, isNx, cs_dec, cs_not, cs_and, cs_or, cs_valid, eq_self, ↓wp_cond, ↓wp_loop, ↓reduceIte, reduceCtorEq, Nat.reduceEqDiff, Nat.reduceLT, Nat.reduceAdd, Nat.reduceMul, Int.ofNat_lt, Int.ofNat_le, exists_const, ae_app, ap_slc, Option.map_none, mkR_none, mkR_some, ar_look, ae_mset, ae_rng, ae_mkmap0, ar_ent, lookV_push, lookV_lowed, msetV_push, msetV_lowed, lt_put, same_put, sto_over, sto_lowed, cs_dead, Option.map_some, beq_self_eq_true, decide_true, cs_true, cs_false, aa_bsl, ↓sg_bsl, ap_nchk, nchkV_ptr, bin_np, bin_npn, bin_npx, bin_npnx, ap_mm, mmV_max, mmV_min, res3, ↓st_callf, aa_mksl, ae_copy, ap_slc3, slc3V_all, bin_nss, bin_nsn, aa_bsl, extV_2, q_known]
  exact ⟨_, rfl, ⟨rfl, dv', vs', x2, x3⟩, hC, .inr hlow⟩
theorem q_forgets_ok {s : St} {id g : Nat} {dv : AV} {vs : List AV} {ls : List (List Nd)} (hb : BufR s id g dv vs ls) (hg : g + vs.length ≤ 1000000) {u : Int} (w c : Int) (h0u : 0 ≤ u) (hu : u ≤ ((g + vs.length : Nat) : Int)) : ∃ t, acall R_forgets false [.ptr id 0, .int .i64 u, .int .i64 w, .int .i64 c] s = some (.bool (decide ((((u - (g : Int)).toNat : Nat) : Int) = w) && decide (0 = c)), t) ∧ (∃ dv' vs', BufR t id (g + (u - (g : Int)).toNat) dv' vs' (ls.drop (u - (g : Int)).toNat) ∧ ∀ j off n cap z, dv' = .sl j off n cap z → s.next ≤ j) ∧ Chg ([id]) s t ∧ t.low < s.next := by
  obtain ⟨r, t, h1, ⟨rfl, h2⟩, h3, h4⟩ := run_newl n_forgets (by simp [a16]) (Q := fun r t => r = .bool (decide ((((u - (g : Int)).toNat : Nat) : Int) = w) && decide (0 = c)) ∧ ∃ dv' vs', BufR t id (g + (u - (g : Int)).toNat) dv' vs' (ls.drop (u - (g : Int)).toNat) ∧ ∀ j off n cap z, dv' = .sl j off n cap z → s.next ≤ j) (fun r t t' hg hn hq => by
    have hmono : ∀ id b, t.get id = some b → t'.get id = some b := fun id b hb => by rw [hg]; exact hb
    obtain ⟨q1, dv', vs', q2, q3⟩ := hq
    exact ⟨q1, dv', vs', q2.mono hmono, q3⟩) (w_forgets_ok (s := lowd s) hb.low hg w c h0u hu)
  exact ⟨t, h1, h2, h3, h4.resolve_left (by intro h; cases h)⟩

end Go.AM
end
/-
  The row's last part: a call that leaves what was there alone, and answers true. Own work of this project.
-/
section
set_option linter.unusedVariables false
set_option linter.unusedSimpArgs false
namespace Go.AM
open Go Go.ChangeShapes Go.WideShapes Go.ChangeAt Go.RowKit

variable {H : Type} {enc : TypeId × Value → H} {P : Program}

theorem Clean.below {W W' : World} (h : Clean W W') : Below W.heap.size W W' := ⟨h.os, h.tape, h.output, h.size, h.block⟩
theorem Clean.frozen {W W' : World} (h : Clean W W') {a : Addr} (ha : a.block < W.heap.size) : W'.frozen? a = W.frozen? a := h.below.frozen ha

theorem trodAll_clean (hl : laidOutB P = true) {W W' : World} (hc : Clean W W') (sp : Nat → Bool) : ∀ {ts : List TypeId} {vs : List Value} {ds : List (DataW H)} {ps : List MemPlace}, (∀ t ∈ ts, P.readableRec t = true ∧ t < P.types.size) →
    DataW.TrodAll enc P W 0 (fun _ => true) true ts vs ds ps → (∀ p ∈ ps, sp p.block = true) → DataW.TrodAll enc P W' 0 sp true ts vs ds ps
  | [], vs, ds, ps, _, h, _ => by
    obtain ⟨rfl, rfl, rfl⟩ := trodAll_nil h
    rfl
  | t :: ts, vs, ds, ps, hr, h, hs => by
    obtain ⟨v, vs1, d, ds1, a, b, rfl, rfl, rfl, h1, h2⟩ := trodAll_cons h
    have hlt := DataW.TrodAll.lt h
    refine ⟨a, b, ?_, trodAll_clean hl hc sp (fun t ht => hr t (by simp [ht])) h2 fun p hp => hs p (by simp [hp]), rfl⟩
    exact WideElems.Trod_stays hl (hr t (by simp)).1 (hr t (by simp)).2 h1 (fun x hx => hc.below.same (hlt x (by simp [hx]))) fun x hx => hs x (by simp [hx])

theorem post_of_clean {f : Func} {s : ChangeSpec} {apart fresh handsOn again : Bool} {W W' : World} {args : Array Value} {ds gs : List (DataW H)} {before : List MemPlace} {tb : TypeId} (hl : laidOutB P = true)
    (hread : ∀ t ∈ f.params.toList, P.readableRec t = true ∧ t < P.types.size) (hW : DataW.Whole enc P f.params.toList s.vars apart W args.toList ds gs before) (hv : s.vars = [])
    (hres : (s.fn H (ds ++ gs)).results = [.lit (.bool true)]) (hargs : (s.fn H (ds ++ gs)).args = ds) (hvars : (s.fn H (ds ++ gs)).vars = []) (hrt : f.resultTypes = #[tb]) (hb : P.underlying tb = some .bool) (hc : Clean W W') :
    s.post enc P f apart fresh handsOn again W args (.bool true) W' := by
  have hlt : ∀ p ∈ before, p.block < W.heap.size := hW.lt
  have hW0 := hW
  obtain ⟨pa, pv, hA, hV, rfl, hz, hn⟩ := hW
  have hpv : pv = [] := by
    rw [hv] at hV
    cases gs with
    | nil => exact hV
    | cons g gs => exact hV.elim
  subst hpv
  simp only [List.append_nil] at hW0 hlt hz hn
  have hR : ∀ (b : Nat) (sp : Nat → Bool) (hd : Bool), DataW.TrodAll enc P W' b sp hd [tb] [.bool true] [.lit (.bool true)] [] := fun b sp hd => trodAll_mk1 (shut_bool hb true)
  have hrl : (Value.bool true).resultList f.resultTypes.size = [.bool true] := by simp [hrt, Value.resultList]
  refine ⟨ds, gs, pa, [], pa, [], hW0, ?_, ?_, ?_, ?_, fun _ => ⟨fun j t r h1 h2 => ?_, ?_⟩⟩
  · rw [hrl, hres, hrt]
    exact hR _ _ _
  · rw [hargs]
    exact trodAll_clean hl hc _ hread hA fun p hp => by simpa using hlt p hp
  · rw [hvars, hv]
    rfl
  · exact hc.below.frame _
  · rw [hrl] at h2
    rw [hrt] at h1
    cases j with
    | zero =>
      simp at h1 h2
      subst h1; subst h2
      simp [Value.okWide, hb, Cell.okWide, Cell.ok]
    | succ j => simp at h1
  · refine ⟨[.lit (.bool true)] ++ ds, [], pa, ⟨[] ++ pa, [], ?_, ?_, by simp, ?_, ?_⟩, fun p hp _ => hp⟩
    · rw [hrl, hrt]
      exact trodAll_append (trodAll_clean hl hc _ hread hA fun _ _ => rfl) (hR _ _ _)
    · rw [hv]
      rfl
    · intro b off hp
      rw [hc.frozen (hlt _ hp)]
      exact hz b off hp
    · intro ha
      simpa using hn ha

end Go.AM
end
/-
  From a row's reading of an argument to the abstract machine's memory. Own work of this project.
-/
section
set_option linter.unusedVariables false
set_option linter.unusedSimpArgs false
namespace Go.AM
open Go Go.ChangeShapes Go.WideShapes Go.ChangeAt Go.RowKit Go.Deep

/-- The kinds of plain cells. -/
inductive CK where
  | b | i (k : IntKind) | s
def CK.ok : CK → AV → Prop
  | .b, v => ∃ x, v = .bool x
  | .i k, v => ∃ n, v = .int k n ∧ (Lit.int k n).wf = true
  | .s, v => ∃ x, v = .str x
def CKs : List CK → List AV → Prop
  | [], vs => vs = []
  | k :: ks, vs => ∃ v r, vs = v :: r ∧ k.ok v ∧ CKs ks r
theorem CKs.append : ∀ {ks ks' : List CK} {vs vs' : List AV}, CKs ks vs → CKs ks' vs' → CKs (ks ++ ks') (vs ++ vs')
  | [], ks', vs, vs', h, h' => by simp only [CKs] at h; subst h; exact h'
  | k :: ks, ks', vs, vs', h, h' => by
    simp only [CKs] at h
    obtain ⟨v, r, rfl, h1, h2⟩ := h
    exact ⟨v, r ++ vs', rfl, h1, CKs.append h2 h'⟩
theorem CKs.len : ∀ {ks : List CK} {vs : List AV}, CKs ks vs → vs.length = ks.length
  | [], vs, h => by simp only [CKs] at h; subst h; rfl
  | k :: ks, vs, h => by
    simp only [CKs] at h
    obtain ⟨v, r, rfl, h1, h2⟩ := h
    simp [CKs.len h2]
theorem CK.ok_one {k : CK} {v : AV} (h : k.ok v) : v.one = true := by
  cases k <;> simp only [CK.ok] at h
  · obtain ⟨x, rfl⟩ := h; rfl
  · obtain ⟨x, rfl, _⟩ := h; rfl
  · obtain ⟨x, rfl⟩ := h; rfl
theorem CKs.one : ∀ {ks : List CK} {vs : List AV}, CKs ks vs → vs.all AV.one = true
  | [], vs, h => by simp only [CKs] at h; subst h; rfl
  | k :: ks, vs, h => by
    simp only [CKs] at h
    obtain ⟨v, r, rfl, h1, h2⟩ := h
    simp [CK.ok_one h1, CKs.one h2]

variable (P : Program)
def cks : Nat → TypeId → Option (List CK)
  | 0, _ => none
  | d + 1, t =>
    match P.underlying t with
    | some .bool => some [.b]
    | some (.int k) => some [.i k]
    | some .string => some [.s]
    | some (.struct fs) => cksF (cks d) fs.toList 0 (P.cellsOf t)
    | _ => none
where
  cksF (ok : TypeId → Option (List CK)) : List Field → Nat → Nat → Option (List CK)
    | [], at_, sz => if sz = at_ then some [] else none
    | f :: r, at_, sz =>
      if f.offset = at_ then
        match ok f.type with
        | some ks => if ks.length = P.cellsOf f.type then (cksF ok r (at_ + ks.length) sz).map (ks ++ ·) else none
        | none => none
      else none

variable {P}
variable {H : Type} {enc : TypeId × Value → H} {w : World} {base : Nat} {spare : Nat → Bool} {held : Bool}
def FlatOpen (P : Program) (enc : TypeId × Value → H) (w : World) (base : Nat) (spare : Nat → Bool) (held : Bool) (t : TypeId) (ks : List CK) : Prop :=
  ∀ (fuel : Nat) (cs : List Value) (x : DataW H × List MemPlace), DataW.trod enc P w base spare held fuel t cs = some x → ∃ vs, CKs ks vs ∧ ∀ ρ, VRs ρ vs cs
theorem flat_fields {ok : TypeId → Option (List CK)} (IH : ∀ t ks, ok t = some ks → FlatOpen P enc w base spare held t ks) {n : Nat} {cs : List Value} {sz : Nat} (hcs : cs.length = sz) : ∀ (fs : List Field) (at_ : Nat) (ks : List CK),
    cks.cksF P ok fs at_ sz = some ks → (∀ f ∈ fs, ∃ x, DataW.trod enc P w base spare held n f.type ((cs.drop f.offset).take (P.cellsOf f.type)) = some x) → ∃ vs, CKs ks vs ∧ ∀ ρ, VRs ρ vs (cs.drop at_)
  | [], at_, ks, h, _ => by
    simp only [cks.cksF] at h
    split at h
    · rename_i hsz
      injection h with h; subst h
      refine ⟨[], rfl, fun ρ => ?_⟩
      rw [List.drop_eq_nil_of_le (by omega)]
      exact VRs_nil
    · cases h
  | f :: r, at_, ks, h, hx => by
    simp only [cks.cksF] at h
    split at h
    · rename_i hoff
      split at h
      · rename_i ks1 hk
        split at h
        · rename_i hl
          obtain ⟨ks2, h2, rfl⟩ := Option.map_eq_some_iff.1 h
          obtain ⟨x, hxf⟩ := hx f (by simp)
          obtain ⟨vs1, c1, r1⟩ := IH f.type ks1 hk n _ x hxf
          obtain ⟨vs2, c2, r2⟩ := flat_fields IH hcs r (at_ + ks1.length) ks2 h2 fun g hg => hx g (by simp [hg])
          refine ⟨vs1 ++ vs2, c1.append c2, fun ρ => ?_⟩
          have := (r1 ρ).append (r2 ρ)
          rw [hoff, hl, ← List.drop_drop, List.take_append_drop] at this
          exact this
        · cases h
      · cases h
    · cases h
theorem flat_open : ∀ (d : Nat) (t : TypeId) (ks : List CK), cks P d t = some ks → FlatOpen P enc w base spare held t ks
  | 0, t, ks, h => by simp [cks] at h
  | d + 1, t, ks, h => by
    intro fuel cs x hx
    simp only [cks] at h
    split at h
    · rename_i hu
      injection h with h; subst h
      obtain ⟨b, rfl, _⟩ := DataW.trod_bool hu hx
      exact ⟨[.bool b], ⟨_, _, rfl, ⟨b, rfl⟩, rfl⟩, fun ρ => VRs_cons.2 ⟨by simp [VR], VRs_nil⟩⟩
    · rename_i k hu
      injection h with h; subst h
      obtain ⟨b, rfl, _, hw⟩ := DataW.trod_int hu hx
      exact ⟨[.int k b], ⟨_, _, rfl, ⟨b, rfl, hw⟩, rfl⟩, fun ρ => VRs_cons.2 ⟨by simp [VR], VRs_nil⟩⟩
    · rename_i hu
      injection h with h; subst h
      obtain ⟨b, rfl, _⟩ := DataW.trod_string hu hx
      exact ⟨[.str b], ⟨_, _, rfl, ⟨b, rfl⟩, rfl⟩, fun ρ => VRs_cons.2 ⟨by simp [VR], VRs_nil⟩⟩
    · rename_i fs hu
      obtain ⟨xs, n, _, _, hl, hxl, hf⟩ := DataW.trod_struct hu hx
      obtain ⟨vs, h1, h2⟩ := flat_fields (fun t ks hk => flat_open d t ks hk) hl fs.toList 0 ks h (n := n) fun f hmem => by
        obtain ⟨i, hi⟩ := List.getElem?_of_mem hmem
        have hi' : fs[i]? = some f := by simpa using hi
        have hlt : i < xs.length := by
          have := (Array.getElem?_eq_some_iff.1 hi').1
          omega
        exact ⟨xs[i], by rw [hf i f hi']; simp [hlt]⟩
      exact ⟨vs, h1, fun ρ => by simpa using h2 ρ⟩
    · cases h

theorem cell_some {a : Addr} {v : Value} (h : w.cell? a = some v) : ∃ cells el fr, w.heap[a.block]? = some (.cells cells el fr) ∧ a.spot = none := by
  unfold World.cell? at h
  split at h
  · rename_i c el fr hh
    split at h
    · cases h
    · rename_i hs
      exact ⟨c, el, fr, hh, by simpa using hs⟩
  · cases h
theorem addr_block (a : Addr) (i : Nat) : (a.add i).block = a.block := by unfold Addr.add; split <;> rfl
theorem addr_spot (a : Addr) (i : Nat) (h : (a.add i).spot = none) (h0 : i = 0 ∨ True) : i = 0 → a.spot = none := by
  intro hi
  subst hi
  unfold Addr.add at h
  simpa using h

/-- Cells, each kind in its turn, again and again. -/
def Rows (ks : List CK) (rows : List (List AV)) : Prop := ∀ r ∈ rows, CKs ks r
/-- A slice of plain elements: nil, or its elements lie in a row. -/
theorem slice_open {t e : TypeId} {ks : List CK} {d fuel : Nat} {cs : List Value} {x : DataW H × List MemPlace} (hu : P.underlying t = some (.slice e)) (hk : cks P d e = some ks) (hlen : ks.length = P.cellsOf e) (h0 : ks.length ≠ 0)
    (h : DataW.trod enc P w base (fun _ => true) held fuel t cs = some x) : cs = [.slice none 0 0] ∨
    (∃ a, cs = [.slice (some a) 0 0]) ∨
    ∃ (b off len cap : Nat) (cells : Array Value) (el : TypeId) (fr : Nat × Nat) (rows : List (List AV)), cs = [.slice (some ⟨b, off, none⟩) len cap] ∧ 0 < cap ∧ len ≤ cap ∧ cap ≤ maxLen ∧ w.heap[b]? = some (.cells cells el fr) ∧ off + cap * ks.length ≤ cells.size ∧
      rows.length = cap ∧ Rows ks rows ∧ ∀ ρ, VRs ρ rows.flatten ((cells.toList.drop off).take (cap * ks.length)) := by
  rcases open_slice hu h with ⟨rfl, _⟩ | ⟨a, len, cap, m, n, D, Pl, rfl, hb, hl, hm, hmm, _, hx⟩
  · exact .inl rfl
  right
  simp only [if_true] at hmm
  subst hmm
  by_cases hc : m = 0
  · left
    subst hc
    have : len = 0 := by omega
    subst this
    exact ⟨a, rfl⟩
  right
  have hcell : ∀ i, i < m → ∃ cs' vs, w.cells? base (a.add (i * P.cellsOf e)) (P.cellsOf e) = some cs' ∧ CKs ks vs ∧ ∀ ρ, VRs ρ vs cs' := by
    intro i hi
    obtain ⟨cs', h1, h2⟩ := hx i hi
    obtain ⟨vs, h3, h4⟩ := flat_open d e ks hk n cs' _ h2
    exact ⟨cs', vs, h1, h3, h4⟩
  -- the block
  obtain ⟨cs0, vs0, h1, _, _⟩ := hcell 0 (by omega)
  obtain ⟨_, hl0, hat0⟩ := World.cells?_some h1
  have hc0 := hat0 0 (by omega)
  obtain ⟨b, off, spot⟩ := a
  have hsome : ∃ v, cs0[0]? = some v := ⟨cs0[0]'(by omega), by simp⟩
  obtain ⟨v0, hv0⟩ := hsome
  rw [hv0] at hc0
  obtain ⟨cells, el, fr, hh, hsp⟩ := cell_some hc0
  rw [addr_block, addr_block] at hh
  simp only at hh
  have hspot : spot = none := by
    have h2 := addr_spot _ 0 hsp (.inl rfl) rfl
    have h3 := addr_spot _ (0 * P.cellsOf e) h2 (.inr trivial) (by simp)
    exact h3
  subst hspot
  have hat : ∀ i, i < m → ∃ vs, CKs ks vs ∧ off + (i + 1) * ks.length ≤ cells.size ∧ ∀ ρ, VRs ρ vs ((cells.toList.drop (off + i * ks.length)).take ks.length) := by
    intro i hi
    obtain ⟨cs', vs, e1, e2, e3⟩ := hcell i hi
    obtain ⟨_, hl', hat'⟩ := World.cells?_some e1
    have hget : ∀ j, j < P.cellsOf e → cells[off + i * P.cellsOf e + j]? = cs'[j]? := by
      intro j hj
      have := hat' j hj
      rw [addr_add, addr_add, cell_at hh] at this
      exact this
    have hsz : off + (i + 1) * ks.length ≤ cells.size := by
      have hj : P.cellsOf e - 1 < P.cellsOf e := by omega
      have := hget _ hj
      rw [List.getElem?_eq_getElem (by omega)] at this
      have hlt := (Array.getElem?_eq_some_iff.1 this).1
      rw [hlen, Nat.succ_mul]
      omega
    refine ⟨vs, e2, hsz, fun ρ => ?_⟩
    have : (cells.toList.drop (off + i * ks.length)).take ks.length = cs' := by
      apply List.ext_getElem?
      intro j
      by_cases hj : j < ks.length
      · rw [List.getElem?_take_of_lt hj, List.getElem?_drop, hlen]
        have := hget j (by omega)
        simpa using this
      · rw [List.getElem?_eq_none (by simp; omega), List.getElem?_eq_none (by omega)]
    rw [this]
    exact e3 ρ
  have hrows : ∀ k, k ≤ m → ∃ rows : List (List AV), rows.length = k ∧ Rows ks rows ∧ ∀ ρ, VRs ρ rows.flatten ((cells.toList.drop off).take (k * ks.length)) := by
    intro k
    induction k with
    | zero => exact fun _ => ⟨[], rfl, fun r hr => by simp at hr, fun ρ => by simpa using VRs_nil⟩
    | succ k ih =>
      intro hk'
      obtain ⟨rows, r1, r2, r3⟩ := ih (by omega)
      obtain ⟨vs, q1, q2, q3⟩ := hat k (by omega)
      refine ⟨rows ++ [vs], by simp [r1], fun r hr => ?_, fun ρ => ?_⟩
      · rcases List.mem_append.1 hr with hr | hr
        · exact r2 r hr
        · simp at hr; subst hr; exact q1
      · have := (r3 ρ).append (q3 ρ)
        rw [List.flatten_append, List.flatten_singleton, Nat.succ_mul]
        rw [← List.drop_drop, ← List.take_add] at this
        exact this
  obtain ⟨rows, r1, r2, r3⟩ := hrows m (Nat.le_refl _)
  obtain ⟨_, _, q2, _⟩ := hat (m - 1) (by omega)
  rw [show m - 1 + 1 = m by omega] at q2
  exact ⟨b, off, len, m, cells, el, fr, rows, rfl, by omega, hl, hm, hh, q2, r1, r2, r3⟩

end Go.AM
end
/-
  Arguments with slices in slices and in structs, opened into the abstract machine's memory. Own work of this project.
-/
section
set_option linter.unusedVariables false
set_option linter.unusedSimpArgs false
set_option maxRecDepth 100000
namespace Go.AM
open Go Go.ChangeShapes Go.WideShapes Go.ChangeAt Go.RowKit Go.Deep

/-- Some block of cells is there. -/
def HasCellsD (W : World) : Prop := ∃ (b : Nat) (cs : Array Value) (e : TypeId) (fr : Nat × Nat), W.heap[b]? = some (Obj.cells cs e fr)
theorem dummyD {W : World} (h : HasCellsD W) : ∃ L : Loc, L.b < W.heap.size ∧ ∀ ρ, BlkOk ρ L W (.row [] false) := by
  obtain ⟨b, cs, e, fr, hb⟩ := h
  refine ⟨⟨b, 0, cs.size⟩, (Array.getElem?_eq_some_iff.1 hb).1, fun ρ => ?_⟩
  simp only [BlkOk]
  exact ⟨cs, e, fr, hb, rfl, by simp, fun i v h => by simp at h, by simp, rfl⟩

section
variable (P : Program)
/-- What the memory shows at cells of a type. -/
def RdF (ok : TypeId → List AV → Prop) : List Field → List AV → Prop
  | [], vs => vs = []
  | f :: r, vs => ∃ a b, vs = a ++ b ∧ ok f.type a ∧ RdF ok r b
def RdT (s : St) : Nat → TypeId → List AV → Prop
  | 0, _, _ => False
  | d + 1, t, vs => match P.underlying t with
    | some .bool => ∃ x, vs = [.bool x]
    | some (.int k) => ∃ n, vs = [.int k n] ∧ (Lit.int k n).wf = true
    | some .string => ∃ x, vs = [.str x]
    | some (.struct fs) => RdF (RdT s d) fs.toList vs
    | some (.slice e) => vs = [.nils] ∨ ∃ (id n cap : Nat) (rows : List (List AV)), vs = [.sl id 0 n (some cap) (P.cellsOf e)] ∧ n ≤ cap ∧ cap ≤ maxLen ∧ rows.length = cap ∧ s.get id = some (.row rows.flatten false) ∧ ∀ r ∈ rows, RdT s d e r ∧ r.length = P.cellsOf e
    | _ => False
def okF (ok : TypeId → Bool) : List Field → Nat → Nat → Bool
  | [], at_, sz => decide (sz = at_)
  | f :: r, at_, sz => decide (f.offset = at_) && ok f.type && okF ok r (at_ + P.cellsOf f.type) sz
def okT : Nat → TypeId → Bool
  | 0, _ => false
  | d + 1, t => match P.underlying t with
    | some .bool | some (.int _) | some .string => true
    | some (.struct fs) => okF P (okT d) fs.toList 0 (P.cellsOf t)
    | some (.slice e) => decide (P.cellsOf e ≠ 0) && okT d e
    | _ => false
end

variable {P : Program} {H : Type} {enc : TypeId × Value → H} {W : World} {base : Nat} {held : Bool}
/-- Cells, and the blocks that they reach, numbered from 'start' on. -/
structure Opn (W : World) (Q : St → List AV → Prop) (start : Nat) (cs : List Value) (vs : List AV) (bl : List (AB × Loc)) : Prop where
  lt : ∀ p ∈ bl, p.2.b < W.heap.size
  own : ∀ p ∈ bl, p.1.owned = false
  vr : ∀ ρ : Ren, (∀ i p, bl[i]? = some p → ρ (start + i) = some p.2) → VRs ρ vs cs ∧ ∀ p ∈ bl, BlkOk ρ p.2 W p.1
  rd : ∀ s : St, (∀ i p, bl[i]? = some p → s.get (start + i) = some p.1) → Q s vs
  one : vs.all AV.one = true
  len : vs.length = cs.length
theorem Opn.plain {Q : St → List AV → Prop} {start : Nat} {cs : List Value} {vs : List AV} (h : ∀ ρ, VRs ρ vs cs) (hq : ∀ s, Q s vs) (ho : vs.all AV.one = true) (hl : vs.length = cs.length) : Opn W Q start cs vs [] :=
  ⟨by simp, by simp, fun ρ _ => ⟨h ρ, by simp⟩, fun s _ => hq s, ho, hl⟩
theorem Opn.app {Q1 Q2 : St → List AV → Prop} {start : Nat} {c1 c2 : List Value} {v1 v2 : List AV} {b1 b2 : List (AB × Loc)} (h : Opn W Q1 start c1 v1 b1) (k : Opn W Q2 (start + b1.length) c2 v2 b2) :
    Opn W (fun s _ => Q1 s v1 ∧ Q2 s v2) start (c1 ++ c2) (v1 ++ v2) (b1 ++ b2) := by
  have e1 : ∀ {i : Nat} {p}, b1[i]? = some p → (b1 ++ b2)[i]? = some p := fun {i p} hp => by
    rw [List.getElem?_append_left (List.getElem?_eq_some_iff.1 hp).1]; exact hp
  have e2 : ∀ {i : Nat} {p}, b2[i]? = some p → (b1 ++ b2)[b1.length + i]? = some p := fun {i p} hp => by
    rw [List.getElem?_append_right (by omega), Nat.add_sub_cancel_left]; exact hp
  refine ⟨fun p hp => ?_, fun p hp => ?_, fun ρ hρ => ?_, fun s hs => ⟨h.rd s fun i p hp => hs i p (e1 hp), k.rd s fun i p hp => ?_⟩, by simp [h.one, k.one], by simp [h.len, k.len]⟩
  · rcases List.mem_append.1 hp with q | q
    · exact h.lt p q
    · exact k.lt p q
  · rcases List.mem_append.1 hp with q | q
    · exact h.own p q
    · exact k.own p q
  · obtain ⟨r1, r2⟩ := h.vr ρ fun i p hp => hρ i p (e1 hp)
    obtain ⟨r3, r4⟩ := k.vr ρ fun i p hp => by have := hρ _ p (e2 hp); rwa [← Nat.add_assoc] at this
    refine ⟨r1.append r3, fun p hp => ?_⟩
    rcases List.mem_append.1 hp with q | q
    · exact r2 p q
    · exact r4 p q
  · have := hs _ p (e2 hp)
    rwa [← Nat.add_assoc] at this
theorem Opn.imp {Q Q' : St → List AV → Prop} {start : Nat} {cs : List Value} {vs : List AV} {bl : List (AB × Loc)} (h : Opn W Q start cs vs bl) (k : ∀ s, Q s vs → Q' s vs) : Opn W Q' start cs vs bl :=
  ⟨h.lt, h.own, h.vr, fun s hs => k s (h.rd s hs), h.one, h.len⟩

/-- A slice's place, its elements as they are read one by one. -/
theorem slice_geo {t e : TypeId} {fuel : Nat} {cs : List Value} {x : DataW H × List MemPlace} (hu : P.underlying t = some (.slice e)) (h0 : P.cellsOf e ≠ 0)
    (h : DataW.trod enc P W base (fun _ => true) held fuel t cs = some x) : cs = [.slice none 0 0] ∨ (∃ a, cs = [.slice (some a) 0 0]) ∨
    ∃ (b off len cap : Nat) (cells : Array Value) (el : TypeId) (fr : Nat × Nat) (n : Nat), cs = [.slice (some ⟨b, off, none⟩) len cap] ∧ 0 < cap ∧ len ≤ cap ∧ cap ≤ maxLen ∧ W.heap[b]? = some (.cells cells el fr) ∧ off + cap * P.cellsOf e ≤ cells.size ∧
      ∀ i, i < cap → ∃ x, DataW.trod enc P W base (fun _ => true) held n e ((cells.toList.drop (off + i * P.cellsOf e)).take (P.cellsOf e)) = some x := by
  rcases open_slice hu h with ⟨rfl, _⟩ | ⟨a, len, cap, m, n, D, Pl, rfl, hb, hl, hm, hmm, _, hx⟩
  · exact .inl rfl
  right
  simp only [if_true] at hmm
  subst hmm
  by_cases hc : m = 0
  · left
    subst hc
    have : len = 0 := by omega
    subst this
    exact ⟨a, rfl⟩
  right
  obtain ⟨cs0, h1, _⟩ := hx 0 (by omega)
  obtain ⟨_, hl0, hat0⟩ := World.cells?_some h1
  have hc0 := hat0 0 (by omega)
  obtain ⟨b, off, spot⟩ := a
  have hsome : ∃ v, cs0[0]? = some v := ⟨cs0[0]'(by omega), by simp⟩
  obtain ⟨v0, hv0⟩ := hsome
  rw [hv0] at hc0
  obtain ⟨cells, el, fr, hh, hsp⟩ := cell_some hc0
  rw [addr_block, addr_block] at hh
  simp only at hh
  have hspot : spot = none := by
    have h2 := addr_spot _ 0 hsp (.inl rfl) rfl
    have h3 := addr_spot _ (0 * P.cellsOf e) h2 (.inr trivial) (by simp)
    exact h3
  subst hspot
  have hat : ∀ i, i < m → off + (i + 1) * P.cellsOf e ≤ cells.size ∧ ∃ x, DataW.trod enc P W base (fun _ => true) held n e ((cells.toList.drop (off + i * P.cellsOf e)).take (P.cellsOf e)) = some x := by
    intro i hi
    obtain ⟨cs', e1, e2⟩ := hx i hi
    obtain ⟨_, hl', hat'⟩ := World.cells?_some e1
    have hget : ∀ j, j < P.cellsOf e → cells[off + i * P.cellsOf e + j]? = cs'[j]? := by
      intro j hj
      have := hat' j hj
      rw [addr_add, addr_add, cell_at hh] at this
      exact this
    have hsz : off + (i + 1) * P.cellsOf e ≤ cells.size := by
      have hj : P.cellsOf e - 1 < P.cellsOf e := by omega
      have := hget _ hj
      rw [List.getElem?_eq_getElem (by omega)] at this
      have hlt := (Array.getElem?_eq_some_iff.1 this).1
      rw [Nat.succ_mul]
      omega
    refine ⟨hsz, (D i, Pl i), ?_⟩
    have : (cells.toList.drop (off + i * P.cellsOf e)).take (P.cellsOf e) = cs' := by
      apply List.ext_getElem?
      intro j
      by_cases hj : j < P.cellsOf e
      · rw [List.getElem?_take_of_lt hj, List.getElem?_drop]
        have := hget j (by omega)
        simpa using this
      · rw [List.getElem?_eq_none (by simp; omega), List.getElem?_eq_none (by omega)]
    rw [this]
    exact e2
  obtain ⟨q2, _⟩ := hat (m - 1) (by omega)
  rw [show m - 1 + 1 = m by omega] at q2
  exact ⟨b, off, len, m, cells, el, fr, n, rfl, by omega, hl, hm, hh, q2, fun i hi => (hat i hi).2⟩

def DeepOk (P : Program) (enc : TypeId × Value → H) (W : World) (base : Nat) (held : Bool) (d : Nat) (t : TypeId) : Prop :=
  ∀ (fuel : Nat) (cs : List Value) (x : DataW H × List MemPlace), DataW.trod enc P W base (fun _ => true) held fuel t cs = some x → ∀ start, ∃ vs bl, Opn W (fun s vs => RdT P s d t vs) start cs vs bl

theorem deep_fields {d : Nat} (IH : ∀ t, okT P d t = true → DeepOk P enc W base held d t) {n : Nat} {cs : List Value} {sz : Nat} (hcs : cs.length = sz) : ∀ (fs : List Field) (at_ : Nat), okF P (okT P d) fs at_ sz = true →
    (∀ f ∈ fs, ∃ x, DataW.trod enc P W base (fun _ => true) held n f.type ((cs.drop f.offset).take (P.cellsOf f.type)) = some x) → ∀ start, ∃ vs bl, Opn W (fun s vs => RdF (RdT P s d) fs vs) start (cs.drop at_) vs bl
  | [], at_, h, _, start => by
    simp only [okF, decide_eq_true_eq] at h
    rw [List.drop_eq_nil_of_le (by omega)]
    exact ⟨[], [], .plain (fun _ => VRs_nil) (fun _ => rfl) rfl rfl⟩
  | f :: r, at_, h, hx, start => by
    simp only [okF, Bool.and_eq_true, decide_eq_true_eq] at h
    obtain ⟨⟨hoff, hok⟩, hr⟩ := h
    obtain ⟨x, hxf⟩ := hx f (by simp)
    obtain ⟨v1, b1, o1⟩ := IH f.type hok n _ x hxf start
    obtain ⟨v2, b2, o2⟩ := deep_fields IH hcs r (at_ + P.cellsOf f.type) hr (fun g hg => hx g (by simp [hg])) (start + b1.length)
    refine ⟨v1 ++ v2, b1 ++ b2, ?_⟩
    have := o1.app o2
    rw [hoff, ← List.drop_drop, List.take_append_drop] at this
    exact this.imp fun s q => ⟨v1, v2, rfl, q⟩
theorem deep_rows {d : Nat} {e : TypeId} {n : Nat} (IH : DeepOk P enc W base held d e) (cells : List Value) (off : Nat) : ∀ (k : Nat), off + k * P.cellsOf e ≤ cells.length →
    (∀ i, i < k → ∃ x, DataW.trod enc P W base (fun _ => true) held n e ((cells.drop (off + i * P.cellsOf e)).take (P.cellsOf e)) = some x) → ∀ start, ∃ (rows : List (List AV)) (bl : List (AB × Loc)), rows.length = k ∧
      Opn W (fun s _ => ∀ r ∈ rows, RdT P s d e r ∧ r.length = P.cellsOf e) start ((cells.drop off).take (k * P.cellsOf e)) rows.flatten bl
  | 0, _, _, start => ⟨[], [], rfl, .plain (fun _ => by simpa using VRs_nil) (fun _ r hr => by simp at hr) rfl (by simp)⟩
  | k + 1, hle, hx, start => by
    obtain ⟨rows, b1, h1, o1⟩ := deep_rows IH cells off k (by rw [Nat.succ_mul] at hle; omega) (fun i hi => hx i (by omega)) start
    obtain ⟨x, hxk⟩ := hx k (by omega)
    obtain ⟨v2, b2, o2⟩ := IH n _ x hxk (start + b1.length)
    refine ⟨rows ++ [v2], b1 ++ b2, by simp [h1], ?_⟩
    have hl2 : v2.length = P.cellsOf e := by
      rw [o2.len, List.length_take, List.length_drop]
      rw [Nat.succ_mul] at hle
      omega
    have := o1.app o2
    rw [List.flatten_append, List.flatten_singleton, Nat.succ_mul, List.take_add, List.drop_drop]
    refine this.imp fun s hq r hr => ?_
    rcases List.mem_append.1 hr with q | q
    · exact hq.1 r q
    · simp at q
      subst q
      exact ⟨hq.2, hl2⟩
theorem VRs.cell {ρ : Ren} {vs : List AV} {cs : List Value} (h : VRs ρ vs cs) {i : Nat} {v : AV} (hi : vs[i]? = some v) : ∃ c, cs[i]? = some c ∧ VR ρ v c := VRs.at_ i h hi
theorem deep_open (hc : HasCellsD W) : ∀ (d : Nat) (t : TypeId), okT P d t = true → DeepOk P enc W base held d t
  | 0, t, h => by simp [okT] at h
  | d + 1, t, h => by
    intro fuel cs x hx start
    simp only [okT] at h
    split at h
    · rename_i hu
      obtain ⟨b, rfl, _⟩ := DataW.trod_bool hu hx
      exact ⟨[.bool b], [], .plain (fun ρ => VRs_cons.2 ⟨by simp [VR], VRs_nil⟩) (fun s => by simp only [RdT, hu]; exact ⟨b, rfl⟩) rfl rfl⟩
    · rename_i k hu
      obtain ⟨b, rfl, _, hw⟩ := DataW.trod_int hu hx
      exact ⟨[.int k b], [], .plain (fun ρ => VRs_cons.2 ⟨by simp [VR], VRs_nil⟩) (fun s => by simp only [RdT, hu]; exact ⟨b, rfl, hw⟩) rfl rfl⟩
    · rename_i hu
      obtain ⟨b, rfl, _⟩ := DataW.trod_string hu hx
      exact ⟨[.str b], [], .plain (fun ρ => VRs_cons.2 ⟨by simp [VR], VRs_nil⟩) (fun s => by simp only [RdT, hu]; exact ⟨b, rfl⟩) rfl rfl⟩
    · rename_i fs hu
      obtain ⟨xs, n, _, _, hl, hxl, hf⟩ := DataW.trod_struct hu hx
      obtain ⟨vs, bl, ho⟩ := deep_fields (fun t hk => deep_open hc d t hk) hl fs.toList 0 h (n := n) (fun f hmem => by
        obtain ⟨i, hi⟩ := List.getElem?_of_mem hmem
        have hi' : fs[i]? = some f := by simpa using hi
        have hlt : i < xs.length := by
          have := (Array.getElem?_eq_some_iff.1 hi').1
          omega
        exact ⟨xs[i], by rw [hf i f hi']; simp [hlt]⟩) start
      rw [List.drop_zero] at ho
      exact ⟨vs, bl, ho.imp fun s q => by simp only [RdT, hu]; exact q⟩
    · rename_i e hu
      simp only [Bool.and_eq_true, decide_eq_true_eq] at h
      obtain ⟨L, hL1, hL2⟩ := dummyD hc
      rcases slice_geo hu h.1 hx with rfl | ⟨a, rfl⟩ | ⟨b, off, len, cap, cells, el, fr, n, rfl, h2, h3, h4, h5, h6, h7⟩
      · exact ⟨[.nils], [], .plain (fun ρ => VRs_cons.2 ⟨by simp [VR], VRs_nil⟩) (fun s => by simp only [RdT, hu]; exact .inl (by trivial)) rfl rfl⟩
      · refine ⟨[.sl start 0 0 (some 0) (P.cellsOf e)], [(.row [] false, L)], ?_, ?_, fun ρ hρ => ⟨VRs_cons.2 ⟨?_, VRs_nil⟩, ?_⟩, fun s hs => ?_, rfl, rfl⟩
        · intro p hp
          simp at hp
          subst hp
          exact hL1
        · intro p hp
          simp at hp
          subst hp
          rfl
        · simp only [VR]
          exact ⟨L, a, 0, hρ 0 _ rfl, rfl, Nat.le_refl _, fun k hk => by injection hk, .inl rfl⟩
        · intro p hp
          simp at hp
          subst hp
          exact hL2 ρ
        · simp only [RdT, hu]
          exact .inr ⟨start, 0, 0, [], rfl, Nat.le_refl _, Nat.zero_le _, rfl, hs 0 _ rfl, fun r hr => by simp at hr⟩
      · have hlt := (Array.getElem?_eq_some_iff.1 h5).1
        obtain ⟨rows, bl, hr1, ho⟩ := deep_rows (deep_open hc d e h.2) cells.toList off cap (by simpa using h6) h7 (start + 1)
        have hfl : rows.flatten.length = cap * P.cellsOf e := by
          rw [ho.len, List.length_take, List.length_drop]
          simp
          omega
        have hup : ∀ {ρ : Ren}, (∀ i p, ((AB.row rows.flatten false, (⟨b, off, cells.size⟩ : Loc)) :: bl)[i]? = some p → ρ (start + i) = some p.2) → ∀ i p, bl[i]? = some p → ρ (start + 1 + i) = some p.2 := fun hρ i p hp => by
          have := hρ (i + 1) p (by simpa using hp)
          rwa [show start + (i + 1) = start + 1 + i by omega] at this
        refine ⟨[.sl start 0 len (some cap) (P.cellsOf e)], (.row rows.flatten false, ⟨b, off, cells.size⟩) :: bl, ?_, ?_, fun ρ hρ => ?_, fun s hs => ?_, rfl, rfl⟩
        · intro p hp
          rcases List.mem_cons.1 hp with rfl | hp
          · exact hlt
          · exact ho.lt p hp
        · intro p hp
          rcases List.mem_cons.1 hp with rfl | hp
          · rfl
          · exact ho.own p hp
        · obtain ⟨r1, r2⟩ := ho.vr ρ (hup hρ)
          refine ⟨VRs_cons.2 ⟨?_, VRs_nil⟩, fun p hp => ?_⟩
          · simp only [VR]
            exact ⟨⟨b, off, cells.size⟩, ⟨b, off, none⟩, cap, hρ 0 _ rfl, rfl, h3, fun k hk => by injection hk, .inr ⟨by simp, by simpa using h6⟩⟩
          · rcases List.mem_cons.1 hp with rfl | hp
            · simp only [BlkOk]
              refine ⟨cells, el, fr, h5, rfl, by rw [hfl]; exact h6, fun i v hi => ?_, by simp, ho.one⟩
              have hi' := (List.getElem?_eq_some_iff.1 hi).1
              obtain ⟨c, hc1, hc2⟩ := r1.cell hi
              refine ⟨c, ?_, hc2⟩
              rw [List.getElem?_take_of_lt (by omega), List.getElem?_drop] at hc1
              simpa using hc1
            · exact r2 p hp
        · simp only [RdT, hu]
          refine .inr ⟨start, len, cap, rows, rfl, h3, h4, hr1, hs 0 _ rfl, ?_⟩
          refine ho.rd s fun i p hp => ?_
          have := hs (i + 1) p (by simpa using hp)
          rwa [show start + (i + 1) = start + 1 + i by omega] at this
    · cases h

/-! ### All arguments of a call -/
def argAV (P : Program) (t : TypeId) (vs : List AV) : AV := match P.underlying t with
  | some (.struct _) => .agg vs
  | _ => vs.headD .und
def RdA (P : Program) (s : St) (d : Nat) (t : TypeId) (v : AV) : Prop := ∃ vs, RdT P s d t vs ∧ v = argAV P t vs
def RdAs (P : Program) (s : St) (d : Nat) : List TypeId → List AV → Prop
  | [], xs => xs = []
  | t :: ts, xs => ∃ v r, xs = v :: r ∧ RdA P s d t v ∧ RdAs P s d ts r
structure OpnA (W : World) (Q : St → List AV → Prop) (start : Nat) (cs : List Value) (vs : List AV) (bl : List (AB × Loc)) : Prop where
  lt : ∀ p ∈ bl, p.2.b < W.heap.size
  own : ∀ p ∈ bl, p.1.owned = false
  vr : ∀ ρ : Ren, (∀ i p, bl[i]? = some p → ρ (start + i) = some p.2) → VRs ρ vs cs ∧ ∀ p ∈ bl, BlkOk ρ p.2 W p.1
  rd : ∀ s : St, (∀ i p, bl[i]? = some p → s.get (start + i) = some p.1) → Q s vs
theorem OpnA.cons {Q1 Q2 : St → List AV → Prop} {start : Nat} {c : Value} {cs : List Value} {v : AV} {vs : List AV} {b1 b2 : List (AB × Loc)} (h : OpnA W Q1 start [c] [v] b1) (k : OpnA W Q2 (start + b1.length) cs vs b2) :
    OpnA W (fun s _ => Q1 s [v] ∧ Q2 s vs) start (c :: cs) (v :: vs) (b1 ++ b2) := by
  have e1 : ∀ {i : Nat} {p}, b1[i]? = some p → (b1 ++ b2)[i]? = some p := fun {i p} hp => by
    rw [List.getElem?_append_left (List.getElem?_eq_some_iff.1 hp).1]; exact hp
  have e2 : ∀ {i : Nat} {p}, b2[i]? = some p → (b1 ++ b2)[b1.length + i]? = some p := fun {i p} hp => by
    rw [List.getElem?_append_right (by omega), Nat.add_sub_cancel_left]; exact hp
  refine ⟨fun p hp => ?_, fun p hp => ?_, fun ρ hρ => ?_, fun s hs => ⟨h.rd s fun i p hp => hs i p (e1 hp), k.rd s fun i p hp => ?_⟩⟩
  · rcases List.mem_append.1 hp with q | q
    · exact h.lt p q
    · exact k.lt p q
  · rcases List.mem_append.1 hp with q | q
    · exact h.own p q
    · exact k.own p q
  · obtain ⟨r1, r2⟩ := h.vr ρ fun i p hp => hρ i p (e1 hp)
    obtain ⟨r3, r4⟩ := k.vr ρ fun i p hp => by have := hρ _ p (e2 hp); rwa [← Nat.add_assoc] at this
    refine ⟨r1.append r3, fun p hp => ?_⟩
    rcases List.mem_append.1 hp with q | q
    · exact r2 p q
    · exact r4 p q
  · have := hs _ p (e2 hp)
    rwa [← Nat.add_assoc] at this
theorem arg_deep (hc : HasCellsD W) {d : Nat} {t : TypeId} (hok : okT P (d + 1) t = true) {v : Value} {x : DataW H} {p : List MemPlace} (h : DataW.Trod enc P W base (fun _ => true) held t v x p) {b0 : Nat} (hval : Value.okWide P W .any b0 t v) (start : Nat) :
    ∃ a bl, OpnA W (fun s _ => RdA P s (d + 1) t a) start [v] [a] bl := by
  obtain ⟨fuel, h⟩ := h
  obtain ⟨vs, bl, ho⟩ := deep_open hc (d + 1) t hok fuel _ _ h start
  have hone : ∀ (hv : v.cells.toList = [v]) (ha : argAV P t vs = vs.headD .und), ∃ a bl, OpnA W (fun s _ => RdA P s (d + 1) t a) start [v] [a] bl := by
    intro hv ha
    have hl := ho.len
    rw [hv] at hl
    match vs, hl with
    | [a], _ =>
      refine ⟨a, bl, ho.lt, ho.own, fun ρ hρ => ?_, fun s hs => ⟨[a], ho.rd s hs, by rw [ha]; rfl⟩⟩
      have := ho.vr ρ hρ
      rw [hv] at this
      exact this
  simp only [okT] at hok
  split at hok
  · rename_i hu
    obtain ⟨b, rfl⟩ := okWide_bool hu hval
    exact hone rfl (by simp [argAV, hu])
  · rename_i k hu
    obtain ⟨b, rfl⟩ := okWide_int hu hval
    exact hone rfl (by simp [argAV, hu])
  · rename_i hu
    obtain ⟨b, rfl⟩ := okWide_string hu hval
    exact hone rfl (by simp [argAV, hu])
  · rename_i fs hu
    obtain ⟨cs, rfl, _⟩ := okWide_struct hu hval
    refine ⟨.agg vs, bl, ho.lt, ho.own, fun ρ hρ => ?_, fun s hs => ⟨vs, ho.rd s hs, by simp [argAV, hu]⟩⟩
    obtain ⟨r1, r2⟩ := ho.vr ρ hρ
    refine ⟨VRs_cons.2 ⟨?_, VRs_nil⟩, r2⟩
    simp only [VR]
    exact ⟨cs.toList, by simp, r1⟩
  · rename_i e hu
    obtain ⟨a, len, cap, rfl⟩ := okWide_slice hu hval
    exact hone rfl (by simp [argAV, hu])
  · cases hok
theorem args_deep (hc : HasCellsD W) {d : Nat} : ∀ {ts : List TypeId} {vs : List Value} {ds : List (DataW H)} {ps : List MemPlace}, (∀ t ∈ ts, okT P (d + 1) t = true) → DataW.TrodAll enc P W base (fun _ => true) held ts vs ds ps →
    (∀ (j : Nat) t v, ts[j]? = some t → vs[j]? = some v → ∃ b0, Value.okWide P W .any b0 t v) → ∀ start, ∃ xs bl, OpnA W (fun s _ => RdAs P s (d + 1) ts xs) start vs xs bl
  | [], vs, ds, ps, _, h, _, start => by
    obtain ⟨rfl, rfl, rfl⟩ := trodAll_nil h
    exact ⟨[], [], by simp, by simp, fun ρ _ => ⟨VRs_nil, by simp⟩, fun s _ => rfl⟩
  | t :: ts, vs, ds, ps, hok, h, hval, start => by
    obtain ⟨v, vs1, x, ds1, a, b, rfl, rfl, rfl, h1, h2⟩ := trodAll_cons h
    obtain ⟨b0, hv⟩ := hval 0 t v rfl rfl
    obtain ⟨av, bl1, o1⟩ := arg_deep hc (hok t (by simp)) h1 hv start
    obtain ⟨xs, bl2, o2⟩ := args_deep hc (fun t' ht => hok t' (by simp [ht])) h2 (fun j t' v' e1 e2 => hval (j + 1) t' v' (by simpa using e1) (by simpa using e2)) (start + bl1.length)
    have := o1.cons o2
    exact ⟨av :: xs, bl1 ++ bl2, this.lt, this.own, this.vr, fun s hs => ⟨av, xs, rfl, this.rd s hs⟩⟩
open Classical in
noncomputable def lawC (P : Program) (d : Nat) (ts : List TypeId) : List AV → St → Option (AV × St) := fun xs s => if RdAs P s d ts xs then some (.bool true, { heap := s.heap, next := s.next, low := min s.low s.next }) else none
theorem deep_call {d : Nat} {ts : List TypeId} {args : List Value} {xs : List AV} {bl : List (AB × Loc)} (ho : OpnA W (fun s _ => RdAs P s d ts xs) 0 args xs bl) {f : Nat} (hs : SoundAt P f (lawC P d ts)) : Calls P f args.toArray W fun e W' => e = .returned (.bool true) ∧ Clean W W' := by
  obtain ⟨s0, hs0⟩ : ∃ s0 : St, s0 = ⟨(bl.map (·.1)).reverse, bl.length, 0⟩ := ⟨_, rfl⟩
  have hnx : s0.next = bl.length := by rw [hs0]
  have hget : ∀ i, s0.get i = (bl[i]?).map (·.1) := by
    intro i
    subst hs0
    unfold St.get
    simp only
    split
    · rename_i h
      rw [List.getElem?_reverse (by simp; omega)]
      simp only [List.length_map, List.getElem?_map]
      rw [show bl.length - 1 - (bl.length - 1 - i) = i by omega]
    · rename_i h
      rw [List.getElem?_eq_none (by omega)]
      rfl
  have hown : ∀ i b, s0.get i = some b → b.owned = false := by
    intro i b h
    rw [hget] at h
    obtain ⟨p, hp, rfl⟩ := Option.map_eq_some_iff.1 h
    exact ho.own p (List.mem_of_getElem? hp)
  obtain ⟨ρ, hρ⟩ : ∃ ρ : Ren, ρ = fun i => (bl[i]?).map (·.2) := ⟨_, rfl⟩
  have hρ1 : ∀ i p, bl[i]? = some p → ρ (0 + i) = some p.2 := fun i p hp => by rw [hρ, Nat.zero_add]; simp [hp]
  obtain ⟨hv, hb⟩ := ho.vr ρ hρ1
  have hR : R s0 ρ W := by
    refine ⟨fun i L h => ?_, fun i b L h1 h2 => ?_, fun i j L M bi bj _ _ _ e3 _ e5 _ => ?_⟩
    · rw [hρ] at h
      obtain ⟨p, hp, rfl⟩ := Option.map_eq_some_iff.1 h
      exact ho.lt p (List.mem_of_getElem? hp)
    · rw [hget] at h1
      rw [hρ] at h2
      obtain ⟨p, hp, rfl⟩ := Option.map_eq_some_iff.1 h1
      simp [hp] at h2
      subst h2
      exact hb p (List.mem_of_getElem? hp)
    · rw [hown i bi e3] at e5; cases e5
  have hrd := ho.rd s0 fun i p hp => by rw [Nat.zero_add, hget, hp]; rfl
  obtain ⟨_, _, h⟩ := hs xs s0 _ _ (by unfold lawC; rw [if_pos hrd])
  have := h ρ W args (fun i hi => by rw [hρ]; simp; omega) hR hv
  refine this.mono fun e W' hp => ?_
  obtain ⟨ρ', v, rfl, hv', hst, _⟩ := hp
  simp only [VR] at hv'
  subst hv'
  exact ⟨rfl, hst.size, hst.os, hst.tape, hst.output, hst.drawn, fun b hb => hst.frame b hb fun id L blk _ _ h1 h2 => by rw [hown id blk h1] at h2; cases h2⟩
theorem trodAll_len : ∀ {ts : List TypeId} {vs : List Value} {ds : List (DataW H)} {ps : List MemPlace}, DataW.TrodAll enc P W base (fun _ => true) held ts vs ds ps → ds.length = ts.length
  | [], vs, ds, ps, h => by
    obtain ⟨rfl, rfl, rfl⟩ := trodAll_nil h
    rfl
  | t :: ts, vs, ds, ps, h => by
    obtain ⟨v, vs1, x, ds1, a, b, rfl, rfl, rfl, h1, h2⟩ := trodAll_cons h
    simp [trodAll_len h2]
end Go.AM
end
/-
  What the arguments of the statements show: numbers, nodes, states, lists of states. Own work of this project.
-/
section
set_option linter.unusedVariables false
set_option linter.unusedSimpArgs false
set_option maxRecDepth 100000
namespace Go.AM
open Go Go.Proofs

variable {P : Program} {s : St}
theorem rd_cksF {ok : TypeId → Option (List CK)} {rd : TypeId → List AV → Prop} (IH : ∀ t ks vs, ok t = some ks → rd t vs → CKs ks vs) : ∀ (fs : List Field) (at_ sz : Nat) (ks : List CK) (vs : List AV),
    cks.cksF P ok fs at_ sz = some ks → RdF rd fs vs → CKs ks vs
  | [], at_, sz, ks, vs, h, hr => by
    simp only [cks.cksF] at h
    split at h
    · injection h with h; subst h
      exact hr
    · cases h
  | f :: r, at_, sz, ks, vs, h, hr => by
    simp only [cks.cksF] at h
    split at h
    · split at h
      · rename_i ks1 hk
        split at h
        · obtain ⟨ks2, h2, rfl⟩ := Option.map_eq_some_iff.1 h
          obtain ⟨a, b, rfl, h3, h4⟩ := hr
          exact (IH _ _ _ hk h3).append (rd_cksF IH r _ _ _ _ h2 h4)
        · cases h
      · cases h
    · cases h
theorem rd_cks : ∀ (d : Nat) (t : TypeId) (ks : List CK) (vs : List AV), cks P d t = some ks → RdT P s d t vs → CKs ks vs
  | 0, t, ks, vs, h, _ => by simp [cks] at h
  | d + 1, t, ks, vs, h, hr => by
    simp only [cks] at h
    split at h
    · rename_i hu
      injection h with h; subst h
      simp only [RdT, hu] at hr
      obtain ⟨x, rfl⟩ := hr
      exact ⟨_, _, rfl, ⟨x, rfl⟩, rfl⟩
    · rename_i k hu
      injection h with h; subst h
      simp only [RdT, hu] at hr
      obtain ⟨x, rfl, hw⟩ := hr
      exact ⟨_, _, rfl, ⟨x, rfl, hw⟩, rfl⟩
    · rename_i hu
      injection h with h; subst h
      simp only [RdT, hu] at hr
      obtain ⟨x, rfl⟩ := hr
      exact ⟨_, _, rfl, ⟨x, rfl⟩, rfl⟩
    · rename_i fs hu
      simp only [RdT, hu] at hr
      exact rd_cksF (fun t ks vs h1 h2 => rd_cks d t ks vs h1 h2) _ _ _ _ _ h hr
    · cases h
def ndKs : List CK := [.i .i64, .i .i64, .i .i64, .i .i64, .i .i64, .i .i32]
theorem nd_of_ks {r : List AV} (h : CKs ndKs r) : ∃ x : Nd, r = Nd.av x := by
  simp only [ndKs, CKs] at h
  obtain ⟨_, _, rfl, ⟨a, rfl, _⟩, _, _, rfl, ⟨b, rfl, _⟩, _, _, rfl, ⟨c, rfl, _⟩, _, _, rfl, ⟨d, rfl, _⟩, _, _, rfl, ⟨e, rfl, _⟩, _, _, rfl, ⟨x, rfl, _⟩, rfl⟩ := h
  exact ⟨⟨⟨a, b⟩, ⟨c, d⟩, e, x⟩, rfl⟩
theorem nds_of_rows : ∀ {rows : List (List AV)}, (∀ r ∈ rows, CKs ndKs r) → ∃ l : List Nd, rows.flatten = ndC.cells l ∧ l.length = rows.length
  | [], _ => ⟨[], rfl, rfl⟩
  | r :: rows, h => by
    obtain ⟨x, rfl⟩ := nd_of_ks (h r (by simp))
    obtain ⟨l, h1, h2⟩ := nds_of_rows (rows := rows) fun r' hr' => h r' (by simp [hr'])
    exact ⟨x :: l, by rw [List.flatten_cons, h1, cells_cons]; rfl, by simp [h2]⟩
theorem rd_slice {d : Nat} {t e : TypeId} {vs : List AV} (hu : P.underlying t = some (.slice e)) (h : RdT P s (d + 1) t vs) : vs = [.nils] ∨ ∃ (id n cap : Nat) (rows : List (List AV)), vs = [.sl id 0 n (some cap) (P.cellsOf e)] ∧ n ≤ cap ∧ cap ≤ maxLen ∧ rows.length = cap ∧ s.get id = some (.row rows.flatten false) ∧ ∀ r ∈ rows, RdT P s d e r ∧ r.length = P.cellsOf e := by
  simp only [RdT, hu] at h
  exact h
theorem st_under : Try.prog.underlying 31 = some (.slice 64) := by kernel_rfl
theorem nd_cells : Try.prog.cellsOf 64 = 6 := by kernel_rfl
theorem nd_cks4 : cks Try.prog 4 64 = some ndKs := by kernel_rfl
theorem nd_cks5 : cks Try.prog 5 64 = some ndKs := by kernel_rfl
theorem nd_cks6 : cks Try.prog 6 64 = some ndKs := by kernel_rfl
theorem nd_cks7 : cks Try.prog 7 64 = some ndKs := by kernel_rfl
theorem rd_state {d : Nat} (hd : cks Try.prog d 64 = some ndKs) {vs : List AV} (h : RdT Try.prog s (d + 1) 31 vs) : ∃ v l, vs = [v] ∧ read ndC s v = some l := by
  rcases rd_slice st_under h with rfl | ⟨id, n, cap, rows, rfl, h1, _, h3, h4, h5⟩
  · exact ⟨.nils, [], rfl, rfl⟩
  · obtain ⟨l, e1, e2⟩ := nds_of_rows fun r hr => rd_cks d _ _ _ hd (h5 r hr).1
    rw [nd_cells]
    refine ⟨_, l.take n, rfl, ?_⟩
    have hall : read ndC s (.sl id 0 cap (some cap) 6) = some l := by
      refine read_of (C := ndC) (by omega) h4 ?_ ?_
      · have : (ndC.cells l).length = l.length * 6 := cells_len ndC l
        rw [e1, this]
        show 0 + cap * 6 ≤ _
        omega
      · have : (ndC.cells l).length = l.length * 6 := cells_len ndC l
        rw [e1, List.drop_zero, show cap * ndC.sz = (ndC.cells l).length by rw [this]; show cap * 6 = _; omega, List.take_length]
    exact read_take hall n h1
theorem rd_int {d : Nat} {t : TypeId} {k : IntKind} {vs : List AV} (hu : P.underlying t = some (.int k)) (h : RdT P s (d + 1) t vs) : ∃ n, vs = [.int k n] ∧ (Lit.int k n).wf = true := by
  simp only [RdT, hu] at h
  exact h
theorem rda_int {d : Nat} {t : TypeId} {k : IntKind} {v : AV} (hu : P.underlying t = some (.int k)) (h : RdA P s (d + 1) t v) : ∃ n, v = .int k n ∧ (Lit.int k n).wf = true := by
  obtain ⟨vs, h1, rfl⟩ := h
  obtain ⟨n, rfl, hw⟩ := rd_int hu h1
  exact ⟨n, by simp [argAV, hu], hw⟩
theorem rda_state {d : Nat} (hd : cks Try.prog d 64 = some ndKs) {v : AV} (h : RdA Try.prog s (d + 1) 31 v) : ∃ l, read ndC s v = some l := by
  obtain ⟨vs, h1, rfl⟩ := h
  obtain ⟨v, l, rfl, hr⟩ := rd_state hd h1
  exact ⟨l, by simp [argAV, st_under, hr]⟩
theorem lawC_some {d : Nat} {ts : List TypeId} {xs : List AV} {r : AV} {s' : St} (h : lawC P d ts xs s = some (r, s')) : RdAs P s d ts xs ∧ r = .bool true ∧ s' = s.lowed := by
  unfold lawC at h
  split at h
  · rename_i hr
    injection h with h
    obtain ⟨rfl, rfl⟩ := Prod.mk.inj h
    exact ⟨hr, rfl, rfl⟩
  · cases h
theorem rdas_1 {d : Nat} {t : TypeId} {xs : List AV} (h : RdAs P s d [t] xs) : ∃ v, xs = [v] ∧ RdA P s d t v := by
  obtain ⟨v, r, rfl, h1, h2⟩ := h
  simp only [RdAs] at h2
  subst h2
  exact ⟨v, rfl, h1⟩
theorem rdas_cons {d : Nat} {t : TypeId} {ts : List TypeId} {xs : List AV} (h : RdAs P s d (t :: ts) xs) : ∃ v r, xs = v :: r ∧ RdA P s d t v ∧ RdAs P s d ts r := h
theorem rdas_2 {d : Nat} {t1 t2 : TypeId} {xs : List AV} (h : RdAs P s d [t1, t2] xs) : ∃ v w, xs = [v, w] ∧ RdA P s d t1 v ∧ RdA P s d t2 w := by
  obtain ⟨v, r, rfl, h1, h2⟩ := h
  obtain ⟨w, rfl, h3⟩ := rdas_1 h2
  exact ⟨v, w, rfl, h1, h3⟩
theorem rdas_3 {d : Nat} {t1 t2 t3 : TypeId} {xs : List AV} (h : RdAs P s d [t1, t2, t3] xs) : ∃ v w u, xs = [v, w, u] ∧ RdA P s d t1 v ∧ RdA P s d t2 w ∧ RdA P s d t3 u := by
  obtain ⟨v, r, rfl, h1, h2⟩ := h
  obtain ⟨w, u, rfl, h3, h4⟩ := rdas_2 h2
  exact ⟨v, w, u, rfl, h1, h3, h4⟩
end Go.AM
end
/-
  BufferNil in the abstract machine. Own work of this project; in part printed by a program of it.
-/
section
set_option linter.unusedVariables false
set_option linter.unusedSimpArgs false
set_option maxRecDepth 100000
set_option maxHeartbeats 8000000
namespace Go.AM
open Go Go.Proofs

variable {s t u : St}
theorem int_under : Try.prog.underlying 3 = some (.int .i64) := by kernel_rfl
theorem s_BufferNil : SoundAt Try.prog 7 (lawC Try.prog 8 [31, 3, 3]) :=
  con_keep (tb_sound (l := [(8, closed [] (.bool true)), (10, R_puts), (14, R_froms), (12, R_betweens), (16, R_forgets), (20, R_BFirst), (21, R_BLast), (19, R_BLen), (29, R_BCopy)]) (by simpa using ⟨s_known, s_puts, s_froms, s_betweens, s_forgets, s_BFirst, s_BLast, s_BLen, s_BCopy⟩)) mixed Try.func7 k7 c7 fun args s r s' h => by
    obtain ⟨hh, rfl, rfl⟩ := lawC_some h
    obtain ⟨v, w, u, rfl, hv, hw, hu⟩ := rdas_3 hh
    obtain ⟨l, hr⟩ := rda_state nd_cks7 hv
    obtain ⟨a, rfl, _⟩ := rda_int int_under hw
    obtain ⟨c, rfl, _⟩ := rda_int int_under hu
    refine ⟨rfl, rfl, by simp [a7], fun env hlen ha => ?_⟩
    have h0 : E env 0 = _ := ha 0 _ rfl
    have h1 : E env 1 = _ := ha 1 _ rfl
    have h2 : E env 2 = _ := ha 2 _ rfl
    have hlen : elen env = _ := hlen
    simp only [a7] at hlen
    unfold a7
    have hL := lenV_read hr
    by_cases hz : (15 : Int) < (l.length : Int)
    · have hz1 := eq_true hz
      simp (config := {contextual := true, maxDischargeDepth := 12}) only [tb_at, h0, h1, h2, hlen, hL, hz1, ↓bD0, ↓bD1, ↓bD2, ↓bD3, ↓bD4, ↓bD5, ↓bD6, bU0, bU1, bU2, bU3, bU4, bU5, bU6, bU7, bU8, bU9, bU10, bU11, bU12, bU13, forall_const, List.all_cons, List.all_nil, Option.map_some, List.map_cons, List.map_nil, ne_eq, implies_true, isNx, cs_dec, cs_not, cs_and, cs_or, cs_valid, eq_self, ↓wp_cond, ↓wp_loop, ↓reduceIte, reduceCtorEq, Nat.reduceEqDiff, Nat.reduceLT, Nat.reduceAdd, Nat.reduceMul, Int.ofNat_lt, Int.ofNat_le, exists_const, ae_app, ap_slc, Option.map_none, mkR_none, mkR_some, ar_look, ae_mset, ae_rng, ae_mkmap0, ar_ent, lookV_push, lookV_lowed, msetV_push, msetV_lowed, lt_put, same_put, sto_over, sto_lowed, cs_dead, Option.map_some, beq_self_eq_true, decide_true, cs_true, cs_false, aa_bsl, ↓sg_bsl, ap_nchk, nchkV_ptr, bin_np, bin_npn, bin_npx, bin_npnx, ap_mm, mmV_max, mmV_min, res3, ↓st_callf, aa_mksl, ae_copy, ap_slc3, slc3V_all, bin_nss, bin_nsn, aa_bsl, extV_2, q_known]
    have hz1 := eq_false hz
    have p1 := q_puts_nil false (s := s) (v := v) 0 1
    have p2 := q_froms_nil false (s := s) (v := .int .i64 a) (read_nils ndC s) (by simp) 0 1
    have p3 := q_betweens_nil false (s := s) (v := .int .i64 a) (w := .int .i64 c) (read_nils ndC s) (by simp) 1
    have p4 := q_forgets_nil false (s := s) (v := .int .i64 a) 0 1
    have p5 := q_BFirst_nil false (s := s)
    have p6 := q_BLast_nil false (s := s)
    have p7 := q_BLen_nil false (s := s)
    have p8 := q_BCopy_nil false (s := s)
    simp (config := {contextual := true, maxDischargeDepth := 12}) only [tb_at, h0, h1, h2, hlen, hL, hz1, p1, p2, p3, p4, p5, p6, p7, p8, ↓bD0, ↓bD1, ↓bD2, ↓bD3, ↓bD4, ↓bD5, ↓bD6, bU0, bU1, bU2, bU3, bU4, bU5, bU6, bU7, bU8, bU9, bU10, bU11, bU12, bU13, forall_const, List.all_cons, List.all_nil, Option.map_some, List.map_cons, List.map_nil, ne_eq, implies_true, isNx, cs_dec, cs_not, cs_and, cs_or, cs_valid, eq_self, ↓wp_cond, ↓wp_loop, ↓reduceIte, reduceCtorEq, Nat.reduceEqDiff, Nat.reduceLT, Nat.reduceAdd, Nat.reduceMul, Int.ofNat_lt, Int.ofNat_le, exists_const, ae_app, ap_slc, Option.map_none, mkR_none, mkR_some, ar_look, ae_mset, ae_rng, ae_mkmap0, ar_ent, lookV_push, lookV_lowed, msetV_push, msetV_lowed, lt_put, same_put, sto_over, sto_lowed, cs_dead, Option.map_some, beq_self_eq_true, decide_true, cs_true, cs_false, aa_bsl, ↓sg_bsl, ap_nchk, nchkV_ptr, bin_np, bin_npn, bin_npx, bin_npnx, ap_mm, mmV_max, mmV_min, res3, ↓st_callf, aa_mksl, ae_copy, ap_slc3, slc3V_all, bin_nss, bin_nsn, aa_bsl, extV_2, q_known]

end Go.AM
end
