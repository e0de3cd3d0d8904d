/-
  Rules for stepping through the abstract machine's code by rewriting. Own work of this project.
-/
import Derived.Test.YtfigjolpmhlnpaaP1
import Derived.Test.YtfigjolpmhlnpaaProg
import Derived.KernelRfl
import Derived.RangeFuncRecord
import Derived.RangeFuncCalls
import Derived.OrdersIn
import Derived.LoopNIn
set_option linter.unusedVariables false
set_option linter.unusedSimpArgs false
section
namespace Go.AM
open Go

variable {call : Nat → List AV → St → Option (AV × St)}

/-! ### What holds behind the code may be weakened; loops with a bound -/
theorem awops_mono {base : Nat} {Q Q' : Env → St → Prop} (h : ∀ e t, Q e t → Q' e t) : ∀ (os : List AOper) (env : Env) (s : St), awops call base os Q env s → awops call base os Q' env s
  | [], env, s, k => h _ _ k
  | o :: rest, env, s, k => by
    simp only [awops] at k ⊢
    split at k
    · split at k
      · rename_i x hx
        unfold anext at k ⊢
        split at k
        · split at k
          · exact awops_mono h rest _ _ k
          · split at k
            · exact ⟨k.1, k.2.1, fun q => awops_mono h rest _ _ (k.2.2.1 q), fun e h1 h2 => awops_mono h rest _ _ (k.2.2.2 e h1 h2)⟩
            · exact k
          · exact k
        · exact k
      · split at k
        · exact awops_mono h rest _ _ k
        · exact k
    · exact awops_mono h rest _ _ k
    · exact k
theorem arounds_mono {b : (AEx → Env → St → Prop) → Env → St → Prop} (hb : ∀ {Q Q' : AEx → Env → St → Prop}, (∀ x e t, Q x e t → Q' x e t) → ∀ {e t}, b Q e t → b Q' e t) {Q Q' : AEx → Env → St → Prop} (h : ∀ x e t, Q x e t → Q' x e t) :
    ∀ (n m : Nat) {e : Env} {t : St}, n ≤ m → arounds b Q n e t → arounds b Q' m e t
  | 0, _, _, _, _, k => k.elim
  | n + 1, 0, _, _, hn, _ => by omega
  | n + 1, m + 1, e, t, hn, k => by
    simp only [arounds] at k ⊢
    refine hb (fun x e t q => ?_) k
    cases x with
    | nor => exact arounds_mono hb h n m (by omega) q
    | exit i => exact h _ _ _ q
    | ret => exact h _ _ _ q
theorem awp_mono : ∀ (c : AC) {Q Q' : AEx → Env → St → Prop} (h : ∀ x e t, Q x e t → Q' x e t) {env : Env} {s : St}, awp call c Q env s → awp call c Q' env s
  | .skip, _, _, h, _, _, k => h _ _ _ k
  | .reg os, _, _, h, _, _, k => awops_mono (h .nor) os _ _ k
  | .regd n os, _, _, h, _, _, k => by
    obtain ⟨e, t, h1, h2⟩ := k
    exact ⟨e, t, h1, h _ _ _ h2⟩
  | .regw os chk, _, _, h, _, _, k => by
    obtain ⟨e, t, h1, h3, h2⟩ := k
    exact ⟨e, t, h1, h3, h _ _ _ h2⟩
  | .seq a b, Q, Q', h, _, _, k => by
    refine awp_mono a (fun x e t q => ?_) k
    cases x with
    | nor => exact awp_mono b h q
    | exit i => exact h _ _ _ q
    | ret => exact h _ _ _ q
  | .cond c a b, Q, Q', h, env, s, k => by
    simp only [awp] at k ⊢
    split at k
    · exact awp_mono a h k
    · exact awp_mono b h k
    · exact k
  | .block id c, Q, Q', h, _, _, k => by
    refine awp_mono c (fun x e t q => ?_) k
    cases x with
    | nor => exact h _ _ _ q
    | exit i =>
      simp only at q ⊢
      split
      · rename_i hi
        rw [if_pos hi] at q
        exact h _ _ _ q
      · rename_i hi
        rw [if_neg hi] at q
        exact h _ _ _ q
    | ret => exact h _ _ _ q
  | .loop c, Q, Q', h, env, s, k => by
    obtain ⟨n, k⟩ := k
    exact ⟨n, arounds_mono (b := awp call c) (fun h => fun q => awp_mono c h q) h n n (Nat.le_refl _) k⟩
  | .exit _, _, _, h, _, _, k => h _ _ _ k
  | .ret, _, _, h, _, _, k => h _ _ _ k
  | .bad, _, _, _, _, _, k => k

theorem awp_loop {c : AC} {Q : AEx → Env → St → Prop} (I : Nat → Env → St → Prop)
    (step : ∀ n e t, I n e t → awp call c (fun x e' t' => match x with
      | .nor => ∃ m, m < n ∧ I m e' t'
      | x => Q x e' t') e t) {n : Nat} {e : Env} {t : St} (h : I n e t) : awp call (.loop c) Q e t := by
  have key : ∀ n e t, I n e t → arounds (awp call c) Q (n + 1) e t := by
    intro n
    induction n using Nat.strongRecOn with
    | ind n ih =>
      intro e t h
      simp only [arounds]
      refine awp_mono c (fun x e' t' q => ?_) (step n e t h)
      cases x with
      | nor =>
        obtain ⟨m, h1, h2⟩ := q
        exact arounds_mono (b := awp call c) (fun h => fun q => awp_mono c h q) (fun _ _ _ q => q) (m + 1) n (by omega) (ih m h1 e' t' h2)
      | exit i => exact q
      | ret => exact q
  exact ⟨n + 1, key n e t h⟩
universe u
theorem nrfl {α : Sort u} {a b : α} (h : a = b) : a = b := by
  cases h
  rfl
/-! ### Temporaries -/
def E (env : Env) (i : Nat) : AV := env.getD i .und
theorem aev_t (env : Env) (n : Nat) : aev env (.t n) = E env n := nrfl rfl
theorem aev_c (env : Env) (v : AV) : aev env (.c v) = v := nrfl rfl
theorem aev_f (env : Env) (n : Nat) : aev env (.f n) = .fn n [] := nrfl rfl
theorem E_same {env : Env} {i : Nat} (h : i < env.length) (v : AV) : E (env.set i v) i = v := by
  simp [E, h]
theorem E_ne {i j : Nat} (h : i ≠ j) (env : Env) (v : AV) : E (env.set i v) j = E env j := by
  simp [E, List.getElem?_set_ne h]
def pE (env : Env) (d : Option Nat) (v : AV) : Env := putE env d v
theorem pE_none (env : Env) (v : AV) : pE env none v = env := nrfl rfl
def elen (env : Env) : Nat := env.length
theorem E_pne {i j : Nat} (h : i ≠ j) (env : Env) (v : AV) : E (pE env (some i) v) j = E env j := E_ne h env v
theorem E_psame {env : Env} {i : Nat} (h : i < elen env) (v : AV) : E (pE env (some i) v) i = v := E_same h v
theorem elen_put (env : Env) (d : Option Nat) (v : AV) : elen (pE env d v) = elen env := by cases d <;> simp [elen, pE, putE]
theorem start_env {args : List AV} {n : Nat} (h : args.length ≤ n) {p : Env → Prop} (k : ∀ env : Env, elen env = n → (∀ i v, args[i]? = some v → E env i = v) → p env) : p (args ++ List.replicate (n - args.length) .und) := by
  refine k _ (by simp [elen]; omega) fun i v hi => ?_
  have := (List.getElem?_eq_some_iff.1 hi).1
  simp [E, List.getElem?_append_left this, hi]

/-! ### Steps -/
def pstep (o : Option AV) (K : AV → Prop) : Prop := match o with
  | some v => K v
  | none => False
def estep (o : Option (AV × St)) (K : AV → St → Prop) : Prop := match o with
  | some (v, s) => K v s
  | none => False
theorem pstep_some (v : AV) (K : AV → Prop) : pstep (some v) K = K v := nrfl rfl
theorem estep_some (v : AV) (s : St) (K : AV → St → Prop) : estep (some (v, s)) K = K v s := nrfl rfl
def isT (w : Bool) : AV → Bool
  | .bool b => b == w
  | _ => false
def gstep (v : AV) (w : Bool) (A B : Prop) : Prop := match v with
  | .bool b => if b = w then A else B
  | .any => False
  | _ => B
theorem gstep_tt (A B : Prop) : gstep (.bool true) true A B = A := nrfl rfl
theorem gstep_ff (A B : Prop) : gstep (.bool false) false A B = A := nrfl rfl
theorem gstep_tf (A B : Prop) : gstep (.bool true) false A B = B := nrfl rfl
theorem gstep_ft (A B : Prop) : gstep (.bool false) true A B = B := nrfl rfl
theorem gstep_und (w : Bool) (A B : Prop) : gstep .und w A B = B := nrfl rfl
@[congr] theorem gstep_congr {v v' : AV} (h : v = v') (w : Bool) (A B : Prop) : gstep v w A B = gstep v' w A B := by rw [h]
@[congr] theorem pstep_congr {o o' : Option AV} (h : o = o') (K : AV → Prop) : pstep o K = pstep o' K := by rw [h]
@[congr] theorem estep_congr {o o' : Option (AV × St)} (h : o = o') (K : AV → St → Prop) : estep o K = estep o' K := by rw [h]

variable {base : Nat} {d : Option Nat} {r : Option Nat} {fr : Bool} {rest : List AOper} {Q : Env → St → Prop} {env : Env} {s : St}

theorem st_nil : awops call base [] Q env s = Q env s := nrfl rfl
theorem st_guard (op : AOp) (t : Nat) (w : Bool) : awops call base (⟨d, op, some (t, w), r, fr⟩ :: rest) Q env s =
    gstep (E env t) w (awops call base (⟨d, op, none, r, fr⟩ :: rest) Q env s) (awops call base rest Q (pE env d .und) s) := by
  simp only [awops, wanted]
  unfold E
  generalize env.getD t .und = v
  cases v <;> try rfl
  rename_i b
  cases b <;> cases w <;> rfl
theorem awops_cons {op : AOp} (h0 : ∀ x, op ≠ .nxt x) : awops call base (⟨d, op, none, r, fr⟩ :: rest) Q env s = estep (aop call base ⟨d, op, none, r, fr⟩ env s) fun v t => awops call base rest Q (pE env d v) t := by
  cases op
  case nxt x => exact absurd rfl (h0 x)
  all_goals rfl
theorem st_pure {op : AOp} (h0 : ∀ x, op ≠ .nxt x) (h1 : aalloc env op = none) (h2 : aread call env s op = none) (h3 : ∀ s, aeff call env s op = none) :
    awops call base (⟨d, op, none, r, fr⟩ :: rest) Q env s = pstep (apure env op) fun v => awops call base rest Q (pE env d v) s := by
  rw [awops_cons h0]
  simp only [aop, h1, h2, h3]
  cases apure env op with
  | some v => rfl
  | none => cases fr <;> rfl
theorem st_read {op : AOp} (h0 : ∀ x, op ≠ .nxt x) (h1 : aalloc env op = none) (h2 : apure env op = none) (h3 : ∀ s, aeff call env s op = none) :
    awops call base (⟨d, op, none, r, false⟩ :: rest) Q env s = pstep (aread call env s op) fun v => awops call base rest Q (pE env d v) s := by
  rw [awops_cons h0]
  simp only [aop, h1, h2, h3, Bool.false_and, Bool.false_eq_true, if_false]
  cases aread call env s op with
  | some v => rfl
  | none => rfl
theorem st_eff {op : AOp} (h0 : ∀ x, op ≠ .nxt x) (h1 : aalloc env op = none) (h2 : apure env op = none) (h3 : aread call env s op = none) :
    awops call base (⟨d, op, none, r, false⟩ :: rest) Q env s = estep (aeff call env s op) fun v t => awops call base rest Q (pE env d v) t := by
  rw [awops_cons h0]
  simp only [aop, h1, h2, h3]
  rfl
theorem st_efff {op : AOp} (h0 : ∀ x, op ≠ .nxt x) (h1 : aalloc env op = none) (h2 : apure env op = none) (h3 : aread call env s op = none) :
    awops call base (⟨d, op, none, r, true⟩ :: rest) Q env s = estep (aeff call env { s with low := s.next } op) fun v t => if op.floor base s.next ≤ t.low then awops call base rest Q (pE env d v) { t with low := min s.low t.low } else False := by
  rw [awops_cons h0]
  simp only [aop, h1, h2, h3, if_true]
  cases aeff call env { s with low := s.next } op with
  | some v =>
    simp only [estep]
    split <;> rename_i h
    · split at h
      · rename_i h'
        injection h with h
        obtain ⟨rfl, rfl⟩ := Prod.mk.inj h
        rw [if_pos h']
      · cases h
    · split at h
      · cases h
      · rename_i h'
        rw [if_neg h']
  | none => rfl
def astep (o : Option ((Nat → AV) × AB)) (K : (Nat → AV) → AB → Prop) : Prop := match o with
  | some (v, b) => K v b
  | none => False
@[congr] theorem astep_congr {o o' : Option ((Nat → AV) × AB)} (h : o = o') (K : (Nat → AV) → AB → Prop) : astep o K = astep o' K := by rw [h]
theorem astep_some (v : Nat → AV) (b : AB) (K : (Nat → AV) → AB → Prop) : astep (some (v, b)) K = K v b := nrfl rfl
theorem st_alloc {op : AOp} (h0 : ∀ x, op ≠ .nxt x) (h1 : apure env op = none) (h2 : aread call env s op = none) (h3 : ∀ s, aeff call env s op = none) :
    awops call base (⟨d, op, none, none, fr⟩ :: rest) Q env s = astep (aalloc env op) fun v b => awops call base rest Q (pE env d (v s.next)) (s.push b) := by
  rw [awops_cons h0]
  simp only [aop, h1, h2, h3]
  cases aalloc env op with
  | some v => rfl
  | none => cases fr <;> rfl
def bstep (o : Option AB) (A : Prop) : Prop := match o with
  | some .unborn => A
  | _ => False
theorem bstep_some (A : Prop) : bstep (some .unborn) A = A := nrfl rfl
@[congr] theorem bstep_congr {o o' : Option AB} (h : o = o') (A : Prop) : bstep o A = bstep o' A := by rw [h]
theorem st_allocr {op : AOp} {j : Nat} (h0 : ∀ x, op ≠ .nxt x) (h1 : apure env op = none) (h2 : aread call env s op = none) (h3 : ∀ s, aeff call env s op = none) :
    awops call base (⟨d, op, none, some j, fr⟩ :: rest) Q env s = astep (aalloc env op) fun v b => bstep (s.get (base + j)) (awops call base rest Q (pE env d (v (base + j))) (s.born (base + j) b)) := by
  rw [awops_cons h0]
  simp only [aop, h1, h2, h3]
  cases aalloc env op with
  | some v =>
    simp only [astep, bstep]
    cases s.get (base + j) with
    | none => rfl
    | some b => cases b <;> rfl
  | none => cases fr <;> rfl

theorem st_mv (x : AO) : awops call base (⟨d, .mv x, none, r, fr⟩ :: rest) Q env s = pstep (some (aev env x)) fun v => awops call base rest Q (pE env d v) s := nrfl rfl
theorem st_pick (c a b : AO) : awops call base (⟨d, .pick c a b, none, r, fr⟩ :: rest) Q env s = pstep (apure env (.pick c a b)) fun v => awops call base rest Q (pE env d v) s := st_pure (by simp) rfl rfl fun _ => rfl
theorem st_build (z : List AV) (ps : List (Nat × Nat × AO)) : awops call base (⟨d, .build z ps, none, r, fr⟩ :: rest) Q env s = pstep (apure env (.build z ps)) fun v => awops call base rest Q (pE env d v) s := st_pure (by simp) rfl rfl fun _ => rfl
theorem st_bin (o : BinOp) (k : EK) (x y : AO) : awops call base (⟨d, .bin o k x y, none, r, fr⟩ :: rest) Q env s = pstep (binOp o k (aev env x) (aev env y)) fun v => awops call base rest Q (pE env d v) s := st_pure (op := .bin o k x y) (by simp) rfl rfl fun _ => rfl
theorem st_un (o : UnOp) (x : AO) : awops call base (⟨d, .un o x, none, r, fr⟩ :: rest) Q env s = pstep (apure env (.un o x)) fun v => awops call base rest Q (pE env d v) s := st_pure (by simp) rfl rfl fun _ => rfl
theorem st_conv (k : IntKind) (x : AO) : awops call base (⟨d, .conv k x, none, r, fr⟩ :: rest) Q env s = pstep (apure env (.conv k x)) fun v => awops call base rest Q (pE env d v) s := st_pure (by simp) rfl rfl fun _ => rfl
theorem st_mkfn (f : Nat) (x : List AO) : awops call base (⟨d, .mkfn f x, none, r, fr⟩ :: rest) Q env s = pstep (apure env (.mkfn f x)) fun v => awops call base rest Q (pE env d v) s := st_pure (by simp) rfl rfl fun _ => rfl
theorem st_slc (n : Nat) (x : AO) (a b c : Option AO) : awops call base (⟨d, .slc n x a b c, none, r, fr⟩ :: rest) Q env s = pstep (apure env (.slc n x a b c)) fun v => awops call base rest Q (pE env d v) s := st_pure (by simp) rfl rfl fun _ => rfl
theorem st_slcs (x : AO) (a b : Option AO) : awops call base (⟨d, .slcs x a b, none, r, fr⟩ :: rest) Q env s = pstep (apure env (.slcs x a b)) fun v => awops call base rest Q (pE env d v) s := st_pure (by simp) rfl rfl fun _ => rfl
theorem st_fad (o : Nat) (x : AO) : awops call base (⟨d, .fad o x, none, r, fr⟩ :: rest) Q env s = pstep (apure env (.fad o x)) fun v => awops call base rest Q (pE env d v) s := st_pure (by simp) rfl rfl fun _ => rfl
theorem st_fld (b : Bool) (o n : Nat) (x : AO) : awops call base (⟨d, .fld b o n x, none, r, fr⟩ :: rest) Q env s = pstep (apure env (.fld b o n x)) fun v => awops call base rest Q (pE env d v) s := st_pure (by simp) rfl rfl fun _ => rfl
theorem st_iad (n : Nat) (x i : AO) : awops call base (⟨d, .iad n x i, none, r, fr⟩ :: rest) Q env s = pstep (apure env (.iad n x i)) fun v => awops call base rest Q (pE env d v) s := st_pure (by simp) rfl rfl fun _ => rfl
theorem st_idxs (x i : AO) : awops call base (⟨d, .idxs x i, none, r, fr⟩ :: rest) Q env s = pstep (apure env (.idxs x i)) fun v => awops call base rest Q (pE env d v) s := st_pure (by simp) rfl rfl fun _ => rfl
theorem st_ext (x : AO) (i : Nat) : awops call base (⟨d, .ext x i, none, r, fr⟩ :: rest) Q env s = pstep (apure env (.ext x i)) fun v => awops call base rest Q (pE env d v) s := st_pure (by simp) rfl rfl fun _ => rfl
theorem st_len (x : AO) : awops call base (⟨d, .len .sl x, none, r, fr⟩ :: rest) Q env s = pstep (apure env (.len .sl x)) fun v => awops call base rest Q (pE env d v) s := st_pure (by simp) rfl rfl fun _ => rfl
theorem st_lens (x : AO) : awops call base (⟨d, .len .st x, none, r, fr⟩ :: rest) Q env s = pstep (apure env (.len .st x)) fun v => awops call base rest Q (pE env d v) s := st_pure (by simp) rfl rfl fun _ => rfl
theorem st_cap (x : AO) : awops call base (⟨d, .cap x, none, r, fr⟩ :: rest) Q env s = pstep (apure env (.cap x)) fun v => awops call base rest Q (pE env d v) s := st_pure (by simp) rfl rfl fun _ => rfl
theorem st_mm (b : Bool) (x : List AO) : awops call base (⟨d, .mm b x, none, r, fr⟩ :: rest) Q env s = pstep (apure env (.mm b x)) fun v => awops call base rest Q (pE env d v) s := st_pure (by simp) rfl rfl fun _ => rfl
theorem st_nchk (x : AO) : awops call base (⟨d, .nchk x, none, r, fr⟩ :: rest) Q env s = pstep (apure env (.nchk x)) fun v => awops call base rest Q (pE env d v) s := st_pure (by simp) rfl rfl fun _ => rfl
theorem st_load1 (x : AO) : awops call base (⟨d, .load1 x, none, r, false⟩ :: rest) Q env s = pstep (aread call env s (.load1 x)) fun v => awops call base rest Q (pE env d v) s := st_read (by simp) rfl rfl fun _ => rfl
theorem st_loadn (n : Nat) (x : AO) : awops call base (⟨d, .loadn n x, none, r, false⟩ :: rest) Q env s = pstep (aread call env s (.loadn n x)) fun v => awops call base rest Q (pE env d v) s := st_read (by simp) rfl rfl fun _ => rfl
theorem st_b2s (x : AO) : awops call base (⟨d, .b2s x, none, r, false⟩ :: rest) Q env s = pstep (aread call env s (.b2s x)) fun v => awops call base rest Q (pE env d v) s := st_read (by simp) rfl rfl fun _ => rfl
theorem st_look (z : AV) (k : EK) (ok : Bool) (m i : AO) : awops call base (⟨d, .look z k ok m i, none, r, false⟩ :: rest) Q env s = pstep (aread call env s (.look z k ok m i)) fun v => awops call base rest Q (pE env d v) s := st_read (by simp) rfl rfl fun _ => rfl
theorem st_lenm (x : AO) : awops call base (⟨d, .len .mp x, none, r, false⟩ :: rest) Q env s = pstep (aread call env s (.len .mp x)) fun v => awops call base rest Q (pE env d v) s := st_read (by simp) rfl rfl fun _ => rfl
theorem st_ent (x : AO) : awops call base (⟨d, .ent x, none, r, false⟩ :: rest) Q env s = pstep (aread call env s (.ent x)) fun v => awops call base rest Q (pE env d v) s := st_read (by simp) rfl rfl fun _ => rfl
theorem st_calld (f : Nat) (l : List AO) : awops call base (⟨d, .call f true l, none, r, false⟩ :: rest) Q env s = pstep (aread call env s (.call f true l)) fun v => awops call base rest Q (pE env d v) s := st_read (by simp) rfl rfl fun _ => rfl
theorem st_callvd (x : AO) (l : List AO) : awops call base (⟨d, .callv x true l, none, r, false⟩ :: rest) Q env s = pstep (aread call env s (.callv x true l)) fun v => awops call base rest Q (pE env d v) s := st_read (by simp) rfl rfl fun _ => rfl
theorem st_call (f : Nat) (l : List AO) : awops call base (⟨d, .call f false l, none, r, false⟩ :: rest) Q env s = estep (acall (call f) false (l.map (aev env)) s) fun v t => awops call base rest Q (pE env d v) t := st_eff (op := .call f false l) (by simp) rfl rfl rfl
theorem st_callv (x : AO) (l : List AO) : awops call base (⟨d, .callv x false l, none, r, false⟩ :: rest) Q env s = estep (aeff call env s (.callv x false l)) fun v t => awops call base rest Q (pE env d v) t := st_eff (by simp) rfl rfl rfl
theorem st_store (n : Nat) (a x : AO) : awops call base (⟨d, .store n a x, none, r, false⟩ :: rest) Q env s = estep (aeff call env s (.store n a x)) fun v t => awops call base rest Q (pE env d v) t := st_eff (by simp) rfl rfl rfl
theorem st_storef (n : Nat) (a x : AO) : awops call base (⟨d, .store n a x, none, r, true⟩ :: rest) Q env s = estep (aeff call env { s with low := s.next } (.store n a x)) fun v t => if (AOp.store n a x).floor base s.next ≤ t.low then awops call base rest Q (pE env d v) { t with low := min s.low t.low } else False := st_efff (by simp) rfl rfl rfl
theorem st_mkmap (x : Option AO) : awops call base (⟨d, .mkmap x, none, r, false⟩ :: rest) Q env s = estep (aeff call env s (.mkmap x)) fun v t => awops call base rest Q (pE env d v) t := st_eff (by simp) rfl rfl rfl
theorem st_mset (k : EK) (m i x : AO) : awops call base (⟨d, .mset k m i x, none, r, false⟩ :: rest) Q env s = estep (aeff call env s (.mset k m i x)) fun v t => awops call base rest Q (pE env d v) t := st_eff (by simp) rfl rfl rfl
theorem st_mdel (k : EK) (m i : AO) : awops call base (⟨d, .mdel k m i, none, r, false⟩ :: rest) Q env s = estep (aeff call env s (.mdel k m i)) fun v t => awops call base rest Q (pE env d v) t := st_eff (by simp) rfl rfl rfl
theorem st_rng (x : AO) : awops call base (⟨d, .rng x, none, r, false⟩ :: rest) Q env s = estep (aeff call env s (.rng x)) fun v t => awops call base rest Q (pE env d v) t := st_eff (by simp) rfl rfl rfl
theorem st_app (sz b : Nat) (z : List AV) (a x : AO) : awops call base (⟨d, .app sz b z a x, none, r, false⟩ :: rest) Q env s = estep (aeff call env s (.app sz b z a x)) fun v t => awops call base rest Q (pE env d v) t := st_eff (by simp) rfl rfl rfl
theorem st_appz (sz b : Nat) (z : List AV) (a x : AO) : awops call base (⟨d, .appz sz b z a x, none, r, false⟩ :: rest) Q env s = estep (aeff call env s (.appz sz b z a x)) fun v t => awops call base rest Q (pE env d v) t := st_eff (by simp) rfl rfl rfl
theorem st_clr (z : List AV) (x : AO) : awops call base (⟨d, .clr z x, none, r, false⟩ :: rest) Q env s = estep (aeff call env s (.clr z x)) fun v t => awops call base rest Q (pE env d v) t := st_eff (by simp) rfl rfl rfl
theorem st_copy (sz : Nat) (a x : AO) : awops call base (⟨d, .copy sz a x, none, r, false⟩ :: rest) Q env s = estep (aeff call env s (.copy sz a x)) fun v t => awops call base rest Q (pE env d v) t := st_eff (by simp) rfl rfl rfl
theorem st_allo (z : List AV) : awops call base (⟨d, .alloc z, none, none, fr⟩ :: rest) Q env s = awops call base rest Q (pE env d (.ptr s.next 0)) (s.push (.row z true)) := nrfl rfl
theorem st_allor (z : List AV) (j : Nat) : awops call base (⟨d, .alloc z, none, some j, fr⟩ :: rest) Q env s = bstep (s.get (base + j)) (awops call base rest Q (pE env d (.ptr (base + j) 0)) (s.born (base + j) (.row z true))) := st_allocr (op := .alloc z) (by simp) rfl rfl fun _ => rfl
theorem st_box (n : Nat) (x : AO) : awops call base (⟨d, .box n x, none, none, fr⟩ :: rest) Q env s = astep (aalloc env (.box n x)) fun v b => awops call base rest Q (pE env d (v s.next)) (s.push b) := st_alloc (by simp) rfl rfl fun _ => rfl
theorem st_boxr (n : Nat) (x : AO) (j : Nat) : awops call base (⟨d, .box n x, none, some j, fr⟩ :: rest) Q env s = astep (aalloc env (.box n x)) fun v b => bstep (s.get (base + j)) (awops call base rest Q (pE env d (v (base + j))) (s.born (base + j) b)) := st_allocr (by simp) rfl rfl fun _ => rfl
theorem st_bsl (z : List AV) (l n : Nat) (ps : List (Nat × AO)) : awops call base (⟨d, .bsl z l n ps, none, none, fr⟩ :: rest) Q env s = astep (aalloc env (.bsl z l n ps)) fun v b => awops call base rest Q (pE env d (v s.next)) (s.push b) := st_alloc (by simp) rfl rfl fun _ => rfl
theorem st_bslr (z : List AV) (l n : Nat) (ps : List (Nat × AO)) (j : Nat) : awops call base (⟨d, .bsl z l n ps, none, some j, fr⟩ :: rest) Q env s = astep (aalloc env (.bsl z l n ps)) fun v b => bstep (s.get (base + j)) (awops call base rest Q (pE env d (v (base + j))) (s.born (base + j) b)) := st_allocr (by simp) rfl rfl fun _ => rfl
theorem st_mksl (z : List AV) (n : Nat) (a b : AO) : awops call base (⟨d, .mksl z n a b, none, none, fr⟩ :: rest) Q env s = astep (aalloc env (.mksl z n a b)) fun v b => awops call base rest Q (pE env d (v s.next)) (s.push b) := st_alloc (by simp) rfl rfl fun _ => rfl
theorem st_mkslr (z : List AV) (n : Nat) (a b : AO) (j : Nat) : awops call base (⟨d, .mksl z n a b, none, some j, fr⟩ :: rest) Q env s = astep (aalloc env (.mksl z n a b)) fun v b => bstep (s.get (base + j)) (awops call base rest Q (pE env d (v (base + j))) (s.born (base + j) b)) := st_allocr (by simp) rfl rfl fun _ => rfl


/-! ### Steps behind a guard -/
def sel (b : Bool) (x : AV) : AV := if b then x else .und
theorem sel_true (x : AV) : sel true x = x := nrfl rfl
theorem sel_false (x : AV) : sel false x = .und := nrfl rfl
def gP (w : Bool) (v : AV) : Prop := isT w v = true
theorem gP_bt (b : Bool) : gP true (.bool b) = (b = true) := by cases b <;> simp [gP, isT]
theorem gP_bf (b : Bool) : gP false (.bool b) = (b = false) := by cases b <;> simp [gP, isT]
theorem gP_st (p b : Bool) : gP true (sel p (.bool b)) = (p = true ∧ b = true) := by cases p <;> cases b <;> simp [gP, isT, sel]
theorem gP_sf (p b : Bool) : gP false (sel p (.bool b)) = (p = true ∧ b = false) := by cases p <;> cases b <;> simp [gP, isT, sel]
theorem gP_und (w : Bool) : gP w .und = False := by simp [gP, isT]
def gpure (v : AV) (w : Bool) (o : Option AV) (K : AV → Prop) : Prop := gstep v w (pstep o K) (K .und)
@[congr] theorem gpure_congr {v v' : AV} {w : Bool} {g : Prop} {o o' : Option AV} (h : v = v') (hg : gP w v' = g) (ho : g → o = o') (K : AV → Prop) : gpure v w o K = gpure v' w o' K := by
  subst h
  subst hg
  unfold gpure
  by_cases hv : isT w v = true
  · rw [ho hv]
  · cases v <;> try rfl
    rename_i b
    cases b <;> cases w <;> first | rfl | exact absurd rfl hv
theorem gpure_bt (b : Bool) (x : AV) (K : AV → Prop) : gpure (.bool b) true (some x) K = K (sel b x) := by cases b <;> rfl
theorem gpure_bf (b : Bool) (x : AV) (K : AV → Prop) : gpure (.bool b) false (some x) K = K (sel (!b) x) := by cases b <;> rfl
theorem gpure_st (p b : Bool) (x : AV) (K : AV → Prop) : gpure (sel p (.bool b)) true (some x) K = K (sel (p && b) x) := by cases p <;> cases b <;> rfl
theorem gpure_sf (p b : Bool) (x : AV) (K : AV → Prop) : gpure (sel p (.bool b)) false (some x) K = K (sel (p && !b) x) := by cases p <;> cases b <;> rfl
theorem gpure_und (w : Bool) (o : Option AV) (K : AV → Prop) : gpure .und w o K = K .und := nrfl rfl
theorem gpure_tf (o : Option AV) (K : AV → Prop) : gpure (.bool true) false o K = K .und := nrfl rfl
theorem gpure_ft (o : Option AV) (K : AV → Prop) : gpure (.bool false) true o K = K .und := nrfl rfl
theorem gpure_sft (p : Bool) (o : Option AV) (K : AV → Prop) : gpure (sel p (.bool false)) true o K = K .und := by cases p <;> rfl
theorem gpure_stf (p : Bool) (o : Option AV) (K : AV → Prop) : gpure (sel p (.bool true)) false o K = K .und := by cases p <;> rfl
def gcall (s : St) (v : AV) (w : Bool) (o : Option (AV × St)) (K : AV → St → Prop) : Prop := gstep v w (estep o K) (K .und s)
@[congr] theorem gcall_congr {s : St} {v v' : AV} {w : Bool} {g : Prop} {o o' : Option (AV × St)} (h : v = v') (hg : gP w v' = g) (ho : g → o = o') (K : AV → St → Prop) : gcall s v w o K = gcall s v' w o' K := by
  subst h
  subst hg
  unfold gcall
  by_cases hv : isT w v = true
  · rw [ho hv]
  · cases v <;> try rfl
    rename_i b
    cases b <;> cases w <;> first | rfl | exact absurd rfl hv
theorem gcall_bt (s : St) (b : Bool) (x : AV) (K : AV → St → Prop) : gcall s (.bool b) true (some (x, s)) K = K (sel b x) s := by cases b <;> rfl
theorem gcall_bf (s : St) (b : Bool) (x : AV) (K : AV → St → Prop) : gcall s (.bool b) false (some (x, s)) K = K (sel (!b) x) s := by cases b <;> rfl
theorem gcall_st (s : St) (p b : Bool) (x : AV) (K : AV → St → Prop) : gcall s (sel p (.bool b)) true (some (x, s)) K = K (sel (p && b) x) s := by cases p <;> cases b <;> rfl
theorem gcall_sf (s : St) (p b : Bool) (x : AV) (K : AV → St → Prop) : gcall s (sel p (.bool b)) false (some (x, s)) K = K (sel (p && !b) x) s := by cases p <;> cases b <;> rfl
theorem gcall_und (s : St) (w : Bool) (o : Option (AV × St)) (K : AV → St → Prop) : gcall s .und w o K = K .und s := nrfl rfl
theorem gcall_tf (s : St) (o : Option (AV × St)) (K : AV → St → Prop) : gcall s (.bool true) false o K = K .und s := nrfl rfl
theorem gcall_ft (s : St) (o : Option (AV × St)) (K : AV → St → Prop) : gcall s (.bool false) true o K = K .und s := nrfl rfl
theorem gcall_sft (s : St) (p : Bool) (o : Option (AV × St)) (K : AV → St → Prop) : gcall s (sel p (.bool false)) true o K = K .und s := by cases p <;> rfl
theorem gcall_stf (s : St) (p : Bool) (o : Option (AV × St)) (K : AV → St → Prop) : gcall s (sel p (.bool true)) false o K = K .und s := by cases p <;> rfl
theorem gcall_tt (s : St) (o : Option (AV × St)) (K : AV → St → Prop) : gcall s (.bool true) true o K = estep o K := nrfl rfl
theorem gcall_ff (s : St) (o : Option (AV × St)) (K : AV → St → Prop) : gcall s (.bool false) false o K = estep o K := nrfl rfl

theorem sg_mv (x : AO) (t : Nat) (w : Bool) : awops call base (⟨d, .mv x, some (t, w), r, fr⟩ :: rest) Q env s = gpure (E env t) w (some (aev env x)) fun v => awops call base rest Q (pE env d v) s := by
  rw [st_guard, st_mv]
  rfl
theorem sg_pick (c a b : AO) (t : Nat) (w : Bool) : awops call base (⟨d, .pick c a b, some (t, w), r, fr⟩ :: rest) Q env s = gpure (E env t) w (apure env (.pick c a b)) fun v => awops call base rest Q (pE env d v) s := by
  rw [st_guard, st_pick]
  rfl
theorem sg_build (z : List AV) (ps : List (Nat × Nat × AO)) (t : Nat) (w : Bool) : awops call base (⟨d, .build z ps, some (t, w), r, fr⟩ :: rest) Q env s = gpure (E env t) w (apure env (.build z ps)) fun v => awops call base rest Q (pE env d v) s := by
  rw [st_guard, st_build]
  rfl
theorem sg_bin (o : BinOp) (k : EK) (x y : AO) (t : Nat) (w : Bool) : awops call base (⟨d, .bin o k x y, some (t, w), r, fr⟩ :: rest) Q env s = gpure (E env t) w (binOp o k (aev env x) (aev env y)) fun v => awops call base rest Q (pE env d v) s := by
  rw [st_guard, st_bin]
  rfl
theorem sg_un (o : UnOp) (x : AO) (t : Nat) (w : Bool) : awops call base (⟨d, .un o x, some (t, w), r, fr⟩ :: rest) Q env s = gpure (E env t) w (apure env (.un o x)) fun v => awops call base rest Q (pE env d v) s := by
  rw [st_guard, st_un]
  rfl
theorem sg_conv (k : IntKind) (x : AO) (t : Nat) (w : Bool) : awops call base (⟨d, .conv k x, some (t, w), r, fr⟩ :: rest) Q env s = gpure (E env t) w (apure env (.conv k x)) fun v => awops call base rest Q (pE env d v) s := by
  rw [st_guard, st_conv]
  rfl
theorem sg_mkfn (f : Nat) (x : List AO) (t : Nat) (w : Bool) : awops call base (⟨d, .mkfn f x, some (t, w), r, fr⟩ :: rest) Q env s = gpure (E env t) w (apure env (.mkfn f x)) fun v => awops call base rest Q (pE env d v) s := by
  rw [st_guard, st_mkfn]
  rfl
theorem sg_slc (n : Nat) (x : AO) (a b c : Option AO) (t : Nat) (w : Bool) : awops call base (⟨d, .slc n x a b c, some (t, w), r, fr⟩ :: rest) Q env s = gpure (E env t) w (apure env (.slc n x a b c)) fun v => awops call base rest Q (pE env d v) s := by
  rw [st_guard, st_slc]
  rfl
theorem sg_slcs (x : AO) (a b : Option AO) (t : Nat) (w : Bool) : awops call base (⟨d, .slcs x a b, some (t, w), r, fr⟩ :: rest) Q env s = gpure (E env t) w (apure env (.slcs x a b)) fun v => awops call base rest Q (pE env d v) s := by
  rw [st_guard, st_slcs]
  rfl
theorem sg_fad (o : Nat) (x : AO) (t : Nat) (w : Bool) : awops call base (⟨d, .fad o x, some (t, w), r, fr⟩ :: rest) Q env s = gpure (E env t) w (apure env (.fad o x)) fun v => awops call base rest Q (pE env d v) s := by
  rw [st_guard, st_fad]
  rfl
theorem sg_fld (b : Bool) (o n : Nat) (x : AO) (t : Nat) (w : Bool) : awops call base (⟨d, .fld b o n x, some (t, w), r, fr⟩ :: rest) Q env s = gpure (E env t) w (apure env (.fld b o n x)) fun v => awops call base rest Q (pE env d v) s := by
  rw [st_guard, st_fld]
  rfl
theorem sg_iad (n : Nat) (x i : AO) (t : Nat) (w : Bool) : awops call base (⟨d, .iad n x i, some (t, w), r, fr⟩ :: rest) Q env s = gpure (E env t) w (apure env (.iad n x i)) fun v => awops call base rest Q (pE env d v) s := by
  rw [st_guard, st_iad]
  rfl
theorem sg_idxs (x i : AO) (t : Nat) (w : Bool) : awops call base (⟨d, .idxs x i, some (t, w), r, fr⟩ :: rest) Q env s = gpure (E env t) w (apure env (.idxs x i)) fun v => awops call base rest Q (pE env d v) s := by
  rw [st_guard, st_idxs]
  rfl
theorem sg_ext (x : AO) (i : Nat) (t : Nat) (w : Bool) : awops call base (⟨d, .ext x i, some (t, w), r, fr⟩ :: rest) Q env s = gpure (E env t) w (apure env (.ext x i)) fun v => awops call base rest Q (pE env d v) s := by
  rw [st_guard, st_ext]
  rfl
theorem sg_len (x : AO) (t : Nat) (w : Bool) : awops call base (⟨d, .len .sl x, some (t, w), r, fr⟩ :: rest) Q env s = gpure (E env t) w (apure env (.len .sl x)) fun v => awops call base rest Q (pE env d v) s := by
  rw [st_guard, st_len]
  rfl
theorem sg_lens (x : AO) (t : Nat) (w : Bool) : awops call base (⟨d, .len .st x, some (t, w), r, fr⟩ :: rest) Q env s = gpure (E env t) w (apure env (.len .st x)) fun v => awops call base rest Q (pE env d v) s := by
  rw [st_guard, st_lens]
  rfl
theorem sg_cap (x : AO) (t : Nat) (w : Bool) : awops call base (⟨d, .cap x, some (t, w), r, fr⟩ :: rest) Q env s = gpure (E env t) w (apure env (.cap x)) fun v => awops call base rest Q (pE env d v) s := by
  rw [st_guard, st_cap]
  rfl
theorem sg_mm (b : Bool) (x : List AO) (t : Nat) (w : Bool) : awops call base (⟨d, .mm b x, some (t, w), r, fr⟩ :: rest) Q env s = gpure (E env t) w (apure env (.mm b x)) fun v => awops call base rest Q (pE env d v) s := by
  rw [st_guard, st_mm]
  rfl
theorem sg_nchk (x : AO) (t : Nat) (w : Bool) : awops call base (⟨d, .nchk x, some (t, w), r, fr⟩ :: rest) Q env s = gpure (E env t) w (apure env (.nchk x)) fun v => awops call base rest Q (pE env d v) s := by
  rw [st_guard, st_nchk]
  rfl
theorem sg_load1 (x : AO) (t : Nat) (w : Bool) : awops call base (⟨d, .load1 x, some (t, w), r, false⟩ :: rest) Q env s = gpure (E env t) w (aread call env s (.load1 x)) fun v => awops call base rest Q (pE env d v) s := by
  rw [st_guard, st_load1]
  rfl
theorem sg_loadn (n : Nat) (x : AO) (t : Nat) (w : Bool) : awops call base (⟨d, .loadn n x, some (t, w), r, false⟩ :: rest) Q env s = gpure (E env t) w (aread call env s (.loadn n x)) fun v => awops call base rest Q (pE env d v) s := by
  rw [st_guard, st_loadn]
  rfl
theorem sg_b2s (x : AO) (t : Nat) (w : Bool) : awops call base (⟨d, .b2s x, some (t, w), r, false⟩ :: rest) Q env s = gpure (E env t) w (aread call env s (.b2s x)) fun v => awops call base rest Q (pE env d v) s := by
  rw [st_guard, st_b2s]
  rfl
theorem sg_look (z : AV) (k : EK) (ok : Bool) (m i : AO) (t : Nat) (w : Bool) : awops call base (⟨d, .look z k ok m i, some (t, w), r, false⟩ :: rest) Q env s = gpure (E env t) w (aread call env s (.look z k ok m i)) fun v => awops call base rest Q (pE env d v) s := by
  rw [st_guard, st_look]
  rfl
theorem sg_lenm (x : AO) (t : Nat) (w : Bool) : awops call base (⟨d, .len .mp x, some (t, w), r, false⟩ :: rest) Q env s = gpure (E env t) w (aread call env s (.len .mp x)) fun v => awops call base rest Q (pE env d v) s := by
  rw [st_guard, st_lenm]
  rfl
theorem sg_ent (x : AO) (t : Nat) (w : Bool) : awops call base (⟨d, .ent x, some (t, w), r, false⟩ :: rest) Q env s = gpure (E env t) w (aread call env s (.ent x)) fun v => awops call base rest Q (pE env d v) s := by
  rw [st_guard, st_ent]
  rfl
theorem sg_calld (f : Nat) (l : List AO) (t : Nat) (w : Bool) : awops call base (⟨d, .call f true l, some (t, w), r, false⟩ :: rest) Q env s = gpure (E env t) w (aread call env s (.call f true l)) fun v => awops call base rest Q (pE env d v) s := by
  rw [st_guard, st_calld]
  rfl
theorem sg_callvd (x : AO) (l : List AO) (t : Nat) (w : Bool) : awops call base (⟨d, .callv x true l, some (t, w), r, false⟩ :: rest) Q env s = gpure (E env t) w (aread call env s (.callv x true l)) fun v => awops call base rest Q (pE env d v) s := by
  rw [st_guard, st_callvd]
  rfl
theorem sg_call (f : Nat) (l : List AO) (t : Nat) (w : Bool) : awops call base (⟨d, .call f false l, some (t, w), r, false⟩ :: rest) Q env s = gcall s (E env t) w (acall (call f) false (l.map (aev env)) s) fun v t => awops call base rest Q (pE env d v) t := by
  rw [st_guard, st_call]
  rfl
theorem sg_callv (x : AO) (l : List AO) (t : Nat) (w : Bool) : awops call base (⟨d, .callv x false l, some (t, w), r, false⟩ :: rest) Q env s = gcall s (E env t) w (aeff call env s (.callv x false l)) fun v t => awops call base rest Q (pE env d v) t := by
  rw [st_guard, st_callv]
  rfl

/-! ### Code -/
def cstep (v : AV) (A B : Prop) : Prop := match v with
  | .bool true => A
  | .bool false => B
  | _ => False
@[congr] theorem cstep_congr {v v' : AV} (h : v = v') (A B : Prop) : cstep v A B = cstep v' A B := by rw [h]
theorem cstep_true (A B : Prop) : cstep (.bool true) A B = A := nrfl rfl
theorem cstep_false (A B : Prop) : cstep (.bool false) A B = B := nrfl rfl
def noNxt (os : List AOper) : Bool := os.all fun o => match o.op with
  | .nxt _ => false
  | _ => true
theorem awops_some : ∀ (os : List AOper) (env : Env) (s : St), noNxt os = true → awops call base os Q env s → ∃ e t, aops call base os env s = some (e, t) ∧ Q e t
  | [], env, s, _, k => ⟨env, s, rfl, k⟩
  | o :: rest, env, s, hn, k => by
    simp only [noNxt, List.all_cons, Bool.and_eq_true] at hn
    simp only [awops] at k
    simp only [aops]
    split at k
    · rename_i hw
      split at k
      · rename_i x hx
        rw [hx] at hn
        exact absurd hn.1 (by simp)
      · split at k
        · rename_i v t hv
          exact awops_some rest _ _ hn.2 k
        · exact k.elim
    · rename_i hw
      exact awops_some rest _ _ hn.2 k
    · exact k.elim
theorem some_awops : ∀ (os : List AOper) (env : Env) (s : St), noNxt os = true → (∃ e t, aops call base os env s = some (e, t) ∧ Q e t) → awops call base os Q env s
  | [], env, s, _, k => by
    obtain ⟨e, t, h1, h2⟩ := k
    simp only [aops] at h1
    injection h1 with h1
    obtain ⟨rfl, rfl⟩ := Prod.mk.inj h1
    exact h2
  | o :: rest, env, s, hn, k => by
    simp only [noNxt, List.all_cons, Bool.and_eq_true] at hn
    obtain ⟨e, t, h1, h2⟩ := k
    simp only [awops]
    simp only [aops] at h1
    split at h1
    · rename_i hw
      split
      · rename_i x hx
        rw [hx] at hn
        exact absurd hn.1 (by simp)
      · split at h1
        · rename_i v t hv
          exact some_awops rest _ _ hn.2 ⟨e, _, h1, h2⟩
        · cases h1
    · rename_i hw
      exact some_awops rest _ _ hn.2 ⟨e, _, h1, h2⟩
    · cases h1
variable {Qx : AEx → Env → St → Prop}
theorem wp_regd' {k : Nat} {os : List AOper} (h : noNxt os = true) : awp call (.regd k os) Qx env s = awops call s.next os (Qx .nor) env (s.reserve k) :=
  propext ⟨fun q => some_awops os _ _ h q, fun q => awops_some os _ _ h q⟩
def rstep (b : Bool) (A B : Prop) : Prop := if b = true then A else B
@[congr] theorem rstep_congr {b b' : Bool} (h : b = b') (A B : Prop) : rstep b A B = rstep b' A B := by rw [h]
theorem rstep_true (A B : Prop) : rstep true A B = A := by simp [rstep]
def isNx : AOp → Bool
  | .nxt _ => false
  | _ => true
theorem noNxt_nil : noNxt [] = true := nrfl rfl
theorem noNxt_cons (o : AOper) (l : List AOper) : noNxt (o :: l) = (isNx o.op && noNxt l) := nrfl (by
  simp only [noNxt, List.all_cons, isNx])
theorem wp_regd (k : Nat) (os : List AOper) : awp call (.regd k os) Qx env s = rstep (noNxt os) (awops call s.next os (Qx .nor) env (s.reserve k)) (∃ env' s', aops call s.next os env (s.reserve k) = some (env', s') ∧ Qx .nor env' s') := by
  cases h : noNxt os
  · simp only [rstep, Bool.false_eq_true, if_false]
    rfl
  · rw [rstep_true]
    exact wp_regd' h
/-- What a region with loads between its writers is to show. -/
def chkE : List (Nat × Nat) → St → Env → Prop
  | [], _, _ => True
  | c :: r, s, e => (c.1 < elen e ∧ ald s (E e c.2) = some (E e c.1)) ∧ chkE r s e
theorem chkE_nil (s : St) (e : Env) : chkE [] s e = True := nrfl rfl
theorem chkE_of : ∀ {l : List (Nat × Nat)} {s : St} {e : Env}, chkE l s e → chkP l s e
  | [], _, _, _ => fun c hc => by simp at hc
  | c :: r, s, e, h => fun d hd => by
    rcases List.mem_cons.1 hd with rfl | hd
    · exact h.1
    · exact chkE_of h.2 d hd
theorem of_chkE : ∀ {l : List (Nat × Nat)} {s : St} {e : Env}, chkP l s e → chkE l s e
  | [], _, _, _ => trivial
  | c :: r, s, e, h => ⟨h c (by simp), of_chkE fun d hd => h d (by simp [hd])⟩
theorem wp_regw (os : List AOper) (chk : List (Nat × Nat)) : awp call (.regw os chk) Qx env s = rstep (noNxt os) (awops call s.next os (fun e t => chkE chk s e ∧ Qx .nor e t) env s) (∃ env' s', aops call s.next os env s = some (env', s') ∧ chkP chk s env' ∧ Qx .nor env' s') := by
  cases h : noNxt os
  · simp only [rstep, Bool.false_eq_true, if_false]
    rfl
  · rw [rstep_true]
    refine propext ⟨fun q => ?_, fun q => ?_⟩
    · obtain ⟨e, t, h1, h2, h3⟩ := q
      exact some_awops os _ _ h ⟨e, t, h1, of_chkE h2, h3⟩
    · obtain ⟨e, t, h1, h2, h3⟩ := awops_some os _ _ h q
      exact ⟨e, t, h1, chkE_of h2, h3⟩
theorem wp_reg (os : List AOper) : awp call (.reg os) Qx env s = awops call s.next os (Qx .nor) env s := nrfl rfl
theorem wp_skip : awp call .skip Qx env s = Qx .nor env s := nrfl rfl
theorem wp_exit (i : Nat) : awp call (.exit i) Qx env s = Qx (.exit i) env s := nrfl rfl
theorem wp_ret : awp call .ret Qx env s = Qx .ret env s := nrfl rfl
theorem wp_seq (a b : AC) : awp call (.seq a b) Qx env s = awp call a (fun x e t => match x with
    | .nor => awp call b Qx e t
    | x => Qx x e t) env s := nrfl rfl
theorem wp_block (i : Nat) (c : AC) : awp call (.block i c) Qx env s = awp call c (fun x e t => match x with
    | .exit j => if j = i then Qx .nor e t else Qx (.exit j) e t
    | x => Qx x e t) env s := nrfl rfl
theorem wp_cond (c : AO) (a b : AC) : awp call (.cond c a b) Qx env s = cstep (aev env c) (awp call a Qx env s) (awp call b Qx env s) := by
  simp only [awp, cstep]
  generalize aev env c = v
  cases v <;> rfl
theorem res1 (env : Env) (s : St) (a : Nat) : aresults env s [.t a] = some (E env a) := nrfl rfl
theorem res2 (env : Env) (s : St) (a b : Nat) : aresults env s [.t a, .t b] = some (.tup [E env a, E env b]) := nrfl rfl
theorem res0 (env : Env) (s : St) : aresults env s [] = some (.tup []) := nrfl rfl
theorem resc (env : Env) (s : St) (a n : Nat) : aresult env s (.celln a n) = match E env a with
  | .ptr id o => match s.get id with
    | some (.row cs _) => if o + n ≤ cs.length then some (.agg ((cs.drop o).take n)) else none
    | _ => none
  | _ => none := nrfl rfl
theorem rest_t (env : Env) (s : St) (b : Nat) : aresult env s (.t b) = some (E env b) := nrfl rfl
attribute [irreducible] pE E elen

end Go.AM
end
/-
  Lists in the abstract machine's memory: reading them, new ones, appending, what a caller is told. Own work of this project.
-/
section
namespace Go.AM
open Go

/-! ### How elements lie in cells -/
structure Cod (α : Type) where
  sz : Nat
  enc : α → List AV
  dec : List AV → Option α
  pos : 0 < sz
  len : ∀ x, (enc x).length = sz
  plain : ∀ x, (enc x).all AV.plain = true
  dec_enc : ∀ x, dec (enc x) = some x
  enc_dec : ∀ cs x, dec cs = some x → cs = enc x
variable {α : Type}
def Cod.cells (C : Cod α) (l : List α) : List AV := (l.map C.enc).flatten
def decL (C : Cod α) : Nat → List AV → Option (List α)
  | 0, _ => some []
  | n + 1, cs => match C.dec (cs.take C.sz), decL C n (cs.drop C.sz) with
    | some x, some r => some (x :: r)
    | _, _ => none
def read (C : Cod α) (s : St) : AV → Option (List α)
  | .nils => some []
  | .sl id off n _ z => if z = C.sz then match s.get id with
      | some (.row cs _) => if off + n * C.sz ≤ cs.length then decL C n (cs.drop off) else none
      | _ => none
    else none
  | _ => none
theorem cells_nil (C : Cod α) : C.cells [] = [] := rfl
theorem cells_cons (C : Cod α) (x : α) (l : List α) : C.cells (x :: l) = C.enc x ++ C.cells l := rfl
theorem cells_append (C : Cod α) (l m : List α) : C.cells (l ++ m) = C.cells l ++ C.cells m := by simp [Cod.cells]
theorem cells_one (C : Cod α) (x : α) : C.cells [x] = C.enc x := by simp [Cod.cells]
theorem cells_len (C : Cod α) (l : List α) : (C.cells l).length = l.length * C.sz := by
  induction l with
  | nil => simp [cells_nil]
  | cons x l ih => rw [cells_cons, List.length_append, ih, C.len, List.length_cons, Nat.succ_mul]; omega
theorem cells_plain (C : Cod α) (l : List α) : (C.cells l).all AV.plain = true := by
  induction l with
  | nil => rfl
  | cons x l ih => rw [cells_cons, List.all_append, C.plain, ih]; rfl
theorem plain_one {v : AV} (h : v.plain = true) : v.one = true := by cases v <;> simp_all [AV.plain, AV.one]
theorem plain_ren {v : AV} (f : Nat → Nat) (h : v.plain = true) : v.ren f = v := by cases v <;> simp_all [AV.plain, AV.ren]
theorem plains_rens (f : Nat → Nat) : ∀ {vs : List AV}, vs.all AV.plain = true → AV.rens f vs = vs
  | [], _ => rfl
  | v :: vs, h => by
    simp only [List.all_cons, Bool.and_eq_true] at h
    simp [AV.rens, plain_ren f h.1, plains_rens f h.2]
theorem cells_one' (C : Cod α) (l : List α) : (C.cells l).all AV.one = true := by
  have := cells_plain C l
  rw [List.all_eq_true] at this ⊢
  exact fun v hv => plain_one (this v hv)
theorem decL_some {C : Cod α} : ∀ {n : Nat} {cs : List AV} {l : List α}, decL C n cs = some l → l.length = n ∧ n * C.sz ≤ cs.length ∧ cs.take (n * C.sz) = C.cells l
  | 0, cs, l, h => by
    simp only [decL] at h
    injection h with h
    subst h
    simp [cells_nil]
  | n + 1, cs, l, h => by
    simp only [decL] at h
    split at h
    · rename_i x r hx hr
      injection h with h
      subst h
      obtain ⟨h1, h2, h3⟩ := decL_some hr
      have e := C.enc_dec _ _ hx
      have hl := congrArg List.length e
      rw [C.len, List.length_take] at hl
      rw [List.length_drop] at h2
      have hp := C.pos
      refine ⟨by simp [h1], by rw [Nat.succ_mul]; omega, ?_⟩
      rw [cells_cons, ← e, ← h3, Nat.succ_mul, Nat.add_comm (n * C.sz), List.take_add]
    · cases h
theorem decL_cells (C : Cod α) : ∀ (l : List α) (r : List AV), decL C l.length (C.cells l ++ r) = some l
  | [], r => rfl
  | x :: l, r => by
    have h := C.len x
    have e1 : (C.enc x ++ (C.cells l ++ r)).take C.sz = C.enc x := by rw [← h]; simp
    have e2 : (C.enc x ++ (C.cells l ++ r)).drop C.sz = C.cells l ++ r := by rw [← h]; simp
    simp only [List.length_cons, decL, cells_cons, List.append_assoc, e1, e2, C.dec_enc, decL_cells C l r]
theorem cells_at (C : Cod α) : ∀ (l : List α) (i : Nat) (x : α), l[i]? = some x → ∀ k m, k + m ≤ C.sz → ((C.cells l).drop (i * C.sz + k)).take m = ((C.enc x).drop k).take m
  | [], i, x, h, _, _, _ => by simp at h
  | y :: l, 0, x, h, k, m, hk => by
    simp at h
    subst h
    have hl := C.len y
    rw [cells_cons, Nat.zero_mul, Nat.zero_add, List.drop_append_of_le_length (by omega), List.take_append_of_le_length (by rw [List.length_drop]; omega)]
  | y :: l, i + 1, x, h, k, m, hk => by
    have hl := C.len y
    rw [cells_cons, Nat.succ_mul, show i * C.sz + C.sz + k = (C.enc y).length + (i * C.sz + k) by omega, ← List.drop_drop, List.drop_left]
    exact cells_at C l i x (by simpa using h) k m hk
theorem read_sl {C : Cod α} {s : St} {id off n z : Nat} {cap : Option Nat} {l : List α} (h : read C s (.sl id off n cap z) = some l) :
    z = C.sz ∧ n = l.length ∧ ∃ cs own, s.get id = some (.row cs own) ∧ off + n * C.sz ≤ cs.length ∧ (cs.drop off).take (n * C.sz) = C.cells l ∧
      ∀ i x, l[i]? = some x → ∀ k m, k + m ≤ C.sz → off + i * C.sz + k + m ≤ cs.length ∧ (cs.drop (off + i * C.sz + k)).take m = ((C.enc x).drop k).take m := by
  simp only [read] at h
  split at h
  · rename_i hz
    split at h
    · rename_i cs own hg
      split at h
      · rename_i hle
        obtain ⟨h1, h2, h3⟩ := decL_some h
        refine ⟨hz, h1.symm, cs, own, hg, hle, h3, fun i x hi k m hk => ?_⟩
        have hlt := (List.getElem?_eq_some_iff.1 hi).1
        have hmul : i * C.sz + C.sz ≤ n * C.sz := by
          rw [← Nat.succ_mul]
          exact Nat.mul_le_mul_right _ (by omega)
        refine ⟨by omega, ?_⟩
        rw [← cells_at C l i x hi k m hk, ← h3, List.drop_take, List.take_take, List.drop_drop, Nat.min_eq_left (by omega), ← Nat.add_assoc]
      · cases h
    · cases h
  · cases h
theorem read_of {C : Cod α} {s : St} {id off n : Nat} {cap : Option Nat} {l : List α} {cs : List AV} {own : Bool} (hn : n = l.length) (h1 : s.get id = some (.row cs own)) (h2 : off + n * C.sz ≤ cs.length) (h3 : (cs.drop off).take (n * C.sz) = C.cells l) :
    read C s (.sl id off n cap C.sz) = some l := by
  subst hn
  simp only [read, if_true, h1, h2]
  have := decL_cells C l ((cs.drop off).drop (l.length * C.sz))
  rw [← h3, List.take_append_drop] at this
  exact this
/-- Behind what leaves the block as it was. -/
theorem read_mono {C : Cod α} {s t : St} {v : AV} {l : List α} (h : read C s v = some l) (k : ∀ id b, s.get id = some b → t.get id = some b) : read C t v = some l := by
  cases v with
  | nils => exact h
  | sl id off n cap z =>
    obtain ⟨rfl, hn, cs, own, hg, h1, h2, _⟩ := read_sl h
    exact read_of hn (k _ _ hg) h1 h2
  | _ => simp [read] at h
theorem read_len {C : Cod α} {s : St} {v : AV} {l : List α} (h : read C s v = some l) : lenOf v = some l.length := by
  cases v with
  | nils => simp [read] at h; subst h; rfl
  | sl id off n cap z =>
    obtain ⟨rfl, hn, _⟩ := read_sl h
    simp [lenOf, hn]
  | _ => simp [read] at h
theorem read_shown {C : Cod α} {s : St} {v : AV} {l : List α} (h : read C s v = some l) : shown s C.sz v = some (C.cells l) := by
  cases v with
  | nils => simp [read] at h; subst h; rfl
  | sl id off n cap z =>
    obtain ⟨rfl, hn, cs, own, hg, h1, h2, _⟩ := read_sl h
    simp [shown, hg, h1, h2]
  | _ => simp [read] at h
theorem read_take {C : Cod α} {s : St} {id off n z : Nat} {cap cap' : Option Nat} {l : List α} (h : read C s (.sl id off n cap z) = some l) (k : Nat) (hk : k ≤ n) : read C s (.sl id off k cap' z) = some (l.take k) := by
  obtain ⟨rfl, hn, cs, own, hg, h1, h2, _⟩ := read_sl h
  have hmul : k * C.sz ≤ n * C.sz := Nat.mul_le_mul_right _ hk
  refine read_of (by simp; omega) hg (by omega) ?_
  have hc : (C.cells l).take (k * C.sz) = C.cells (l.take k) := by
    conv => lhs; rw [← List.take_append_drop k l, cells_append]
    have : k * C.sz = (C.cells (l.take k)).length := by rw [cells_len, List.length_take, Nat.min_eq_left (by omega)]
    rw [this, List.take_left]
  rw [← hc, ← h2, List.take_take, Nat.min_eq_left hmul]

/-! ### What was there stays -/
structure Keep (s t : St) : Prop where
  next : s.next ≤ t.next
  get : ∀ id, id < s.next → t.get id = s.get id
  low : min s.low s.next ≤ t.low
theorem Keep.refl (s : St) : Keep s s := ⟨Nat.le_refl _, fun _ _ => rfl, by omega⟩
theorem Keep.push {s t : St} (h : Keep s t) (b : AB) : Keep s (t.push b) :=
  ⟨by have := h.next; simp; omega, fun id hid => by rw [St.get_push_old _ _ (by have := h.next; omega), h.get id hid], by simpa using h.low⟩
theorem Keep.put {s t : St} (h : Keep s t) {id : Nat} (b : AB) (h1 : s.next ≤ id) (h2 : id < t.next) : Keep s (t.put id b) :=
  ⟨by simpa using h.next, fun j hj => by rw [St.get_put_ne _ _ h2 (by omega), h.get j hj], by have := h.low; simp; omega⟩
theorem Keep.trans {a b c : St} (h : Keep a b) (k : Keep b c) : Keep a c :=
  ⟨Nat.le_trans h.next k.next, fun id hid => by rw [k.get id (Nat.lt_of_lt_of_le hid h.next), h.get id hid], by have h1 := h.low; have h2 := k.low; have h3 := h.next; omega⟩
theorem Keep.blk {s t : St} (h : Keep s t) {id : Nat} {b : AB} (hb : s.get id = some b) : t.get id = some b := by rw [h.get id (St.get_lt hb), hb]
theorem Keep.read {s t : St} (h : Keep s t) {C : Cod α} {v : AV} {l : List α} (hr : read C s v = Option.some l) : read C t v = Option.some l := read_mono hr fun _ _ => h.blk
theorem Keep.low' {s t : St} (h : Keep s t) (n : Nat) (hn : min s.low s.next ≤ n) : Keep s { heap := t.heap, next := t.next, low := n } := ⟨h.next, fun id hid => h.get id hid, hn⟩
theorem Keep.grow {s t : St} (h : Keep s t) : Grow s t := by
  refine ⟨h.next, fun id h1 h2 => ?_⟩
  rw [h.get id h1]
  exact h2

theorem gk_push {s t : St} (h : Grow s t ∧ Keeps s t) (b : AB) : Grow s (t.push b) ∧ Keeps s (t.push b) := ⟨h.1.trans (grow_push t b), h.2.trans (keeps_push t b)⟩
theorem gk_low (s : St) : Grow s { heap := s.heap, next := s.next, low := min s.low s.next } ∧ Keeps s { heap := s.heap, next := s.next, low := min s.low s.next } := ⟨⟨Nat.le_refl _, fun _ _ h => h⟩, Nat.le_refl _, Nat.min_le_left _ _, fun _ _ _ => rfl⟩
/-! ### A new list, whose block nobody else has -/
def Own (C : Cod α) (s t : St) (v : AV) (l : List α) : Prop :=
  (v = .nils ∧ l = []) ∨ ∃ j, v = .sl j 0 l.length none C.sz ∧ l ≠ [] ∧ s.next ≤ j ∧ t.get j = some (.row (C.cells l) true)
theorem Own.nil (C : Cod α) (s t : St) : Own C s t .nils [] := .inl ⟨rfl, rfl⟩
theorem Own.read {C : Cod α} {s t : St} {v : AV} {l : List α} (h : Own C s t v l) : read C t v = some l := by
  rcases h with ⟨rfl, rfl⟩ | ⟨j, rfl, _, _, h⟩
  · rfl
  · refine read_of rfl h (by simp [cells_len]) ?_
    rw [List.drop_zero, ← cells_len]
    simp
theorem Own.mono {C : Cod α} {s t u : St} {v : AV} {l : List α} (h : Own C s t v l) (k : ∀ id b, t.get id = some b → u.get id = some b) : Own C s u v l := by
  rcases h with ⟨rfl, rfl⟩ | ⟨j, rfl, h0, h1, h⟩
  · exact .inl ⟨rfl, rfl⟩
  · exact .inr ⟨j, rfl, h0, h1, k _ _ h⟩
theorem get_push_some {t : St} (b : AB) {id : Nat} {c : AB} (h : t.get id = some c) : (t.push b).get id = some c := by rw [St.get_push_old _ _ (St.get_lt h), h]
theorem Own.push {C : Cod α} {s t : St} {v : AV} {l : List α} (h : Own C s t v l) (b : AB) : Own C s (t.push b) v l := h.mono fun _ _ => get_push_some b
theorem append_own {C : Cod α} {s t : St} {v : AV} {l : List α} (hK : Keep s t) (hO : Own C s t v l) (m : List α) (bytes : Nat) (hb : (l.length + m.length) * bytes ≤ roomBytes) :
    ∃ v' t', aappend t C.sz bytes v (C.cells m) m.length = some (v', t') ∧ Keep s t' ∧ Own C s t' v' (l ++ m) := by
  by_cases hm : m = []
  · subst hm
    rcases hO with ⟨rfl, rfl⟩ | ⟨j, rfl, h0, h1, h⟩
    · exact ⟨.nils, t, by simp [aappend], hK, .nil _ _ _⟩
    · exact ⟨.sl j 0 l.length none C.sz, t, by simp [aappend, h], hK, by rw [List.append_nil]; exact .inr ⟨j, rfl, h0, h1, h⟩⟩
  · have hm0 : m.length ≠ 0 := by simpa using hm
    rcases hO with ⟨rfl, rfl⟩ | ⟨j, rfl, h0, h1, h⟩
    · refine ⟨.sl t.next 0 m.length none C.sz, t.push (.row (C.cells m) true), ?_, hK.push _, .inr ⟨t.next, by simp, by simpa using hm, hK.next, by simpa using St.get_push_new t _⟩⟩
      simp only [aappend, if_neg hm0]
      rw [if_pos (by simpa using hb)]
    · refine ⟨.sl t.next 0 (l.length + m.length) none C.sz, (t.put j .dead).push (.row (C.cells (l ++ m)) true), ?_, (hK.put .dead h1 (St.get_lt h)).push _, .inr ⟨t.next, by simp, by simp [hm], hK.next, by simpa using St.get_push_new (t.put j .dead) _⟩⟩
      simp only [aappend, if_true, h, if_neg hm0]
      rw [if_pos ⟨by simp [cells_len], hb⟩]
      have e : (C.cells l).take (l.length * C.sz) = C.cells l := by rw [← cells_len]; simp
      rw [List.drop_zero, e, cells_append]
/-! ### What a caller is told -/
def St.lowed (s : St) : St := { heap := s.heap, next := s.next, low := min s.low s.next }
/-- A new list: nil if it is empty. -/
def freshV (C : Cod α) (s : St) (l : List α) : AV := if l.isEmpty then .nils else .sl s.next 0 l.length none C.sz
def freshS (C : Cod α) (s : St) (l : List α) : St := if l.isEmpty then s.lowed else s.lowed.push (.row (C.cells l) true)
theorem lowed_get (s : St) (id : Nat) : s.lowed.get id = s.get id := rfl
theorem lowed_next (s : St) : s.lowed.next = s.next := rfl
theorem keep_lowed (s : St) : Keep s s.lowed := ⟨Nat.le_refl _, fun _ _ => rfl, Nat.le_refl _⟩
theorem keep_fresh (C : Cod α) (s : St) (l : List α) : Keep s (freshS C s l) := by
  unfold freshS
  split
  · exact keep_lowed s
  · exact (keep_lowed s).push _
theorem gk_lowed (s : St) : Grow s s.lowed ∧ Keeps s s.lowed := gk_low s
theorem gk_fresh (C : Cod α) (s : St) (l : List α) : Grow s (freshS C s l) ∧ Keeps s (freshS C s l) := by
  unfold freshS
  split
  · exact gk_lowed s
  · exact gk_push (gk_lowed s) _
theorem emb_keep {s t : St} (h : Keep s t) : ∃ f : Nat → Nat, (∀ id, id < s.next → f id = id) ∧ Emb f s s.lowed t := by
  have hn := h.next
  refine ⟨fun id => if id < s.next then id else t.next + id, fun id hid => by simp [hid], ⟨Nat.le_refl _, h.low, fun id hid => by simp [hid], fun id hid => ?_, fun i j h1 h2 e => ?_, fun id b hb => ?_, fun id h1 h2 => rfl⟩⟩
  · have : ¬ id < s.next := by simp [lowed_next] at hid; omega
    simp [this]
  · rw [lowed_next] at h1 h2
    simpa [h1, h2] using e
  · have hlt : id < s.next := St.get_lt (by rwa [lowed_get] at hb)
    rw [lowed_get] at hb
    exact .inr (.inr ⟨hlt, hb, h.blk hb⟩)
theorem emb_fresh {C : Cod α} {s t : St} (h : Keep s t) {v : AV} {l : List α} (hO : Own C s t v l) : ∃ f : Nat → Nat, (∀ id, id < s.next → f id = id) ∧ Emb f s (freshS C s l) t ∧ v = (freshV C s l).ren f := by
  rcases hO with ⟨rfl, rfl⟩ | ⟨j, rfl, hl, h1, hj⟩
  · obtain ⟨f, h1, h2⟩ := emb_keep h
    exact ⟨f, h1, h2, by simp [freshV, AV.ren]⟩
  · have hn := h.next
    have hlow := h.low
    have hlt := St.get_lt hj
    have hle : l.isEmpty = false := by simpa using hl
    have e0 : freshS C s l = s.lowed.push (.row (C.cells l) true) := by simp [freshS, hle]
    have e1 : (freshS C s l).next = s.next + 1 := by rw [e0]; rfl
    have e2 : ∀ id, (freshS C s l).get id = if id = s.next then some (.row (C.cells l) true) else s.get id := fun id => by rw [e0, St.get_push]; rfl
    refine ⟨fun id => if id < s.next then id else if id = s.next then j else t.next + id, fun id hid => by simp [hid], ⟨by omega, ?_, fun id hid => by simp [hid], fun id hid => ?_, fun i k h1 h2 e => ?_, fun id b hb => ?_, fun id h1 h2 => ?_⟩, ?_⟩
    · rw [e0]
      exact hlow
    · rw [e1] at hid
      rw [if_neg (by omega), if_neg (by omega)]
      omega
    · rw [e1] at h1 h2
      by_cases a1 : i < s.next
      · by_cases a2 : k < s.next
        · rw [if_pos a1, if_pos a2] at e; exact e
        · rw [if_pos a1, if_neg a2, if_pos (by omega)] at e; omega
      · by_cases a2 : k < s.next
        · rw [if_neg a1, if_pos a2, if_pos (by omega)] at e; omega
        · omega
    · rw [e2] at hb
      split at hb
      · rename_i hid
        injection hb with hb
        subst hb
        refine .inr (.inl ?_)
        rw [if_neg (by omega), if_pos hid, hj, AB.ren, plains_rens _ (cells_plain C l)]
      · have hid := St.get_lt hb
        exact .inr (.inr ⟨hid, hb, h.blk hb⟩)
    · rw [e2, if_neg (by omega)]
    · simp [freshV, hle, AV.ren]
end Go.AM
end
/-
  Dots and nodes in memory; rules for stepping that keep them folded. Own work of this project.
-/
section
namespace Go.AM
open Go

/-! ### Numbers of blocks -/
def sameN (n : Nat) (s : St) : Prop := n = s.next
def ltN (n : Nat) (s : St) : Prop := n < s.next
theorem same_self (s : St) : sameN s.next s = True := eq_true rfl
theorem same_push {s t : St} (h : sameN s.next t) (b c : AB) : sameN (s.push b).next (t.push c) = True := eq_true (by unfold sameN at *; simp [h])
theorem same_lowed {n : Nat} {t : St} (h : sameN n t) : sameN n t.lowed = True := eq_true h
theorem same_lowed' {s t : St} (h : sameN s.next t) : sameN s.lowed.next t = True := eq_true h
theorem lt_push {n : Nat} {t : St} (h : ltN n t) (b : AB) : ltN n (t.push b) = True := eq_true (Nat.lt_succ_of_lt h)
theorem lt_push_same {n : Nat} {t : St} (h : sameN n t) (b : AB) : ltN n (t.push b) = True := eq_true (by unfold sameN at h; unfold ltN; simp [h])
theorem lt_lowed {n : Nat} {t : St} (h : ltN n t) : ltN n t.lowed = True := eq_true h
/-! ### Loads and stores by value -/
def lod (s : St) (n : Nat) (v : AV) : Option AV := match v with
  | .ptr id o => match s.get id with
    | some (.row cs _) => if o + n ≤ cs.length then some (.agg ((cs.drop o).take n)) else none
    | _ => none
  | _ => none
def lod1 (s : St) (v : AV) : Option AV := match v with
  | .ptr id o => match s.get id with
    | some (.row cs _) => cs[o]?
    | _ => none
  | _ => none
theorem chkE_cons (t x : Nat) (r : List (Nat × Nat)) (s : St) (e : Env) : chkE ((t, x) :: r) s e = ((t < elen e ∧ lod1 s (E e x) = some (E e t)) ∧ chkE r s e) := nrfl rfl
def sto (s : St) (n : Nat) (a x : AV) : Option (AV × St) := match a with
  | .ptr id o => match s.get id with
    | some (.row cs true) => if x.cells.length = n ∧ x.cells.all AV.one ∧ o + n ≤ cs.length then some (.und, s.put id (.row (setAt cs o x.cells) true)) else none
    | _ => none
  | _ => none
variable {call : Nat → List AV → St → Option (AV × St)} {env : Env} {s t : St}
theorem ar_loadn (n : Nat) (a : AO) : aread call env s (.loadn n a) = lod s n (aev env a) := nrfl rfl
theorem ar_load1 (a : AO) : aread call env s (.load1 a) = lod1 s (aev env a) := nrfl rfl
theorem ae_store (n : Nat) (a x : AO) : aeff call env s (.store n a x) = sto s n (aev env a) (aev env x) := nrfl rfl
def iadV (sz : Nat) (x i : AV) : Option AV := match x, i with
  | .sl id off len _ z, .int _ n => if z = sz ∧ 0 ≤ n ∧ n < len then some (.ptr id (off + n.toNat * sz)) else none
  | _, _ => none
theorem ap_iad (sz : Nat) (x i : AO) : apure env (.iad sz x i) = iadV sz (aev env x) (aev env i) := nrfl rfl
theorem iadV_nat {sz id off len : Nat} {cap : Option Nat} {k : IntKind} {i : Nat} (h : i < len) : iadV sz (.sl id off len cap sz) (.int k (i : Int)) = some (.ptr id (off + i * sz)) := by
  simp [iadV, h]
def fadV (o : Nat) : AV → Option AV
  | .ptr id p => some (.ptr id (p + o))
  | _ => none
theorem ap_fad (o : Nat) (x : AO) : apure env (.fad o x) = fadV o (aev env x) := nrfl rfl
theorem fadV_ptr (o id p : Nat) : fadV o (.ptr id p) = some (.ptr id (p + o)) := nrfl rfl
def lenV : AV → Option AV
  | .sl _ _ n _ _ => some (.int .i64 (n : Int))
  | .nils => some (.int .i64 0)
  | _ => none
theorem ap_len (x : AO) : apure env (.len .sl x) = lenV (aev env x) := nrfl rfl
theorem lenV_sl (a b n : Nat) (c : Option Nat) (z : Nat) : lenV (.sl a b n c z) = some (.int .i64 (n : Int)) := nrfl rfl
theorem lenV_nils : lenV .nils = some (.int .i64 0) := nrfl rfl
theorem lenV_read {α : Type} {C : Cod α} {v : AV} {l : List α} (h : read C s v = some l) : lenV v = some (.int .i64 (l.length : Int)) := by
  cases v with
  | nils => simp [read] at h; subst h; rfl
  | sl id off n cap z =>
    obtain ⟨_, rfl, _⟩ := read_sl h
    rfl
  | _ => simp [read] at h
def pickV (c a b : AV) : Option AV := match c with
  | .bool t => some (if t then a else b)
  | _ => none
theorem ap_pick (c a b : AO) : apure env (.pick c a b) = pickV (aev env c) (aev env a) (aev env b) := nrfl rfl
theorem pickV_t (a b : AV) : pickV (.bool true) a b = some a := nrfl rfl
theorem pickV_f (a b : AV) : pickV (.bool false) a b = some b := nrfl rfl
def notV : AV → Option AV
  | .bool b => some (.bool !b)
  | _ => none
theorem ap_not (x : AO) : apure env (.un .not x) = notV (aev env x) := by
  simp only [apure, notV]
  cases aev env x <;> rfl
theorem notV_bool (b : Bool) : notV (.bool b) = some (.bool !b) := nrfl rfl
def extV (i : Nat) : AV → Option AV
  | .tup vs => vs[i]?
  | _ => none
theorem ap_ext (x : AO) (i : Nat) : apure env (.ext x i) = extV i (aev env x) := nrfl rfl
theorem extV_0 (v : AV) (l : List AV) : extV 0 (.tup (v :: l)) = some v := nrfl rfl
theorem extV_1 (v w : AV) (l : List AV) : extV 1 (.tup (v :: w :: l)) = some w := nrfl rfl
def fstep (cs : List AV) (off n : Nat) (v : AV) (K : List AV → Option (List AV)) : Option (List AV) :=
  if v.cells.length = n ∧ v.cells.all AV.one ∧ off + n ≤ cs.length then K (setAt cs off v.cells) else none
theorem fillP_nil (cs : List AV) : fillP env cs [] = some cs := nrfl rfl
theorem fillP_cons (cs : List AV) (off n : Nat) (x : AO) (r : List (Nat × Nat × AO)) : fillP env cs ((off, n, x) :: r) = fstep cs off n (aev env x) fun cs => fillP env cs r := nrfl rfl
theorem fstep_nd (x : Nd) (K : List AV → Option (List AV)) : fstep [.int .i64 0, .int .i64 0, .int .i64 0, .int .i64 0, .int .i64 0, .int .i32 0] 0 6 (.agg (Nd.av x)) K = K (Nd.av x) := nrfl rfl
theorem fstep_dot (x : Dot) (K : List AV → Option (List AV)) : fstep [.int .i64 0, .int .i64 0] 0 2 (.agg (Dot.av x)) K = K (Dot.av x) := nrfl rfl
theorem aa_bsl1 (z : List AV) (sz : Nat) (x : AO) : aalloc env (.bsl z 1 sz [(0, x)]) = (fstep z 0 sz (aev env x) some).map fun cs => (fun id => .sl id 0 1 (some 1) sz, .row cs true) := by
  simp only [aalloc, List.map_cons, List.map_nil, Nat.zero_mul, fillP_cons]
  rfl

/-! ### A box for one value -/
theorem push_put (s : St) (b c : AB) : (s.push b).put s.next c = s.lowed.push c := by
  simp [St.push, St.put, St.lowed]
theorem reserve0 (s : St) : s.reserve 0 = s := nrfl rfl
theorem reserve1_get (s : St) : (s.reserve 1).get (s.next + 0) = some .unborn := by simp [St.get_reserve]
theorem reserve1_get' (s : St) : (s.reserve 1).get s.next = some .unborn := by simp [St.get_reserve]
theorem reserve1_born (s : St) (b : AB) : (s.reserve 1).born (s.next + 0) b = s.push b := by simp [St.reserve, St.push, St.born]
theorem reserve1_born' (s : St) (b : AB) : (s.reserve 1).born s.next b = s.push b := by simp [St.reserve, St.push, St.born]
theorem sto_nd {n : Nat} {s : St} (h : sameN n s) (x : Nd) : sto (s.push (.row [.int .i64 0, .int .i64 0, .int .i64 0, .int .i64 0, .int .i64 0, .int .i32 0] true)) 6 (.ptr n 0) (.agg (Nd.av x)) = some (.und, s.lowed.push (.row (Nd.av x) true)) := by
  unfold sameN at h
  subst h
  simp only [sto, St.get_push_new, push_put]
  rfl
theorem lod_nd {n : Nat} {s : St} (h : sameN n s) (x : Nd) (own : Bool) : lod (s.push (.row (Nd.av x) own)) 6 (.ptr n 0) = some (.agg (Nd.av x)) := by
  unfold sameN at h
  subst h
  simp only [lod, St.get_push_new]
  rfl
theorem lod_nd_dot {n : Nat} {s : St} (h : sameN n s) (x : Nd) (own : Bool) : lod (s.push (.row (Nd.av x) own)) 2 (.ptr n 0) = some (.agg (Dot.av x.d)) := by
  unfold sameN at h
  subst h
  simp only [lod, St.get_push_new]
  rfl
theorem Keep.lowed {s t : St} (h : Keep s t) : Keep s t.lowed := h.trans (keep_lowed t)
theorem Own.lowed {α : Type} {C : Cod α} {s t : St} {v : AV} {l : List α} (h : Own C s t v l) : Own C s t.lowed v l := h.mono fun _ _ k => k

theorem kt_refl (s : St) : Keep s s = True := eq_true (.refl s)
theorem kt_push (h : Keep s t) (b : AB) : Keep s (t.push b) = True := eq_true (h.push b)
theorem kt_lowed (h : Keep s t) : Keep s t.lowed = True := eq_true (h.trans (keep_lowed t))
/-! ### Operators -/
theorem bin_lss (e : EK) (k : IntKind) (a b : Int) : binOp .lss e (.int k a) (.int k b) = some (.bool (decide (a < b))) := by simp [binOp, intOp]
theorem bin_leq (e : EK) (k : IntKind) (a b : Int) : binOp .leq e (.int k a) (.int k b) = some (.bool (decide (a ≤ b))) := by simp [binOp, intOp]
theorem bin_gtr (e : EK) (k : IntKind) (a b : Int) : binOp .gtr e (.int k a) (.int k b) = some (.bool (decide (b < a))) := by simp [binOp, intOp]
theorem bin_geq (e : EK) (k : IntKind) (a b : Int) : binOp .geq e (.int k a) (.int k b) = some (.bool (decide (b ≤ a))) := by simp [binOp, intOp]
theorem bin_eql (e : EK) (k : IntKind) (a b : Int) : binOp .eql e (.int k a) (.int k b) = some (.bool (decide (a = b))) := by simp [binOp, intOp, beq_dec]
theorem bin_neq (e : EK) (k : IntKind) (a b : Int) : binOp .neq e (.int k a) (.int k b) = some (.bool (!decide (a = b))) := by simp [binOp, intOp, bne_dec]
theorem bin_add (e : EK) (k : IntKind) (a b : Int) : binOp .add e (.int k a) (.int k b) = some (.int k (k.wrap (a + b))) := by simp [binOp, intOp]
theorem bin_sub (e : EK) (k : IntKind) (a b : Int) : binOp .sub e (.int k a) (.int k b) = some (.int k (k.wrap (a - b))) := by simp [binOp, intOp]
theorem bin_eqb (a b : Bool) : binOp .eql .bo (.bool a) (.bool b) = some (.bool (a == b)) := nrfl rfl
theorem bin_neb (a b : Bool) : binOp .neq .bo (.bool a) (.bool b) = some (.bool (!(a == b))) := nrfl rfl
theorem bin_eqd (a b : Dot) : binOp .eql (.fl [.i, .i]) (.agg (Dot.av a)) (.agg (Dot.av b)) = some (.bool (decide (a = b))) := by
  obtain ⟨a1, a2⟩ := a
  obtain ⟨b1, b2⟩ := b
  simp [binOp, eqV, eqL, eqF, Dot.av, beq_dec]
theorem bin_neqd (a b : Dot) : binOp .neq (.fl [.i, .i]) (.agg (Dot.av a)) (.agg (Dot.av b)) = some (.bool (!decide (a = b))) := by
  obtain ⟨a1, a2⟩ := a
  obtain ⟨b1, b2⟩ := b
  simp [binOp, eqV, eqL, eqF, Dot.av, beq_dec]
theorem bin_eqd0 (a : Dot) : binOp .eql (.fl [.i, .i]) (.agg (Dot.av a)) (.agg [.int .i64 0, .int .i64 0]) = some (.bool (decide (a = ⟨0, 0⟩))) := bin_eqd a ⟨0, 0⟩
theorem bin_neqd0 (a : Dot) : binOp .neq (.fl [.i, .i]) (.agg (Dot.av a)) (.agg [.int .i64 0, .int .i64 0]) = some (.bool (!decide (a = ⟨0, 0⟩))) := bin_neqd a ⟨0, 0⟩
theorem bin_eqn (a b : Nd) : binOp .eql (.fl [.i, .i, .i, .i, .i, .i]) (.agg (Nd.av a)) (.agg (Nd.av b)) = some (.bool (decide (a = b))) := by
  obtain ⟨⟨a1, a2⟩, ⟨a3, a4⟩, a5, a6⟩ := a
  obtain ⟨⟨b1, b2⟩, ⟨b3, b4⟩, b5, b6⟩ := b
  simp [binOp, eqV, eqL, eqF, Nd.av, beq_dec, Bool.and_assoc, Bool.decide_and, and_assoc]
theorem bin_neqn (a b : Nd) : binOp .neq (.fl [.i, .i, .i, .i, .i, .i]) (.agg (Nd.av a)) (.agg (Nd.av b)) = some (.bool (!decide (a = b))) := by
  have := bin_eqn a b
  simp only [binOp, Option.map_eq_some_iff] at this ⊢
  obtain ⟨x, h1, h2⟩ := this
  injection h2 with h2
  exact ⟨x, h1, by rw [h2]⟩
theorem pickV_or (c y : Bool) : pickV (.bool c) (.bool true) (.bool y) = some (.bool (c || y)) := by cases c <;> rfl
theorem pickV_ors (c y : Bool) : pickV (.bool c) (.bool true) (sel (!c) (.bool y)) = some (.bool (c || y)) := by cases c <;> rfl
theorem pickV_and (c y : Bool) : pickV (.bool c) (.bool y) (.bool false) = some (.bool (c && y)) := by cases c <;> rfl
theorem pickV_ands (c y : Bool) : pickV (.bool c) (sel c (.bool y)) (.bool false) = some (.bool (c && y)) := by cases c <;> rfl
theorem pickV_orn (c y : Bool) : pickV (.bool (!c)) (.bool true) (sel c (.bool y)) = some (.bool (!c || y)) := by cases c <;> rfl
theorem ar_call (f : Nat) (l : List AO) : aread call env s (.call f true l) = (acall (call f) true (l.map (aev env)) s).map (·.1) := nrfl rfl
def boxV (n : Nat) (v : AV) : Option ((Nat → AV) × AB) := if v.cells.length = n ∧ v.cells.all AV.one then some (fun id => .ptr id 0, .row v.cells true) else none
theorem aa_box (n : Nat) (x : AO) : aalloc env (.box n x) = boxV n (aev env x) := nrfl rfl
theorem boxV_dot (d : Dot) : boxV 2 (.agg (Dot.av d)) = some (fun id => .ptr id 0, .row (Dot.av d) true) := nrfl rfl
theorem boxV_nd (d : Nd) : boxV 6 (.agg (Nd.av d)) = some (fun id => .ptr id 0, .row (Nd.av d) true) := nrfl rfl
theorem lod_push_lt {id : Nat} (h : ltN id s) (b : AB) (n o : Nat) : lod (s.push b) n (.ptr id o) = lod s n (.ptr id o) := by
  simp only [lod, St.get_push_old _ _ h]
theorem lod1_push_lt {id : Nat} (h : ltN id s) (b : AB) (o : Nat) : lod1 (s.push b) (.ptr id o) = lod1 s (.ptr id o) := by
  simp only [lod1, St.get_push_old _ _ h]
theorem lod_lowed (n : Nat) (v : AV) : lod s.lowed n v = lod s n v := by cases v <;> rfl
theorem lod1_lowed (v : AV) : lod1 s.lowed v = lod1 s v := by cases v <;> rfl
theorem lod_lowd (n m : Nat) (v : AV) : lod { heap := s.heap, next := s.next, low := m } n v = lod s n v := by cases v <;> rfl
theorem lod1_lowd (m : Nat) (v : AV) : lod1 { heap := s.heap, next := s.next, low := m } v = lod1 s v := by cases v <;> rfl
theorem lod_nd_par {n : Nat} {s : St} (h : sameN n s) (x : Nd) (own : Bool) : lod (s.push (.row (Nd.av x) own)) 2 (.ptr n 2) = some (.agg (Dot.av x.p)) := by
  unfold sameN at h
  subst h
  simp only [lod, St.get_push_new]
  rfl
theorem lod1_nd_t {n : Nat} {s : St} (h : sameN n s) (x : Nd) (own : Bool) : lod1 (s.push (.row (Nd.av x) own)) (.ptr n 4) = some (.int .i64 x.t) := by
  unfold sameN at h
  subst h
  simp only [lod1, St.get_push_new]
  rfl
theorem lod1_nd_x {n : Nat} {s : St} (h : sameN n s) (x : Nd) (own : Bool) : lod1 (s.push (.row (Nd.av x) own)) (.ptr n 5) = some (.int .i32 x.x) := by
  unfold sameN at h
  subst h
  simp only [lod1, St.get_push_new]
  rfl
theorem lod_dot {n : Nat} {s : St} (h : sameN n s) (x : Dot) (own : Bool) : lod (s.push (.row (Dot.av x) own)) 2 (.ptr n 0) = some (.agg (Dot.av x)) := by
  unfold sameN at h
  subst h
  simp only [lod, St.get_push_new]
  rfl
theorem lod1_dot_r {n : Nat} {s : St} (h : sameN n s) (x : Dot) (own : Bool) : lod1 (s.push (.row (Dot.av x) own)) (.ptr n 0) = some (.int .i64 x.r) := by
  unfold sameN at h
  subst h
  simp only [lod1, St.get_push_new]
  rfl
theorem lod1_dot_c {n : Nat} {s : St} (h : sameN n s) (x : Dot) (own : Bool) : lod1 (s.push (.row (Dot.av x) own)) (.ptr n 1) = some (.int .i64 x.c) := by
  unfold sameN at h
  subst h
  simp only [lod1, St.get_push_new]
  rfl
theorem sto_nd0 {n : Nat} {s : St} (h : sameN n s) : sto (s.push (.row [.int .i64 0, .int .i64 0, .int .i64 0, .int .i64 0, .int .i64 0, .int .i32 0] true)) 6 (.ptr n 0) (.agg [.int .i64 0, .int .i64 0, .int .i64 0, .int .i64 0, .int .i64 0, .int .i32 0]) = some (.und, s.lowed.push (.row (Nd.av ⟨⟨0, 0⟩, ⟨0, 0⟩, 0, 0⟩) true)) := sto_nd h ⟨⟨0, 0⟩, ⟨0, 0⟩, 0, 0⟩
theorem sto_push_lt {id : Nat} (h : ltN id s) (b : AB) (n o : Nat) (x : AV) : sto (s.push b) n (.ptr id o) x = (sto s n (.ptr id o) x).map fun r => (r.1, r.2.push b) := by
  unfold ltN at h
  have e : ∀ c, (s.push b).put id c = (s.put id c).push b := by
    intro c
    have : s.next + 1 - 1 - id = s.next - 1 - id + 1 := by omega
    simp only [St.push, St.put, this, List.set_cons_succ]
  simp only [sto, St.get_push_old _ _ h, e]
  split
  · split <;> rfl
  · rfl
theorem sto_nd_x {n : Nat} {s : St} (h : sameN n s) (x : Nd) (k : Int) : sto (s.push (.row (Nd.av x) true)) 1 (.ptr n 5) (.int .i32 k) = some (.und, s.lowed.push (.row (Nd.av { x with x := k }) true)) := by
  unfold sameN at h
  subst h
  simp only [sto, St.get_push_new, push_put]
  rfl
theorem sto_nd_t {n : Nat} {s : St} (h : sameN n s) (x : Nd) (k : Int) : sto (s.push (.row (Nd.av x) true)) 1 (.ptr n 4) (.int .i64 k) = some (.und, s.lowed.push (.row (Nd.av { x with t := k }) true)) := by
  unfold sameN at h
  subst h
  simp only [sto, St.get_push_new, push_put]
  rfl
theorem ap_build (z : List AV) (ps : List (Nat × Nat × AO)) : apure env (.build z ps) = (fillP env z ps).map .agg := nrfl rfl
theorem rc1 (env : Env) (s : St) (a n : Nat) : aresults env s [.celln a n] = lod s n (E env a) := by
  have h1 : aresult env s (.celln a n) = lod s n (E env a) := resc env s a n
  simp only [aresults, List.mapM_cons, List.mapM_nil, h1]
  cases lod s n (E env a) <;> rfl
theorem rc2 (env : Env) (s : St) (a n b : Nat) : aresults env s [.celln a n, .t b] = (lod s n (E env a)).map fun v => .tup [v, E env b] := by
  have h1 : aresult env s (.celln a n) = lod s n (E env a) := resc env s a n
  have h2 : aresult env s (.t b) = some (E env b) := rest_t env s b
  simp only [aresults, List.mapM_cons, List.mapM_nil, h1, h2]
  cases lod s n (E env a) <;> rfl

/-! ### Calls -/
theorem SoundAt.lowed {P : Program} {g : Nat} {c c' : Con} (h : SoundAt P g c) (k : ∀ xs s r s', c' xs s = some (r, s') → s' = s.lowed ∧ c xs s = some (r, s)) : SoundAt P g c' := by
  intro xs s r s' hc
  obtain ⟨rfl, h1⟩ := k xs s r s' hc
  obtain ⟨a1, a2, a3⟩ := h xs s r s h1
  refine ⟨a1, gk_lowed s, fun ρ w cargs hf hR hargs => (a3 ρ w cargs hf hR hargs).mono fun e w' hp => ?_⟩
  obtain ⟨ρ', v, h2, h3, h4, h5⟩ := hp
  refine ⟨ρ', v, h2, h3, ⟨Nat.le_refl _, Nat.min_le_left _ _, h4.ren, h4.size, h4.os, h4.tape, h4.output, h4.drawn, fun b hb H => h4.frame b hb fun id L blk e1 => H id L blk (Nat.le_trans (Nat.min_le_left _ _) e1), h4.old, fun id L blk e1 e2 e3 e4 => ?_, fun _ _ _ => rfl⟩, ⟨h5.bound, h5.blk, h5.inj⟩⟩
  exact absurd (St.get_lt e3) (by rw [lowed_next]; omega)
theorem plains_ren (f : Nat → Nat) {v : AV} (h : v.plains = true) : v.ren f = v := by
  cases v
  case agg cs => simp only [AV.plains] at h; simp [AV.ren, plains_rens f h]
  all_goals exact plain_ren f (by simpa [AV.plains] using h)
theorem ground_ren (f : Nat → Nat) {v : AV} (h : v.ground = true) : v.ren f = v := by
  cases v
  case agg cs => simp only [AV.ground] at h; simp [AV.ren, plains_rens f h]
  case tup vs =>
    simp only [AV.ground] at h
    simp only [AV.ren, rens_map]
    congr 1
    refine map_same fun v hv => plains_ren f ?_
    rw [List.all_eq_true] at h
    exact h v hv
  all_goals exact plain_ren f (by simpa [AV.ground] using h)
theorem con_keep {P : Program} {call : Nat → List AV → St → Option (AV × St)} (hS : Sound P call) (hm : P.follows .mixedOrders = true) {g : Nat} {fn : Func} {afn : AFn} (hf : P.funcs[g]? = some fn) (hcal : callable P g = true) (hc : cfn P fn = some afn)
    {c : Con} (h : ∀ args s r s', c args s = some (r, s') → s' = s.lowed ∧ r.ground = true ∧ args.length ≤ afn.ntmps ∧ ∀ env : Env, elen env = afn.ntmps → (∀ i v, args[i]? = some v → E env i = v) →
      awp call afn.body (fun x env t => (∀ i, x ≠ .exit i) ∧ aresults env t afn.results = some r ∧ Keep s t) env s) : SoundAt P g c := by
  refine con_sound hS hm hf hcal hc fun args s r s' hh => ?_
  obtain ⟨rfl, hg, hl, k⟩ := h args s r s' hh
  refine ⟨gk_lowed s, start_env hl fun env h1 h2 => awp_mono _ (fun x e t q => ?_) (k env h1 h2)⟩
  obtain ⟨q1, q2, q3⟩ := q
  obtain ⟨f, _, hf⟩ := emb_keep q3
  exact ⟨q1, f, by rw [q2, ground_ren f hg], hf⟩
end Go.AM
end
/-
  Loops; elements of lists that an argument shows; contracts of functions of lists. Own work of this project.
-/
section
namespace Go.AM
open Go

variable {call : Nat → List AV → St → Option (AV × St)} {env : Env} {s t : St}

/-! ### A loop, its continuation held back from rewriting -/
class HQ where
  q : AEx → Env → St → Prop
def lwp (call : Nat → List AV → St → Option (AV × St)) (c : AC) (env : Env) (s : St) [h : HQ] : Prop := awp call (.loop c) h.q env s
theorem wp_loop (c : AC) (Q : AEx → Env → St → Prop) : awp call (.loop c) Q env s = @lwp call c env s ⟨Q⟩ := nrfl rfl
theorem lwp_inv {c : AC} {Q : AEx → Env → St → Prop} (I : Nat → Env → St → Prop) {n : Nat} (h : I n env s)
    (step : ∀ n e t, I n e t → awp call c (fun x e' t' => match x with
      | .nor => ∃ m, m < n ∧ I m e' t'
      | x => Q x e' t') e t) : @lwp call c env s ⟨Q⟩ := awp_loop I step h

/-! ### Numbers -/
theorem wrap_nat {n : Nat} (h : n < 4611686018427387904) : IntKind.i64.wrap (n : Int) = (n : Int) := by
  simp only [IntKind.wrap, IntKind.signed, IntKind.bits]
  simp
  omega
theorem wrap_add1 {n : Nat} (h : n < 4611686018427387903) : IntKind.i64.wrap ((n : Int) + 1) = ((n + 1 : Nat) : Int) := wrap_nat (n := n + 1) (by omega)
/-! ### Elements -/
def bid : AV → Nat
  | .sl id _ _ _ _ => id
  | _ => 0
def boff : AV → Nat
  | .sl _ off _ _ _ => off
  | _ => 0
theorem read_idx {α : Type} {C : Cod α} {v : AV} {l : List α} (h : read C s v = some l) {i : Nat} {x : α} (hi : l[i]? = some x) (k : IntKind) : iadV C.sz v (.int k (i : Int)) = some (.ptr (bid v) (boff v + i * C.sz)) := by
  have hlt := (List.getElem?_eq_some_iff.1 hi).1
  cases v with
  | nils => simp [read] at h; subst h; simp at hlt
  | sl id off n cap z =>
    obtain ⟨rfl, rfl, _⟩ := read_sl h
    exact iadV_nat hlt
  | _ => simp [read] at h
theorem read_lt {α : Type} {C : Cod α} {v : AV} {l : List α} (h : read C s v = some l) (hK : Keep s t) {i : Nat} {x : α} (hi : l[i]? = some x) : ltN (bid v) t := by
  have hlt := (List.getElem?_eq_some_iff.1 hi).1
  cases v with
  | nils => simp [read] at h; subst h; simp at hlt
  | sl id off n cap z =>
    obtain ⟨rfl, rfl, cs, own, hg, _⟩ := read_sl h
    exact St.get_lt (hK.blk hg)
  | _ => simp [read] at h
theorem lod_reserve {id : Nat} (h : ltN id s) (k n o : Nat) : lod (s.reserve k) n (.ptr id o) = lod s n (.ptr id o) := by
  unfold ltN at h
  simp only [lod, St.get_reserve, if_pos h]
theorem lod1_reserve {id : Nat} (h : ltN id s) (k o : Nat) : lod1 (s.reserve k) (.ptr id o) = lod1 s (.ptr id o) := by
  unfold ltN at h
  simp only [lod1, St.get_reserve, if_pos h]
/-! ### Contracts of functions of lists -/
end Go.AM
end
/-
  Contracts of functions that return a new list. Own work of this project.
-/
section
namespace Go.AM
open Go

variable {β : Type}
/-- The new list alone, or with one more result. -/
def mkR (e : Option AV) (v : AV) : AV := match e with
  | none => v
  | some e => .tup [v, e]
def conF (D : Cod β) (p : List AV → St → Option (List β × Option AV)) : Con := fun xs s => match p xs s with
  | some (l, e) => some (mkR e (freshV D s l), freshS D s l)
  | none => none
theorem conF_some {D : Cod β} {p : List AV → St → Option (List β × Option AV)} {xs : List AV} {s : St} {r : AV} {s' : St} (h : conF D p xs s = some (r, s')) : ∃ l e, p xs s = some (l, e) ∧ r = mkR e (freshV D s l) ∧ s' = freshS D s l := by
  unfold conF at h
  split at h
  · rename_i l e hp
    injection h with h
    obtain ⟨rfl, rfl⟩ := Prod.mk.inj h
    exact ⟨l, e, hp, rfl, rfl⟩
  · cases h
theorem mkR_ren {f : Nat → Nat} {e : Option AV} (he : ∀ x, e = some x → x.plain = true) (v : AV) : (mkR e v).ren f = mkR e (v.ren f) := by
  cases e with
  | none => rfl
  | some x => simp [mkR, AV.ren, AV.rens, plain_ren f (he x rfl)]
theorem con_fresh {P : Program} {call : Nat → List AV → St → Option (AV × St)} (hS : Sound P call) (hm : P.follows .mixedOrders = true) {g : Nat} {fn : Func} {afn : AFn} (hf : P.funcs[g]? = some fn) (hcal : callable P g = true) (hc : cfn P fn = some afn)
    {D : Cod β} {p : List AV → St → Option (List β × Option AV)} (h : ∀ args s l e, p args s = some (l, e) → (∀ x, e = some x → x.plain = true) ∧ args.length ≤ afn.ntmps ∧ ∀ env : Env, elen env = afn.ntmps → (∀ i v, args[i]? = some v → E env i = v) →
      awp call afn.body (fun x env t => (∀ i, x ≠ .exit i) ∧ Keep s t ∧ ∃ v, aresults env t afn.results = some (mkR e v) ∧ Own D s t v l) env s) : SoundAt P g (conF D p) := by
  refine con_sound hS hm hf hcal hc fun args s r s' hh => ?_
  obtain ⟨l, e, hp, rfl, rfl⟩ := conF_some hh
  obtain ⟨he, hl, k⟩ := h args s l e hp
  refine ⟨gk_fresh D s l, start_env hl fun env h1 h2 => awp_mono _ (fun x env' t q => ?_) (k env h1 h2)⟩
  obtain ⟨q1, q2, v, q3, q4⟩ := q
  obtain ⟨f, _, hf, hv⟩ := emb_fresh q2 q4
  exact ⟨q1, f, by rw [q3, mkR_ren he, hv], hf⟩
/-- What a caller has behind such a call. -/
theorem acall_fresh {D : Cod β} {p : List AV → St → Option (List β × Option AV)} {xs : List AV} {s : St} {l : List β} {e : Option AV} (hp : p xs { heap := s.heap, next := s.next, low := s.next } = some (l, e)) (he : ∀ x, e = some x → x.plain = true) :
    ∃ v t, acall (conF D p) false xs s = some (mkR e v, t) ∧ Keep s t ∧ Own D s t v l := by
  have hg : ∀ v : AV, v.plain = true → (mkR e v).ground = true := by
    intro v hv
    cases e with
    | none =>
      cases v <;> simp_all [mkR, AV.plain, AV.ground]
    | some x =>
      have h1 := he x rfl
      have h2 : ∀ y : AV, y.plain = true → y.plains = true := by intro y hy; cases y <;> simp_all [AV.plain, AV.plains]
      simp [mkR, AV.ground, h2 _ h1, h2 _ hv]
  by_cases hl : l = []
  · subst hl
    refine ⟨.nils, s, ?_, .refl s, .nil _ _ _⟩
    simp [acall, conF, hp, freshV, freshS, hg .nils rfl, St.lowed]
  · have hle : l.isEmpty = false := by simpa using hl
    refine ⟨.sl s.next 0 l.length none D.sz, freshS D s l, ?_, keep_fresh D s l, .inr ⟨s.next, rfl, hl, Nat.le_refl _, ?_⟩⟩
    · have hn : (mkR e (.sl s.next 0 l.length none D.sz)).ground = false := by cases e <;> simp [mkR, AV.ground, AV.plain, AV.plains]
      simp only [acall, conF, hp, freshV, freshS, hle, Bool.false_eq_true, if_false, hn, Bool.false_and]
      simp [St.push, St.lowed]
    · simp only [freshS, hle, Bool.false_eq_true, if_false]
      exact St.get_push_new _ _
/-- Made by a function that was called: still the caller's own, seen from where the caller began. -/
theorem Own.from {D : Cod β} {s0 s t : St} {v : AV} {l : List β} (h : Own D s t v l) (hn : s0.next ≤ s.next) : Own D s0 t v l := by
  rcases h with ⟨rfl, rfl⟩ | ⟨j, rfl, h0, h1, h⟩
  · exact .inl ⟨rfl, rfl⟩
  · exact .inr ⟨j, rfl, h0, by omega, h⟩
theorem mkR_none (v : AV) : mkR none v = v := nrfl rfl
theorem mkR_some (e v : AV) : mkR (some e) v = .tup [v, e] := nrfl rfl

/-! ### Appending by value -/
variable {call : Nat → List AV → St → Option (AV × St)} {env : Env} {s t : St}
def appV (s : St) (sz bytes : Nat) (a x : AV) : Option (AV × St) := match shown s sz x, lenOf x with
  | some new, some k => aappend s sz bytes a new k
  | _, _ => none
theorem ae_app (sz b : Nat) (z : List AV) (a x : AO) : aeff call env s (.app sz b z a x) = appV s sz b (aev env a) (aev env x) := nrfl rfl
theorem appV_list {C : Cod β} {t : St} {v x : AV} {l m : List β} (hK : Keep s t) (hO : Own C s t v l) (hr : read C t x = some m) (bytes : Nat) (hb : (l.length + m.length) * bytes ≤ roomBytes) :
    ∃ v' t', appV t C.sz bytes v x = some (v', t') ∧ Keep s t' ∧ Own C s t' v' (l ++ m) := by
  simp only [appV, read_shown hr, read_len hr]
  exact append_own hK hO m bytes hb
/-- One value, laid into a row of its own before. -/
theorem appV_one {C : Cod β} {t : St} {v : AV} {l : List β} (hK : Keep s t) (hO : Own C s t v l) (x : β) (bytes : Nat) (hb : (l.length + 1) * bytes ≤ roomBytes) :
    ∃ v' t', appV (t.push (.row (C.enc x) true)) C.sz bytes v (.sl t.next 0 1 (some 1) C.sz) = some (v', t') ∧ Keep s t' ∧ Own C s t' v' (l ++ [x]) := by
  have hr : read C (t.push (.row (C.enc x) true)) (.sl t.next 0 1 (some 1) C.sz) = some [x] := by
    refine read_of rfl (St.get_push_new _ _) (by simp [C.len]) ?_
    rw [cells_one, List.drop_zero, Nat.one_mul, ← C.len x]
    simp
  exact appV_list (hK.push _) (hO.push _) hr bytes (by simpa using hb)
def slcV (sz : Nat) (x : AV) (lo hi : Option AV) : Option AV := match x with
  | .sl id off len cap z =>
    if z = sz then
      match cap with
      | some c => match optNat hi c len with
          | some h => match optNat lo h 0 with
            | some l => some (.sl id (off + l * sz) (h - l) (some (c - l)) sz)
            | none => none
          | none => none
      | none => match optNat hi len len with
          | some h => match optNat lo h 0 with
            | some l => some (.sl id (off + l * sz) (h - l) none sz)
            | none => none
          | none => none
    else none
  | .nils => match (some 0 : Option Nat), optNat hi 0 0, optNat lo 0 0 with
      | some _, some _, some _ => some .nils
      | _, _, _ => none
  | _ => none
theorem ap_slc (sz : Nat) (x : AO) (lo hi : Option AO) : apure env (.slc sz x lo hi none) = slcV sz (aev env x) (lo.map (aev env)) (hi.map (aev env)) := by
  simp only [apure, slcV]
  cases hx : aev env x with
  | sl id off len cap z =>
    cases cap <;> simp [optNat] <;> rfl
  | nils =>
    simp only [optNat, Option.map_none, Option.isSome_none, Bool.false_and, Bool.false_eq_true, if_false]
    rfl
  | _ => rfl
end Go.AM
end
/-
  A function's own code as its contract (run with as much fuel as it takes); what a call that changes memory leaves. Own work of this project.
-/
section
namespace Go.AM
open Go

variable {call : Nat → List AV → St → Option (AV × St)}

/-! ### More fuel changes nothing -/
theorem aexec_mono : ∀ {n m : Nat} {c : AC} {env : Env} {s : St} {r : AEx × Env × St}, n ≤ m → aexec call n c env s = some r → aexec call m c env s = some r
  | 0, _, _, _, _, _, _, h => by simp [aexec] at h
  | n + 1, 0, _, _, _, _, hm, _ => by omega
  | n + 1, m + 1, c, env, s, r, hm, h => by
    have hm' : n ≤ m := by omega
    cases c with
    | skip => exact h
    | exit i => exact h
    | ret => exact h
    | bad => exact h
    | reg os => exact h
    | regd k os => exact h
    | regw os chk => exact h
    | seq a b =>
      simp only [aexec] at h ⊢
      cases ha : aexec call n a env s with
      | none => rw [ha] at h; cases h
      | some r1 =>
        rw [ha] at h
        rw [aexec_mono hm' ha]
        obtain ⟨x, e1, s1⟩ := r1
        cases x with
        | nor => exact aexec_mono hm' h
        | exit i => exact h
        | ret => exact h
    | cond c a b =>
      simp only [aexec] at h ⊢
      split at h
      · exact aexec_mono hm' h
      · exact aexec_mono hm' h
      · cases h
    | block id c =>
      simp only [aexec] at h ⊢
      cases ha : aexec call n c env s with
      | none => rw [ha] at h; cases h
      | some r1 =>
        rw [ha] at h
        rw [aexec_mono hm' ha]
        exact h
    | loop c =>
      simp only [aexec] at h ⊢
      cases ha : aexec call n c env s with
      | none => rw [ha] at h; cases h
      | some r1 =>
        rw [ha] at h
        rw [aexec_mono hm' ha]
        obtain ⟨x, e1, s1⟩ := r1
        cases x with
        | nor => exact aexec_mono hm' h
        | exit i => exact h
        | ret => exact h
/-- No range over a map in it. -/
def noNxtC : AC → Bool
  | .reg os | .regd _ os | .regw os _ => noNxt os
  | .seq a b | .cond _ a b => noNxtC a && noNxtC b
  | .block _ c | .loop c => noNxtC c
  | _ => true
theorem awp_exec : ∀ (c : AC) {Q : AEx → Env → St → Prop} {env : Env} {s : St}, noNxtC c = true → awp call c Q env s → ∃ n x e t, aexec call n c env s = some (x, e, t) ∧ Q x e t
  | .skip, _, _, _, _, k => ⟨1, _, _, _, rfl, k⟩
  | .exit _, _, _, _, _, k => ⟨1, _, _, _, rfl, k⟩
  | .ret, _, _, _, _, k => ⟨1, _, _, _, rfl, k⟩
  | .bad, _, _, _, _, k => k.elim
  | .reg os, _, env, s, hn, k => by
    obtain ⟨e, t, h1, h2⟩ := awops_some os env s hn k
    exact ⟨1, _, _, _, by simp only [aexec, h1], h2⟩
  | .regd _ os, _, _, _, _, k => by
    obtain ⟨e, t, h1, h2⟩ := k
    exact ⟨1, _, _, _, by simp only [aexec, h1], h2⟩
  | .regw _ chk, _, _, _, _, k => by
    obtain ⟨e, t, h1, hc, h2⟩ := k
    exact ⟨1, _, _, _, by simp only [aexec, h1, if_pos hc], h2⟩
  | .seq a b, Q, env, s, hn, k => by
    simp only [noNxtC, Bool.and_eq_true] at hn
    obtain ⟨n, x, e, t, h1, h2⟩ := awp_exec a hn.1 k
    cases x with
    | nor =>
      obtain ⟨m, x', e', t', h3, h4⟩ := awp_exec b hn.2 h2
      refine ⟨max n m + 1, x', e', t', ?_, h4⟩
      simp only [aexec]
      rw [aexec_mono (Nat.le_max_left n m) h1]
      exact aexec_mono (Nat.le_max_right n m) h3
    | exit i => exact ⟨n + 1, _, _, _, by simp only [aexec, h1], h2⟩
    | ret => exact ⟨n + 1, _, _, _, by simp only [aexec, h1], h2⟩
  | .cond c a b, Q, env, s, hn, k => by
    simp only [noNxtC, Bool.and_eq_true] at hn
    simp only [awp] at k
    split at k
    · rename_i hc
      obtain ⟨n, x, e, t, h1, h2⟩ := awp_exec a hn.1 k
      exact ⟨n + 1, x, e, t, by simp only [aexec, hc, h1], h2⟩
    · rename_i hc
      obtain ⟨n, x, e, t, h1, h2⟩ := awp_exec b hn.2 k
      exact ⟨n + 1, x, e, t, by simp only [aexec, hc, h1], h2⟩
    · exact k.elim
  | .block id c, Q, env, s, hn, k => by
    obtain ⟨n, x, e, t, h1, h2⟩ := awp_exec c hn k
    cases x with
    | nor => exact ⟨n + 1, _, _, _, by simp only [aexec, h1], h2⟩
    | exit i =>
      simp only at h2
      split at h2
      · rename_i hi
        exact ⟨n + 1, _, _, _, by simp only [aexec, h1, if_pos hi], h2⟩
      · rename_i hi
        exact ⟨n + 1, _, _, _, by simp only [aexec, h1, if_neg hi], h2⟩
    | ret => exact ⟨n + 1, _, _, _, by simp only [aexec, h1], h2⟩
  | .loop c, Q, env, s, hn, k => by
    obtain ⟨r, k⟩ := k
    revert env s k
    induction r with
    | zero => exact fun env s k => k.elim
    | succ r ih =>
      intro env s k
      simp only [arounds] at k
      obtain ⟨n, x, e, t, h1, h2⟩ := awp_exec c hn k
      cases x with
      | nor =>
        obtain ⟨m, x', e', t', h3, h4⟩ := ih _ _ h2
        refine ⟨max n m + 1, x', e', t', ?_, h4⟩
        simp only [aexec]
        rw [aexec_mono (Nat.le_max_left n m) h1]
        exact aexec_mono (Nat.le_max_right n m) h3
      | exit i => exact ⟨n + 1, _, _, _, by simp only [aexec, h1], h2⟩
      | ret => exact ⟨n + 1, _, _, _, by simp only [aexec, h1], h2⟩

/-! ### The code as a contract -/
open Classical in
noncomputable def runFn (call : Nat → List AV → St → Option (AV × St)) (fn : AFn) : Con := fun args s =>
  if h : ∃ n r, acallFn call n fn args s = some r then some (Classical.choose (Classical.choose_spec h)) else none
theorem run_sound {P : Program} (hS : Sound P call) (hm : P.follows .mixedOrders = true) {f : Nat} {fn : Func} {afn : AFn} (hf : P.funcs[f]? = some fn) (hcal : callable P f = true) (hc : cfn P fn = some afn) : SoundAt P f (runFn call afn) := by
  intro args s r s' h
  unfold runFn at h
  split at h
  · rename_i hx
    injection h with h
    have := Classical.choose_spec (Classical.choose_spec hx)
    rw [h] at this
    exact fn_sound hS hm hf hcal hc _ args s r s' this
  · cases h
theorem acallFn_mono {fn : AFn} {n m : Nat} (h : n ≤ m) {args : List AV} {s : St} {r : AV × St} (k : acallFn call n fn args s = some r) : acallFn call m fn args s = some r := by
  unfold acallFn at k ⊢
  cases ha : aexec call n fn.body (args ++ List.replicate (fn.ntmps - args.length) .und) s with
  | none => rw [ha] at k; cases k
  | some q =>
    rw [ha] at k
    rw [aexec_mono h ha]
    exact k
theorem run_of {fn : AFn} {n : Nat} {args : List AV} {s : St} {r : AV × St} (k : acallFn call n fn args s = some r) : runFn call fn args s = some r := by
  have hx : ∃ n r, acallFn call n fn args s = some r := ⟨n, r, k⟩
  unfold runFn
  rw [dif_pos hx]
  have := Classical.choose_spec (Classical.choose_spec hx)
  have h1 := acallFn_mono (Nat.le_max_left n (Classical.choose hx)) k
  have h2 := acallFn_mono (Nat.le_max_right n (Classical.choose hx)) this
  rw [h1] at h2
  exact h2.symm ▸ rfl
theorem run_awp {fn : AFn} (hn : noNxtC fn.body = true) {args : List AV} (hl : args.length ≤ fn.ntmps) {s : St} {Q : AV → St → Prop}
    (h : ∀ env : Env, elen env = fn.ntmps → (∀ i v, args[i]? = some v → E env i = v) → awp call fn.body (fun x e t => (∀ i, x ≠ .exit i) ∧ ∃ r, aresults e t fn.results = some r ∧ Q r t) env s) :
    ∃ r t, runFn call fn args s = some (r, t) ∧ Q r t := by
  have h := start_env hl h
  obtain ⟨n, x, e, t, h1, hx, r, h2, h3⟩ := awp_exec fn.body hn h
  refine ⟨r, t, run_of (n := n) ?_, h3⟩
  unfold acallFn
  rw [h1]
  cases x with
  | nor => simp only [h2, Option.map_some]
  | exit i => exact absurd rfl (hx i)
  | ret => simp only [h2, Option.map_some]

/-! ### What a call changes -/
/-- Only the blocks of M, and what is new. -/
structure Chg (M : List Nat) (s t : St) : Prop where
  next : s.next ≤ t.next
  get : ∀ id, id < s.next → id ∉ M → t.get id = s.get id
  low : ∀ k, k ≤ s.low → k ≤ s.next → (∀ id ∈ M, k ≤ id) → k ≤ t.low
theorem Chg.refl (M : List Nat) (s : St) : Chg M s s := ⟨Nat.le_refl _, fun _ _ _ => rfl, fun _ h _ _ => h⟩
theorem Keep.chg {s t : St} (h : Keep s t) (M : List Nat) : Chg M s t := ⟨h.next, fun id h1 _ => h.get id h1, fun k h1 h2 _ => by have := h.low; omega⟩
theorem Chg.keep {s t : St} (h : Chg [] s t) : Keep s t := ⟨h.next, fun id h1 => h.get id h1 (by simp), h.low _ (Nat.min_le_left _ _) (Nat.min_le_right _ _) (by simp)⟩
theorem Chg.trans {M M' : List Nat} {a b c : St} (h : Chg M a b) (k : Chg M' b c) (hM : ∀ id ∈ M', id ∈ M ∨ a.next ≤ id) : Chg M a c := by
  refine ⟨Nat.le_trans h.next k.next, fun id h1 h2 => ?_, fun n h1 h2 h3 => ?_⟩
  · rw [k.get id (Nat.lt_of_lt_of_le h1 h.next) fun hm => ?_, h.get id h1 h2]
    rcases hM id hm with q | q
    · exact h2 q
    · omega
  · refine k.low n (h.low n h1 h2 h3) (Nat.le_trans h2 h.next) fun id hid => ?_
    rcases hM id hid with q | q
    · exact h3 id q
    · omega
theorem Chg.mono {M M' : List Nat} {s t : St} (h : Chg M s t) (hM : ∀ id ∈ M, id ∈ M') : Chg M' s t :=
  ⟨h.next, fun id h1 h2 => h.get id h1 fun q => h2 (hM id q), fun k h1 h2 h3 => h.low k h1 h2 fun id q => h3 id (hM id q)⟩
theorem Chg.push {M : List Nat} {s t : St} (h : Chg M s t) (b : AB) : Chg M s (t.push b) :=
  h.trans (M' := []) (((Keep.refl t).push b).chg []) (by simp)
theorem Chg.put {M : List Nat} {s t : St} (h : Chg M s t) {id : Nat} (b : AB) (hid : id ∈ M ∨ s.next ≤ id) (hlt : id < t.next) : Chg M s (t.put id b) := by
  refine ⟨by simpa using h.next, fun j h1 h2 => ?_, fun k h1 h2 h3 => ?_⟩
  · rw [St.get_put_ne _ _ hlt fun e => ?_, h.get j h1 h2]
    subst e
    rcases hid with q | q
    · exact h2 q
    · omega
  · have := h.low k h1 h2 h3
    have : k ≤ id := by
      rcases hid with q | q
      · exact h3 id q
      · omega
    simp
    omega
/-- What was made in the meantime may be changed. -/
theorem Chg.new {M M' : List Nat} {a s t : St} (h : Chg M a s) (k : Chg M' s t) (hM : ∀ id ∈ M', a.next ≤ id ∨ id ∈ M) : Chg M a t := h.trans k fun id q => (hM id q).symm
theorem Keep.chgn {M' : List Nat} {a s t : St} (h : Keep a s) (k : Chg M' s t) (hM : ∀ id ∈ M', a.next ≤ id) : Keep a t :=
  ((h.chg []).trans k fun id q => .inr (hM id q)).keep
theorem Chg.blk {M : List Nat} {s t : St} (h : Chg M s t) {id : Nat} {b : AB} (hb : s.get id = some b) (hm : id ∉ M) : t.get id = some b := by rw [h.get id (St.get_lt hb) hm, hb]
@[reducible] def lowd (s : St) : St := { heap := s.heap, next := s.next, low := s.next }
/-- The call answers what names no block, and has changed nothing. -/
theorem acall_same {c : Con} {cl : Bool} {args : List AV} {s t : St} {r : AV} (h : c args (lowd s) = some (r, t)) (hk : Keep (lowd s) t) (hg : r.ground = true) : acall c cl args s = some (r, s) := by
  have hl := hk.low
  have hl : s.next ≤ t.low := by
    have : min s.next s.next ≤ t.low := hl
    omega
  simp only [acall]
  rw [show ({ heap := s.heap, next := s.next, low := s.next } : St) = lowd s from rfl, h]
  simp [hg, hl]
theorem acall_new {c : Con} {args : List AV} {M : List Nat} {s t : St} {r : AV} (h : c args (lowd s) = some (r, t)) (hk : Chg M (lowd s) t) (hng : r.ground = false ∨ t.low < s.next) :
    ∃ t', acall c false args s = some (r, t') ∧ (∀ id, t'.get id = t.get id) ∧ t'.next = t.next ∧ Chg M s t' := by
  refine ⟨{ heap := t.heap, next := t.next, low := min s.low t.low }, ?_, fun _ => rfl, rfl, hk.next, hk.get, fun k h1 h2 h3 => ?_⟩
  · simp only [acall]
    rw [show ({ heap := s.heap, next := s.next, low := s.next } : St) = lowd s from rfl, h]
    simp only
    rw [if_neg]
    · simp
    · simp only [Bool.and_eq_true, decide_eq_true_eq]
      rintro ⟨h1, h2⟩
      rcases hng with q | q
      · rw [h1] at q; cases q
      · omega
  · have := hk.low k h2 h2 h3
    show k ≤ min s.low t.low
    omega
theorem run_same {fn : AFn} (hn : noNxtC fn.body = true) {args : List AV} (hl : args.length ≤ fn.ntmps) {cl : Bool} {s : St} {r : AV} (hg : r.ground = true)
    (h : ∀ env : Env, elen env = fn.ntmps → (∀ i v, args[i]? = some v → E env i = v) → awp call fn.body (fun x e t => (∀ i, x ≠ .exit i) ∧ aresults e t fn.results = some r ∧ Keep (lowd s) t) env (lowd s)) :
    acall (runFn call fn) cl args s = some (r, s) := by
  obtain ⟨r', t, h1, h2, h3⟩ := run_awp hn hl (Q := fun r' t => r' = r ∧ Keep (lowd s) t) fun env h1 h2 => awp_mono _ (fun x e t q => ⟨q.1, r, q.2.1, rfl, q.2.2⟩) (h env h1 h2)
  subst h2
  exact acall_same h1 h3 hg
/-! ### A call that answers with new memory, in a region that draws its order -/
def acallF (c : Con) (args : List AV) (s : St) : Option (AV × St) := match acall c false args (lowd s) with
  | some (v, t) => if s.next ≤ t.low then some (v, { heap := t.heap, next := t.next, low := min s.low t.low }) else none
  | none => none
variable {base : Nat} {d : Option Nat} {r : Option Nat} {rest : List AOper} {Q : Env → St → Prop} {env : Env} {s : St}
theorem st_callf (f : Nat) (l : List AO) : awops call base (⟨d, .call f false l, none, r, true⟩ :: rest) Q env s = estep (acallF (call f) (l.map (aev env)) s) fun v t => awops call base rest Q (pE env d v) t := by
  rw [st_efff (op := .call f false l) (by simp) rfl rfl rfl]
  simp only [aeff, acallF, AOp.floor, AOp.isStore, Bool.false_eq_true, if_false]
  cases acall (call f) false (l.map (aev env)) (lowd s) with
  | none => rfl
  | some q =>
    obtain ⟨v, t⟩ := q
    simp only [estep]
    by_cases h : s.next ≤ t.low
    · rw [if_pos h, if_pos h]
    · rw [if_neg h, if_neg h]
end Go.AM
end
/-
  The functions of this seat as the abstract machine runs them. Printed by a program of this project.
-/
section
set_option maxRecDepth 100000
namespace Go.AM
open Go

/- redpencil/redpencillaw25.AcksNew -/
def a3 : AFn := ⟨69, [.t 4],
  .seq (.reg [oO 4 (.mv (.c (.bool false)))])
 (.seq (.seq (.reg [oO 11 (.mv (.t 1)),
 oO 12 (.len .sl (.t 11)),
 oO 13 (.bin .gtr .no (.t 12) (.c (.int .i64 70)))])
 (.cond (.t 13) (.seq (.reg [oO 14 (.call 8 false []),
 oO 4 (.mv (.t 14))])
 (.ret))
 (.skip)))
 (.seq (.reg [oO 15 (.mv (.t 1)),
 oO 16 (.app 1 8 [(.int .i64 0)] (.c .nils) (.t 15)),
 oO 5 (.mv (.t 16))])
 (.seq (.reg [oO 18 (.mv (.t 0)),
 oO 19 (.mv (.t 5)),
 oO 20 (.call 9 false [(.t 18), (.t 19)]),
 oO 17 (.mv (.t 20)),
 oO 21 (.ext (.t 17) 0),
 oO 22 (.ext (.t 17) 1),
 oO 6 (.mv (.t 21)),
 oO 7 (.mv (.t 22))])
 (.seq (.reg [oO 24 (.mv (.t 0)),
 oO 25 (.mv (.t 1)),
 oO 26 (.call 10 false [(.t 24), (.t 25)]),
 oO 23 (.mv (.t 26)),
 oO 27 (.ext (.t 23) 0),
 oO 28 (.ext (.t 23) 1),
 oO 8 (.mv (.t 27)),
 oO 9 (.mv (.t 28))])
 (.seq (.seq (.reg [oO 10 (.mv (.c (.int .i64 0)))])
 (.block 0 (.loop (.seq (.seq (.reg [oO 29 (.mv (.t 10)),
 oO 30 (.mv (.t 5)),
 oO 31 (.len .sl (.t 30)),
 oO 32 (.bin .lss .no (.t 29) (.t 31))])
 (.cond (.t 32) (.skip)
 (.exit 0)))
 (.seq (.block 1 (.seq (.seq (.regd 0 [oO 35 (.mv (.t 5)),
 oO 36 (.mv (.t 10)),
 oO 37 (.iad 1 (.t 35) (.t 36)),
 oO 38 (.load1 (.t 37)),
 oO 39 (.mv (.t 1)),
 oO 40 (.mv (.t 10)),
 oO 41 (.iad 1 (.t 39) (.t 40)),
 oO 42 (.load1 (.t 41)),
 oO 43 (.bin .neq .no (.t 38) (.t 42))])
 (.cond (.t 43) (.seq (.reg [oO 4 (.mv (.c (.bool false)))])
 (.ret))
 (.skip)))
 (.reg [oO 44 (.mv (.t 5)),
 oO 45 (.mv (.t 10)),
 oO 46 (.iad 1 (.t 44) (.t 45)),
 ⟨none, .store 1 (.t 46) (.c (.int .i64 0)), none, none, false⟩])))
 (.reg [oO 33 (.mv (.t 10)),
 oO 34 (.bin .add .no (.t 33) (.c (.int .i64 1))),
 oO 10 (.mv (.t 34))]))))))
 (.seq (.seq (.reg [oO 47 (.mv (.t 9)),
 oO 48 (.bin .neq .no (.t 47) (.c (.int .i64 0)))])
 (.cond (.t 48) (.seq (.reg [oO 49 (.mv (.t 6)),
 oO 50 (.bin .eql .np (.t 49) (.c .nilp)),
 oO 51 (.mv (.t 50)),
 oG 52 (.mv (.t 7)) 51 true,
 oG 53 (.mv (.t 9)) 51 true,
 oG 54 (.bin .eql .no (.t 52) (.t 53)) 51 true,
 oO 55 (.pick (.t 51) (.t 54) (.c (.bool false))),
 oO 56 (.mv (.t 55)),
 oG 57 (.call 8 false []) 56 true,
 oO 58 (.pick (.t 56) (.t 57) (.c (.bool false))),
 oO 4 (.mv (.t 58))])
 (.ret))
 (.skip)))
 (.seq (.reg [oO 59 (.mv (.t 7)),
 oO 60 (.bin .eql .no (.t 59) (.c (.int .i64 0))),
 oO 61 (.mv (.t 60)),
 oG 62 (.mv (.t 6)) 61 true,
 oG 63 (.mv (.t 8)) 61 true,
 oG 64 (.call 11 false [(.t 62), (.t 63)]) 61 true,
 oO 65 (.pick (.t 61) (.t 64) (.c (.bool false))),
 oO 66 (.mv (.t 65)),
 oG 67 (.call 8 false []) 66 true,
 oO 68 (.pick (.t 66) (.t 67) (.c (.bool false))),
 oO 4 (.mv (.t 68))])
 (.ret))))))))⟩

/- redpencil/redpencillaw25.AcksAll -/
def a4 : AFn := ⟨93, [.t 4],
  .seq (.reg [oO 4 (.mv (.c (.bool false)))])
 (.seq (.seq (.reg [oO 12 (.mv (.t 0)),
 oO 13 (.bin .lss .no (.t 12) (.c (.int .i64 1))),
 oO 14 (.mv (.t 13)),
 oG 15 (.mv (.t 0)) 14 false,
 oG 16 (.bin .gtr .no (.t 15) (.c (.int .i64 64))) 14 false,
 oO 17 (.pick (.t 14) (.c (.bool true)) (.t 16)),
 oO 18 (.mv (.t 17)),
 oG 19 (.mv (.t 1)) 18 false,
 oG 20 (.len .sl (.t 19)) 18 false,
 oG 21 (.bin .gtr .no (.t 20) (.c (.int .i64 64))) 18 false,
 oO 22 (.pick (.t 18) (.c (.bool true)) (.t 21))])
 (.cond (.t 22) (.seq (.reg [oO 23 (.call 8 false []),
 oO 4 (.mv (.t 23))])
 (.ret))
 (.skip)))
 (.seq (.reg [oO 5 (.mv (.c .nils))])
 (.seq (.seq (.reg [oO 6 (.mv (.c (.int .i64 64)))])
 (.block 0 (.loop (.seq (.seq (.reg [oO 24 (.mv (.t 6)),
 oO 25 (.bin .geq .no (.t 24) (.c (.int .i64 1)))])
 (.cond (.t 25) (.skip)
 (.exit 0)))
 (.seq (.block 1 (.seq (.reg [oO 28 (.mv (.t 6)),
 oO 29 (.mv (.t 0)),
 oO 30 (.bin .neq .no (.t 28) (.t 29))])
 (.cond (.t 30) (.reg [oO 31 (.mv (.t 5)),
 oO 32 (.mv (.t 6)),
 oO 33 (.bsl [(.int .i64 0)] 1 1 [(0, (.t 32))]),
 oO 34 (.app 1 8 [(.int .i64 0)] (.t 31) (.t 33)),
 oO 5 (.mv (.t 34))])
 (.skip))))
 (.reg [oO 26 (.mv (.t 6)),
 oO 27 (.bin .sub .no (.t 26) (.c (.int .i64 1))),
 oO 6 (.mv (.t 27))]))))))
 (.seq (.reg [oO 36 (.mv (.t 0)),
 oO 37 (.mv (.t 5)),
 oO 38 (.call 9 false [(.t 36), (.t 37)]),
 oO 35 (.mv (.t 38)),
 oO 39 (.ext (.t 35) 0),
 oO 40 (.ext (.t 35) 1),
 oO 7 (.mv (.t 39)),
 oO 8 (.mv (.t 40))])
 (.seq (.seq (.reg [oO 41 (.mv (.t 7)),
 oO 42 (.bin .eql .np (.t 41) (.c .nilp)),
 oO 43 (.mv (.t 42)),
 oG 44 (.mv (.t 8)) 43 false,
 oG 45 (.bin .neq .no (.t 44) (.c (.int .i64 0))) 43 false,
 oO 46 (.pick (.t 43) (.c (.bool true)) (.t 45)),
 oO 47 (.mv (.t 46)),
 oG 48 (.mv (.t 7)) 47 false,
 oG 49 (.call 12 false [(.t 48)]) 47 false,
 oG 50 (.len .sl (.t 49)) 47 false,
 oG 51 (.bin .neq .no (.t 50) (.c (.int .i64 63))) 47 false,
 oO 52 (.pick (.t 47) (.c (.bool true)) (.t 51))])
 (.cond (.t 52) (.seq (.reg [oO 4 (.mv (.c (.bool false)))])
 (.ret))
 (.skip)))
 (.seq (.reg [oO 9 (.mv (.c (.int .i64 1099511627776)))])
 (.seq (.seq (.reg [oO 10 (.mv (.c (.int .i64 0)))])
 (.block 2 (.loop (.seq (.seq (.reg [oO 53 (.mv (.t 10)),
 oO 54 (.bin .lss .no (.t 53) (.c (.int .i64 63)))])
 (.cond (.t 54) (.skip)
 (.exit 2)))
 (.seq (.block 3 (.seq (.reg [oO 11 (.mv (.c (.int .i64 65535)))])
 (.seq (.seq (.reg [oO 57 (.mv (.t 10)),
 oO 58 (.mv (.t 1)),
 oO 59 (.len .sl (.t 58)),
 oO 60 (.bin .lss .no (.t 57) (.t 59))])
 (.cond (.t 60) (.reg [oO 61 (.mv (.t 1)),
 oO 62 (.mv (.t 10)),
 oO 63 (.iad 1 (.t 61) (.t 62)),
 oO 64 (.load1 (.t 63)),
 oO 65 (.conv .i64 (.t 64)),
 oO 11 (.mv (.t 65))])
 (.skip)))
 (.seq (.reg [oO 66 (.mv (.t 9)),
 oO 67 (.mv (.t 11)),
 oO 68 (.mm false [(.t 66), (.t 67)]),
 oO 9 (.mv (.t 68))])
 (.seq (.reg [oO 69 (.mv (.t 7)),
 oO 70 (.mv (.t 5)),
 oO 71 (.mv (.t 10)),
 oO 72 (.iad 1 (.t 70) (.t 71)),
 oO 73 (.load1 (.t 72)),
 oO 74 (.mv (.t 11)),
 oO 75 (.call 13 false [(.t 69), (.t 73), (.t 74), (.c (.int .i64 65535))]),
 oO 76 (.bin .neq .no (.t 75) (.c (.int .i64 0))),
 oO 77 (.mv (.t 76)),
 oG 78 (.mv (.t 10)) 77 false,
 oG 79 (.bin .lss .no (.t 78) (.c (.int .i64 62))) 77 false,
 oG 80 (.mv (.t 79)) 77 false,
 oG 81 (.mv (.t 7)) 80 true,
 oG 82 (.call 14 false [(.t 81)]) 80 true,
 oG 83 (.bin .neq .no (.t 82) (.c (.int .i64 0))) 80 true,
 oG 84 (.pick (.t 80) (.t 83) (.c (.bool false))) 77 false,
 oO 85 (.pick (.t 77) (.c (.bool true)) (.t 84))])
 (.cond (.t 85) (.seq (.reg [oO 4 (.mv (.c (.bool false)))])
 (.ret))
 (.skip)))))))
 (.reg [oO 55 (.mv (.t 10)),
 oO 56 (.bin .add .no (.t 55) (.c (.int .i64 1))),
 oO 10 (.mv (.t 56))]))))))
 (.seq (.reg [oO 86 (.mv (.t 7)),
 oO 87 (.call 14 false [(.t 86)]),
 oO 88 (.mv (.t 9)),
 oO 89 (.bin .eql .no (.t 87) (.t 88)),
 oO 90 (.mv (.t 89)),
 oG 91 (.call 8 false []) 90 true,
 oO 92 (.pick (.t 90) (.t 91) (.c (.bool false))),
 oO 4 (.mv (.t 92))])
 (.ret)))))))))⟩

/- redpencil/redpencillaw25.AcksHolds -/
def a5 : AFn := ⟨335, [.t 6],
  .seq (.reg [oO 6 (.mv (.c (.bool false)))])
 (.seq (.seq (.reg [oO 28 (.mv (.t 0)),
 oO 29 (.bin .lss .no (.t 28) (.c (.int .i64 1))),
 oO 30 (.mv (.t 29)),
 oG 31 (.mv (.t 0)) 30 false,
 oG 32 (.bin .gtr .no (.t 31) (.c (.int .i64 10))) 30 false,
 oO 33 (.pick (.t 30) (.c (.bool true)) (.t 32)),
 oO 34 (.mv (.t 33)),
 oG 35 (.mv (.t 1)) 34 false,
 oG 36 (.len .sl (.t 35)) 34 false,
 oG 37 (.bin .gtr .no (.t 36) (.c (.int .i64 40))) 34 false,
 oO 38 (.pick (.t 34) (.c (.bool true)) (.t 37)),
 oO 39 (.mv (.t 38)),
 oG 40 (.mv (.t 2)) 39 false,
 oG 41 (.len .sl (.t 40)) 39 false,
 oG 42 (.bin .gtr .no (.t 41) (.c (.int .i64 20))) 39 false,
 oO 43 (.pick (.t 39) (.c (.bool true)) (.t 42))])
 (.cond (.t 43) (.seq (.reg [oO 44 (.call 8 false []),
 oO 6 (.mv (.t 44))])
 (.ret))
 (.skip)))
 (.seq (.reg [oO 7 (.mv (.c .nils))])
 (.seq (.seq (.reg [oO 8 (.mv (.c (.int .i64 0)))])
 (.block 0 (.loop (.seq (.seq (.reg [oO 45 (.mv (.t 8)),
 oO 46 (.mv (.t 0)),
 oO 47 (.bin .lss .no (.t 45) (.t 46))])
 (.cond (.t 47) (.skip)
 (.exit 0)))
 (.seq (.block 1 (.reg [oO 50 (.mv (.t 7)),
 oO 51 (.mv (.t 8)),
 oO 52 (.bin .add .no (.c (.int .i64 2)) (.t 51)),
 oO 53 (.bsl [(.int .i64 0)] 1 1 [(0, (.t 52))]),
 oO 54 (.app 1 8 [(.int .i64 0)] (.t 50) (.t 53)),
 oO 7 (.mv (.t 54))]))
 (.reg [oO 48 (.mv (.t 8)),
 oO 49 (.bin .add .no (.t 48) (.c (.int .i64 1))),
 oO 8 (.mv (.t 49))]))))))
 (.seq (.reg [oO 56 (.mv (.t 7)),
 oO 57 (.call 9 false [(.c (.int .i64 1)), (.t 56)]),
 oO 55 (.mv (.t 57)),
 oO 58 (.ext (.t 55) 0),
 oO 59 (.ext (.t 55) 1),
 oO 9 (.mv (.t 58)),
 oO 10 (.mv (.t 59))])
 (.seq (.reg [oO 61 (.mv (.t 7)),
 oO 62 (.call 9 false [(.c (.int .i64 1)), (.t 61)]),
 oO 60 (.mv (.t 62)),
 oO 63 (.ext (.t 60) 0),
 oO 64 (.ext (.t 60) 1),
 oO 11 (.mv (.t 63)),
 oO 12 (.mv (.t 64))])
 (.seq (.reg [oO 66 (.mv (.t 7)),
 oO 67 (.call 9 false [(.c (.int .i64 1)), (.t 66)]),
 oO 65 (.mv (.t 67)),
 oO 68 (.ext (.t 65) 0),
 oO 69 (.ext (.t 65) 1),
 oO 13 (.mv (.t 68)),
 oO 14 (.mv (.t 69))])
 (.seq (.seq (.reg [oO 70 (.mv (.t 9)),
 oO 71 (.bin .eql .np (.t 70) (.c .nilp)),
 oO 72 (.mv (.t 71)),
 oG 73 (.mv (.t 11)) 72 false,
 oG 74 (.bin .eql .np (.t 73) (.c .nilp)) 72 false,
 oO 75 (.pick (.t 72) (.c (.bool true)) (.t 74)),
 oO 76 (.mv (.t 75)),
 oG 77 (.mv (.t 13)) 76 false,
 oG 78 (.bin .eql .np (.t 77) (.c .nilp)) 76 false,
 oO 79 (.pick (.t 76) (.c (.bool true)) (.t 78)),
 oO 80 (.mv (.t 79)),
 oG 81 (.mv (.t 10)) 80 false,
 oG 82 (.bin .neq .no (.t 81) (.c (.int .i64 0))) 80 false,
 oO 83 (.pick (.t 80) (.c (.bool true)) (.t 82)),
 oO 84 (.mv (.t 83)),
 oG 85 (.mv (.t 12)) 84 false,
 oG 86 (.bin .neq .no (.t 85) (.c (.int .i64 0))) 84 false,
 oO 87 (.pick (.t 84) (.c (.bool true)) (.t 86)),
 oO 88 (.mv (.t 87)),
 oG 89 (.mv (.t 14)) 88 false,
 oG 90 (.bin .neq .no (.t 89) (.c (.int .i64 0))) 88 false,
 oO 91 (.pick (.t 88) (.c (.bool true)) (.t 90))])
 (.cond (.t 91) (.seq (.reg [oO 6 (.mv (.c (.bool false)))])
 (.ret))
 (.skip)))
 (.seq (.seq (.reg [oO 15 (.mv (.c (.int .i64 0)))])
 (.block 2 (.loop (.seq (.seq (.reg [oO 92 (.mv (.t 15)),
 oO 93 (.mv (.t 1)),
 oO 94 (.len .sl (.t 93)),
 oO 95 (.bin .lss .no (.t 92) (.t 94))])
 (.cond (.t 95) (.skip)
 (.exit 2)))
 (.seq (.block 3 (.seq (.reg [oO 98 (.mv (.t 9)),
 oO 99 (.call 12 false [(.t 98)]),
 oO 16 (.mv (.t 99))])
 (.seq (.reg [oO 100 (.mv (.t 1)),
 oO 101 (.mv (.t 15)),
 oO 102 (.iad 4 (.t 100) (.t 101)),
 oO 103 (.loadn 4 (.t 102)),
 oO 17 (.alloc [(.int .i64 0), (.int .i64 0), (.int .i64 0), (.int .i64 0)]),
 ⟨none, .store 4 (.t 17) (.t 103), none, none, false⟩])
 (.seq (.reg [oO 18 (.mv (.c (.int .i64 0)))])
 (.seq (.seq (.reg [oO 104 (.fad 0 (.t 17)),
 oO 105 (.load1 (.t 104))])
 (.block 4 (.seq (.reg [oO 107 (.bin .eql .no (.t 105) (.c (.int .i64 0))),
 oO 106 (.mv (.t 107))])
 (.cond (.t 106) (.reg [oO 108 (.mv (.t 9)),
 oO 109 (.fad 1 (.t 17)),
 oO 110 (.load1 (.t 109)),
 oO 111 (.fad 2 (.t 17)),
 oO 112 (.load1 (.t 111)),
 oO 113 (.call 15 false [(.t 108), (.t 110), (.t 112)]),
 oO 18 (.mv (.t 113))])
 (.seq (.reg [oO 115 (.bin .eql .no (.t 105) (.c (.int .i64 1))),
 oO 114 (.mv (.t 115))])
 (.cond (.t 114) (.reg [oO 116 (.mv (.t 9)),
 oO 117 (.fad 1 (.t 17)),
 oO 118 (.load1 (.t 117)),
 oO 119 (.fad 2 (.t 17)),
 oO 120 (.load1 (.t 119)),
 oO 121 (.fad 3 (.t 17)),
 oO 122 (.load1 (.t 121)),
 oO 123 (.call 13 false [(.t 116), (.t 118), (.t 120), (.t 122)]),
 oO 18 (.mv (.t 123))])
 (.seq (.reg [oO 125 (.bin .eql .no (.t 105) (.c (.int .i64 2))),
 oO 124 (.mv (.t 125))])
 (.cond (.t 124) (.reg [oO 126 (.mv (.t 9)),
 oO 127 (.fad 1 (.t 17)),
 oO 128 (.load1 (.t 127)),
 oO 129 (.fad 2 (.t 17)),
 oO 130 (.load1 (.t 129)),
 oO 131 (.fad 3 (.t 17)),
 oO 132 (.load1 (.t 131)),
 oO 133 (.call 16 false [(.t 126), (.t 128), (.t 130), (.t 132)]),
 oO 18 (.mv (.t 133))])
 (.seq (.reg [oO 135 (.bin .eql .no (.t 105) (.c (.int .i64 3))),
 oO 134 (.mv (.t 135))])
 (.cond (.t 134) (.reg [oO 136 (.mv (.t 9)),
 oO 137 (.fad 1 (.t 17)),
 oO 138 (.load1 (.t 137)),
 oO 139 (.fad 2 (.t 17)),
 oO 140 (.load1 (.t 139)),
 oO 141 (.call 17 false [(.t 136), (.t 138), (.t 140)]),
 oO 18 (.mv (.t 141))])
 (.skip)))))))))))
 (.seq (.reg [oO 142 (.mv (.t 9)),
 oO 143 (.call 12 false [(.t 142)]),
 oO 19 (.mv (.t 143))])
 (.seq (.seq (.reg [oO 144 (.mv (.t 16)),
 oO 145 (.len .sl (.t 144)),
 oO 146 (.mv (.t 0)),
 oO 147 (.bin .neq .no (.t 145) (.t 146)),
 oO 148 (.mv (.t 147)),
 oG 149 (.mv (.t 19)) 148 false,
 oG 150 (.len .sl (.t 149)) 148 false,
 oG 151 (.mv (.t 0)) 148 false,
 oG 152 (.bin .neq .no (.t 150) (.t 151)) 148 false,
 oO 153 (.pick (.t 148) (.c (.bool true)) (.t 152)),
 oO 154 (.mv (.t 153)),
 oG 155 (.mv (.t 18)) 154 false,
 oG 156 (.bin .neq .no (.t 155) (.c (.int .i64 0))) 154 false,
 oG 157 (.mv (.t 156)) 154 false,
 oG 158 (.mv (.t 19)) 157 true,
 oG 159 (.mv (.t 16)) 157 true,
 oG 160 (.call 18 false [(.t 158), (.t 159)]) 157 true,
 oG 161 (.un .not (.t 160)) 157 true,
 oG 162 (.pick (.t 157) (.t 161) (.c (.bool false))) 154 false,
 oO 163 (.pick (.t 154) (.c (.bool true)) (.t 162))])
 (.cond (.t 163) (.seq (.reg [oO 6 (.mv (.c (.bool false)))])
 (.ret))
 (.skip)))
 (.seq (.reg [oO 20 (.mv (.c (.int .i64 0)))])
 (.block 5 (.loop (.seq (.seq (.reg [oO 164 (.mv (.t 20)),
 oO 165 (.mv (.t 0)),
 oO 166 (.bin .lss .no (.t 164) (.t 165))])
 (.cond (.t 166) (.skip)
 (.exit 5)))
 (.seq (.block 6 (.seq (.regd 2 [oO 169 (.mv (.t 16)),
 oO 170 (.mv (.t 20)),
 oO 171 (.iad 4 (.t 169) (.t 170)),
 oO 172 (.loadn 4 (.t 171)),
 oO 173 (.mv (.t 19)),
 oO 174 (.mv (.t 20)),
 oO 175 (.iad 4 (.t 173) (.t 174)),
 ⟨(some 176), .loadn 4 (.t 175), none, none, true⟩,
 ⟨(some 21), .alloc [(.int .i64 0), (.int .i64 0), (.int .i64 0), (.int .i64 0)], none, (some 0), false⟩,
 ⟨(some 22), .alloc [(.int .i64 0), (.int .i64 0), (.int .i64 0), (.int .i64 0)], none, (some 1), false⟩,
 ⟨none, .store 4 (.t 21) (.t 172), none, none, true⟩,
 ⟨none, .store 4 (.t 22) (.t 176), none, none, false⟩])
 (.seq (.seq (.regd 0 [oO 177 (.fad 0 (.t 22)),
 oO 178 (.load1 (.t 177)),
 oO 179 (.fad 0 (.t 21)),
 oO 180 (.load1 (.t 179)),
 oO 181 (.bin .neq .no (.t 178) (.t 180)),
 oO 182 (.mv (.t 181)),
 oG 183 (.fad 1 (.t 22)) 182 false,
 oG 184 (.load1 (.t 183)) 182 false,
 oG 185 (.fad 1 (.t 21)) 182 false,
 oG 186 (.load1 (.t 185)) 182 false,
 oG 187 (.bin .lss .no (.t 184) (.t 186)) 182 false,
 oO 188 (.pick (.t 182) (.c (.bool true)) (.t 187)),
 oO 189 (.mv (.t 188)),
 oG 190 (.fad 1 (.t 22)) 189 false,
 oG 191 (.load1 (.t 190)) 189 false,
 oG 192 (.fad 1 (.t 21)) 189 false,
 oG 193 (.load1 (.t 192)) 189 false,
 oG 194 (.bin .eql .no (.t 191) (.t 193)) 189 false,
 oG 195 (.mv (.t 194)) 189 false,
 oG 196 (.fad 2 (.t 22)) 195 true,
 oG 197 (.load1 (.t 196)) 195 true,
 oG 198 (.fad 2 (.t 21)) 195 true,
 oG 199 (.load1 (.t 198)) 195 true,
 oG 200 (.bin .lss .no (.t 197) (.t 199)) 195 true,
 oG 201 (.mv (.t 200)) 195 true,
 oG 202 (.fad 3 (.t 22)) 201 false,
 oG 203 (.load1 (.t 202)) 201 false,
 oG 204 (.fad 3 (.t 21)) 201 false,
 oG 205 (.load1 (.t 204)) 201 false,
 oG 206 (.bin .lss .no (.t 203) (.t 205)) 201 false,
 oG 207 (.pick (.t 201) (.c (.bool true)) (.t 206)) 195 true,
 oG 208 (.pick (.t 195) (.t 207) (.c (.bool false))) 189 false,
 oO 209 (.pick (.t 189) (.c (.bool true)) (.t 208)),
 oO 210 (.mv (.t 209)),
 oG 211 (.fad 1 (.t 22)) 210 false,
 oG 212 (.load1 (.t 211)) 210 false,
 oG 213 (.fad 1 (.t 21)) 210 false,
 oG 214 (.load1 (.t 213)) 210 false,
 oG 215 (.bin .gtr .no (.t 212) (.t 214)) 210 false,
 oG 216 (.mv (.t 215)) 210 false,
 oG 217 (.fad 2 (.t 22)) 216 true,
 oG 218 (.load1 (.t 217)) 216 true,
 oG 219 (.bin .neq .no (.t 218) (.c (.int .i64 0))) 216 true,
 oG 220 (.mv (.t 219)) 216 true,
 oG 221 (.fad 3 (.t 22)) 220 false,
 oG 222 (.load1 (.t 221)) 220 false,
 oG 223 (.bin .neq .no (.t 222) (.c (.int .i64 0))) 220 false,
 oG 224 (.pick (.t 220) (.c (.bool true)) (.t 223)) 216 true,
 oG 225 (.pick (.t 216) (.t 224) (.c (.bool false))) 210 false,
 oO 226 (.pick (.t 210) (.c (.bool true)) (.t 225)),
 oO 227 (.mv (.t 226)),
 oG 228 (.mv (.t 9)) 227 false,
 oG 229 (.call 14 true [(.t 228)]) 227 false,
 oG 230 (.fad 2 (.t 22)) 227 false,
 oG 231 (.load1 (.t 230)) 227 false,
 oG 232 (.bin .gtr .no (.t 229) (.t 231)) 227 false,
 oO 233 (.pick (.t 227) (.c (.bool true)) (.t 232))])
 (.cond (.t 233) (.seq (.reg [oO 6 (.mv (.c (.bool false)))])
 (.ret))
 (.skip)))
 (.seq (.reg [oO 234 (.fad 0 (.t 17)),
 oO 235 (.load1 (.t 234)),
 oO 236 (.bin .eql .no (.t 235) (.c (.int .i64 2))),
 oO 237 (.mv (.t 236)),
 oG 238 (.fad 3 (.t 22)) 237 true,
 oG 239 (.load1 (.t 238)) 237 true,
 oG 240 (.fad 3 (.t 21)) 237 true,
 oG 241 (.load1 (.t 240)) 237 true,
 oG 242 (.bin .gtr .no (.t 239) (.t 241)) 237 true,
 oO 243 (.pick (.t 237) (.t 242) (.c (.bool false))),
 oO 244 (.mv (.t 243)),
 oG 245 (.fad 2 (.t 17)) 244 true,
 oG 246 (.load1 (.t 245)) 244 true,
 oG 247 (.fad 3 (.t 21)) 244 true,
 oG 248 (.load1 (.t 247)) 244 true,
 oG 249 (.bin .add .no (.t 248) (.c (.int .i64 1))) 244 true,
 oG 250 (.bin .gtr .no (.t 246) (.t 249)) 244 true,
 oG 251 (.mv (.t 250)) 244 true,
 oG 252 (.fad 3 (.t 17)) 251 false,
 oG 253 (.load1 (.t 252)) 251 false,
 oG 254 (.fad 3 (.t 22)) 251 false,
 oG 255 (.load1 (.t 254)) 251 false,
 oG 256 (.bin .neq .no (.t 253) (.t 255)) 251 false,
 oG 257 (.pick (.t 251) (.c (.bool true)) (.t 256)) 244 true,
 oO 258 (.pick (.t 244) (.t 257) (.c (.bool false)))])
 (.cond (.t 258) (.seq (.reg [oO 6 (.mv (.c (.bool false)))])
 (.ret))
 (.skip))))))
 (.reg [oO 167 (.mv (.t 20)),
 oO 168 (.bin .add .no (.t 167) (.c (.int .i64 1))),
 oO 20 (.mv (.t 168))])))))))))))))
 (.reg [oO 96 (.mv (.t 15)),
 oO 97 (.bin .add .no (.t 96) (.c (.int .i64 1))),
 oO 15 (.mv (.t 97))]))))))
 (.seq (.seq (.reg [oO 23 (.mv (.c (.int .i64 0)))])
 (.block 7 (.loop (.seq (.seq (.reg [oO 259 (.mv (.t 23)),
 oO 260 (.mv (.t 2)),
 oO 261 (.len .sl (.t 260)),
 oO 262 (.bin .lss .no (.t 259) (.t 261))])
 (.cond (.t 262) (.skip)
 (.exit 7)))
 (.seq (.block 8 (.seq (.regd 0 [oO 265 (.mv (.t 2)),
 oO 266 (.mv (.t 23)),
 oO 267 (.iad 1 (.t 265) (.t 266)),
 oO 268 (.load1 (.t 267)),
 oO 269 (.bin .rem .no (.t 268) (.c (.int .u16 1000))),
 oO 270 (.conv .i64 (.t 269)),
 oO 271 (.mv (.t 2)),
 oO 272 (.mv (.t 23)),
 oO 273 (.iad 1 (.t 271) (.t 272)),
 oO 274 (.load1 (.t 273)),
 oO 275 (.conv .i64 (.t 274)),
 oO 276 (.mv (.t 0)),
 oO 277 (.bin .rem .no (.t 275) (.t 276)),
 oO 278 (.bin .add .no (.c (.int .i64 2)) (.t 277)),
 oO 24 (.mv (.t 270)),
 oO 25 (.mv (.t 278))])
 (.seq (.regd 0 [oO 279 (.mv (.t 2)),
 oO 280 (.mv (.t 2)),
 oO 281 (.len .sl (.t 280)),
 oO 282 (.bin .sub .no (.t 281) (.c (.int .i64 1))),
 oO 283 (.mv (.t 23)),
 oO 284 (.bin .sub .no (.t 282) (.t 283)),
 oO 285 (.iad 1 (.t 279) (.t 284)),
 oO 286 (.load1 (.t 285)),
 oO 287 (.bin .rem .no (.t 286) (.c (.int .u16 1000))),
 oO 288 (.conv .i64 (.t 287)),
 oO 289 (.mv (.t 2)),
 oO 290 (.mv (.t 2)),
 oO 291 (.len .sl (.t 290)),
 oO 292 (.bin .sub .no (.t 291) (.c (.int .i64 1))),
 oO 293 (.mv (.t 23)),
 oO 294 (.bin .sub .no (.t 292) (.t 293)),
 oO 295 (.iad 1 (.t 289) (.t 294)),
 oO 296 (.load1 (.t 295)),
 oO 297 (.conv .i64 (.t 296)),
 oO 298 (.mv (.t 0)),
 oO 299 (.bin .rem .no (.t 297) (.t 298)),
 oO 300 (.bin .add .no (.c (.int .i64 2)) (.t 299)),
 oO 26 (.mv (.t 288)),
 oO 27 (.mv (.t 300))])
 (.seq (.reg [oO 301 (.mv (.t 11)),
 oO 302 (.mv (.t 25)),
 oO 303 (.mv (.t 24)),
 oO 304 (.call 13 false [(.t 301), (.t 302), (.t 303), (.c (.int .i64 1000))]),
 oO 305 (.bin .neq .no (.t 304) (.c (.int .i64 0))),
 oO 306 (.mv (.t 305)),
 oG 307 (.mv (.t 13)) 306 false,
 oG 308 (.mv (.t 27)) 306 false,
 oG 309 (.mv (.t 26)) 306 false,
 oG 310 (.call 13 false [(.t 307), (.t 308), (.t 309), (.c (.int .i64 1000))]) 306 false,
 oG 311 (.bin .neq .no (.t 310) (.c (.int .i64 0))) 306 false,
 oO 312 (.pick (.t 306) (.c (.bool true)) (.t 311)),
 oO 313 (.mv (.t 312)),
 oG 314 (.mv (.t 13)) 313 false,
 oG 315 (.mv (.t 27)) 313 false,
 oG 316 (.mv (.t 26)) 313 false,
 oG 317 (.call 13 false [(.t 314), (.t 315), (.t 316), (.c (.int .i64 1000))]) 313 false,
 oG 318 (.bin .neq .no (.t 317) (.c (.int .i64 0))) 313 false,
 oO 319 (.pick (.t 313) (.c (.bool true)) (.t 318))])
 (.cond (.t 319) (.seq (.reg [oO 6 (.mv (.c (.bool false)))])
 (.ret))
 (.skip))))))
 (.reg [oO 263 (.mv (.t 23)),
 oO 264 (.bin .add .no (.t 263) (.c (.int .i64 1))),
 oO 23 (.mv (.t 264))]))))))
 (.seq (.reg [oO 320 (.mv (.t 11)),
 oO 321 (.call 12 false [(.t 320)]),
 oO 322 (.mv (.t 13)),
 oO 323 (.call 12 false [(.t 322)]),
 oO 324 (.call 18 false [(.t 321), (.t 323)]),
 oO 325 (.mv (.t 324)),
 oG 326 (.mv (.t 11)) 325 true,
 oG 327 (.call 14 false [(.t 326)]) 325 true,
 oG 328 (.mv (.t 13)) 325 true,
 oG 329 (.call 14 false [(.t 328)]) 325 true,
 oG 330 (.bin .eql .no (.t 327) (.t 329)) 325 true,
 oO 331 (.pick (.t 325) (.t 330) (.c (.bool false))),
 oO 332 (.mv (.t 331)),
 oG 333 (.call 8 false []) 332 true,
 oO 334 (.pick (.t 332) (.t 333) (.c (.bool false))),
 oO 6 (.mv (.t 334))])
 (.ret)))))))))))⟩

/- redpencil/redpencillaw25.AcksPlays -/
def a6 : AFn := ⟨146, [.t 6],
  .seq (.reg [oO 6 (.mv (.c (.bool false)))])
 (.seq (.seq (.reg [oO 15 (.mv (.t 1)),
 oO 16 (.len .sl (.t 15)),
 oO 17 (.bin .gtr .no (.t 16) (.c (.int .i64 10))),
 oO 18 (.mv (.t 17)),
 oG 19 (.mv (.t 2)) 18 false,
 oG 20 (.len .sl (.t 19)) 18 false,
 oG 21 (.bin .gtr .no (.t 20) (.c (.int .i64 40))) 18 false,
 oO 22 (.pick (.t 18) (.c (.bool true)) (.t 21))])
 (.cond (.t 22) (.seq (.reg [oO 23 (.call 8 false []),
 oO 6 (.mv (.t 23))])
 (.ret))
 (.skip)))
 (.seq (.reg [oO 25 (.mv (.t 0)),
 oO 26 (.mv (.t 1)),
 oO 27 (.call 10 false [(.t 25), (.t 26)]),
 oO 24 (.mv (.t 27)),
 oO 28 (.ext (.t 24) 0),
 oO 29 (.ext (.t 24) 1),
 oO 7 (.mv (.t 28)),
 oO 8 (.mv (.t 29))])
 (.seq (.seq (.reg [oO 30 (.mv (.t 8)),
 oO 31 (.bin .neq .no (.t 30) (.c (.int .i64 0)))])
 (.cond (.t 31) (.seq (.reg [oO 32 (.mv (.t 0)),
 oO 33 (.mv (.t 1)),
 oO 34 (.call 19 false [(.t 32), (.t 33)]),
 oO 35 (.mv (.t 34)),
 oG 36 (.call 8 false []) 35 true,
 oO 37 (.pick (.t 35) (.t 36) (.c (.bool false))),
 oO 6 (.mv (.t 37))])
 (.ret))
 (.skip)))
 (.seq (.reg [oO 39 (.mv (.t 0)),
 oO 40 (.mv (.t 1)),
 oO 41 (.call 9 false [(.t 39), (.t 40)]),
 oO 38 (.mv (.t 41)),
 oO 42 (.ext (.t 38) 0),
 oO 43 (.ext (.t 38) 1),
 oO 9 (.mv (.t 42)),
 oO 10 (.mv (.t 43))])
 (.seq (.seq (.reg [oO 44 (.mv (.t 10)),
 oO 45 (.bin .neq .no (.t 44) (.c (.int .i64 0)))])
 (.cond (.t 45) (.seq (.reg [oO 6 (.mv (.c (.bool false)))])
 (.ret))
 (.skip)))
 (.seq (.seq (.reg [oO 11 (.mv (.c (.int .i64 0)))])
 (.block 0 (.loop (.seq (.seq (.reg [oO 46 (.mv (.t 11)),
 oO 47 (.mv (.t 2)),
 oO 48 (.len .sl (.t 47)),
 oO 49 (.bin .lss .no (.t 46) (.t 48))])
 (.cond (.t 49) (.skip)
 (.exit 0)))
 (.seq (.block 1 (.seq (.seq (.reg [oO 52 (.mv (.t 9)),
 oO 53 (.bin .eql .np (.t 52) (.c .nilp))])
 (.cond (.t 53) (.seq (.reg [oO 6 (.mv (.c (.bool false)))])
 (.ret))
 (.skip)))
 (.seq (.reg [oO 54 (.mv (.t 2)),
 oO 55 (.mv (.t 11)),
 oO 56 (.iad 4 (.t 54) (.t 55)),
 oO 57 (.loadn 4 (.t 56)),
 oO 12 (.alloc [(.int .i64 0), (.int .i64 0), (.int .i64 0), (.int .i64 0)]),
 ⟨none, .store 4 (.t 12) (.t 57), none, none, false⟩])
 (.seq (.seq (.reg [oO 58 (.fad 0 (.t 12)),
 oO 59 (.load1 (.t 58))])
 (.block 2 (.seq (.reg [oO 74 (.bin .eql .no (.t 59) (.c (.int .i64 0))),
 oO 73 (.mv (.t 74))])
 (.cond (.t 73) (.seq (.regw [oO 75 (.mv (.t 9)),
 oO 76 (.fad 1 (.t 12)),
 oO 77 (.load1 (.t 76)),
 oO 78 (.fad 2 (.t 12)),
 oO 79 (.load1 (.t 78)),
 oO 80 (.call 15 false [(.t 75), (.t 77), (.t 79)]),
 oO 81 (.mv (.t 7)),
 oO 82 (.fad 1 (.t 12)),
 oO 83 (.load1 (.t 82)),
 oO 84 (.fad 2 (.t 12)),
 oO 85 (.load1 (.t 84)),
 oO 86 (.call 20 false [(.t 81), (.t 83), (.t 85)]),
 oO 87 (.bin .neq .no (.t 80) (.t 86))] [(83, 82), (85, 84)])
 (.cond (.t 87) (.seq (.reg [oO 6 (.mv (.c (.bool false)))])
 (.ret))
 (.skip)))
 (.seq (.reg [oO 89 (.bin .eql .no (.t 59) (.c (.int .i64 1))),
 oO 88 (.mv (.t 89))])
 (.cond (.t 88) (.seq (.regw [oO 90 (.mv (.t 9)),
 oO 91 (.fad 1 (.t 12)),
 oO 92 (.load1 (.t 91)),
 oO 93 (.fad 2 (.t 12)),
 oO 94 (.load1 (.t 93)),
 oO 95 (.fad 3 (.t 12)),
 oO 96 (.load1 (.t 95)),
 oO 97 (.call 13 false [(.t 90), (.t 92), (.t 94), (.t 96)]),
 oO 98 (.mv (.t 7)),
 oO 99 (.fad 1 (.t 12)),
 oO 100 (.load1 (.t 99)),
 oO 101 (.fad 2 (.t 12)),
 oO 102 (.load1 (.t 101)),
 oO 103 (.fad 3 (.t 12)),
 oO 104 (.load1 (.t 103)),
 oO 105 (.call 21 false [(.t 98), (.t 100), (.t 102), (.t 104)]),
 oO 106 (.bin .neq .no (.t 97) (.t 105))] [(100, 99), (102, 101), (104, 103)])
 (.cond (.t 106) (.seq (.reg [oO 6 (.mv (.c (.bool false)))])
 (.ret))
 (.skip)))
 (.seq (.reg [oO 108 (.bin .eql .no (.t 59) (.c (.int .i64 2))),
 oO 107 (.mv (.t 108))])
 (.cond (.t 107) (.seq (.regw [oO 109 (.mv (.t 9)),
 oO 110 (.fad 1 (.t 12)),
 oO 111 (.load1 (.t 110)),
 oO 112 (.fad 2 (.t 12)),
 oO 113 (.load1 (.t 112)),
 oO 114 (.fad 3 (.t 12)),
 oO 115 (.load1 (.t 114)),
 oO 116 (.call 16 false [(.t 109), (.t 111), (.t 113), (.t 115)]),
 oO 117 (.mv (.t 7)),
 oO 118 (.fad 1 (.t 12)),
 oO 119 (.load1 (.t 118)),
 oO 120 (.fad 2 (.t 12)),
 oO 121 (.load1 (.t 120)),
 oO 122 (.fad 3 (.t 12)),
 oO 123 (.load1 (.t 122)),
 oO 124 (.call 22 false [(.t 117), (.t 119), (.t 121), (.t 123)]),
 oO 125 (.bin .neq .no (.t 116) (.t 124))] [(119, 118), (121, 120), (123, 122)])
 (.cond (.t 125) (.seq (.reg [oO 6 (.mv (.c (.bool false)))])
 (.ret))
 (.skip)))
 (.seq (.reg [oO 127 (.bin .eql .no (.t 59) (.c (.int .i64 3))),
 oO 126 (.mv (.t 127))])
 (.cond (.t 126) (.seq (.regw [oO 128 (.mv (.t 9)),
 oO 129 (.fad 1 (.t 12)),
 oO 130 (.load1 (.t 129)),
 oO 131 (.fad 2 (.t 12)),
 oO 132 (.load1 (.t 131)),
 oO 133 (.call 17 false [(.t 128), (.t 130), (.t 132)]),
 oO 134 (.mv (.t 7)),
 oO 135 (.fad 1 (.t 12)),
 oO 136 (.load1 (.t 135)),
 oO 137 (.fad 2 (.t 12)),
 oO 138 (.load1 (.t 137)),
 oO 139 (.call 23 false [(.t 134), (.t 136), (.t 138)]),
 oO 140 (.bin .neq .no (.t 133) (.t 139))] [(136, 135), (138, 137)])
 (.cond (.t 140) (.seq (.reg [oO 6 (.mv (.c (.bool false)))])
 (.ret))
 (.skip)))
 (.seq (.reg [oO 60 (.mv (.t 9)),
 oO 61 (.call 24 false [(.t 60)]),
 oO 13 (.mv (.t 61))])
 (.seq (.seq (.reg [oO 14 (.mv (.c (.int .i64 1)))])
 (.block 3 (.loop (.seq (.seq (.reg [oO 62 (.mv (.t 14)),
 oO 63 (.bin .leq .no (.t 62) (.c (.int .i64 64)))])
 (.cond (.t 63) (.skip)
 (.exit 3)))
 (.seq (.block 4 (.seq (.reg [oO 66 (.mv (.t 9)),
 oO 67 (.mv (.t 14)),
 oO 68 (.call 15 false [(.t 66), (.t 67), (.c (.int .i64 536870912))])])
 (.reg [oO 69 (.mv (.t 9)),
 oO 70 (.mv (.t 14)),
 oO 71 (.call 17 false [(.t 69), (.t 70), (.c (.int .i64 5))])])))
 (.reg [oO 64 (.mv (.t 14)),
 oO 65 (.bin .add .no (.t 64) (.c (.int .i64 1))),
 oO 14 (.mv (.t 65))]))))))
 (.reg [oO 72 (.mv (.t 13)),
 oO 9 (.mv (.t 72))])))))))))))))
 (.seq (.reg [oO 141 (.mv (.t 9)),
 oO 142 (.mv (.t 7)),
 oO 143 (.call 11 false [(.t 141), (.t 142)]),
 oO 144 (.un .not (.t 143))])
 (.cond (.t 144) (.seq (.reg [oO 6 (.mv (.c (.bool false)))])
 (.ret))
 (.skip)))))))
 (.reg [oO 50 (.mv (.t 11)),
 oO 51 (.bin .add .no (.t 50) (.c (.int .i64 1))),
 oO 11 (.mv (.t 51))]))))))
 (.seq (.reg [oO 145 (.call 8 false []),
 oO 6 (.mv (.t 145))])
 (.ret))))))))⟩

/- redpencil/redpencillaw25.AcksNil -/
def a7 : AFn := ⟨75, [.t 6],
  .seq (.reg [oO 6 (.mv (.c (.bool false)))])
 (.seq (.seq (.reg [oO 9 (.build [(.int .i64 0), .nils] []),
 oO 10 (.box 2 (.t 9)),
 oO 11 (.bsl [.nilp, .nilp] 2 1 [(0, (.c .nilp)), (1, (.t 10))]),
 oO 12 (.len .sl (.t 11)),
 oO 13 (.mv (.c (.int .i64 0)))])
 (.block 0 (.loop (.seq (.reg [oO 14 (.bin .lss .no (.t 13) (.t 12))])
 (.seq (.cond (.t 14) (.skip)
 (.exit 0))
 (.seq (.block 1 (.seq (.reg [oO 15 (.iad 1 (.t 11) (.t 13)),
 oO 16 (.load1 (.t 15)),
 oO 8 (.mv (.t 16))])
 (.seq (.reg [oO 17 (.mv (.t 8)),
 oO 18 (.mv (.t 0)),
 oO 19 (.mv (.t 1)),
 oO 20 (.call 15 false [(.t 17), (.t 18), (.t 19)]),
 oO 21 (.bin .neq .no (.t 20) (.c (.int .i64 1))),
 oO 22 (.mv (.t 21)),
 oG 23 (.mv (.t 8)) 22 false,
 oG 24 (.mv (.t 0)) 22 false,
 oG 25 (.mv (.t 1)) 22 false,
 oG 26 (.mv (.t 2)) 22 false,
 oG 27 (.call 13 false [(.t 23), (.t 24), (.t 25), (.t 26)]) 22 false,
 oG 28 (.bin .neq .no (.t 27) (.c (.int .i64 1))) 22 false,
 oO 29 (.pick (.t 22) (.c (.bool true)) (.t 28)),
 oO 30 (.mv (.t 29)),
 oG 31 (.mv (.t 8)) 30 false,
 oG 32 (.mv (.t 0)) 30 false,
 oG 33 (.mv (.t 1)) 30 false,
 oG 34 (.mv (.t 2)) 30 false,
 oG 35 (.call 16 false [(.t 31), (.t 32), (.t 33), (.t 34)]) 30 false,
 oG 36 (.bin .neq .no (.t 35) (.c (.int .i64 1))) 30 false,
 oO 37 (.pick (.t 30) (.c (.bool true)) (.t 36)),
 oO 38 (.mv (.t 37)),
 oG 39 (.mv (.t 8)) 38 false,
 oG 40 (.mv (.t 0)) 38 false,
 oG 41 (.mv (.t 1)) 38 false,
 oG 42 (.call 17 false [(.t 39), (.t 40), (.t 41)]) 38 false,
 oG 43 (.bin .neq .no (.t 42) (.c (.int .i64 1))) 38 false,
 oO 44 (.pick (.t 38) (.c (.bool true)) (.t 43)),
 oO 45 (.mv (.t 44)),
 oG 46 (.mv (.t 8)) 45 false,
 oG 47 (.mv (.t 0)) 45 false,
 oG 48 (.build [(.int .i64 0), (.int .i64 0), (.int .i64 0), (.int .i64 0)] []) 45 false,
 oG 49 (.call 25 false [(.t 46), (.t 47), (.t 48), (.c (.int .i64 1))]) 45 false,
 oG 50 (.un .not (.t 49)) 45 false,
 oO 51 (.pick (.t 45) (.c (.bool true)) (.t 50)),
 oO 52 (.mv (.t 51)),
 oG 53 (.mv (.t 8)) 52 false,
 oG 54 (.call 12 false [(.t 53)]) 52 false,
 oG 55 (.len .sl (.t 54)) 52 false,
 oG 56 (.bin .neq .no (.t 55) (.c (.int .i64 0))) 52 false,
 oO 57 (.pick (.t 52) (.c (.bool true)) (.t 56)),
 oO 58 (.mv (.t 57)),
 oG 59 (.mv (.t 8)) 58 false,
 oG 60 (.call 14 false [(.t 59)]) 58 false,
 oG 61 (.bin .neq .no (.t 60) (.c (.int .i64 0))) 58 false,
 oO 62 (.pick (.t 58) (.c (.bool true)) (.t 61)),
 oO 63 (.mv (.t 62)),
 oG 64 (.mv (.t 8)) 63 false,
 oG 65 (.call 26 false [(.t 64)]) 63 false,
 oG 66 (.bin .neq .no (.t 65) (.c (.int .i64 0))) 63 false,
 oO 67 (.pick (.t 63) (.c (.bool true)) (.t 66)),
 oO 68 (.mv (.t 67)),
 oG 69 (.mv (.t 8)) 68 false,
 oG 70 (.call 24 false [(.t 69)]) 68 false,
 oG 71 (.bin .neq .np (.t 70) (.c .nilp)) 68 false,
 oO 72 (.pick (.t 68) (.c (.bool true)) (.t 71))])
 (.cond (.t 72) (.seq (.reg [oO 6 (.mv (.c (.bool false)))])
 (.ret))
 (.skip)))))
 (.reg [oO 73 (.bin .add .no (.t 13) (.c (.int .i64 1))),
 oO 13 (.mv (.t 73))])))))))
 (.seq (.reg [oO 74 (.call 8 false []),
 oO 6 (.mv (.t 74))])
 (.ret)))⟩

/- redpencil/redpencillaw25.known -/
def a8 : AFn := ⟨135, [.t 0],
  .seq (.reg [oO 0 (.mv (.c (.bool false)))])
 (.seq (.reg [oO 5 (.bsl [(.int .i64 0), (.int .i64 0)] 2 1 [(0, (.c (.int .i64 9))), (1, (.c (.int .i64 2)))]),
 oO 6 (.call 9 false [(.c (.int .i64 5)), (.t 5)]),
 oO 4 (.mv (.t 6)),
 oO 7 (.ext (.t 4) 0),
 oO 8 (.ext (.t 4) 1),
 oO 1 (.mv (.t 7)),
 oO 2 (.mv (.t 8))])
 (.seq (.seq (.reg [oO 9 (.mv (.t 1)),
 oO 10 (.bin .eql .np (.t 9) (.c .nilp)),
 oO 11 (.mv (.t 10)),
 oG 12 (.mv (.t 2)) 11 false,
 oG 13 (.bin .neq .no (.t 12) (.c (.int .i64 0))) 11 false,
 oO 14 (.pick (.t 11) (.c (.bool true)) (.t 13)),
 oO 15 (.mv (.t 14)),
 oG 16 (.mv (.t 1)) 15 false,
 oG 17 (.call 12 false [(.t 16)]) 15 false,
 oG 18 (.build [(.int .i64 0), (.int .i64 0), (.int .i64 0), (.int .i64 0)] [(0, 1, (.c (.int .i64 2)))]) 15 false,
 oG 19 (.build [(.int .i64 0), (.int .i64 0), (.int .i64 0), (.int .i64 0)] [(0, 1, (.c (.int .i64 9)))]) 15 false,
 oG 20 (.bsl [(.int .i64 0), (.int .i64 0), (.int .i64 0), (.int .i64 0), (.int .i64 0), (.int .i64 0), (.int .i64 0), (.int .i64 0)] 2 4 [(0, (.t 18)), (1, (.t 19))]) 15 false,
 oG 21 (.call 18 false [(.t 17), (.t 20)]) 15 false,
 oG 22 (.un .not (.t 21)) 15 false,
 oO 23 (.pick (.t 15) (.c (.bool true)) (.t 22)),
 oO 24 (.mv (.t 23)),
 oG 25 (.mv (.t 1)) 24 false,
 oG 26 (.call 13 false [(.t 25), (.c (.int .i64 9)), (.c (.int .i64 3)), (.c (.int .i64 3))]) 24 false,
 oG 27 (.bin .neq .no (.t 26) (.c (.int .i64 0))) 24 false,
 oO 28 (.pick (.t 24) (.c (.bool true)) (.t 27)),
 oO 29 (.mv (.t 28)),
 oG 30 (.mv (.t 1)) 29 false,
 oG 31 (.call 13 false [(.t 30), (.c (.int .i64 2)), (.c (.int .i64 4)), (.c (.int .i64 3))]) 29 false,
 oG 32 (.bin .neq .no (.t 31) (.c (.int .i64 3))) 29 false,
 oO 33 (.pick (.t 29) (.c (.bool true)) (.t 32)),
 oO 34 (.mv (.t 33)),
 oG 35 (.mv (.t 1)) 34 false,
 oG 36 (.call 14 false [(.t 35)]) 34 false,
 oG 37 (.bin .neq .no (.t 36) (.c (.int .i64 0))) 34 false,
 oO 38 (.pick (.t 34) (.c (.bool true)) (.t 37)),
 oO 39 (.mv (.t 38)),
 oG 40 (.mv (.t 1)) 39 false,
 oG 41 (.call 13 false [(.t 40), (.c (.int .i64 2)), (.c (.int .i64 1)), (.c (.int .i64 3))]) 39 false,
 oG 42 (.bin .neq .no (.t 41) (.c (.int .i64 0))) 39 false,
 oO 43 (.pick (.t 39) (.c (.bool true)) (.t 42)),
 oO 44 (.mv (.t 43)),
 oG 45 (.mv (.t 1)) 44 false,
 oG 46 (.call 14 false [(.t 45)]) 44 false,
 oG 47 (.bin .neq .no (.t 46) (.c (.int .i64 1))) 44 false,
 oO 48 (.pick (.t 44) (.c (.bool true)) (.t 47)),
 oO 49 (.mv (.t 48)),
 oG 50 (.mv (.t 1)) 49 false,
 oG 51 (.call 13 false [(.t 50), (.c (.int .i64 9)), (.c (.int .i64 2)), (.c (.int .i64 3))]) 49 false,
 oG 52 (.bin .neq .no (.t 51) (.c (.int .i64 0))) 49 false,
 oO 53 (.pick (.t 49) (.c (.bool true)) (.t 52)),
 oO 54 (.mv (.t 53)),
 oG 55 (.mv (.t 1)) 54 false,
 oG 56 (.build [(.int .i64 0), (.int .i64 0), (.int .i64 0), (.int .i64 0)] [(0, 1, (.c (.int .i64 9))), (2, 1, (.c (.int .i64 3)))]) 54 false,
 oG 57 (.call 25 false [(.t 55), (.c (.int .i64 9)), (.t 56), (.c (.int .i64 0))]) 54 false,
 oG 58 (.un .not (.t 57)) 54 false,
 oO 59 (.pick (.t 54) (.c (.bool true)) (.t 58))])
 (.cond (.t 59) (.seq (.reg [oO 0 (.mv (.c (.bool false)))])
 (.ret))
 (.skip)))
 (.seq (.seq (.reg [oO 60 (.mv (.t 1)),
 oO 61 (.call 16 false [(.t 60), (.c (.int .i64 2)), (.c (.int .i64 1)), (.c (.int .i64 4))]),
 oO 62 (.bin .neq .no (.t 61) (.c (.int .i64 0))),
 oO 63 (.mv (.t 62)),
 oG 64 (.mv (.t 1)) 63 false,
 oG 65 (.call 16 false [(.t 64), (.c (.int .i64 2)), (.c (.int .i64 6)), (.c (.int .i64 7))]) 63 false,
 oG 66 (.bin .neq .no (.t 65) (.c (.int .i64 3))) 63 false,
 oO 67 (.pick (.t 63) (.c (.bool true)) (.t 66)),
 oO 68 (.mv (.t 67)),
 oG 69 (.mv (.t 1)) 68 false,
 oG 70 (.call 16 false [(.t 69), (.c (.int .i64 2)), (.c (.int .i64 3)), (.c (.int .i64 5))]) 68 false,
 oG 71 (.bin .neq .no (.t 70) (.c (.int .i64 0))) 68 false,
 oO 72 (.pick (.t 68) (.c (.bool true)) (.t 71)),
 oO 73 (.mv (.t 72)),
 oG 74 (.mv (.t 1)) 73 false,
 oG 75 (.call 17 false [(.t 74), (.c (.int .i64 2)), (.c (.int .i64 9))]) 73 false,
 oG 76 (.bin .neq .no (.t 75) (.c (.int .i64 0))) 73 false,
 oO 77 (.pick (.t 73) (.c (.bool true)) (.t 76)),
 oO 78 (.mv (.t 77)),
 oG 79 (.mv (.t 1)) 78 false,
 oG 80 (.call 15 false [(.t 79), (.c (.int .i64 2)), (.c (.int .i64 1))]) 78 false,
 oG 81 (.bin .neq .no (.t 80) (.c (.int .i64 0))) 78 false,
 oO 82 (.pick (.t 78) (.c (.bool true)) (.t 81)),
 oO 83 (.mv (.t 82)),
 oG 84 (.mv (.t 1)) 83 false,
 oG 85 (.build [(.int .i64 0), (.int .i64 0), (.int .i64 0), (.int .i64 0)] [(0, 1, (.c (.int .i64 2))), (1, 1, (.c (.int .i64 1)))]) 83 false,
 oG 86 (.call 25 false [(.t 84), (.c (.int .i64 2)), (.t 85), (.c (.int .i64 0))]) 83 false,
 oG 87 (.un .not (.t 86)) 83 false,
 oO 88 (.pick (.t 83) (.c (.bool true)) (.t 87)),
 oO 89 (.mv (.t 88)),
 oG 90 (.mv (.t 1)) 89 false,
 oG 91 (.call 14 false [(.t 90)]) 89 false,
 oG 92 (.bin .neq .no (.t 91) (.c (.int .i64 0))) 89 false,
 oO 93 (.pick (.t 89) (.c (.bool true)) (.t 92)),
 oO 94 (.mv (.t 93)),
 oG 95 (.mv (.t 1)) 94 false,
 oG 96 (.call 15 false [(.t 95), (.c (.int .i64 2)), (.c (.int .i64 0))]) 94 false,
 oG 97 (.bin .neq .no (.t 96) (.c (.int .i64 16))) 94 false,
 oO 98 (.pick (.t 94) (.c (.bool true)) (.t 97))])
 (.cond (.t 98) (.seq (.reg [oO 0 (.mv (.c (.bool false)))])
 (.ret))
 (.skip)))
 (.seq (.reg [oO 100 (.call 9 false [(.c (.int .i64 5)), (.c .nils)]),
 oO 99 (.mv (.t 100)),
 oO 101 (.ext (.t 99) 0),
 oO 102 (.ext (.t 99) 1),
 oO 3 (.mv (.t 101)),
 oO 2 (.mv (.t 102))])
 (.seq (.reg [oO 103 (.mv (.t 1)),
 oO 104 (.call 15 false [(.t 103), (.c (.int .i64 5)), (.c (.int .i64 1))]),
 oO 105 (.bin .eql .no (.t 104) (.c (.int .i64 2))),
 oO 106 (.mv (.t 105)),
 oG 107 (.mv (.t 1)) 106 true,
 oG 108 (.call 16 false [(.t 107), (.c (.int .i64 2)), (.c (.int .i64 0)), (.c (.int .i64 1))]) 106 true,
 oG 109 (.bin .eql .no (.t 108) (.c (.int .i64 2))) 106 true,
 oO 110 (.pick (.t 106) (.t 109) (.c (.bool false))),
 oO 111 (.mv (.t 110)),
 oG 112 (.bsl [(.int .i64 0)] 1 1 [(0, (.c (.int .i64 5)))]) 111 true,
 oG 113 (.call 19 false [(.c (.int .i64 5)), (.t 112)]) 111 true,
 oO 114 (.pick (.t 111) (.t 113) (.c (.bool false))),
 oO 115 (.mv (.t 114)),
 oG 116 (.bsl [(.int .i64 0), (.int .i64 0)] 2 1 [(0, (.c (.int .i64 2))), (1, (.c (.int .i64 2)))]) 115 true,
 oG 117 (.call 19 false [(.c (.int .i64 5)), (.t 116)]) 115 true,
 oO 118 (.pick (.t 115) (.t 117) (.c (.bool false))),
 oO 119 (.mv (.t 118)),
 oG 120 (.call 19 false [(.c (.int .i64 65)), (.c .nils)]) 119 true,
 oO 121 (.pick (.t 119) (.t 120) (.c (.bool false))),
 oO 122 (.mv (.t 121)),
 oG 123 (.mv (.t 3)) 122 true,
 oG 124 (.bin .neq .np (.t 123) (.c .nilp)) 122 true,
 oO 125 (.pick (.t 122) (.t 124) (.c (.bool false))),
 oO 126 (.mv (.t 125)),
 oG 127 (.mv (.t 2)) 126 true,
 oG 128 (.bin .eql .no (.t 127) (.c (.int .i64 0))) 126 true,
 oO 129 (.pick (.t 126) (.t 128) (.c (.bool false))),
 oO 130 (.mv (.t 129)),
 oG 131 (.mv (.t 3)) 130 true,
 oG 132 (.call 14 false [(.t 131)]) 130 true,
 oG 133 (.bin .eql .no (.t 132) (.c (.int .i64 1099511627776))) 130 true,
 oO 134 (.pick (.t 130) (.t 133) (.c (.bool false))),
 oO 0 (.mv (.t 134))])
 (.ret))))))⟩

end Go.AM
end
/-
  They are what the compiler makes of the loaded program. Printed by a program of this project.
-/
section
namespace Go.AM
open Go Go.Proofs

theorem c3 : cfn Try.prog Try.f3 = some a3 := by kernel_rfl
theorem k3 : callable Try.prog 3 = true := by kernel_rfl
theorem c4 : cfn Try.prog Try.f4 = some a4 := by kernel_rfl
theorem k4 : callable Try.prog 4 = true := by kernel_rfl
theorem c5 : cfn Try.prog Try.f5 = some a5 := by kernel_rfl
theorem k5 : callable Try.prog 5 = true := by kernel_rfl
theorem k6 : callable Try.prog 6 = true := by kernel_rfl
theorem c7 : cfn Try.prog Try.f7 = some a7 := by kernel_rfl
theorem k7 : callable Try.prog 7 = true := by kernel_rfl
theorem c8 : cfn Try.prog Try.f8 = some a8 := by kernel_rfl
theorem k8 : callable Try.prog 8 = true := by kernel_rfl


end Go.AM
end
/-
  The functions of this seat as the abstract machine runs them. Printed by a program of this project.
-/
section
set_option maxRecDepth 100000
namespace Go.AM
open Go

/- redpencil/acks.New -/
def a9 : AFn := ⟨60, [.t 4, .t 5],
  .seq (.reg [oO 4 (.mv (.c .nilp)),
 oO 5 (.mv (.c (.int .i64 0)))])
 (.seq (.seq (.reg [oO 10 (.mv (.t 0)),
 oO 11 (.call 27 false [(.t 10)]),
 oO 12 (.un .not (.t 11))])
 (.cond (.t 12) (.seq (.reg [oO 4 (.mv (.c .nilp)),
 oO 5 (.mv (.c (.int .i64 2)))])
 (.ret))
 (.skip)))
 (.seq (.reg [oO 13 (.mv (.t 0)),
 oO 14 (.build [(.int .i64 0), .nils] [(0, 1, (.t 13))]),
 oO 15 (.box 2 (.t 14)),
 oO 6 (.mv (.t 15))])
 (.seq (.reg [oO 16 (.mv (.t 1)),
 oO 17 (.call 29 false [(.t 16)]),
 oO 18 (.call 28 false [(.t 17)]),
 oO 7 (.mv (.t 18))])
 (.seq (.seq (.reg [oO 19 (.mv (.t 7)),
 oO 20 (.len .sl (.t 19)),
 oO 21 (.mv (.c (.int .i64 0)))])
 (.block 0 (.loop (.seq (.reg [oO 22 (.bin .lss .no (.t 21) (.t 20))])
 (.seq (.cond (.t 22) (.skip)
 (.exit 0))
 (.seq (.block 1 (.seq (.reg [oO 23 (.mv (.t 21)),
 oO 24 (.iad 1 (.t 19) (.t 21)),
 oO 25 (.load1 (.t 24)),
 oO 8 (.mv (.t 23)),
 oO 9 (.mv (.t 25))])
 (.seq (.seq (.reg [oO 26 (.mv (.t 9)),
 oO 27 (.call 27 false [(.t 26)]),
 oO 28 (.un .not (.t 27)),
 oO 29 (.mv (.t 28)),
 oG 30 (.mv (.t 9)) 29 false,
 oG 31 (.mv (.t 0)) 29 false,
 oG 32 (.bin .eql .no (.t 30) (.t 31)) 29 false,
 oO 33 (.pick (.t 29) (.c (.bool true)) (.t 32)),
 oO 34 (.mv (.t 33)),
 oG 35 (.mv (.t 8)) 34 false,
 oG 36 (.bin .gtr .no (.t 35) (.c (.int .i64 0))) 34 false,
 oG 37 (.mv (.t 36)) 34 false,
 oG 38 (.mv (.t 7)) 37 true,
 oG 39 (.mv (.t 8)) 37 true,
 oG 40 (.bin .sub .no (.t 39) (.c (.int .i64 1))) 37 true,
 oG 41 (.iad 1 (.t 38) (.t 40)) 37 true,
 oG 42 (.load1 (.t 41)) 37 true,
 oG 43 (.mv (.t 9)) 37 true,
 oG 44 (.bin .eql .no (.t 42) (.t 43)) 37 true,
 oG 45 (.pick (.t 37) (.t 44) (.c (.bool false))) 34 false,
 oO 46 (.pick (.t 34) (.c (.bool true)) (.t 45))])
 (.cond (.t 46) (.seq (.reg [oO 4 (.mv (.c .nilp)),
 oO 5 (.mv (.c (.int .i64 2)))])
 (.ret))
 (.skip)))
 (.reg [oO 47 (.mv (.t 6)),
 oO 48 (.mv (.t 6)),
 oO 49 (.nchk (.t 48)),
 oO 50 (.fad 1 (.t 49)),
 oO 51 (.load1 (.t 50)),
 oO 52 (.mv (.t 9)),
 oO 53 (.build [(.int .i64 0), (.int .i64 0), (.int .i64 0), (.int .i64 0)] [(0, 1, (.t 52))]),
 oO 54 (.bsl [(.int .i64 0), (.int .i64 0), (.int .i64 0), (.int .i64 0)] 1 4 [(0, (.t 53))]),
 oO 55 (.app 4 32 [(.int .i64 0), (.int .i64 0), (.int .i64 0), (.int .i64 0)] (.t 51) (.t 54)),
 oO 56 (.nchk (.t 47)),
 oO 57 (.fad 1 (.t 56)),
 ⟨none, .store 1 (.t 57) (.t 55), none, none, false⟩]))))
 (.reg [oO 58 (.bin .add .no (.t 21) (.c (.int .i64 1))),
 oO 21 (.mv (.t 58))])))))))
 (.seq (.reg [oO 59 (.mv (.t 6)),
 oO 4 (.mv (.t 59)),
 oO 5 (.mv (.c (.int .i64 0)))])
 (.ret))))))⟩

/- redpencil/redpencilref25.New -/
/- redpencil/redpencillaw25.alike -/
/- (*redpencil/acks.Acks).All -/
def a12 : AFn := ⟨11, [.t 2],
  .seq (.reg [oO 2 (.mv (.c .nils))])
 (.seq (.seq (.reg [oO 3 (.mv (.t 0)),
 oO 4 (.call 26 false [(.t 3)]),
 oO 5 (.bin .eql .no (.t 4) (.c (.int .i64 0)))])
 (.cond (.t 5) (.seq (.reg [oO 2 (.mv (.c .nils))])
 (.ret))
 (.skip)))
 (.seq (.reg [oO 6 (.mv (.t 0)),
 oO 7 (.nchk (.t 6)),
 oO 8 (.fad 1 (.t 7)),
 oO 9 (.load1 (.t 8)),
 oO 10 (.call 32 false [(.t 9)]),
 oO 2 (.mv (.t 10))])
 (.ret)))⟩

/- (*redpencil/acks.Acks).Ack -/
def a13 : AFn := ⟨43, [.t 8],
  .seq (.reg [oO 8 (.mv (.c (.int .i64 0)))])
 (.seq (.reg [oO 12 (.mv (.t 0)),
 oO 13 (.mv (.t 1)),
 oO 14 (.call 33 false [(.t 12), (.t 13)]),
 oO 11 (.mv (.t 14)),
 oO 15 (.ext (.t 11) 0),
 oO 16 (.ext (.t 11) 1),
 oO 9 (.mv (.t 15)),
 oO 10 (.mv (.t 16))])
 (.seq (.block 0 (.seq (.reg [oO 18 (.mv (.t 10)),
 oO 19 (.bin .neq .no (.t 18) (.c (.int .i64 0))),
 oO 17 (.mv (.t 19))])
 (.cond (.t 17) (.seq (.reg [oO 20 (.mv (.t 10)),
 oO 8 (.mv (.t 20))])
 (.ret))
 (.seq (.reg [oO 22 (.mv (.t 2)),
 oO 23 (.call 34 false [(.t 22)]),
 oO 24 (.un .not (.t 23)),
 oO 25 (.mv (.t 24)),
 oG 26 (.mv (.t 3)) 25 false,
 oG 27 (.call 34 false [(.t 26)]) 25 false,
 oG 28 (.un .not (.t 27)) 25 false,
 oO 29 (.pick (.t 25) (.c (.bool true)) (.t 28)),
 oO 21 (.mv (.t 29))])
 (.cond (.t 21) (.seq (.reg [oO 8 (.mv (.c (.int .i64 2)))])
 (.ret))
 (.seq (.reg [oO 31 (.mv (.t 2)),
 oO 32 (.mv (.t 3)),
 oO 33 (.bin .gtr .no (.t 31) (.t 32)),
 oO 30 (.mv (.t 33))])
 (.cond (.t 30) (.seq (.reg [oO 8 (.mv (.c (.int .i64 3)))])
 (.ret))
 (.skip))))))))
 (.seq (.reg [oO 34 (.mv (.t 9)),
 oO 35 (.mv (.t 9)),
 oO 36 (.nchk (.t 35)),
 oO 37 (.fad 2 (.t 36)),
 oO 38 (.load1 (.t 37)),
 oO 39 (.mv (.t 2)),
 oO 40 (.mm true [(.t 38), (.t 39)]),
 oO 41 (.nchk (.t 34)),
 oO 42 (.fad 2 (.t 41)),
 ⟨none, .store 1 (.t 42) (.t 40), none, none, false⟩])
 (.seq (.reg [oO 8 (.mv (.c (.int .i64 0)))])
 (.ret)))))⟩

/- (*redpencil/acks.Acks).Needed -/
def a14 : AFn := ⟨24, [.t 2],
  .seq (.reg [oO 2 (.mv (.c (.int .i64 0)))])
 (.seq (.seq (.reg [oO 6 (.mv (.t 0)),
 oO 7 (.call 26 false [(.t 6)]),
 oO 8 (.bin .eql .no (.t 7) (.c (.int .i64 0)))])
 (.cond (.t 8) (.seq (.reg [oO 2 (.mv (.c (.int .i64 0)))])
 (.ret))
 (.skip)))
 (.seq (.reg [oO 3 (.mv (.c (.int .i64 1099511627776)))])
 (.seq (.seq (.reg [oO 9 (.mv (.t 0)),
 oO 10 (.nchk (.t 9)),
 oO 11 (.fad 1 (.t 10)),
 oO 12 (.load1 (.t 11)),
 oO 13 (.len .sl (.t 12)),
 oO 14 (.mv (.c (.int .i64 0)))])
 (.block 0 (.loop (.seq (.reg [oO 15 (.bin .lss .no (.t 14) (.t 13))])
 (.seq (.cond (.t 15) (.skip)
 (.exit 0))
 (.seq (.block 1 (.seq (.reg [oO 16 (.iad 4 (.t 12) (.t 14)),
 oO 17 (.loadn 4 (.t 16)),
 oO 5 (.alloc [(.int .i64 0), (.int .i64 0), (.int .i64 0), (.int .i64 0)]),
 ⟨none, .store 4 (.t 5) (.t 17), none, none, false⟩])
 (.reg [oO 18 (.mv (.t 3)),
 oO 19 (.fad 2 (.t 5)),
 oO 20 (.load1 (.t 19)),
 oO 21 (.mm false [(.t 18), (.t 20)]),
 oO 3 (.mv (.t 21))])))
 (.reg [oO 22 (.bin .add .no (.t 14) (.c (.int .i64 1))),
 oO 14 (.mv (.t 22))])))))))
 (.seq (.reg [oO 23 (.mv (.t 3)),
 oO 2 (.mv (.t 23))])
 (.ret)))))⟩

/- (*redpencil/acks.Acks).Meet -/
def a15 : AFn := ⟨45, [.t 6],
  .seq (.reg [oO 6 (.mv (.c (.int .i64 0)))])
 (.seq (.reg [oO 10 (.mv (.t 0)),
 oO 11 (.mv (.t 1)),
 oO 12 (.call 33 false [(.t 10), (.t 11)]),
 oO 9 (.mv (.t 12)),
 oO 13 (.ext (.t 9) 0),
 oO 14 (.ext (.t 9) 1),
 oO 7 (.mv (.t 13)),
 oO 8 (.mv (.t 14))])
 (.seq (.block 0 (.seq (.reg [oO 16 (.mv (.t 8)),
 oO 17 (.bin .neq .no (.t 16) (.c (.int .i64 0))),
 oO 15 (.mv (.t 17))])
 (.cond (.t 15) (.seq (.reg [oO 18 (.mv (.t 8)),
 oO 6 (.mv (.t 18))])
 (.ret))
 (.seq (.reg [oO 20 (.mv (.t 2)),
 oO 21 (.bin .lss .no (.t 20) (.c (.int .i64 0))),
 oO 22 (.mv (.t 21)),
 oG 23 (.mv (.t 2)) 22 false,
 oG 24 (.bin .gtr .no (.t 23) (.c (.int .i64 1073741824))) 22 false,
 oO 25 (.pick (.t 22) (.c (.bool true)) (.t 24)),
 oO 19 (.mv (.t 25))])
 (.cond (.t 19) (.seq (.reg [oO 6 (.mv (.c (.int .i64 2)))])
 (.ret))
 (.seq (.reg [oO 27 (.mv (.t 2)),
 oO 28 (.mv (.t 7)),
 oO 29 (.nchk (.t 28)),
 oO 30 (.fad 1 (.t 29)),
 oO 31 (.load1 (.t 30)),
 oO 32 (.bin .lss .no (.t 27) (.t 31)),
 oO 26 (.mv (.t 32))])
 (.cond (.t 26) (.seq (.reg [oO 6 (.mv (.c (.int .i64 16)))])
 (.ret))
 (.seq (.reg [oO 34 (.mv (.t 2)),
 oO 35 (.mv (.t 7)),
 oO 36 (.nchk (.t 35)),
 oO 37 (.fad 1 (.t 36)),
 oO 38 (.load1 (.t 37)),
 oO 39 (.bin .gtr .no (.t 34) (.t 38)),
 oO 33 (.mv (.t 39))])
 (.cond (.t 33) (.reg [oO 40 (.mv (.t 7)),
 oO 41 (.mv (.t 1)),
 oO 42 (.mv (.t 2)),
 oO 43 (.build [(.int .i64 0), (.int .i64 0), (.int .i64 0), (.int .i64 0)] [(0, 1, (.t 41)), (1, 1, (.t 42))]),
 oO 44 (.nchk (.t 40)),
 ⟨none, .store 4 (.t 44) (.t 43), none, none, false⟩])
 (.skip))))))))))
 (.seq (.reg [oO 6 (.mv (.c (.int .i64 0)))])
 (.ret))))⟩

/- (*redpencil/acks.Acks).Receive -/
def a16 : AFn := ⟨51, [.t 8],
  .seq (.reg [oO 8 (.mv (.c (.int .i64 0)))])
 (.seq (.reg [oO 12 (.mv (.t 0)),
 oO 13 (.mv (.t 1)),
 oO 14 (.call 33 false [(.t 12), (.t 13)]),
 oO 11 (.mv (.t 14)),
 oO 15 (.ext (.t 11) 0),
 oO 16 (.ext (.t 11) 1),
 oO 9 (.mv (.t 15)),
 oO 10 (.mv (.t 16))])
 (.seq (.block 0 (.seq (.reg [oO 18 (.mv (.t 10)),
 oO 19 (.bin .neq .no (.t 18) (.c (.int .i64 0))),
 oO 17 (.mv (.t 19))])
 (.cond (.t 17) (.seq (.reg [oO 20 (.mv (.t 10)),
 oO 8 (.mv (.t 20))])
 (.ret))
 (.seq (.reg [oO 22 (.mv (.t 2)),
 oO 23 (.bin .lss .no (.t 22) (.c (.int .i64 1))),
 oO 24 (.mv (.t 23)),
 oG 25 (.mv (.t 3)) 24 false,
 oG 26 (.call 34 false [(.t 25)]) 24 false,
 oG 27 (.un .not (.t 26)) 24 false,
 oO 28 (.pick (.t 24) (.c (.bool true)) (.t 27)),
 oO 29 (.mv (.t 28)),
 oG 30 (.mv (.t 2)) 29 false,
 oG 31 (.mv (.t 3)) 29 false,
 oG 32 (.bin .gtr .no (.t 30) (.t 31)) 29 false,
 oO 33 (.pick (.t 29) (.c (.bool true)) (.t 32)),
 oO 21 (.mv (.t 33))])
 (.cond (.t 21) (.seq (.reg [oO 8 (.mv (.c (.int .i64 2)))])
 (.ret))
 (.seq (.reg [oO 35 (.mv (.t 2)),
 oO 36 (.mv (.t 9)),
 oO 37 (.nchk (.t 36)),
 oO 38 (.fad 3 (.t 37)),
 oO 39 (.load1 (.t 38)),
 oO 40 (.bin .add .no (.t 39) (.c (.int .i64 1))),
 oO 41 (.bin .gtr .no (.t 35) (.t 40)),
 oO 34 (.mv (.t 41))])
 (.cond (.t 34) (.seq (.reg [oO 8 (.mv (.c (.int .i64 3)))])
 (.ret))
 (.skip))))))))
 (.seq (.reg [oO 42 (.mv (.t 9)),
 oO 43 (.mv (.t 9)),
 oO 44 (.nchk (.t 43)),
 oO 45 (.fad 3 (.t 44)),
 oO 46 (.load1 (.t 45)),
 oO 47 (.mv (.t 3)),
 oO 48 (.mm true [(.t 46), (.t 47)]),
 oO 49 (.nchk (.t 42)),
 oO 50 (.fad 3 (.t 49)),
 ⟨none, .store 1 (.t 50) (.t 48), none, none, false⟩])
 (.seq (.reg [oO 8 (.mv (.c (.int .i64 0)))])
 (.ret)))))⟩

/- (*redpencil/acks.Acks).Jump -/
def a17 : AFn := ⟨32, [.t 6],
  .seq (.reg [oO 6 (.mv (.c (.int .i64 0)))])
 (.seq (.reg [oO 10 (.mv (.t 0)),
 oO 11 (.mv (.t 1)),
 oO 12 (.call 33 false [(.t 10), (.t 11)]),
 oO 9 (.mv (.t 12)),
 oO 13 (.ext (.t 9) 0),
 oO 14 (.ext (.t 9) 1),
 oO 7 (.mv (.t 13)),
 oO 8 (.mv (.t 14))])
 (.seq (.block 0 (.seq (.reg [oO 16 (.mv (.t 8)),
 oO 17 (.bin .neq .no (.t 16) (.c (.int .i64 0))),
 oO 15 (.mv (.t 17))])
 (.cond (.t 15) (.seq (.reg [oO 18 (.mv (.t 8)),
 oO 6 (.mv (.t 18))])
 (.ret))
 (.seq (.reg [oO 20 (.mv (.t 2)),
 oO 21 (.call 34 false [(.t 20)]),
 oO 22 (.un .not (.t 21)),
 oO 19 (.mv (.t 22))])
 (.cond (.t 19) (.seq (.reg [oO 6 (.mv (.c (.int .i64 2)))])
 (.ret))
 (.skip))))))
 (.seq (.reg [oO 23 (.mv (.t 7)),
 oO 24 (.mv (.t 7)),
 oO 25 (.nchk (.t 24)),
 oO 26 (.fad 3 (.t 25)),
 oO 27 (.load1 (.t 26)),
 oO 28 (.mv (.t 2)),
 oO 29 (.mm true [(.t 27), (.t 28)]),
 oO 30 (.nchk (.t 23)),
 oO 31 (.fad 3 (.t 30)),
 ⟨none, .store 1 (.t 31) (.t 29), none, none, false⟩])
 (.seq (.reg [oO 6 (.mv (.c (.int .i64 0)))])
 (.ret)))))⟩

/- redpencil/redpencillaw25.same -/
def a18 : AFn := ⟨26, [.t 4],
  .seq (.reg [oO 4 (.mv (.c (.bool false)))])
 (.seq (.seq (.reg [oO 6 (.mv (.t 0)),
 oO 7 (.len .sl (.t 6)),
 oO 8 (.mv (.t 1)),
 oO 9 (.len .sl (.t 8)),
 oO 10 (.bin .neq .no (.t 7) (.t 9))])
 (.cond (.t 10) (.seq (.reg [oO 4 (.mv (.c (.bool false)))])
 (.ret))
 (.skip)))
 (.seq (.seq (.reg [oO 5 (.mv (.c (.int .i64 0)))])
 (.block 0 (.loop (.seq (.seq (.reg [oO 11 (.mv (.t 5)),
 oO 12 (.mv (.t 0)),
 oO 13 (.len .sl (.t 12)),
 oO 14 (.bin .lss .no (.t 11) (.t 13))])
 (.cond (.t 14) (.skip)
 (.exit 0)))
 (.seq (.block 1 (.seq (.regd 0 [oO 17 (.mv (.t 0)),
 oO 18 (.mv (.t 5)),
 oO 19 (.iad 4 (.t 17) (.t 18)),
 oO 20 (.loadn 4 (.t 19)),
 oO 21 (.mv (.t 1)),
 oO 22 (.mv (.t 5)),
 oO 23 (.iad 4 (.t 21) (.t 22)),
 oO 24 (.loadn 4 (.t 23)),
 oO 25 (.bin .neq (.fl [.i, .i, .i, .i]) (.t 20) (.t 24))])
 (.cond (.t 25) (.seq (.reg [oO 4 (.mv (.c (.bool false)))])
 (.ret))
 (.skip))))
 (.reg [oO 15 (.mv (.t 5)),
 oO 16 (.bin .add .no (.t 15) (.c (.int .i64 1))),
 oO 5 (.mv (.t 16))]))))))
 (.seq (.reg [oO 4 (.mv (.c (.bool true)))])
 (.ret))))⟩

/- redpencil/redpencillaw25.fails -/
def a19 : AFn := ⟨19, [.t 4],
  .seq (.reg [oO 4 (.mv (.c (.bool false)))])
 (.seq (.reg [oO 8 (.mv (.t 0)),
 oO 9 (.mv (.t 1)),
 oO 10 (.call 9 false [(.t 8), (.t 9)]),
 oO 7 (.mv (.t 10)),
 oO 11 (.ext (.t 7) 0),
 oO 12 (.ext (.t 7) 1),
 oO 5 (.mv (.t 11)),
 oO 6 (.mv (.t 12))])
 (.seq (.reg [oO 13 (.mv (.t 5)),
 oO 14 (.bin .eql .np (.t 13) (.c .nilp)),
 oO 15 (.mv (.t 14)),
 oG 16 (.mv (.t 6)) 15 true,
 oG 17 (.bin .eql .no (.t 16) (.c (.int .i64 2))) 15 true,
 oO 18 (.pick (.t 15) (.t 17) (.c (.bool false))),
 oO 4 (.mv (.t 18))])
 (.ret)))⟩

/- (*redpencil/redpencilref25.Acks).Meet -/
/- (*redpencil/redpencilref25.Acks).Ack -/
/- (*redpencil/redpencilref25.Acks).Receive -/
def a22 : AFn := ⟨64, [.t 8],
  .seq (.reg [oO 8 (.mv (.c (.int .i64 0)))])
 (.seq (.reg [oO 10 (.mv (.t 0)),
 oO 11 (.mv (.t 1)),
 oO 12 (.call 35 false [(.t 10), (.t 11)]),
 oO 9 (.mv (.t 12))])
 (.seq (.block 0 (.seq (.reg [oO 14 (.mv (.t 9)),
 oO 15 (.bin .lss .no (.t 14) (.c (.int .i64 0))),
 oO 16 (.mv (.t 15)),
 oG 17 (.mv (.t 2)) 16 false,
 oG 18 (.call 36 false [(.t 17)]) 16 false,
 oG 19 (.un .not (.t 18)) 16 false,
 oO 20 (.pick (.t 16) (.c (.bool true)) (.t 19)),
 oO 21 (.mv (.t 20)),
 oG 22 (.mv (.t 3)) 21 false,
 oG 23 (.call 36 false [(.t 22)]) 21 false,
 oG 24 (.un .not (.t 23)) 21 false,
 oO 25 (.pick (.t 21) (.c (.bool true)) (.t 24)),
 oO 26 (.mv (.t 25)),
 oG 27 (.mv (.t 2)) 26 false,
 oG 28 (.bin .eql .no (.t 27) (.c (.int .i64 0))) 26 false,
 oO 29 (.pick (.t 26) (.c (.bool true)) (.t 28)),
 oO 30 (.mv (.t 29)),
 oG 31 (.mv (.t 2)) 30 false,
 oG 32 (.mv (.t 3)) 30 false,
 oG 33 (.bin .gtr .no (.t 31) (.t 32)) 30 false,
 oO 34 (.pick (.t 30) (.c (.bool true)) (.t 33)),
 oO 13 (.mv (.t 34))])
 (.cond (.t 13) (.seq (.reg [oO 8 (.mv (.c (.int .i64 2)))])
 (.ret))
 (.seq (.reg [oO 36 (.mv (.t 2)),
 oO 37 (.mv (.t 0)),
 oO 38 (.nchk (.t 37)),
 oO 39 (.fad 1 (.t 38)),
 oO 40 (.load1 (.t 39)),
 oO 41 (.mv (.t 9)),
 oO 42 (.iad 4 (.t 40) (.t 41)),
 oO 43 (.fad 3 (.t 42)),
 oO 44 (.load1 (.t 43)),
 oO 45 (.bin .add .no (.t 44) (.c (.int .i64 1))),
 oO 46 (.bin .gtr .no (.t 36) (.t 45)),
 oO 35 (.mv (.t 46))])
 (.cond (.t 35) (.seq (.reg [oO 8 (.mv (.c (.int .i64 3)))])
 (.ret))
 (.skip))))))
 (.seq (.regd 0 [oO 47 (.mv (.t 0)),
 oO 48 (.nchk (.t 47)),
 oO 49 (.fad 1 (.t 48)),
 oO 50 (.load1 (.t 49)),
 oO 51 (.mv (.t 9)),
 oO 52 (.mv (.t 0)),
 oO 53 (.nchk (.t 52)),
 oO 54 (.fad 1 (.t 53)),
 oO 55 (.load1 (.t 54)),
 oO 56 (.mv (.t 9)),
 oO 57 (.iad 4 (.t 55) (.t 56)),
 oO 58 (.fad 3 (.t 57)),
 oO 59 (.load1 (.t 58)),
 oO 60 (.mv (.t 3)),
 oO 61 (.mm true [(.t 59), (.t 60)]),
 oO 62 (.iad 4 (.t 50) (.t 51)),
 oO 63 (.fad 3 (.t 62)),
 ⟨none, .store 1 (.t 63) (.t 61), none, none, false⟩])
 (.seq (.reg [oO 8 (.mv (.c (.int .i64 0)))])
 (.ret)))))⟩

/- (*redpencil/redpencilref25.Acks).Jump -/
def a23 : AFn := ⟨35, [.t 6],
  .seq (.reg [oO 6 (.mv (.c (.int .i64 0)))])
 (.seq (.reg [oO 8 (.mv (.t 0)),
 oO 9 (.mv (.t 1)),
 oO 10 (.call 35 false [(.t 8), (.t 9)]),
 oO 7 (.mv (.t 10))])
 (.seq (.seq (.reg [oO 11 (.mv (.t 7)),
 oO 12 (.bin .lss .no (.t 11) (.c (.int .i64 0))),
 oO 13 (.mv (.t 12)),
 oG 14 (.mv (.t 2)) 13 false,
 oG 15 (.call 36 false [(.t 14)]) 13 false,
 oG 16 (.un .not (.t 15)) 13 false,
 oO 17 (.pick (.t 13) (.c (.bool true)) (.t 16))])
 (.cond (.t 17) (.seq (.reg [oO 6 (.mv (.c (.int .i64 2)))])
 (.ret))
 (.skip)))
 (.seq (.regd 0 [oO 18 (.mv (.t 0)),
 oO 19 (.nchk (.t 18)),
 oO 20 (.fad 1 (.t 19)),
 oO 21 (.load1 (.t 20)),
 oO 22 (.mv (.t 7)),
 oO 23 (.mv (.t 0)),
 oO 24 (.nchk (.t 23)),
 oO 25 (.fad 1 (.t 24)),
 oO 26 (.load1 (.t 25)),
 oO 27 (.mv (.t 7)),
 oO 28 (.iad 4 (.t 26) (.t 27)),
 oO 29 (.fad 3 (.t 28)),
 oO 30 (.load1 (.t 29)),
 oO 31 (.mv (.t 2)),
 oO 32 (.mm true [(.t 30), (.t 31)]),
 oO 33 (.iad 4 (.t 21) (.t 22)),
 oO 34 (.fad 3 (.t 33)),
 ⟨none, .store 1 (.t 34) (.t 32), none, none, false⟩])
 (.seq (.reg [oO 6 (.mv (.c (.int .i64 0)))])
 (.ret)))))⟩

/- (*redpencil/acks.Acks).Copy -/
/- redpencil/redpencillaw25.gets -/
def a25 : AFn := ⟨25, [.t 8],
  .seq (.reg [oO 6 (.box 4 (.t 2)),
 oO 8 (.mv (.c (.bool false)))])
 (.seq (.reg [oO 12 (.mv (.t 0)),
 oO 13 (.mv (.t 1)),
 oO 14 (.call 37 false [(.t 12), (.t 13)]),
 oO 11 (.mv (.t 14)),
 oO 15 (.ext (.t 11) 0),
 oO 16 (.ext (.t 11) 1),
 oO 9 (.alloc [(.int .i64 0), (.int .i64 0), (.int .i64 0), (.int .i64 0)]),
 ⟨none, .store 4 (.t 9) (.t 15), none, none, false⟩,
 oO 10 (.mv (.t 16))])
 (.seq (.reg [oO 17 (.loadn 4 (.t 9)),
 oO 18 (.loadn 4 (.t 6)),
 oO 19 (.bin .eql (.fl [.i, .i, .i, .i]) (.t 17) (.t 18)),
 oO 20 (.mv (.t 19)),
 oG 21 (.mv (.t 10)) 20 true,
 oG 22 (.mv (.t 3)) 20 true,
 oG 23 (.bin .eql .no (.t 21) (.t 22)) 20 true,
 oO 24 (.pick (.t 20) (.t 23) (.c (.bool false))),
 oO 8 (.mv (.t 24))])
 (.ret)))⟩

/- (*redpencil/acks.Acks).Replica -/
def a26 : AFn := ⟨9, [.t 2],
  .seq (.reg [oO 2 (.mv (.c (.int .i64 0)))])
 (.seq (.seq (.reg [oO 3 (.mv (.t 0)),
 oO 4 (.bin .eql .np (.t 3) (.c .nilp))])
 (.cond (.t 4) (.seq (.reg [oO 2 (.mv (.c (.int .i64 0)))])
 (.ret))
 (.skip)))
 (.seq (.reg [oO 5 (.mv (.t 0)),
 oO 6 (.nchk (.t 5)),
 oO 7 (.fad 0 (.t 6)),
 oO 8 (.load1 (.t 7)),
 oO 2 (.mv (.t 8))])
 (.ret)))⟩

/- redpencil/acks.replica -/
def a27 : AFn := ⟨9, [.t 2],
  .seq (.reg [oO 2 (.mv (.c (.bool false)))])
 (.seq (.reg [oO 3 (.mv (.t 0)),
 oO 4 (.bin .geq .no (.t 3) (.c (.int .i64 1))),
 oO 5 (.mv (.t 4)),
 oG 6 (.mv (.t 0)) 5 true,
 oG 7 (.bin .leq .no (.t 6) (.c (.int .i64 64))) 5 true,
 oO 8 (.pick (.t 5) (.t 7) (.c (.bool false))),
 oO 2 (.mv (.t 8))])
 (.ret))⟩

/- slices.Sorted[int] -/
def a28 : AFn := ⟨9, [.t 2],
  .seq (.reg [oO 2 (.mv (.c .nils))])
 (.seq (.reg [oO 4 (.mv (.t 0)),
 oO 5 (.call 38 false [(.t 4)]),
 oO 3 (.mv (.t 5))])
 (.seq (.reg [oO 6 (.mv (.t 3)),
 oO 7 (.call 39 false [(.t 6)])])
 (.seq (.reg [oO 8 (.mv (.t 3)),
 oO 2 (.mv (.t 8))])
 (.ret))))⟩

/- slices.Values[[]int,int] -/
def a29 : AFn := ⟨4, [.t 2],
  .seq (.reg [oO 1 (.box 1 (.t 0)),
 oO 2 (.mv (.c .nilf))])
 (.seq (.reg [oO 3 (.mkfn 40 [(.t 1)]),
 oO 2 (.mv (.t 3))])
 (.ret))⟩

/- (*redpencil/redpencilref25.Acks).Needed -/
/- (*redpencil/redpencilref25.Acks).Get -/
/- slices.Clone[[]redpencil/api.Neighbour,redpencil/api.Neighbour] -/
def a32 : AFn := ⟨8, [.t 2],
  .seq (.reg [oO 2 (.mv (.c .nils))])
 (.seq (.seq (.reg [oO 3 (.mv (.t 0)),
 oO 4 (.bin .eql .ns (.t 3) (.c .nils))])
 (.cond (.t 4) (.seq (.reg [oO 2 (.mv (.c .nils))])
 (.ret))
 (.skip)))
 (.seq (.reg [oO 5 (.bsl [] 0 4 []),
 oO 6 (.mv (.t 0)),
 oO 7 (.app 4 32 [(.int .i64 0), (.int .i64 0), (.int .i64 0), (.int .i64 0)] (.t 5) (.t 6)),
 oO 2 (.mv (.t 7))])
 (.ret)))⟩

/- (*redpencil/acks.Acks).find -/
def a33 : AFn := ⟨28, [.t 4, .t 5],
  .seq (.reg [oO 4 (.mv (.c .nilp)),
 oO 5 (.mv (.c (.int .i64 0)))])
 (.seq (.seq (.reg [oO 8 (.mv (.t 0)),
 oO 9 (.call 26 false [(.t 8)]),
 oO 10 (.bin .eql .no (.t 9) (.c (.int .i64 0)))])
 (.cond (.t 10) (.seq (.reg [oO 4 (.mv (.c .nilp)),
 oO 5 (.mv (.c (.int .i64 1)))])
 (.ret))
 (.skip)))
 (.seq (.reg [oO 12 (.mv (.t 0)),
 oO 13 (.nchk (.t 12)),
 oO 14 (.fad 1 (.t 13)),
 oO 15 (.load1 (.t 14)),
 oO 16 (.mv (.t 1)),
 oO 17 (.call 41 false [(.t 15), (.t 16), (.f 42)]),
 oO 11 (.mv (.t 17)),
 oO 18 (.ext (.t 11) 0),
 oO 19 (.ext (.t 11) 1),
 oO 6 (.mv (.t 18)),
 oO 7 (.mv (.t 19))])
 (.seq (.seq (.reg [oO 20 (.mv (.t 7)),
 oO 21 (.un .not (.t 20))])
 (.cond (.t 21) (.seq (.reg [oO 4 (.mv (.c .nilp)),
 oO 5 (.mv (.c (.int .i64 2)))])
 (.ret))
 (.skip)))
 (.seq (.reg [oO 22 (.mv (.t 0)),
 oO 23 (.nchk (.t 22)),
 oO 24 (.fad 1 (.t 23)),
 oO 25 (.load1 (.t 24)),
 oO 26 (.mv (.t 6)),
 oO 27 (.iad 4 (.t 25) (.t 26)),
 oO 4 (.mv (.t 27)),
 oO 5 (.mv (.c (.int .i64 0)))])
 (.ret)))))⟩

/- redpencil/acks.number -/
def a34 : AFn := ⟨9, [.t 2],
  .seq (.reg [oO 2 (.mv (.c (.bool false)))])
 (.seq (.reg [oO 3 (.mv (.t 0)),
 oO 4 (.bin .geq .no (.t 3) (.c (.int .i64 0))),
 oO 5 (.mv (.t 4)),
 oG 6 (.mv (.t 0)) 5 true,
 oG 7 (.bin .leq .no (.t 6) (.c (.int .i64 1099511627776))) 5 true,
 oO 8 (.pick (.t 5) (.t 7) (.c (.bool false))),
 oO 2 (.mv (.t 8))])
 (.ret))⟩

/- (*redpencil/redpencilref25.Acks).find -/
def a35 : AFn := ⟨26, [.t 4],
  .seq (.reg [oO 4 (.mv (.c (.int .i64 0)))])
 (.seq (.seq (.reg [oO 5 (.mv (.c (.int .i64 0)))])
 (.block 0 (.loop (.seq (.seq (.reg [oO 6 (.mv (.t 5)),
 oO 7 (.mv (.t 0)),
 oO 8 (.nchk (.t 7)),
 oO 9 (.fad 1 (.t 8)),
 oO 10 (.load1 (.t 9)),
 oO 11 (.len .sl (.t 10)),
 oO 12 (.bin .lss .no (.t 6) (.t 11))])
 (.cond (.t 12) (.skip)
 (.exit 0)))
 (.seq (.block 1 (.seq (.reg [oO 15 (.mv (.t 0)),
 oO 16 (.nchk (.t 15)),
 oO 17 (.fad 1 (.t 16)),
 oO 18 (.load1 (.t 17)),
 oO 19 (.mv (.t 5)),
 oO 20 (.iad 4 (.t 18) (.t 19)),
 oO 21 (.fad 0 (.t 20)),
 oO 22 (.load1 (.t 21)),
 oO 23 (.mv (.t 1)),
 oO 24 (.bin .eql .no (.t 22) (.t 23))])
 (.cond (.t 24) (.seq (.reg [oO 25 (.mv (.t 5)),
 oO 4 (.mv (.t 25))])
 (.ret))
 (.skip))))
 (.reg [oO 13 (.mv (.t 5)),
 oO 14 (.bin .add .no (.t 13) (.c (.int .i64 1))),
 oO 5 (.mv (.t 14))]))))))
 (.seq (.reg [oO 4 (.mv (.c (.int .i64 (-1))))])
 (.ret)))⟩

/- redpencil/redpencilref25.number -/
def a36 : AFn := ⟨9, [.t 2],
  .seq (.reg [oO 2 (.mv (.c (.bool false)))])
 (.seq (.reg [oO 3 (.mv (.t 0)),
 oO 4 (.bin .geq .no (.t 3) (.c (.int .i64 0))),
 oO 5 (.mv (.t 4)),
 oG 6 (.mv (.t 0)) 5 true,
 oG 7 (.bin .leq .no (.t 6) (.c (.int .i64 1099511627776))) 5 true,
 oO 8 (.pick (.t 5) (.t 7) (.c (.bool false))),
 oO 2 (.mv (.t 8))])
 (.ret))⟩

/- (*redpencil/acks.Acks).Get -/
def a37 : AFn := ⟨21, [.celln 4 4, .t 5],
  .seq (.reg [oO 4 (.alloc [(.int .i64 0), (.int .i64 0), (.int .i64 0), (.int .i64 0)]),
 oO 5 (.mv (.c (.int .i64 0)))])
 (.seq (.reg [oO 9 (.mv (.t 0)),
 oO 10 (.mv (.t 1)),
 oO 11 (.call 33 false [(.t 9), (.t 10)]),
 oO 8 (.mv (.t 11)),
 oO 12 (.ext (.t 8) 0),
 oO 13 (.ext (.t 8) 1),
 oO 6 (.mv (.t 12)),
 oO 7 (.mv (.t 13))])
 (.seq (.seq (.reg [oO 14 (.mv (.t 7)),
 oO 15 (.bin .neq .no (.t 14) (.c (.int .i64 0)))])
 (.cond (.t 15) (.seq (.reg [oO 16 (.build [(.int .i64 0), (.int .i64 0), (.int .i64 0), (.int .i64 0)] []),
 oO 17 (.mv (.t 7)),
 ⟨none, .store 4 (.t 4) (.t 16), none, none, false⟩,
 oO 5 (.mv (.t 17))])
 (.ret))
 (.skip)))
 (.seq (.reg [oO 18 (.mv (.t 6)),
 oO 19 (.nchk (.t 18)),
 oO 20 (.loadn 4 (.t 19)),
 ⟨none, .store 4 (.t 4) (.t 20), none, none, false⟩,
 oO 5 (.mv (.c (.int .i64 0)))])
 (.ret))))⟩

/- slices.Collect[int] -/
def a38 : AFn := ⟨5, [.t 2],
  .seq (.reg [oO 2 (.mv (.c .nils))])
 (.seq (.reg [oO 3 (.mv (.t 0)),
 oO 4 (.call 44 false [(.c .nils), (.t 3)]),
 oO 2 (.mv (.t 4))])
 (.ret))⟩

/- slices.Sort[[]int,int] -/
/- slices.Values[[]int,int]$1 -/
/- slices.BinarySearchFunc[[]redpencil/api.Neighbour,redpencil/api.Neighbour,int] -/
def a41 : AFn := ⟨49, [.t 6, .t 7],
  .seq (.reg [oO 6 (.mv (.c (.int .i64 0))),
 oO 7 (.mv (.c (.bool false)))])
 (.seq (.reg [oO 12 (.mv (.t 0)),
 oO 13 (.len .sl (.t 12)),
 oO 8 (.mv (.t 13))])
 (.seq (.reg [oO 14 (.mv (.t 8)),
 oO 9 (.mv (.c (.int .i64 0))),
 oO 10 (.mv (.t 14))])
 (.seq (.block 0 (.loop (.seq (.seq (.reg [oO 15 (.mv (.t 9)),
 oO 16 (.mv (.t 10)),
 oO 17 (.bin .lss .no (.t 15) (.t 16))])
 (.cond (.t 17) (.skip)
 (.exit 0)))
 (.block 1 (.seq (.reg [oO 18 (.mv (.t 9)),
 oO 19 (.mv (.t 10)),
 oO 20 (.bin .add .no (.t 18) (.t 19)),
 oO 21 (.conv .u64 (.t 20)),
 oO 22 (.bin .shr .no (.t 21) (.c (.int .u64 1))),
 oO 23 (.conv .i64 (.t 22)),
 oO 11 (.mv (.t 23))])
 (.seq (.reg [oO 24 (.mv (.t 2)),
 oO 25 (.mv (.t 0)),
 oO 26 (.mv (.t 11)),
 oO 27 (.iad 4 (.t 25) (.t 26)),
 oO 28 (.loadn 4 (.t 27)),
 oO 29 (.mv (.t 1)),
 oO 30 (.callv (.t 24) false [(.t 28), (.t 29)]),
 oO 31 (.bin .lss .no (.t 30) (.c (.int .i64 0)))])
 (.cond (.t 31) (.reg [oO 32 (.mv (.t 11)),
 oO 33 (.bin .add .no (.t 32) (.c (.int .i64 1))),
 oO 9 (.mv (.t 33))])
 (.reg [oO 34 (.mv (.t 11)),
 oO 10 (.mv (.t 34))]))))))))
 (.seq (.reg [oO 35 (.mv (.t 9)),
 oO 36 (.mv (.t 9)),
 oO 37 (.mv (.t 8)),
 oO 38 (.bin .lss .no (.t 36) (.t 37)),
 oO 39 (.mv (.t 38)),
 oG 40 (.mv (.t 2)) 39 true,
 oG 41 (.mv (.t 0)) 39 true,
 oG 42 (.mv (.t 9)) 39 true,
 oG 43 (.iad 4 (.t 41) (.t 42)) 39 true,
 oG 44 (.loadn 4 (.t 43)) 39 true,
 oG 45 (.mv (.t 1)) 39 true,
 oG 46 (.callv (.t 40) false [(.t 44), (.t 45)]) 39 true,
 oG 47 (.bin .eql .no (.t 46) (.c (.int .i64 0))) 39 true,
 oO 48 (.pick (.t 39) (.t 47) (.c (.bool false))),
 oO 6 (.mv (.t 35)),
 oO 7 (.mv (.t 48))])
 (.ret)))))⟩

/- (*redpencil/acks.Acks).find$1 -/
def a42 : AFn := ⟨9, [.t 4],
  .seq (.reg [oO 2 (.box 4 (.t 0)),
 oO 4 (.mv (.c (.int .i64 0)))])
 (.seq (.reg [oO 5 (.fad 0 (.t 2)),
 oO 6 (.load1 (.t 5)),
 oO 7 (.mv (.t 1)),
 oO 8 (.call 43 false [(.t 6), (.t 7)]),
 oO 4 (.mv (.t 8))])
 (.ret))⟩

/- cmp.Compare[int] -/
def a43 : AFn := ⟨20, [.t 4],
  .seq (.reg [oO 4 (.mv (.c (.int .i64 0)))])
 (.seq (.reg [oO 7 (.mv (.t 0)),
 oO 8 (.call 47 false [(.t 7)]),
 oO 5 (.mv (.t 8))])
 (.seq (.reg [oO 9 (.mv (.t 1)),
 oO 10 (.call 47 false [(.t 9)]),
 oO 6 (.mv (.t 10))])
 (.seq (.seq (.reg [oO 11 (.mv (.t 5))])
 (.cond (.t 11) (.seq (.seq (.reg [oO 12 (.mv (.t 6))])
 (.cond (.t 12) (.seq (.reg [oO 4 (.mv (.c (.int .i64 0)))])
 (.ret))
 (.skip)))
 (.seq (.reg [oO 4 (.mv (.c (.int .i64 (-1))))])
 (.ret)))
 (.skip)))
 (.seq (.seq (.reg [oO 13 (.mv (.t 6))])
 (.cond (.t 13) (.seq (.reg [oO 4 (.mv (.c (.int .i64 1)))])
 (.ret))
 (.skip)))
 (.seq (.seq (.reg [oO 14 (.mv (.t 0)),
 oO 15 (.mv (.t 1)),
 oO 16 (.bin .lss .no (.t 14) (.t 15))])
 (.cond (.t 16) (.seq (.reg [oO 4 (.mv (.c (.int .i64 (-1))))])
 (.ret))
 (.skip)))
 (.seq (.seq (.reg [oO 17 (.mv (.t 0)),
 oO 18 (.mv (.t 1)),
 oO 19 (.bin .gtr .no (.t 17) (.t 18))])
 (.cond (.t 19) (.seq (.reg [oO 4 (.mv (.c (.int .i64 1)))])
 (.ret))
 (.skip)))
 (.seq (.reg [oO 4 (.mv (.c (.int .i64 0)))])
 (.ret))))))))⟩

/- slices.AppendSeq[[]int,int] -/
def a44 : AFn := ⟨13, [.t 4],
  .seq (.reg [oO 2 (.box 1 (.t 0)),
 oO 4 (.mv (.c .nils))])
 (.seq (.seq (.reg [oO 6 (.mv (.t 1))])
 (.block 0 (.bad)))
 (.seq (.reg [oO 12 (.load1 (.t 2)),
 oO 4 (.mv (.t 12))])
 (.ret)))⟩

/- cmp.isNaN[int] -/
def a47 : AFn := ⟨6, [.t 2],
  .seq (.reg [oO 2 (.mv (.c (.bool false)))])
 (.seq (.reg [oO 3 (.mv (.t 0)),
 oO 4 (.mv (.t 0)),
 oO 5 (.bin .neq .no (.t 3) (.t 4)),
 oO 2 (.mv (.t 5))])
 (.ret))⟩

/- cmp.Less[int] -/
end Go.AM
end
/-
  They are what the compiler makes of the loaded program. Printed by a program of this project.
-/
section
namespace Go.AM
open Go Go.Proofs

theorem c9 : cfn Try.prog Try.f9 = some a9 := by kernel_rfl
theorem k9 : callable Try.prog 9 = true := by kernel_rfl
theorem c12 : cfn Try.prog Try.f12 = some a12 := by kernel_rfl
theorem k12 : callable Try.prog 12 = true := by kernel_rfl
theorem c13 : cfn Try.prog Try.f13 = some a13 := by kernel_rfl
theorem k13 : callable Try.prog 13 = true := by kernel_rfl
theorem c14 : cfn Try.prog Try.f14 = some a14 := by kernel_rfl
theorem k14 : callable Try.prog 14 = true := by kernel_rfl
theorem c15 : cfn Try.prog Try.f15 = some a15 := by kernel_rfl
theorem k15 : callable Try.prog 15 = true := by kernel_rfl
theorem c16 : cfn Try.prog Try.f16 = some a16 := by kernel_rfl
theorem k16 : callable Try.prog 16 = true := by kernel_rfl
theorem c17 : cfn Try.prog Try.f17 = some a17 := by kernel_rfl
theorem k17 : callable Try.prog 17 = true := by kernel_rfl
theorem c18 : cfn Try.prog Try.f18 = some a18 := by kernel_rfl
theorem k18 : callable Try.prog 18 = true := by kernel_rfl
theorem c19 : cfn Try.prog Try.f19 = some a19 := by kernel_rfl
theorem k19 : callable Try.prog 19 = true := by kernel_rfl
theorem c25 : cfn Try.prog Try.f25 = some a25 := by kernel_rfl
theorem k25 : callable Try.prog 25 = true := by kernel_rfl
theorem c26 : cfn Try.prog Try.f26 = some a26 := by kernel_rfl
theorem k26 : callable Try.prog 26 = true := by kernel_rfl
theorem c27 : cfn Try.prog Try.f27 = some a27 := by kernel_rfl
theorem k27 : callable Try.prog 27 = true := by kernel_rfl
theorem c28 : cfn Try.prog Try.f28 = some a28 := by kernel_rfl
theorem k28 : callable Try.prog 28 = true := by kernel_rfl
theorem c29 : cfn Try.prog Try.f29 = some a29 := by kernel_rfl
theorem k29 : callable Try.prog 29 = true := by kernel_rfl
theorem c32 : cfn Try.prog Try.f32 = some a32 := by kernel_rfl
theorem k32 : callable Try.prog 32 = true := by kernel_rfl
theorem c33 : cfn Try.prog Try.f33 = some a33 := by kernel_rfl
theorem k33 : callable Try.prog 33 = true := by kernel_rfl
theorem c34 : cfn Try.prog Try.f34 = some a34 := by kernel_rfl
theorem k34 : callable Try.prog 34 = true := by kernel_rfl
theorem c37 : cfn Try.prog Try.f37 = some a37 := by kernel_rfl
theorem k37 : callable Try.prog 37 = true := by kernel_rfl
theorem c38 : cfn Try.prog Try.f38 = some a38 := by kernel_rfl
theorem k38 : callable Try.prog 38 = true := by kernel_rfl
theorem k39 : callable Try.prog 39 = true := by kernel_rfl
theorem c41 : cfn Try.prog Try.f41 = some a41 := by kernel_rfl
theorem k41 : callable Try.prog 41 = true := by kernel_rfl
theorem c42 : cfn Try.prog Try.f42 = some a42 := by kernel_rfl
theorem k42 : callable Try.prog 42 = true := by kernel_rfl
theorem c43 : cfn Try.prog Try.f43 = some a43 := by kernel_rfl
theorem k43 : callable Try.prog 43 = true := by kernel_rfl
theorem c47 : cfn Try.prog Try.f47 = some a47 := by kernel_rfl
theorem k47 : callable Try.prog 47 = true := by kernel_rfl
end Go.AM
end
/-
  What all chapters need: conditions, slices made ready, pointers, maps by value, numbers. Own work of this project.
-/
section
set_option maxRecDepth 100000
namespace Go.AM
open Go Go.Proofs

variable {call : Nat → List AV → St → Option (AV × St)} {env : Env} {s t u : St}
theorem cs_dec (p : Prop) [Decidable p] (A B : Prop) : cstep (.bool (decide p)) A B = ((p → A) ∧ (¬ p → B)) := by by_cases h : p <;> simp [cstep, h]
theorem cs_not (b : Bool) (A B : Prop) : cstep (.bool (!b)) A B = cstep (.bool b) B A := by cases b <;> rfl
theorem cs_and (a b : Bool) (A B : Prop) : cstep (.bool (a && b)) A B = ((a = true ∧ b = true → A) ∧ ((a && b) = false → B)) := by cases a <;> cases b <;> simp [cstep]
theorem cs_or (a b : Bool) (A B : Prop) : cstep (.bool (a || b)) A B = (((a || b) = true → A) ∧ (a = false ∧ b = false → B)) := by cases a <;> cases b <;> simp [cstep]
theorem cs_true (A B : Prop) : cstep (.bool (decide True)) A B = A := by simp [cstep]
theorem cs_false (A B : Prop) : cstep (.bool (decide False)) A B = B := by simp [cstep]
def lookV (s : St) (z : AV) (k : EK) (ok : Bool) (m i : AV) : Option AV :=
  if i.key k then
    match m with
    | .nilm => some (if ok then .tup [z, .bool false] else z)
    | .mp id => match s.get id with
      | some (.map es _) => match findE k i es 0 with
        | some (some (_, v)) => some (if ok then .tup [v, .bool true] else v)
        | some none => some (if ok then .tup [z, .bool false] else z)
        | none => none
      | _ => none
    | _ => none
  else none
theorem ar_look (z : AV) (k : EK) (ok : Bool) (m i : AO) : aread call env s (.look z k ok m i) = lookV s z k ok (aev env m) (aev env i) := nrfl rfl
def msetV (s : St) (k : EK) (m i x : AV) : Option (AV × St) :=
  if i.key k && x.whole then
    match m with
    | .mp id => match s.get id with
      | some (.map es ck) => match findE k i es 0 with
        | some (some (j, _)) => match es[j]? with
          | some (_, _, b) => some (.und, s.put id (.map (es.set j (i, x, b)) ck))
          | none => none
        | some none => some (.und, s.put id (.map (es ++ [(i, x, ck)]) (ck + 1)))
        | none => none
      | _ => none
    | _ => none
  else none
theorem ae_mset (k : EK) (m i x : AO) : aeff call env s (.mset k m i x) = msetV s k (aev env m) (aev env i) (aev env x) := nrfl rfl
def rngV (s : St) : AV → Option (AV × St)
  | .nilm => some (.ptr s.next 0, s.push (.iter none 0 [] 0))
  | .mp id => match s.get id with
    | some (.map _ ck) => some (.ptr s.next 0, s.push (.iter (some id) ck [] ck))
    | _ => none
  | _ => none
theorem ae_rng (x : AO) : aeff call env s (.rng x) = rngV s (aev env x) := nrfl rfl
theorem ae_mkmap0 : aeff call env s (.mkmap none) = some (.mp s.next, s.push (.map [] 0)) := nrfl rfl
def entV (s : St) : AV → Option AV
  | .ptr id 0 => match s.get id with
    | some (.iter (some m) _ seen last) => match seen.getLast?, s.get m with
      | some stamp, some (.map es ck) => if ck = last then (es.find? fun e => e.2.2 == stamp).map fun e => .tup [e.1, e.2.1] else none
      | _, _ => none
    | _ => none
  | _ => none
theorem ar_ent (x : AO) : aread call env s (.ent x) = entV s (aev env x) := nrfl (by
  simp only [aread, entV]
  cases aev env x <;> rfl)
theorem lookV_push {id : Nat} (h : ltN id s) (b : AB) (z : AV) (k : EK) (ok : Bool) (i : AV) : lookV (s.push b) z k ok (.mp id) i = lookV s z k ok (.mp id) i := by
  simp only [lookV, St.get_push_old _ _ h]
theorem lookV_lowed (z : AV) (k : EK) (ok : Bool) (m i : AV) : lookV s.lowed z k ok m i = lookV s z k ok m i := by cases m <;> rfl
theorem put_push_lt {id : Nat} (h : ltN id s) (b c : AB) : (s.push b).put id c = (s.put id c).push b := by
  unfold ltN at h
  have : s.next + 1 - 1 - id = s.next - 1 - id + 1 := by omega
  simp only [St.push, St.put, this, List.set_cons_succ]
theorem msetV_push {id : Nat} (h : ltN id s) (b : AB) (k : EK) (i x : AV) : msetV (s.push b) k (.mp id) i x = (msetV s k (.mp id) i x).map fun r => (r.1, r.2.push b) := by
  simp only [msetV, St.get_push_old _ _ h, put_push_lt h]
  repeat' split
  all_goals rfl
theorem put_lowed (id : Nat) (c : AB) : s.lowed.put id c = (s.put id c).lowed := by
  simp only [St.put, St.lowed]
  congr 1
  omega
theorem msetV_lowed (k : EK) (m i x : AV) : msetV s.lowed k m i x = (msetV s k m i x).map fun r => (r.1, r.2.lowed) := by
  simp only [msetV, lowed_get, put_lowed]
  repeat' split
  all_goals rfl
theorem cs_dead (p : Prop) [Decidable p] (A B : Prop) : cstep (.bool (!decide p)) A B = cstep (.bool (decide p)) B A := cs_not _ _ _
theorem lt_put {n id : Nat} {t : St} (h : ltN n t) (c : AB) : ltN n (t.put id c) = True := eq_true h
theorem same_put {n id : Nat} {t : St} (h : sameN n t) (c : AB) : sameN n (t.put id c) = True := eq_true h
theorem sto_lowed (n : Nat) (a x : AV) : sto s.lowed n a x = (sto s n a x).map fun r => (r.1, r.2.lowed) := by
  simp only [sto, lowed_get, put_lowed]
  repeat' split
  all_goals rfl
theorem aappend_frame {t t' : St} {sz bytes k : Nat} {v v' : AV} {new : List AV} (h : aappend t sz bytes v new k = some (v', t')) {id : Nat} {b : AB} (hne : ∀ o n c z, v ≠ .sl id o n c z) (hg : t.get id = some b) : t'.get id = some b := by
  unfold aappend at h
  split at h
  · split at h
    · injection h with h; obtain ⟨_, rfl⟩ := Prod.mk.inj h; exact hg
    · split at h
      · injection h with h; obtain ⟨_, rfl⟩ := Prod.mk.inj h; exact get_push_some _ hg
      · cases h
  · rename_i id' off len cap z
    have hid : id ≠ id' := fun e => hne off len cap z (by rw [e])
    split at h
    · split at h
      · rename_i cs own hg'
        have hlt := St.get_lt hg'
        split at h
        · injection h with h; obtain ⟨_, rfl⟩ := Prod.mk.inj h; exact hg
        · split at h
          · split at h
            · split at h
              · split at h
                · injection h with h; obtain ⟨_, rfl⟩ := Prod.mk.inj h
                  rw [St.get_put_ne _ _ hlt hid]; exact hg
                · cases h
              · injection h with h; obtain ⟨_, rfl⟩ := Prod.mk.inj h; exact get_push_some _ hg
            · split at h
              · injection h with h; obtain ⟨_, rfl⟩ := Prod.mk.inj h
                refine get_push_some _ ?_
                rw [St.get_put_ne _ _ hlt hid]; exact hg
              · cases h
          · cases h
      · cases h
    · cases h
  · cases h
theorem appV_frame {t t' : St} {sz bytes : Nat} {v v' x : AV} (h : appV t sz bytes v x = some (v', t')) {id : Nat} {b : AB} (hne : ∀ o n c z, v ≠ .sl id o n c z) (hg : t.get id = some b) : t'.get id = some b := by
  unfold appV at h
  split at h
  · exact aappend_frame h hne hg
  · cases h
def bslV (z : List AV) (len sz : Nat) (ps : List (Nat × AV)) : Option ((Nat → AV) × AB) := (fillP [] z (ps.map fun p => (p.1 * sz, sz, .c p.2))).map fun cs => (fun id => .sl id 0 len (some len) sz, .row cs true)
theorem fillP_aev (env : Env) : ∀ (ps : List (Nat × Nat × AO)) (z : List AV), fillP env z ps = fillP [] z (ps.map fun p => (p.1, p.2.1, .c (aev env p.2.2)))
  | [], z => rfl
  | (a, b, x) :: r, z => by
    simp only [fillP, List.map_cons]
    show (if _ then _ else _) = (if _ then _ else _)
    rw [fillP_aev env r]
    rfl
theorem aa_bsl {env : Env} (z : List AV) (len sz : Nat) (ps : List (Nat × AO)) : aalloc env (.bsl z len sz ps) = bslV z len sz (ps.map fun p => (p.1, aev env p.2)) := by
  simp only [aalloc, bslV]
  rw [fillP_aev]
  simp only [List.map_map, Function.comp_def]
theorem sg_bsl {call : Nat → List AV → St → Option (AV × St)} {base : Nat} {d : Option Nat} {r : Option Nat} {fr : Bool} {rest : List AOper} {Q : Env → St → Prop} {env : Env} (z : List AV) (l n : Nat) (ps : List (Nat × AO)) (t : Nat) (w : Bool) :
    awops call base (⟨d, .bsl z l n ps, some (t, w), r, fr⟩ :: rest) Q env s = gstep (E env t) w (awops call base (⟨d, .bsl z l n ps, none, r, fr⟩ :: rest) Q env s) (awops call base rest Q (pE env d .und) s) := st_guard _ _ _
def nchkV : AV → Option AV
  | .ptr id o => some (.ptr id o)
  | _ => none
theorem ap_nchk (x : AO) : apure env (.nchk x) = nchkV (aev env x) := by
  simp only [apure, nchkV]
  generalize aev env x = v
  cases v <;> rfl
theorem nchkV_ptr (id o : Nat) : nchkV (.ptr id o) = some (.ptr id o) := nrfl rfl
theorem bin_np (id o : Nat) : binOp .eql .np (.ptr id o) .nilp = some (.bool false) := nrfl rfl
theorem bin_npn : binOp .eql .np .nilp .nilp = some (.bool true) := nrfl rfl
theorem bin_npx (id o : Nat) : binOp .neq .np (.ptr id o) .nilp = some (.bool true) := nrfl rfl
theorem bin_npnx : binOp .neq .np .nilp .nilp = some (.bool false) := nrfl rfl
def mmV (big : Bool) : List AV → Option AV
  | v :: r => mmL big v r
  | [] => none
theorem ap_mm (big : Bool) (xs : List AO) : apure env (.mm big xs) = mmV big (xs.map (aev env)) := by
  simp only [apure, mmV]
  cases xs.map (aev env) <;> rfl
theorem mmV_max (k : IntKind) (a b : Int) : mmV true [.int k a, .int k b] = some (.int k (max a b)) := by
  simp only [mmV, mmL, if_true]
  congr 2
  split <;> omega
theorem mmV_min (k : IntKind) (a b : Int) : mmV false [.int k a, .int k b] = some (.int k (min a b)) := by
  simp only [mmV, mmL, if_true, Bool.false_eq_true, if_false]
  congr 2
  split <;> omega
theorem res3 (env : Env) (s : St) (a b c : Nat) : aresults env s [.t a, .t b, .t c] = some (.tup [E env a, E env b, E env c]) := by
  unfold E
  rfl
theorem row2_lod {id : Nat} {a b : AV} {own : Bool} (h : t.get id = some (.row [a, b] own)) : lod1 t (.ptr id 0) = some a ∧ lod1 t (.ptr id 1) = some b ∧ ltN id t := by
  refine ⟨?_, ?_, St.get_lt h⟩ <;> simp [lod1, h]
theorem row2_sto {id : Nat} {a b : AV} (h : t.get id = some (.row [a, b] true)) {x : AV} (hc : x.cells = [x]) (ho : x.one = true) : sto t 1 (.ptr id 0) x = some (.und, t.put id (.row [x, b] true)) ∧ sto t 1 (.ptr id 1) x = some (.und, t.put id (.row [a, x] true)) := by
  constructor <;> simp [sto, h, hc, ho, setAt]
theorem Keep.born {s t : St} (h : Keep s t) {id : Nat} (b : AB) (h1 : s.next ≤ id) (h2 : id < t.next) : Keep s (t.born id b) :=
  ⟨by simpa using h.next, fun j hj => by rw [St.get_born_ne _ _ h2 (by omega), h.get j hj], by simpa using h.low⟩
theorem keep_reserve (s : St) (k : Nat) : Keep s (s.reserve k) := ⟨by simp, fun id h => by rw [St.get_reserve, if_pos h], by simp; omega⟩
theorem keep_lowd (s : St) : Keep s (lowd s) := ⟨Nat.le_refl _, fun _ _ => rfl, Nat.min_le_right _ _⟩
theorem read_low' {α : Type} {C : Cod α} {v : AV} {l : List α} (h : read C s v = some l) : read C (lowd s) v = some l := (keep_lowd s).read h
def mkslV (z : List AV) (bytes : Nat) (l c : AV) : Option ((Nat → AV) × AB) := match l, c with
  | .int .i64 l, .int .i64 c =>
    if 0 ≤ l ∧ l ≤ c ∧ (bytes : Int) * c ≤ roomBytes ∧ c ≤ 9223372036854775807 then
        some (fun id => .sl id 0 l.toNat (some c.toNat) z.length, .row (zeros z c.toNat) true)
      else none
  | _, _ => none
theorem aa_mksl {env : Env} (z : List AV) (b : Nat) (l c : AO) : aalloc env (.mksl z b l c) = mkslV z b (aev env l) (aev env c) := by
  simp only [aalloc, mkslV]
  rfl
def copyV (s : St) (sz : Nat) (d x : AV) : Option (AV × St) := match d, shown s sz x, lenOf x with
    | .nils, some _, some _ => some (.int .i64 0, s)
    | .sl id off len _ z, some new, some k =>
      if z = sz then
        match s.get id with
        | some (.row cs true) =>
          if off + len * sz ≤ cs.length then
            some (.int .i64 ((min k len : Nat) : Int), s.put id (.row (setAt cs off (new.take (min k len * sz))) true))
          else none
        | _ => none
      else none
    | _, _, _ => none
theorem ae_copy {call : Nat → List AV → St → Option (AV × St)} {env : Env} (sz : Nat) (d x : AO) : aeff call env s (.copy sz d x) = copyV s sz (aev env d) (aev env x) := by
  simp only [aeff, copyV]
  rfl
def slc3V (sz : Nat) (x h m : AV) : Option AV := apure [] (.slc sz (.c x) none (some (.c h)) (some (.c m)))
theorem ap_slc3 {env : Env} (sz : Nat) (x h m : AO) : apure env (.slc sz x none (some h) (some m)) = slc3V sz (aev env x) (aev env h) (aev env m) := nrfl rfl
theorem slc3V_all (j n : Nat) : slc3V 1 (.sl j 0 n (some n) 1) (.int .i64 (n : Int)) (.int .i64 (n : Int)) = some (.sl j 0 n (some n) 1) := by
  simp [slc3V, apure, aev, optNat, asNatIn]
theorem bin_nss (id off n : Nat) (cap : Option Nat) (z : Nat) : binOp .eql .ns (.sl id off n cap z) .nils = some (.bool false) := nrfl rfl
theorem bin_nsn : binOp .eql .ns .nils .nils = some (.bool true) := nrfl rfl
theorem tb_at (g : Nat) (c : Con) (r : List (Nat × Con)) (f : Nat) : tb ((g, c) :: r) f = if f = g then c else tb r f := nrfl rfl
theorem extV_2 (a b c : AV) (r : List AV) : extV 2 (.tup (a :: b :: c :: r)) = some c := nrfl rfl
end Go.AM
end
/-
  The rules for stepping that all chapters use, in one. Own work of this project.
-/
section
namespace Go.AM
open Go

theorem bX : type_of% (And.intro @cs_dec <|
  And.intro @cs_not <|
  And.intro @cs_and <|
  And.intro @cs_or <|
  And.intro @cs_dead <|
  And.intro @cs_true <|
  And.intro @cs_false <|
  And.intro @ae_app <|
  And.intro @ap_slc <|
  And.intro @mkR_none <|
  And.intro @mkR_some <|
  And.intro @ar_look <|
  And.intro @ae_mset <|
  And.intro @ae_rng <|
  And.intro @ae_mkmap0 <|
  And.intro @ar_ent <|
  And.intro @lookV_push <|
  And.intro @lookV_lowed <|
  And.intro @msetV_push <|
  And.intro @msetV_lowed <|
  And.intro @lt_put <|
  And.intro @same_put <|
  And.intro @sto_lowed <|
  And.intro @aa_bsl <|
  And.intro @ap_nchk <|
  And.intro @nchkV_ptr <|
  And.intro @bin_np <|
  And.intro @bin_npn <|
  And.intro @bin_npx <|
  And.intro @bin_npnx <|
  And.intro @ap_mm <|
  And.intro @mmV_max <|
  And.intro @mmV_min <|
  And.intro @res3 <|
  And.intro @aa_mksl <|
  And.intro @ae_copy <|
  And.intro @ap_slc3 <|
  And.intro @slc3V_all <|
  And.intro @bin_nss <|
  And.intro @bin_nsn <|
  @extV_2) := And.intro @cs_dec <|
  And.intro @cs_not <|
  And.intro @cs_and <|
  And.intro @cs_or <|
  And.intro @cs_dead <|
  And.intro @cs_true <|
  And.intro @cs_false <|
  And.intro @ae_app <|
  And.intro @ap_slc <|
  And.intro @mkR_none <|
  And.intro @mkR_some <|
  And.intro @ar_look <|
  And.intro @ae_mset <|
  And.intro @ae_rng <|
  And.intro @ae_mkmap0 <|
  And.intro @ar_ent <|
  And.intro @lookV_push <|
  And.intro @lookV_lowed <|
  And.intro @msetV_push <|
  And.intro @msetV_lowed <|
  And.intro @lt_put <|
  And.intro @same_put <|
  And.intro @sto_lowed <|
  And.intro @aa_bsl <|
  And.intro @ap_nchk <|
  And.intro @nchkV_ptr <|
  And.intro @bin_np <|
  And.intro @bin_npn <|
  And.intro @bin_npx <|
  And.intro @bin_npnx <|
  And.intro @ap_mm <|
  And.intro @mmV_max <|
  And.intro @mmV_min <|
  And.intro @res3 <|
  And.intro @aa_mksl <|
  And.intro @ae_copy <|
  And.intro @ap_slc3 <|
  And.intro @slc3V_all <|
  And.intro @bin_nss <|
  And.intro @bin_nsn <|
  @extV_2
theorem bE : type_of% (And.intro @E_pne <|
  And.intro @E_psame <|
  @elen_put) := And.intro @E_pne <|
  And.intro @E_psame <|
  @elen_put
end Go.AM
end
/-
  The rules for stepping, in bundles (simp takes a conjunction apart). Own work of this project; printed by a program of it.
-/
section
namespace Go.AM
open Go

theorem bD0 : type_of% (And.intro @st_nil <|
  And.intro @st_mv <|
  And.intro @sg_mv <|
  And.intro @st_pick <|
  And.intro @sg_pick <|
  And.intro @st_build <|
  And.intro @sg_build <|
  And.intro @st_bin <|
  And.intro @sg_bin <|
  And.intro @st_un <|
  And.intro @sg_un <|
  @st_conv) :=
  And.intro @st_nil <|
  And.intro @st_mv <|
  And.intro @sg_mv <|
  And.intro @st_pick <|
  And.intro @sg_pick <|
  And.intro @st_build <|
  And.intro @sg_build <|
  And.intro @st_bin <|
  And.intro @sg_bin <|
  And.intro @st_un <|
  And.intro @sg_un <|
  @st_conv
theorem bD1 : type_of% (And.intro @sg_conv <|
  And.intro @st_mkfn <|
  And.intro @sg_mkfn <|
  And.intro @st_slc <|
  And.intro @sg_slc <|
  And.intro @st_slcs <|
  And.intro @sg_slcs <|
  And.intro @st_fad <|
  And.intro @sg_fad <|
  And.intro @st_fld <|
  And.intro @sg_fld <|
  @st_iad) :=
  And.intro @sg_conv <|
  And.intro @st_mkfn <|
  And.intro @sg_mkfn <|
  And.intro @st_slc <|
  And.intro @sg_slc <|
  And.intro @st_slcs <|
  And.intro @sg_slcs <|
  And.intro @st_fad <|
  And.intro @sg_fad <|
  And.intro @st_fld <|
  And.intro @sg_fld <|
  @st_iad
theorem bD2 : type_of% (And.intro @sg_iad <|
  And.intro @st_idxs <|
  And.intro @sg_idxs <|
  And.intro @st_ext <|
  And.intro @sg_ext <|
  And.intro @st_len <|
  And.intro @sg_len <|
  And.intro @st_lens <|
  And.intro @sg_lens <|
  And.intro @st_cap <|
  And.intro @sg_cap <|
  @st_mm) :=
  And.intro @sg_iad <|
  And.intro @st_idxs <|
  And.intro @sg_idxs <|
  And.intro @st_ext <|
  And.intro @sg_ext <|
  And.intro @st_len <|
  And.intro @sg_len <|
  And.intro @st_lens <|
  And.intro @sg_lens <|
  And.intro @st_cap <|
  And.intro @sg_cap <|
  @st_mm
theorem bD3 : type_of% (And.intro @sg_mm <|
  And.intro @st_nchk <|
  And.intro @sg_nchk <|
  And.intro @st_load1 <|
  And.intro @sg_load1 <|
  And.intro @st_loadn <|
  And.intro @sg_loadn <|
  And.intro @st_b2s <|
  And.intro @sg_b2s <|
  And.intro @st_look <|
  And.intro @sg_look <|
  @st_lenm) :=
  And.intro @sg_mm <|
  And.intro @st_nchk <|
  And.intro @sg_nchk <|
  And.intro @st_load1 <|
  And.intro @sg_load1 <|
  And.intro @st_loadn <|
  And.intro @sg_loadn <|
  And.intro @st_b2s <|
  And.intro @sg_b2s <|
  And.intro @st_look <|
  And.intro @sg_look <|
  @st_lenm
theorem bD4 : type_of% (And.intro @sg_lenm <|
  And.intro @st_ent <|
  And.intro @sg_ent <|
  And.intro @st_calld <|
  And.intro @sg_calld <|
  And.intro @st_callvd <|
  And.intro @sg_callvd <|
  And.intro @st_call <|
  And.intro @sg_call <|
  And.intro @st_callv <|
  And.intro @sg_callv <|
  @st_store) :=
  And.intro @sg_lenm <|
  And.intro @st_ent <|
  And.intro @sg_ent <|
  And.intro @st_calld <|
  And.intro @sg_calld <|
  And.intro @st_callvd <|
  And.intro @sg_callvd <|
  And.intro @st_call <|
  And.intro @sg_call <|
  And.intro @st_callv <|
  And.intro @sg_callv <|
  @st_store
theorem bD5 : type_of% (And.intro @st_storef <|
  And.intro @st_app <|
  And.intro @st_appz <|
  And.intro @st_copy <|
  And.intro @st_clr <|
  And.intro @st_mkmap <|
  And.intro @st_mset <|
  And.intro @st_mdel <|
  And.intro @st_rng <|
  And.intro @st_allo <|
  And.intro @st_allor <|
  @st_box) :=
  And.intro @st_storef <|
  And.intro @st_app <|
  And.intro @st_appz <|
  And.intro @st_copy <|
  And.intro @st_clr <|
  And.intro @st_mkmap <|
  And.intro @st_mset <|
  And.intro @st_mdel <|
  And.intro @st_rng <|
  And.intro @st_allo <|
  And.intro @st_allor <|
  @st_box
theorem bD6 : type_of% (And.intro @st_boxr <|
  And.intro @st_bsl <|
  And.intro @st_bslr <|
  And.intro @st_mksl <|
  And.intro @st_mkslr <|
  And.intro @wp_regd <|
  And.intro @wp_regw <|
  And.intro @wp_reg <|
  And.intro @wp_skip <|
  And.intro @wp_exit <|
  And.intro @wp_ret <|
  @wp_seq) :=
  And.intro @st_boxr <|
  And.intro @st_bsl <|
  And.intro @st_bslr <|
  And.intro @st_mksl <|
  And.intro @st_mkslr <|
  And.intro @wp_regd <|
  And.intro @wp_regw <|
  And.intro @wp_reg <|
  And.intro @wp_skip <|
  And.intro @wp_exit <|
  And.intro @wp_ret <|
  @wp_seq
theorem bD7 : type_of% (
  @wp_block) :=
  
  @wp_block
theorem bU0 : type_of% (And.intro @E_pne <|
  And.intro @E_psame <|
  And.intro @elen_put <|
  And.intro @aev_t <|
  And.intro @aev_c <|
  And.intro @aev_f <|
  And.intro @pE_none <|
  And.intro @pstep_some <|
  And.intro @estep_some <|
  And.intro @gstep_tt <|
  And.intro @gstep_ff <|
  @gstep_tf) :=
  And.intro @E_pne <|
  And.intro @E_psame <|
  And.intro @elen_put <|
  And.intro @aev_t <|
  And.intro @aev_c <|
  And.intro @aev_f <|
  And.intro @pE_none <|
  And.intro @pstep_some <|
  And.intro @estep_some <|
  And.intro @gstep_tt <|
  And.intro @gstep_ff <|
  @gstep_tf
theorem bU1 : type_of% (And.intro @gstep_ft <|
  And.intro @gstep_und <|
  And.intro @astep_some <|
  And.intro @bstep_some <|
  And.intro @chkE_nil <|
  And.intro @chkE_cons <|
  And.intro @cstep_true <|
  And.intro @cstep_false <|
  And.intro @rstep_true <|
  And.intro @noNxt_nil <|
  And.intro @noNxt_cons <|
  @Bool.and_true) :=
  And.intro @gstep_ft <|
  And.intro @gstep_und <|
  And.intro @astep_some <|
  And.intro @bstep_some <|
  And.intro @chkE_nil <|
  And.intro @chkE_cons <|
  And.intro @cstep_true <|
  And.intro @cstep_false <|
  And.intro @rstep_true <|
  And.intro @noNxt_nil <|
  And.intro @noNxt_cons <|
  @Bool.and_true
theorem bU2 : type_of% (And.intro @Bool.true_and <|
  And.intro @Bool.and_false <|
  And.intro @Bool.false_and <|
  And.intro @Bool.or_true <|
  And.intro @Bool.true_or <|
  And.intro @Bool.or_false <|
  And.intro @Bool.false_or <|
  And.intro @Bool.and_eq_true <|
  And.intro @sel_true <|
  And.intro @sel_false <|
  And.intro @gP_bt <|
  @gP_bf) :=
  And.intro @Bool.true_and <|
  And.intro @Bool.and_false <|
  And.intro @Bool.false_and <|
  And.intro @Bool.or_true <|
  And.intro @Bool.true_or <|
  And.intro @Bool.or_false <|
  And.intro @Bool.false_or <|
  And.intro @Bool.and_eq_true <|
  And.intro @sel_true <|
  And.intro @sel_false <|
  And.intro @gP_bt <|
  @gP_bf
theorem bU3 : type_of% (And.intro @gP_st <|
  And.intro @gP_sf <|
  And.intro @gP_und <|
  And.intro @gpure_bt <|
  And.intro @gpure_bf <|
  And.intro @gpure_st <|
  And.intro @gpure_sf <|
  And.intro @gpure_und <|
  And.intro @gpure_sft <|
  And.intro @gpure_stf <|
  And.intro @gcall_sft <|
  @gcall_stf) :=
  And.intro @gP_st <|
  And.intro @gP_sf <|
  And.intro @gP_und <|
  And.intro @gpure_bt <|
  And.intro @gpure_bf <|
  And.intro @gpure_st <|
  And.intro @gpure_sf <|
  And.intro @gpure_und <|
  And.intro @gpure_sft <|
  And.intro @gpure_stf <|
  And.intro @gcall_sft <|
  @gcall_stf
theorem bU4 : type_of% (And.intro @gpure_tf <|
  And.intro @gpure_ft <|
  And.intro @gcall_bt <|
  And.intro @gcall_bf <|
  And.intro @gcall_st <|
  And.intro @gcall_sf <|
  And.intro @gcall_und <|
  And.intro @gcall_tf <|
  And.intro @gcall_ft <|
  And.intro @gcall_tt <|
  And.intro @gcall_ff <|
  @res1) :=
  And.intro @gpure_tf <|
  And.intro @gpure_ft <|
  And.intro @gcall_bt <|
  And.intro @gcall_bf <|
  And.intro @gcall_st <|
  And.intro @gcall_sf <|
  And.intro @gcall_und <|
  And.intro @gcall_tf <|
  And.intro @gcall_ft <|
  And.intro @gcall_tt <|
  And.intro @gcall_ff <|
  @res1
theorem bU5 : type_of% (And.intro @res2 <|
  And.intro @res0 <|
  And.intro @rc1 <|
  And.intro @rc2 <|
  And.intro @ar_loadn <|
  And.intro @ar_load1 <|
  And.intro @ae_store <|
  And.intro @ap_iad <|
  And.intro @ap_fad <|
  And.intro @fadV_ptr <|
  And.intro @ap_len <|
  @lenV_sl) :=
  And.intro @res2 <|
  And.intro @res0 <|
  And.intro @rc1 <|
  And.intro @rc2 <|
  And.intro @ar_loadn <|
  And.intro @ar_load1 <|
  And.intro @ae_store <|
  And.intro @ap_iad <|
  And.intro @ap_fad <|
  And.intro @fadV_ptr <|
  And.intro @ap_len <|
  @lenV_sl
theorem bU6 : type_of% (And.intro @lenV_nils <|
  And.intro @ap_pick <|
  And.intro @pickV_t <|
  And.intro @pickV_f <|
  And.intro @pickV_or <|
  And.intro @pickV_ors <|
  And.intro @pickV_orn <|
  And.intro @ar_call <|
  And.intro @pickV_and <|
  And.intro @pickV_ands <|
  And.intro @ap_not <|
  @notV_bool) :=
  And.intro @lenV_nils <|
  And.intro @ap_pick <|
  And.intro @pickV_t <|
  And.intro @pickV_f <|
  And.intro @pickV_or <|
  And.intro @pickV_ors <|
  And.intro @pickV_orn <|
  And.intro @ar_call <|
  And.intro @pickV_and <|
  And.intro @pickV_ands <|
  And.intro @ap_not <|
  @notV_bool
theorem bU7 : type_of% (And.intro @ap_ext <|
  And.intro @extV_0 <|
  And.intro @extV_1 <|
  And.intro @ap_build <|
  And.intro @fillP_nil <|
  And.intro @fillP_cons <|
  And.intro @aa_bsl1 <|
  And.intro @aa_box <|
  And.intro @boxV_dot <|
  And.intro @boxV_nd <|
  And.intro @fstep_nd <|
  @fstep_dot) :=
  And.intro @ap_ext <|
  And.intro @extV_0 <|
  And.intro @extV_1 <|
  And.intro @ap_build <|
  And.intro @fillP_nil <|
  And.intro @fillP_cons <|
  And.intro @aa_bsl1 <|
  And.intro @aa_box <|
  And.intro @boxV_dot <|
  And.intro @boxV_nd <|
  And.intro @fstep_nd <|
  @fstep_dot
theorem bU8 : type_of% (And.intro @push_put <|
  And.intro @reserve0 <|
  And.intro @reserve1_get <|
  And.intro @reserve1_get' <|
  And.intro @reserve1_born <|
  And.intro @reserve1_born' <|
  And.intro @sto_nd <|
  And.intro @sto_nd0 <|
  And.intro @lod_nd <|
  And.intro @lod_nd_dot <|
  And.intro @lod_nd_par <|
  @lod1_nd_t) :=
  And.intro @push_put <|
  And.intro @reserve0 <|
  And.intro @reserve1_get <|
  And.intro @reserve1_get' <|
  And.intro @reserve1_born <|
  And.intro @reserve1_born' <|
  And.intro @sto_nd <|
  And.intro @sto_nd0 <|
  And.intro @lod_nd <|
  And.intro @lod_nd_dot <|
  And.intro @lod_nd_par <|
  @lod1_nd_t
theorem bU9 : type_of% (And.intro @lod1_nd_x <|
  And.intro @lod_dot <|
  And.intro @lod1_dot_r <|
  And.intro @lod1_dot_c <|
  And.intro @sto_push_lt <|
  And.intro @lod_reserve <|
  And.intro @lod1_reserve <|
  And.intro @sto_nd_x <|
  And.intro @sto_nd_t <|
  And.intro @lt_lowed <|
  And.intro @kt_refl <|
  @kt_push) :=
  And.intro @lod1_nd_x <|
  And.intro @lod_dot <|
  And.intro @lod1_dot_r <|
  And.intro @lod1_dot_c <|
  And.intro @sto_push_lt <|
  And.intro @lod_reserve <|
  And.intro @lod1_reserve <|
  And.intro @sto_nd_x <|
  And.intro @sto_nd_t <|
  And.intro @lt_lowed <|
  And.intro @kt_refl <|
  @kt_push
theorem bU10 : type_of% (And.intro @kt_lowed <|
  And.intro @lod_push_lt <|
  And.intro @lod1_push_lt <|
  And.intro @lod_lowed <|
  And.intro @lod1_lowed <|
  And.intro @lod_lowd <|
  And.intro @lod1_lowd <|
  And.intro @bin_lss <|
  And.intro @bin_leq <|
  And.intro @bin_gtr <|
  And.intro @bin_geq <|
  @bin_eql) :=
  And.intro @kt_lowed <|
  And.intro @lod_push_lt <|
  And.intro @lod1_push_lt <|
  And.intro @lod_lowed <|
  And.intro @lod1_lowed <|
  And.intro @lod_lowd <|
  And.intro @lod1_lowd <|
  And.intro @bin_lss <|
  And.intro @bin_leq <|
  And.intro @bin_gtr <|
  And.intro @bin_geq <|
  @bin_eql
theorem bU11 : type_of% (And.intro @bin_neq <|
  And.intro @bin_add <|
  And.intro @bin_sub <|
  And.intro @bin_eqb <|
  And.intro @bin_neb <|
  And.intro @bin_eqd <|
  And.intro @bin_neqd <|
  And.intro @bin_eqd0 <|
  And.intro @bin_neqd0 <|
  And.intro @bin_eqn <|
  And.intro @bin_neqn <|
  @Nat.add_zero) :=
  And.intro @bin_neq <|
  And.intro @bin_add <|
  And.intro @bin_sub <|
  And.intro @bin_eqb <|
  And.intro @bin_neb <|
  And.intro @bin_eqd <|
  And.intro @bin_neqd <|
  And.intro @bin_eqd0 <|
  And.intro @bin_neqd0 <|
  And.intro @bin_eqn <|
  And.intro @bin_neqn <|
  @Nat.add_zero
theorem bU12 : type_of% (And.intro @Nat.zero_add <|
  And.intro @Bool.not_true <|
  And.intro @Bool.not_eq_true' <|
  And.intro @Bool.not_eq_false' <|
  And.intro @Bool.not_false <|
  And.intro @Bool.not_not <|
  And.intro @not_false_eq_true <|
  And.intro @true_and <|
  And.intro @and_true <|
  And.intro @Nat.one_ne_zero <|
  And.intro @Nat.zero_ne_one <|
  @Nat.zero_mul) :=
  And.intro @Nat.zero_add <|
  And.intro @Bool.not_true <|
  And.intro @Bool.not_eq_true' <|
  And.intro @Bool.not_eq_false' <|
  And.intro @Bool.not_false <|
  And.intro @Bool.not_not <|
  And.intro @not_false_eq_true <|
  And.intro @true_and <|
  And.intro @and_true <|
  And.intro @Nat.one_ne_zero <|
  And.intro @Nat.zero_ne_one <|
  @Nat.zero_mul
theorem bU13 : type_of% (And.intro @Nat.one_mul <|
  And.intro @lowed_next <|
  And.intro @lt_push <|
  And.intro @lt_push_same <|
  And.intro @same_self <|
  And.intro @same_push <|
  And.intro @same_lowed <|
  And.intro @same_lowed' <|
  And.intro @decide_true <|
  @decide_false) :=
  And.intro @Nat.one_mul <|
  And.intro @lowed_next <|
  And.intro @lt_push <|
  And.intro @lt_push_same <|
  And.intro @same_self <|
  And.intro @same_push <|
  And.intro @same_lowed <|
  And.intro @same_lowed' <|
  And.intro @decide_true <|
  @decide_false
theorem bD : type_of% (And.intro @bD0 <|
  And.intro @bD1 <|
  And.intro @bD2 <|
  And.intro @bD3 <|
  And.intro @bD4 <|
  And.intro @bD5 <|
  And.intro @bD6 <|
  @bD7) :=
  And.intro @bD0 <|
  And.intro @bD1 <|
  And.intro @bD2 <|
  And.intro @bD3 <|
  And.intro @bD4 <|
  And.intro @bD5 <|
  And.intro @bD6 <|
  @bD7
theorem bU : type_of% (And.intro @bU0 <|
  And.intro @bU1 <|
  And.intro @bU2 <|
  And.intro @bU3 <|
  And.intro @bU4 <|
  And.intro @bU5 <|
  And.intro @bU6 <|
  And.intro @bU7 <|
  And.intro @bU8 <|
  And.intro @bU9 <|
  And.intro @bU10 <|
  And.intro @bU11 <|
  And.intro @bU12 <|
  @bU13) :=
  And.intro @bU0 <|
  And.intro @bU1 <|
  And.intro @bU2 <|
  And.intro @bU3 <|
  And.intro @bU4 <|
  And.intro @bU5 <|
  And.intro @bU6 <|
  And.intro @bU7 <|
  And.intro @bU8 <|
  And.intro @bU9 <|
  And.intro @bU10 <|
  And.intro @bU11 <|
  And.intro @bU12 <|
  @bU13

theorem bS : type_of% (And.intro @List.all_cons.{0} <| And.intro @List.all_nil.{0} <| And.intro @Option.map_some.{0,0} <| And.intro @List.map_cons.{0,0} <| And.intro @List.map_nil.{0,0} <| @ne_eq.{1}) :=
  And.intro @List.all_cons.{0} <| And.intro @List.all_nil.{0} <| And.intro @Option.map_some.{0,0} <| And.intro @List.map_cons.{0,0} <| And.intro @List.map_nil.{0,0} <| @ne_eq.{1}
theorem bT : type_of% (And.intro @Int.ofNat_lt <| And.intro @Int.ofNat_le <| And.intro @exists_const.{1} <| And.intro @Option.map_none.{0,0} <| And.intro @beq_self_eq_true.{0} <| @decide_true) :=
  And.intro @Int.ofNat_lt <| And.intro @Int.ofNat_le <| And.intro @exists_const.{1} <| And.intro @Option.map_none.{0,0} <| And.intro @beq_self_eq_true.{0} <| @decide_true
theorem bN : type_of% (And.intro @ne_eq.{1} <| not_false_eq_true) :=
  And.intro @ne_eq.{1} <| not_false_eq_true
end Go.AM
end
/-
  The program follows no fixed order. Own work of this project.
-/
section
namespace Go.AM
open Go Go.Proofs
theorem mixed : Try.prog.follows .mixedOrders = true := by kernel_rfl
end Go.AM
end
/-
  Ranges over functions: code in a round's frame; an iterator's code, the round's body in the place of yield; the statement. Own work of this project.
-/
section
namespace Go.AM
open Go

variable {P : Program} {ρ : Ren}

/-! ### Fences -/
def fenceAt (ro : Option Nat) : Fence := { Fence.wide with round := ro }
theorem calls_in {ro : Option Nat} {n : Nat} {f : FuncId} {args : Array Value} {w : World} {R : Ending → World → Prop} (h : Calls P f args w R) : CallsIn (fenceAt ro) n P f args w R := by
  cases ro with
  | none => exact callsIn_wide.2 h
  | some l => exact CallsIn.inRound l (callsIn_wide.2 h)
theorem steps_in {ro : Option Nat} {m m' : Machine} (h : Steps P m m') : StepsIn (Machine.fenced P (fenceAt ro)) P m m' := by
  have := (stepsIn_wide (P := P)).2 h
  cases ro <;> exact this
theorem rows_in {ro : Option Nat} {n : Nat} {row : String} {args : Array Value} {w : World} {R : Value → World → Prop} (h : Rows P row args w R) : RowsIn (fenceAt ro) n P row args w R := fun c cs _ => by
  obtain ⟨v, w', h1, h2⟩ := h c cs
  exact ⟨v, w', h1, steps_in h2⟩
def isDefer : Op → Bool
  | .defer _ => true
  | _ => false
theorem oper_in {ro : Option Nat} {n : Nat} {o : Oper} {a : Act} {w : World} {K : Act → World → Prop} {Q : Exit → Act → World → Prop} (hnd : ro = none ∨ isDefer o.op = false) (h : o.wp P a w K Q) : o.wpIn (fenceAt ro) n P a w K Q := by
  refine ⟨fun _ _ => trivial, ?_⟩
  have he : o.semAt (fenceAt ro).round a.eval = execOp a.eval o := by
    rcases hnd with rfl | hnd
    · rfl
    · exact Oper.semAt_eq _ _ _ fun c e => by rw [e] at hnd; cases hnd
  rw [he]
  unfold Oper.wp at h
  generalize (execOp a.eval o).run P w = r at *
  cases r with
  | ok x w' =>
    cases x with
    | value v => exact h
    | skip => exact h
    | defer d => exact h
    | enter f args => exact ⟨fun q => by simp [fenceAt, Fence.wide] at q, calls_in h⟩
    | row row args => exact ⟨fun q => by simp [fenceAt, Fence.wide] at q, rows_in h⟩
    | round l f tmps a b => exact h.elim
    | _ => exact h.elim
  | halt x w' => cases x <;> first | exact h | exact h.elim
def noDefers (ops : Array Oper) : Bool := ops.all fun o => !isDefer o.op
def noDefer : Code → Bool
  | .region _ ops _ => noDefers ops
  | .seq a b | .cond _ a b => noDefer a && noDefer b
  | .block _ c | .loop c => noDefer c
  | .rangeFunc .. => false
  | _ => true
theorem noDefers_at {ops : Array Oper} (h : noDefers ops = true) {i : Nat} {o : Oper} (ho : ops[i]? = some o) : isDefer o.op = false := by
  have := (Array.all_eq_true'.1 h) o (Array.mem_of_getElem? ho)
  simpa using this
theorem any_in {ro : Option Nat} {n : Nat} {md : Region.Mode} {ops : Array Oper} {Q : Exit → Act → World → Prop} (hnd : ro = none ∨ noDefers ops = true) (hq : ¬ LetsOut Q) : ∀ (fuel : Nat) (listed : Array Bool) (a : Act) (w : World),
    wpAny P md ops Q fuel listed a w → wpAnyIn (fenceAt ro) n P md ops Q fuel listed a w
  | 0, _, _, _, h => h
  | fuel + 1, listed, a, w, h => by
    refine ⟨h.1, fun i hi => ?_⟩
    have h2 := h.2 i hi
    unfold wpOp at h2
    unfold wpOpIn
    cases ho : ops[i]? with
    | none => rw [ho] at h2; exact any_in hnd hq fuel _ a w h2
    | some o =>
      rw [ho] at h2
      simp only at h2 ⊢
      split
      · rename_i hw
        rw [if_pos hw] at h2
        rcases h2 with h2 | h2
        · exact Oper.wpIn_mono (fun a w => any_in hnd hq fuel _ a w) (oper_in (hnd.imp id fun q => noDefers_at q ho) h2)
        · exact absurd h2.2 hq
      · rename_i hw
        rw [if_neg hw] at h2
        exact ⟨fun _ _ => trivial, any_in hnd hq fuel _ _ w h2⟩

/-! ### Code in any such frame -/
variable {ro : Option Nat} {n : Nat}
theorem awops_in {call : Nat → List AV → St → Option (AV × St)} (hS : Sound P call) {ops : Array Oper} {base : Nat} {Q : Exit → Act → World → Prop} {Qa : Env → St → Prop} {df : List Deferred} {rest : List Nat} (hnd : ro = none ∨ noDefers ops = true) : ∀ (os : List Oper) (k : Nat) (l : List AOper) (env : Env) (s : St) (ρ : Ren) (a : Act) (w : World),
    (∀ j o, os[j]? = some o → ops[k + j]? = some o) → cregP P ops os = some l → awops call base l Qa env s → EnvR ρ env a.tmps → R s ρ w → Free s ρ → a.defers = df →
    (∀ env' s' ρ' a' w', Qa env' s' → Step s s' ρ ρ' w w' → R s' ρ' w' → Free s' ρ' → EnvR ρ' env' a'.tmps → a'.defers = df → wpOpsIn (fenceAt ro) n P ops Q rest a' w') → wpOpsIn (fenceAt ro) n P ops Q (List.range' k os.length ++ rest) a w
  | [], k, l, env, s, ρ, a, w, _, hl, h, hE, hR, hf, hd, hQ => by
    simp only [cregP] at hl
    injection hl with hl; subst hl
    simp only [awops] at h
    exact hQ env s ρ a w h (Step.refl _ _ _) hR hf hE hd
  | o :: os, k, l, env, s, ρ, a, w, hix, hl, h, hE, hR, hf, hd, hQ => by
    simp only [cregP] at hl
    split at hl
    · rename_i g l' hg hl'
      injection hl with hl; subst hl
      have ho : ops[k]? = some o := by simpa using hix 0 o (by simp)
      simp only [List.length_cons, List.range'_succ, List.cons_append, wpOpsIn, ho]
      have hix' : ∀ j o', os[j]? = some o' → ops[k + 1 + j]? = some o' := fun j o' hj => by have := hix (j + 1) o' (by simpa using hj); simpa [Nat.add_assoc, Nat.add_comm 1] using this
      have hnd' := hnd.imp id fun q => noDefers_at q ho
      simp only [awops] at h
      split at h
      · rename_i hwt
        rw [wanted_rel hE hg hwt, if_pos rfl]
        have hgo : ∀ v s1 ρ' w' c, awops call base l' Qa (putE env o.dst v) s1 → Step s s1 ρ ρ' w w' → R s1 ρ' w' → VR ρ' v c → wpOpsIn (fenceAt ro) n P ops Q (List.range' (k + 1) os.length ++ rest) (a.put o.dst c) w' := by
          intro v s1 ρ' w' c hrest hst hr hv
          refine awops_in (df := df) hS hnd os (k + 1) l' _ s1 ρ' _ w' hix' hl' hrest ((hE.step hf hst).put hv o.dst) hr (hf.step hst) ?_ ?_
          · cases hdst : o.dst <;> simpa [Act.put] using hd
          · intro env2 s2 ρ2 a2 w2 hq2 hst2 hr2 hf2 hE2 hd2
            exact hQ env2 s2 ρ2 a2 w2 hq2 (hst.trans hst2) hr2 hf2 hE2 hd2
        split at h
        · rename_i x hopx
          exact oper_in hnd' (next_wp hE hR hopx h fun v s1 w' c hrest hst hr hv => hgo v s1 ρ w' c hrest hst hr hv)
        · split at h
          · rename_i v s1 hop
            exact oper_in hnd' (aop_wp hS hE hR hf hop fun ρ' w' c hst hr hv => hgo v s1 ρ' w' c h hst hr hv)
          · exact h.elim
      · rename_i hwt
        rw [wanted_rel hE hg hwt, if_neg (by simp)]
        refine ⟨fun _ _ => trivial, awops_in (df := df) hS hnd os (k + 1) l' _ s ρ _ w hix' hl' h (hE.put (by simp [VR]) o.dst) hR hf ?_ hQ⟩
        cases hdst : o.dst <;> simpa [Act.put] using hd
      · exact h.elim
    · cases hl
theorem regd_in {call : Nat → List AV → St → Option (AV × St)} (hS : Sound P call) (hm : P.follows .mixedOrders = true) {id : Nat} {ops : Array Oper} {l : List AOper} {k m : Nat} {env env' : Env} {s s' : St} {a : Act} {w : World} {Q : Exit → Act → World → Prop} {df : List Deferred} (hnd : ro = none ∨ noDefers ops = true)
    (hcreg : cregD P (ancs ops) ops ops.toList 0 0 = some (l, m)) (hdraw : drawOk (ancs ops) ops l k = true) (h : aops call s.next l env (s.reserve k) = some (env', s')) (hE : EnvR ρ env a.tmps) (hR : R s ρ w) (hf : Free s ρ) (hd : a.defers = df)
    (hQ : ∀ ρ' a' w', Step s s' ρ ρ' w w' → R s' ρ' w' → Free s' ρ' → EnvR ρ' env' a'.tmps → a'.defers = df → Q .normal a' w') : (Code.region id ops true).wpIn (fenceAt ro) n P Q a w := by
  refine wpIn_mono (Q := fun e a w => e = .normal ∧ Q e a w) (wpIn_region_any hm (any_in hnd ?_ _ _ _ _ (regd_any hS hcreg hdraw h hE hR hf hd fun ρ' a' w' g1 g2 g3 g4 g5 => ⟨rfl, hQ ρ' a' w' g1 g2 g3 g4 g5⟩))) fun e a w q => q.2
  rintro ⟨_, _, h, _⟩
  cases h

theorem regw_in {call : Nat → List AV → St → Option (AV × St)} (hS : Sound P call) (hm : P.follows .mixedOrders = true) {id : Nat} {ops : Array Oper} {l : List AOper} {chk : List (Nat × Nat)} {env env' : Env} {s s' : St} {a : Act} {w : World} {Q : Exit → Act → World → Prop} {df : List Deferred} (hnd : ro = none ∨ noDefers ops = true)
    (hcreg : cregW P ops = some (l, chk)) (h : aops call s.next l env s = some (env', s')) (hc : chkP chk s env') (hE : EnvR ρ env a.tmps) (hR : R s ρ w) (hf : Free s ρ) (hd : a.defers = df)
    (hQ : ∀ ρ' a' w', Step s s' ρ ρ' w w' → R s' ρ' w' → Free s' ρ' → EnvR ρ' env' a'.tmps → a'.defers = df → Q .normal a' w') : (Code.region id ops true).wpIn (fenceAt ro) n P Q a w := by
  refine wpIn_mono (Q := fun e a w => e = .normal ∧ Q e a w) (wpIn_region_any hm (any_in hnd ?_ _ _ _ _ (regw_any hS hcreg h hc hE hR hf hd fun ρ' a' w' g1 g2 g3 g4 g5 => ⟨rfl, hQ ρ' a' w' g1 g2 g3 g4 g5⟩))) fun e a w q => q.2
  rintro ⟨_, _, h, _⟩
  cases h
theorem awp_in {call : Nat → List AV → St → Option (AV × St)} (hS : Sound P call) (hm : P.follows .mixedOrders = true) {df : List Deferred} : ∀ (c : Code) (Qa : AEx → Env → St → Prop) (env : Env) (s : St) (ρ : Ren) (a : Act) (w : World) (Q : Exit → Act → World → Prop), ro = none ∨ noDefer c = true →
    awp call (ccode P c) Qa env s → EnvR ρ env a.tmps → R s ρ w → Free s ρ → a.defers = df →
    (∀ x env' s' ρ' a' w', Qa x env' s' → Step s s' ρ ρ' w w' → R s' ρ' w' → Free s' ρ' → EnvR ρ' env' a'.tmps → a'.defers = df → Q x.out a' w') → c.wpIn (fenceAt ro) n P Q a w := by
  intro c
  induction c with
  | skip =>
    intro Qa env s ρ a w Q _ h hE hR hf hd hQ
    simp only [ccode, awp] at h
    exact wpIn_skip (hQ .nor env s ρ a w h (.refl _ _ _) hR hf hE hd)
  | exit id =>
    intro Qa env s ρ a w Q _ h hE hR hf hd hQ
    simp only [ccode, awp] at h
    exact wpIn_exit (hQ (.exit id) env s ρ a w h (.refl _ _ _) hR hf hE hd)
  | ret =>
    intro Qa env s ρ a w Q _ h hE hR hf hd hQ
    simp only [ccode, awp] at h
    exact wpIn_ret (hQ .ret env s ρ a w h (.refl _ _ _) hR hf hE hd)
  | seq c d ihc ihd =>
    intro Qa env s ρ a w Q hnd h hE hR hf hd hQ
    simp only [ccode, awp] at h
    have hnd1 : ro = none ∨ noDefer c = true := hnd.imp id fun q => by simp only [noDefer, Bool.and_eq_true] at q; exact q.1
    have hnd2 : ro = none ∨ noDefer d = true := hnd.imp id fun q => by simp only [noDefer, Bool.and_eq_true] at q; exact q.2
    refine wpIn_seq (ihc _ env s ρ a w _ hnd1 h hE hR hf hd fun x env1 s1 ρ1 a1 w1 hx g1 g2 g3 g4 g5 => ?_)
    cases x with
    | nor => exact ihd Qa env1 s1 ρ1 a1 w1 Q hnd2 hx g4 g2 g3 g5 fun y env2 s2 ρ2 a2 w2 hy k1 k2 k3 k4 k5 => hQ y env2 s2 ρ2 a2 w2 hy (g1.trans k1) k2 k3 k4 k5
    | exit id => exact hQ (.exit id) env1 s1 ρ1 a1 w1 hx g1 g2 g3 g4 g5
    | ret => exact hQ .ret env1 s1 ρ1 a1 w1 hx g1 g2 g3 g4 g5
  | cond q c d ihc ihd =>
    intro Qa env s ρ a w Q hnd h hE hR hf hd hQ
    have hnd1 : ro = none ∨ noDefer c = true := hnd.imp id fun q => by simp only [noDefer, Bool.and_eq_true] at q; exact q.1
    have hnd2 : ro = none ∨ noDefer d = true := hnd.imp id fun q => by simp only [noDefer, Bool.and_eq_true] at q; exact q.2
    simp only [ccode] at h
    split at h
    · rename_i hok
      simp only [awp] at h
      have hv := aev_rel hE hok
      split at h
      · rename_i hb
        rw [hb] at hv
        simp only [VR] at hv
        exact wpIn_cond_true hv (ihc Qa env s ρ a w Q hnd1 h hE hR hf hd hQ)
      · rename_i hb
        rw [hb] at hv
        simp only [VR] at hv
        exact wpIn_cond_false hv (ihd Qa env s ρ a w Q hnd2 h hE hR hf hd hQ)
      · exact h.elim
    · simp only [awp] at h
  | block id c ih =>
    intro Qa env s ρ a w Q hnd h hE hR hf hd hQ
    simp only [ccode, awp] at h
    refine wpIn_block (ih _ env s ρ a w _ hnd h hE hR hf hd fun x env1 s1 ρ1 a1 w1 hx g1 g2 g3 g4 g5 => ?_)
    cases x with
    | nor => exact hQ .nor env1 s1 ρ1 a1 w1 hx g1 g2 g3 g4 g5
    | exit i =>
      simp only at hx
      by_cases hi : i = id
      · rw [if_pos hi] at hx
        simp only [AEx.out, Exit.inBlock, if_pos hi]
        exact hQ .nor env1 s1 ρ1 a1 w1 hx g1 g2 g3 g4 g5
      · rw [if_neg hi] at hx
        simp only [AEx.out, Exit.inBlock, if_neg hi]
        exact hQ (.exit i) env1 s1 ρ1 a1 w1 hx g1 g2 g3 g4 g5
    | ret => exact hQ .ret env1 s1 ρ1 a1 w1 hx g1 g2 g3 g4 g5
  | loop c ih =>
    intro Qa env s ρ a w Q hnd h hE hR hf hd hQ
    simp only [ccode, awp] at h
    obtain ⟨m, h⟩ := h
    refine wpIn_loop_rounds m ?_
    induction m generalizing env s ρ a w with
    | zero => exact h.elim
    | succ m ihn =>
      simp only [arounds] at h
      simp only [Code.roundsIn]
      refine ih _ env s ρ a w _ hnd h hE hR hf hd fun x env1 s1 ρ1 a1 w1 hx g1 g2 g3 g4 g5 => ?_
      cases x with
      | nor => exact ihn env1 s1 ρ1 a1 w1 g4 g2 g3 g5 (fun y env2 s2 ρ2 a2 w2 hy k1 k2 k3 k4 k5 => hQ y env2 s2 ρ2 a2 w2 hy (g1.trans k1) k2 k3 k4 k5) hx
      | exit id => exact hQ (.exit id) env1 s1 ρ1 a1 w1 hx g1 g2 g3 g4 g5
      | ret => exact hQ .ret env1 s1 ρ1 a1 w1 hx g1 g2 g3 g4 g5
  | region id ops draw =>
    intro Qa env s ρ a w Q hnd h hE hR hf hd hQ
    cases draw
    · simp only [ccode] at h
      split at h
      · rename_i l hl
        simp only [awp] at h
        refine wpIn_region ?_
        rw [List.range_eq_range']
        have := awops_in (n := n) (Q := Q) (rest := []) hS hnd ops.toList 0 l env s ρ a w (fun j o hj => by simpa using hj) hl h hE hR hf hd fun env' s' ρ' a' w' hq g1 g2 g3 g4 g5 => hQ .nor env' s' ρ' a' w' hq g1 g2 g3 g4 g5
        simpa using this
      · simp only [awp] at h
    · simp only [ccode, cdraw] at h
      split at h
      · rename_i l chk hl
        simp only [awp] at h
        obtain ⟨env1, s1, ho, hck, hq⟩ := h
        exact regw_in hS hm hnd hl ho hck hE hR hf hd fun ρ' a' w' g1 g2 g3 g4 g5 => hQ .nor env1 s1 ρ' a' w' hq g1 g2 g3 g4 g5
      split at h
      · rename_i l k hl
        split at h
        · rename_i hdr
          simp only [awp] at h
          obtain ⟨env1, s1, ho, hq⟩ := h
          exact regd_in hS hm hnd hl hdr ho hE hR hf hd fun ρ' a' w' g1 g2 g3 g4 g5 => hQ .nor env1 s1 ρ' a' w' hq g1 g2 g3 g4 g5
        · simp only [awp] at h
      · simp only [awp] at h
  | _ =>
    intro Qa env s ρ a w Q _ h hE hR hf hd hQ
    simp only [ccode, awp] at h

end Go.AM
end
/-
  Ranges over functions, the second part: code with such statements, what holds behind it, and its soundness. Own work of this project.
-/
section
namespace Go.AM
open Go

/-- An iterator's code: regions in which yield is called stand apart. -/
inductive AY where
  | base (c : AC)
  | seq (a b : AY)
  | cond (c : AO) (a b : AY)
  | block (id : Nat) (c : AY)
  | loop (c : AY)
  | yld (pre : List AOper) (dst : Option Nat) (x : AO) (args : List AO) (post : List AOper)
/-- A function's code. 'rf': the function that is ranged over, yield's parameters, the assignment, the body; the iterators that may come up: number, temporaries, code. -/
inductive AI where
  | base (c : AC)
  | seq (a b : AI)
  | cond (c : AO) (a b : AI)
  | block (id : Nat) (c : AI)
  | loop (c : AI)
  | rf (g : AO) (ps : List Nat) (asg body : AC) (its : List (Nat × Nat × AY))
structure AFnI where
  ntmps : Nat
  results : List AR
  body : AI

def splitY : List AOper → Option (List AOper × Option Nat × AO × List AO × List AOper)
  | [] => none
  | o :: r => match o.op, o.guard with
    | .callv x false args, none => some ([], o.dst, x, args, r)
    | _, _ => (splitY r).map fun (a, d, x, args, b) => (o :: a, d, x, args, b)
variable (P : Program) in
def ccodeY : Code → AY
  | .seq a b => .seq (ccodeY a) (ccodeY b)
  | .cond c a b => if (copd c).ok then .cond (copd c) (ccodeY a) (ccodeY b) else .base .bad
  | .block id c => .block id (ccodeY c)
  | .loop c => .loop (ccodeY c)
  | .region id ops false => match cregP P ops ops.toList with
    | some l => match splitY l with
      | some (a, d, x, args, b) => .yld a d x args b
      | none => .base (ccode P (.region id ops false))
    | none => .base .bad
  | c => .base (ccode P c)
def hasRf : Code → Bool
  | .rangeFunc .. => true
  | .seq a b | .cond _ a b => hasRf a || hasRf b
  | .block _ c | .loop c => hasRf c
  | _ => false
variable (P : Program) (its : List Nat) in
def iters : List (Nat × Nat × AY) := its.filterMap fun f => match P.funcs[f]? with
  | some fn => if callable P f && fn.results.size == 0 then fn.body.map fun c => (f, fn.ntmps, ccodeY P c) else none
  | none => none
variable (P : Program) (its : List Nat) in
def ccodeI : Code → AI
  | .rangeFunc g ps asg body => if (copd g).ok && noDefer asg && noDefer body then .rf (copd g) ps.toList (ccode P asg) (ccode P body) (iters P its) else .base .bad
  | .seq a b => if hasRf a || hasRf b then .seq (ccodeI a) (ccodeI b) else .base (ccode P (.seq a b))
  | .cond c a b => if hasRf a || hasRf b then (if (copd c).ok then .cond (copd c) (ccodeI a) (ccodeI b) else .base .bad) else .base (ccode P (.cond c a b))
  | .block id c => if hasRf c then .block id (ccodeI c) else .base (ccode P (.block id c))
  | .loop c => if hasRf c then .loop (ccodeI c) else .base (ccode P (.loop c))
  | c => .base (ccode P c)
def cfnI (P : Program) (its : List Nat) (fn : Func) : Option AFnI :=
  match fn.body, cres P fn.results.toList with
  | some c, some rs => some { ntmps := fn.ntmps, results := rs, body := ccodeI P its c }
  | _, _ => none

def setPs (env : Env) : List Nat → List AV → Env
  | p :: ps, v :: vs => setPs (env.set p v) ps vs
  | _, _ => env
abbrev YP := Option AEx
def aroundsY (body : YP → (YP → AEx → Env → St → Prop) → Env → St → Prop) (Q : YP → AEx → Env → St → Prop) : Nat → YP → Env → St → Prop
  | 0, _, _, _ => False
  | n + 1, p, env, s => body p (fun p x e t => match x with
    | .nor => aroundsY body Q n p e t
    | x => Q p x e t) env s
/-- What holds behind an iterator's code; 'p': how a round has left the statement, if one has. -/
def awpY (call : Nat → List AV → St → Option (AV × St)) (yv : AV) (Yd : List AV → (YP → AV → St → Prop) → St → Prop) : AY → YP → (YP → AEx → Env → St → Prop) → Env → St → Prop
  | .base c, p, Q, env, s => awp call c (Q p) env s
  | .seq a b, p, Q, env, s => awpY call yv Yd a p (fun p x e t => match x with
    | .nor => awpY call yv Yd b p Q e t
    | x => Q p x e t) env s
  | .cond c a b, p, Q, env, s => match aev env c with
    | .bool true => awpY call yv Yd a p Q env s
    | .bool false => awpY call yv Yd b p Q env s
    | _ => False
  | .block id c, p, Q, env, s => awpY call yv Yd c p (fun p x e t => match x with
    | .exit i => if i = id then Q p .nor e t else Q p (.exit i) e t
    | x => Q p x e t) env s
  | .loop c, p, Q, env, s => ∃ n, aroundsY (awpY call yv Yd c) Q n p env s
  | .yld pre dst x args post, p, Q, env, s => awops call s.next pre (fun e t => aev e x = yv ∧ p = none ∧ Yd (args.map (aev e)) (fun p' v t' => awops call t'.next post (Q p' .nor) (putE e dst v) t') t) env s
/-- A round. -/
def roundY (call : Nat → List AV → St → Option (AV × St)) (ps : List Nat) (asg body : AC) (env : Env) (args : List AV) (K : YP → AV → St → Prop) (t : St) : Prop :=
  args.length = ps.length ∧ awp call asg (fun x e t1 => x = .nor ∧ awp call body (fun x _ t2 => match x with
    | .nor => K none (.bool true) t2
    | x => K (some x) (.bool false) t2) e t1) (setPs env ps args) t
def findI (f : Nat) : List (Nat × Nat × AY) → Option (Nat × AY)
  | [] => none
  | (g, n, y) :: r => if f = g then some (n, y) else findI f r
def awpI (call : Nat → List AV → St → Option (AV × St)) : AI → (AEx → Env → St → Prop) → Env → St → Prop
  | .base c, Q, env, s => awp call c Q env s
  | .seq a b, Q, env, s => awpI call a (fun x e t => match x with
    | .nor => awpI call b Q e t
    | x => Q x e t) env s
  | .cond c a b, Q, env, s => match aev env c with
    | .bool true => awpI call a Q env s
    | .bool false => awpI call b Q env s
    | _ => False
  | .block id c, Q, env, s => awpI call c (fun x e t => match x with
    | .exit i => if i = id then Q .nor e t else Q (.exit i) e t
    | x => Q x e t) env s
  | .loop c, Q, env, s => ∃ n, arounds (awpI call c) Q n env s
  | .rf g ps asg body its, Q, env, s => match aev env g with
    | .fn f caps => match findI f its with
      | some (n, y) => ∀ l, awpY call (.yd l) (roundY call ps asg body env) y none (fun p x _ t => (∀ i, x ≠ .exit i) ∧ match p with
          | none => Q .nor env t
          | some x => Q x env t) ((.yd l :: caps) ++ List.replicate (n - (AV.yd l :: caps).length) .und) s
      | none => False
    | _ => False

variable {P : Program} {ρ : Ren}

/-! ### Blocks that no abstract block stands for -/
def isSys : Obj → Bool
  | .loop _ | .deferred _ => true
  | _ => false
theorem sys_ne {s : St} {w : World} (hR : R s ρ w) {id : Nat} {L : Loc} {b : AB} (hL : ρ id = some L) (hg : s.get id = some b) (hb : b.live = true) {k : Nat} {o : Obj} (ho : w.heap[k]? = some o) (hs : isSys o = true) : L.b ≠ k := by
  rintro rfl
  have h := hR.blk id b L hg hL
  cases b <;> simp [AB.live] at hb <;> simp only [BlkOk] at h
  · obtain ⟨cs, e, fr, h1, _⟩ := h
    rw [ho] at h1; injection h1 with h1; subst h1; cases hs
  · obtain ⟨ces, h1, _⟩ := h
    rw [ho] at h1; injection h1 with h1; subst h1; cases hs
  · obtain ⟨m', h1, _⟩ := h
    rw [ho] at h1; injection h1 with h1; subst h1; cases hs
theorem Step.sys {s s' : St} {ρ' : Ren} {w w' : World} (h : Step s s' ρ ρ' w w') (hR : R s ρ w) {k : Nat} {o : Obj} (ho : w.heap[k]? = some o) (hs : isSys o = true) : w'.heap[k]? = some o := by
  rw [h.frame k (Array.getElem?_eq_some_iff.1 ho).1 fun id L b _ hL hg hb => sys_ne hR hL hg (AB.live_of_owned hb) ho hs]
  exact ho
theorem R.sys {s : St} {w : World} (hR : R s ρ w) {k : Nat} {o : Obj} (ho : w.heap[k]? = some o) (hs : isSys o = true) (o' : Obj) : R s ρ (w.putObj k o') := by
  refine ⟨fun id L hL => by rw [World.putObj_size]; exact hR.bound id L hL, fun id b L hg hL => ?_, hR.inj⟩
  have h := hR.blk id b L hg hL
  cases hb : b.live
  · cases b <;> simp [AB.live] at hb <;> exact trivial
  · exact h.same (World.putObj_heap_other (sys_ne hR hL hg hb ho hs))
theorem putObj_self {w : World} {k : Nat} {o : Obj} (h : w.heap[k]? = some o) : w.putObj k o = w := by
  have : w.heap.setIfInBounds k o = w.heap := by
    apply Array.ext_getElem?
    intro i
    by_cases hi : i = k
    · subst hi
      rw [Array.getElem?_setIfInBounds_self_of_lt (Array.getElem?_eq_some_iff.1 h).1, h]
    · rw [Array.getElem?_setIfInBounds_ne (Ne.symm hi)]
  unfold World.putObj
  rw [this]
theorem putObj_put (w : World) (k : Nat) (a b : Obj) : (w.putObj k a).putObj k b = w.putObj k b := by
  unfold World.putObj
  simp
theorem putObj_at {w : World} {k : Nat} {o o' : Obj} (h : w.heap[k]? = some o') : (w.putObj k o).heap[k]? = some o := World.putObj_heap_same (Array.getElem?_eq_some_iff.1 h).1
/-- The same step, told of the world in which the record lies as it lay. -/
theorem Step.reloop {s s' : St} {ρ' : Ren} {G W W' : World} {k : Nat} {o o0 : Obj} (h : Step s s' ρ ρ' W W') (hW : W = G.putObj k o) (hG : G.heap[k]? = some o0) : Step s s' ρ ρ' G (W'.putObj k o0) := by
  subst hW
  have hsz := h.size
  rw [World.putObj_size] at hsz
  have hk : k < W'.heap.size := Nat.lt_of_lt_of_le (Array.getElem?_eq_some_iff.1 hG).1 hsz
  refine ⟨h.next, h.low, h.ren, by rw [World.putObj_size]; exact hsz, h.os, h.tape, h.output, h.drawn, fun b hb H => ?_, h.old, fun id L b h1 h2 h3 h4 => by have := h.new id L b h1 h2 h3 h4; rwa [World.putObj_size] at this, h.unm⟩
  by_cases hbk : b = k
  · subst hbk
    rw [World.putObj_heap_same hk, hG]
  · rw [World.putObj_heap_other hbk, h.frame b (by rw [World.putObj_size]; exact hb) H, World.putObj_heap_other hbk]
/-- A block laid since. -/
theorem Step.putNew {s s' : St} {ρ' : Ren} {w w' : World} (h : Step s s' ρ ρ' w w') {k : Nat} (hk : w.heap.size ≤ k) (o : Obj) : Step s s' ρ ρ' w (w'.putObj k o) :=
  ⟨h.next, h.low, h.ren, by rw [World.putObj_size]; exact h.size, h.os, h.tape, h.output, h.drawn, fun b hb H => by rw [World.putObj_heap_other (by omega)]; exact h.frame b hb H, h.old, h.new, h.unm⟩
theorem lift_loop {s : St} {G W : World} {k : Nat} {o o0 : Obj} (hW : W = G.putObj k o) (hG : G.heap[k]? = some o0) (h0 : isSys o0 = true) (ho : isSys o = true) (hR : R s ρ G) : R s ρ W ∧ ∀ s' ρ' W', Step s s' ρ ρ' W W' → R s' ρ' W' →
    ∃ G', Step s s' ρ ρ' G G' ∧ W' = G'.putObj k o ∧ G'.heap[k]? = some o0 ∧ R s' ρ' G' := by
  have hRW : R s ρ W := by rw [hW]; exact hR.sys hG h0 o
  refine ⟨hRW, fun s' ρ' W' hst hR' => ?_⟩
  have hat : W.heap[k]? = some o := by rw [hW]; exact putObj_at hG
  have hat' := hst.sys hRW hat ho
  exact ⟨W'.putObj k o0, hst.reloop hW hG, by rw [putObj_put, putObj_self hat'], putObj_at hat', hR'.sys hat' ho o0⟩

theorem EnvR.sets : ∀ {ps : List Nat} {vs : List AV} {cs : List Value} {env : Env} {tmps : Array Value}, EnvR ρ env tmps → VRs ρ vs cs → EnvR ρ (setPs env ps vs) ((ps.zip cs).foldl (fun t (x : Nat × Value) => t.setIfInBounds x.1 x.2) tmps)
  | [], vs, cs, env, tmps, h, _ => by
    cases vs <;> simpa [setPs] using h
  | p :: ps, [], cs, env, tmps, h, k => by
    simp only [VRs] at k; subst k
    simpa [setPs] using h
  | p :: ps, v :: vs, cs, env, tmps, h, k => by
    simp only [VRs] at k
    obtain ⟨c, r, rfl, h1, h2⟩ := k
    have h3 : EnvR ρ (putE env (some p) v) (({ tmps := tmps, defers := [] } : Act).put (some p) c).tmps := EnvR.put (a := { tmps := tmps, defers := [] }) h h1 (some p)
    exact EnvR.sets (ps := ps) h3 h2
theorem zip_fold (ps : List Nat) (cs : List Value) (tmps : Array Value) : (ps.toArray.zip cs.toArray).foldl (fun t (x : Nat × Value) => t.setIfInBounds x.1 x.2) tmps = (ps.zip cs).foldl (fun t (x : Nat × Value) => t.setIfInBounds x.1 x.2) tmps := by
  rw [List.zip_toArray, List.foldl_toArray]
end Go.AM
end
