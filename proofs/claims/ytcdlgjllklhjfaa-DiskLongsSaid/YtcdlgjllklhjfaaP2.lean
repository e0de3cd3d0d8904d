/-
  Rules for stepping through the abstract machine's code by rewriting. Own work of this project.
-/
import Derived.Test.YtcdlgjllklhjfaaP1
import Derived.Test.YtcdlgjllklhjfaaProg
import Derived.KernelRfl
set_option linter.unusedVariables false
set_option linter.unusedSimpArgs false
section
namespace Go.AM
open Go

variable {call : Nat → List AV → St → Option (AV × St)}

/-! ### What holds behind the code may be weakened; loops with a bound -/
theorem awops_mono {base : Nat} {Q Q' : Env → St → Prop} (h : ∀ e t, Q e t → Q' e t) : ∀ (os : List AOper) (env : Env) (s : St), awops call base os Q env s → awops call base os Q' env s
  | [], env, s, k => h _ _ k
  | o :: rest, env, s, k => by
    simp only [awops] at k ⊢
    split at k
    · split at k
      · rename_i x hx
        unfold anext at k ⊢
        split at k
        · split at k
          · exact awops_mono h rest _ _ k
          · split at k
            · exact ⟨k.1, k.2.1, fun q => awops_mono h rest _ _ (k.2.2.1 q), fun e h1 h2 => awops_mono h rest _ _ (k.2.2.2 e h1 h2)⟩
            · exact k
          · exact k
        · exact k
      · split at k
        · exact awops_mono h rest _ _ k
        · exact k
    · exact awops_mono h rest _ _ k
    · exact k
theorem arounds_mono {b : (AEx → Env → St → Prop) → Env → St → Prop} (hb : ∀ {Q Q' : AEx → Env → St → Prop}, (∀ x e t, Q x e t → Q' x e t) → ∀ {e t}, b Q e t → b Q' e t) {Q Q' : AEx → Env → St → Prop} (h : ∀ x e t, Q x e t → Q' x e t) :
    ∀ (n m : Nat) {e : Env} {t : St}, n ≤ m → arounds b Q n e t → arounds b Q' m e t
  | 0, _, _, _, _, k => k.elim
  | n + 1, 0, _, _, hn, _ => by omega
  | n + 1, m + 1, e, t, hn, k => by
    simp only [arounds] at k ⊢
    refine hb (fun x e t q => ?_) k
    cases x with
    | nor => exact arounds_mono hb h n m (by omega) q
    | exit i => exact h _ _ _ q
    | ret => exact h _ _ _ q
theorem awp_mono : ∀ (c : AC) {Q Q' : AEx → Env → St → Prop} (h : ∀ x e t, Q x e t → Q' x e t) {env : Env} {s : St}, awp call c Q env s → awp call c Q' env s
  | .skip, _, _, h, _, _, k => h _ _ _ k
  | .reg os, _, _, h, _, _, k => awops_mono (h .nor) os _ _ k
  | .regd n os, _, _, h, _, _, k => by
    obtain ⟨e, t, h1, h2⟩ := k
    exact ⟨e, t, h1, h _ _ _ h2⟩
  | .regw os chk, _, _, h, _, _, k => by
    obtain ⟨e, t, h1, h3, h2⟩ := k
    exact ⟨e, t, h1, h3, h _ _ _ h2⟩
  | .seq a b, Q, Q', h, _, _, k => by
    refine awp_mono a (fun x e t q => ?_) k
    cases x with
    | nor => exact awp_mono b h q
    | exit i => exact h _ _ _ q
    | ret => exact h _ _ _ q
  | .cond c a b, Q, Q', h, env, s, k => by
    simp only [awp] at k ⊢
    split at k
    · exact awp_mono a h k
    · exact awp_mono b h k
    · exact k
  | .block id c, Q, Q', h, _, _, k => by
    refine awp_mono c (fun x e t q => ?_) k
    cases x with
    | nor => exact h _ _ _ q
    | exit i =>
      simp only at q ⊢
      split
      · rename_i hi
        rw [if_pos hi] at q
        exact h _ _ _ q
      · rename_i hi
        rw [if_neg hi] at q
        exact h _ _ _ q
    | ret => exact h _ _ _ q
  | .loop c, Q, Q', h, env, s, k => by
    obtain ⟨n, k⟩ := k
    exact ⟨n, arounds_mono (b := awp call c) (fun h => fun q => awp_mono c h q) h n n (Nat.le_refl _) k⟩
  | .exit _, _, _, h, _, _, k => h _ _ _ k
  | .ret, _, _, h, _, _, k => h _ _ _ k
  | .bad, _, _, _, _, _, k => k

theorem awp_loop {c : AC} {Q : AEx → Env → St → Prop} (I : Nat → Env → St → Prop)
    (step : ∀ n e t, I n e t → awp call c (fun x e' t' => match x with
      | .nor => ∃ m, m < n ∧ I m e' t'
      | x => Q x e' t') e t) {n : Nat} {e : Env} {t : St} (h : I n e t) : awp call (.loop c) Q e t := by
  have key : ∀ n e t, I n e t → arounds (awp call c) Q (n + 1) e t := by
    intro n
    induction n using Nat.strongRecOn with
    | ind n ih =>
      intro e t h
      simp only [arounds]
      refine awp_mono c (fun x e' t' q => ?_) (step n e t h)
      cases x with
      | nor =>
        obtain ⟨m, h1, h2⟩ := q
        exact arounds_mono (b := awp call c) (fun h => fun q => awp_mono c h q) (fun _ _ _ q => q) (m + 1) n (by omega) (ih m h1 e' t' h2)
      | exit i => exact q
      | ret => exact q
  exact ⟨n + 1, key n e t h⟩
universe u
theorem nrfl {α : Sort u} {a b : α} (h : a = b) : a = b := by
  cases h
  rfl
/-! ### Temporaries -/
def E (env : Env) (i : Nat) : AV := env.getD i .und
theorem aev_t (env : Env) (n : Nat) : aev env (.t n) = E env n := nrfl rfl
theorem aev_c (env : Env) (v : AV) : aev env (.c v) = v := nrfl rfl
theorem aev_f (env : Env) (n : Nat) : aev env (.f n) = .fn n [] := nrfl rfl
theorem E_same {env : Env} {i : Nat} (h : i < env.length) (v : AV) : E (env.set i v) i = v := by
  simp [E, h]
theorem E_ne {i j : Nat} (h : i ≠ j) (env : Env) (v : AV) : E (env.set i v) j = E env j := by
  simp [E, List.getElem?_set_ne h]
def pE (env : Env) (d : Option Nat) (v : AV) : Env := putE env d v
theorem pE_none (env : Env) (v : AV) : pE env none v = env := nrfl rfl
def elen (env : Env) : Nat := env.length
theorem E_pne {i j : Nat} (h : i ≠ j) (env : Env) (v : AV) : E (pE env (some i) v) j = E env j := E_ne h env v
theorem E_psame {env : Env} {i : Nat} (h : i < elen env) (v : AV) : E (pE env (some i) v) i = v := E_same h v
theorem elen_put (env : Env) (d : Option Nat) (v : AV) : elen (pE env d v) = elen env := by cases d <;> simp [elen, pE, putE]
theorem start_env {args : List AV} {n : Nat} (h : args.length ≤ n) {p : Env → Prop} (k : ∀ env : Env, elen env = n → (∀ i v, args[i]? = some v → E env i = v) → p env) : p (args ++ List.replicate (n - args.length) .und) := by
  refine k _ (by simp [elen]; omega) fun i v hi => ?_
  have := (List.getElem?_eq_some_iff.1 hi).1
  simp [E, List.getElem?_append_left this, hi]

/-! ### Steps -/
def pstep (o : Option AV) (K : AV → Prop) : Prop := match o with
  | some v => K v
  | none => False
def estep (o : Option (AV × St)) (K : AV → St → Prop) : Prop := match o with
  | some (v, s) => K v s
  | none => False
theorem pstep_some (v : AV) (K : AV → Prop) : pstep (some v) K = K v := nrfl rfl
theorem estep_some (v : AV) (s : St) (K : AV → St → Prop) : estep (some (v, s)) K = K v s := nrfl rfl
def isT (w : Bool) : AV → Bool
  | .bool b => b == w
  | _ => false
def gstep (v : AV) (w : Bool) (A B : Prop) : Prop := match v with
  | .bool b => if b = w then A else B
  | .any => False
  | _ => B
theorem gstep_tt (A B : Prop) : gstep (.bool true) true A B = A := nrfl rfl
theorem gstep_ff (A B : Prop) : gstep (.bool false) false A B = A := nrfl rfl
theorem gstep_tf (A B : Prop) : gstep (.bool true) false A B = B := nrfl rfl
theorem gstep_ft (A B : Prop) : gstep (.bool false) true A B = B := nrfl rfl
theorem gstep_und (w : Bool) (A B : Prop) : gstep .und w A B = B := nrfl rfl
@[congr] theorem gstep_congr {v v' : AV} (h : v = v') (w : Bool) (A B : Prop) : gstep v w A B = gstep v' w A B := by rw [h]
@[congr] theorem pstep_congr {o o' : Option AV} (h : o = o') (K : AV → Prop) : pstep o K = pstep o' K := by rw [h]
@[congr] theorem estep_congr {o o' : Option (AV × St)} (h : o = o') (K : AV → St → Prop) : estep o K = estep o' K := by rw [h]

variable {base : Nat} {d : Option Nat} {r : Option Nat} {fr : Bool} {rest : List AOper} {Q : Env → St → Prop} {env : Env} {s : St}

theorem st_nil : awops call base [] Q env s = Q env s := nrfl rfl
theorem st_guard (op : AOp) (t : Nat) (w : Bool) : awops call base (⟨d, op, some (t, w), r, fr⟩ :: rest) Q env s =
    gstep (E env t) w (awops call base (⟨d, op, none, r, fr⟩ :: rest) Q env s) (awops call base rest Q (pE env d .und) s) := by
  simp only [awops, wanted]
  unfold E
  generalize env.getD t .und = v
  cases v <;> try rfl
  rename_i b
  cases b <;> cases w <;> rfl
theorem awops_cons {op : AOp} (h0 : ∀ x, op ≠ .nxt x) : awops call base (⟨d, op, none, r, fr⟩ :: rest) Q env s = estep (aop call base ⟨d, op, none, r, fr⟩ env s) fun v t => awops call base rest Q (pE env d v) t := by
  cases op
  case nxt x => exact absurd rfl (h0 x)
  all_goals rfl
theorem st_pure {op : AOp} (h0 : ∀ x, op ≠ .nxt x) (h1 : aalloc env op = none) (h2 : aread call env s op = none) (h3 : ∀ s, aeff call env s op = none) :
    awops call base (⟨d, op, none, r, fr⟩ :: rest) Q env s = pstep (apure env op) fun v => awops call base rest Q (pE env d v) s := by
  rw [awops_cons h0]
  simp only [aop, h1, h2, h3]
  cases apure env op with
  | some v => rfl
  | none => cases fr <;> rfl
theorem st_read {op : AOp} (h0 : ∀ x, op ≠ .nxt x) (h1 : aalloc env op = none) (h2 : apure env op = none) (h3 : ∀ s, aeff call env s op = none) :
    awops call base (⟨d, op, none, r, false⟩ :: rest) Q env s = pstep (aread call env s op) fun v => awops call base rest Q (pE env d v) s := by
  rw [awops_cons h0]
  simp only [aop, h1, h2, h3, Bool.false_and, Bool.false_eq_true, if_false]
  cases aread call env s op with
  | some v => rfl
  | none => rfl
theorem st_eff {op : AOp} (h0 : ∀ x, op ≠ .nxt x) (h1 : aalloc env op = none) (h2 : apure env op = none) (h3 : aread call env s op = none) :
    awops call base (⟨d, op, none, r, false⟩ :: rest) Q env s = estep (aeff call env s op) fun v t => awops call base rest Q (pE env d v) t := by
  rw [awops_cons h0]
  simp only [aop, h1, h2, h3]
  rfl
theorem st_efff {op : AOp} (h0 : ∀ x, op ≠ .nxt x) (h1 : aalloc env op = none) (h2 : apure env op = none) (h3 : aread call env s op = none) :
    awops call base (⟨d, op, none, r, true⟩ :: rest) Q env s = estep (aeff call env { s with low := s.next } op) fun v t => if op.floor base s.next ≤ t.low then awops call base rest Q (pE env d v) { t with low := min s.low t.low } else False := by
  rw [awops_cons h0]
  simp only [aop, h1, h2, h3, if_true]
  cases aeff call env { s with low := s.next } op with
  | some v =>
    simp only [estep]
    split <;> rename_i h
    · split at h
      · rename_i h'
        injection h with h
        obtain ⟨rfl, rfl⟩ := Prod.mk.inj h
        rw [if_pos h']
      · cases h
    · split at h
      · cases h
      · rename_i h'
        rw [if_neg h']
  | none => rfl
def astep (o : Option ((Nat → AV) × AB)) (K : (Nat → AV) → AB → Prop) : Prop := match o with
  | some (v, b) => K v b
  | none => False
@[congr] theorem astep_congr {o o' : Option ((Nat → AV) × AB)} (h : o = o') (K : (Nat → AV) → AB → Prop) : astep o K = astep o' K := by rw [h]
theorem astep_some (v : Nat → AV) (b : AB) (K : (Nat → AV) → AB → Prop) : astep (some (v, b)) K = K v b := nrfl rfl
theorem st_alloc {op : AOp} (h0 : ∀ x, op ≠ .nxt x) (h1 : apure env op = none) (h2 : aread call env s op = none) (h3 : ∀ s, aeff call env s op = none) :
    awops call base (⟨d, op, none, none, fr⟩ :: rest) Q env s = astep (aalloc env op) fun v b => awops call base rest Q (pE env d (v s.next)) (s.push b) := by
  rw [awops_cons h0]
  simp only [aop, h1, h2, h3]
  cases aalloc env op with
  | some v => rfl
  | none => cases fr <;> rfl
def bstep (o : Option AB) (A : Prop) : Prop := match o with
  | some .unborn => A
  | _ => False
theorem bstep_some (A : Prop) : bstep (some .unborn) A = A := nrfl rfl
@[congr] theorem bstep_congr {o o' : Option AB} (h : o = o') (A : Prop) : bstep o A = bstep o' A := by rw [h]
theorem st_allocr {op : AOp} {j : Nat} (h0 : ∀ x, op ≠ .nxt x) (h1 : apure env op = none) (h2 : aread call env s op = none) (h3 : ∀ s, aeff call env s op = none) :
    awops call base (⟨d, op, none, some j, fr⟩ :: rest) Q env s = astep (aalloc env op) fun v b => bstep (s.get (base + j)) (awops call base rest Q (pE env d (v (base + j))) (s.born (base + j) b)) := by
  rw [awops_cons h0]
  simp only [aop, h1, h2, h3]
  cases aalloc env op with
  | some v =>
    simp only [astep, bstep]
    cases s.get (base + j) with
    | none => rfl
    | some b => cases b <;> rfl
  | none => cases fr <;> rfl

theorem st_mv (x : AO) : awops call base (⟨d, .mv x, none, r, fr⟩ :: rest) Q env s = pstep (some (aev env x)) fun v => awops call base rest Q (pE env d v) s := nrfl rfl
theorem st_pick (c a b : AO) : awops call base (⟨d, .pick c a b, none, r, fr⟩ :: rest) Q env s = pstep (apure env (.pick c a b)) fun v => awops call base rest Q (pE env d v) s := st_pure (by simp) rfl rfl fun _ => rfl
theorem st_build (z : List AV) (ps : List (Nat × Nat × AO)) : awops call base (⟨d, .build z ps, none, r, fr⟩ :: rest) Q env s = pstep (apure env (.build z ps)) fun v => awops call base rest Q (pE env d v) s := st_pure (by simp) rfl rfl fun _ => rfl
theorem st_bin (o : BinOp) (k : EK) (x y : AO) : awops call base (⟨d, .bin o k x y, none, r, fr⟩ :: rest) Q env s = pstep (binOp o k (aev env x) (aev env y)) fun v => awops call base rest Q (pE env d v) s := st_pure (op := .bin o k x y) (by simp) rfl rfl fun _ => rfl
theorem st_un (o : UnOp) (x : AO) : awops call base (⟨d, .un o x, none, r, fr⟩ :: rest) Q env s = pstep (apure env (.un o x)) fun v => awops call base rest Q (pE env d v) s := st_pure (by simp) rfl rfl fun _ => rfl
theorem st_conv (k : IntKind) (x : AO) : awops call base (⟨d, .conv k x, none, r, fr⟩ :: rest) Q env s = pstep (apure env (.conv k x)) fun v => awops call base rest Q (pE env d v) s := st_pure (by simp) rfl rfl fun _ => rfl
theorem st_mkfn (f : Nat) (x : List AO) : awops call base (⟨d, .mkfn f x, none, r, fr⟩ :: rest) Q env s = pstep (apure env (.mkfn f x)) fun v => awops call base rest Q (pE env d v) s := st_pure (by simp) rfl rfl fun _ => rfl
theorem st_slc (n : Nat) (x : AO) (a b c : Option AO) : awops call base (⟨d, .slc n x a b c, none, r, fr⟩ :: rest) Q env s = pstep (apure env (.slc n x a b c)) fun v => awops call base rest Q (pE env d v) s := st_pure (by simp) rfl rfl fun _ => rfl
theorem st_slcs (x : AO) (a b : Option AO) : awops call base (⟨d, .slcs x a b, none, r, fr⟩ :: rest) Q env s = pstep (apure env (.slcs x a b)) fun v => awops call base rest Q (pE env d v) s := st_pure (by simp) rfl rfl fun _ => rfl
theorem st_fad (o : Nat) (x : AO) : awops call base (⟨d, .fad o x, none, r, fr⟩ :: rest) Q env s = pstep (apure env (.fad o x)) fun v => awops call base rest Q (pE env d v) s := st_pure (by simp) rfl rfl fun _ => rfl
theorem st_fld (b : Bool) (o n : Nat) (x : AO) : awops call base (⟨d, .fld b o n x, none, r, fr⟩ :: rest) Q env s = pstep (apure env (.fld b o n x)) fun v => awops call base rest Q (pE env d v) s := st_pure (by simp) rfl rfl fun _ => rfl
theorem st_iad (n : Nat) (x i : AO) : awops call base (⟨d, .iad n x i, none, r, fr⟩ :: rest) Q env s = pstep (apure env (.iad n x i)) fun v => awops call base rest Q (pE env d v) s := st_pure (by simp) rfl rfl fun _ => rfl
theorem st_idxs (x i : AO) : awops call base (⟨d, .idxs x i, none, r, fr⟩ :: rest) Q env s = pstep (apure env (.idxs x i)) fun v => awops call base rest Q (pE env d v) s := st_pure (by simp) rfl rfl fun _ => rfl
theorem st_ext (x : AO) (i : Nat) : awops call base (⟨d, .ext x i, none, r, fr⟩ :: rest) Q env s = pstep (apure env (.ext x i)) fun v => awops call base rest Q (pE env d v) s := st_pure (by simp) rfl rfl fun _ => rfl
theorem st_len (x : AO) : awops call base (⟨d, .len .sl x, none, r, fr⟩ :: rest) Q env s = pstep (apure env (.len .sl x)) fun v => awops call base rest Q (pE env d v) s := st_pure (by simp) rfl rfl fun _ => rfl
theorem st_lens (x : AO) : awops call base (⟨d, .len .st x, none, r, fr⟩ :: rest) Q env s = pstep (apure env (.len .st x)) fun v => awops call base rest Q (pE env d v) s := st_pure (by simp) rfl rfl fun _ => rfl
theorem st_cap (x : AO) : awops call base (⟨d, .cap x, none, r, fr⟩ :: rest) Q env s = pstep (apure env (.cap x)) fun v => awops call base rest Q (pE env d v) s := st_pure (by simp) rfl rfl fun _ => rfl
theorem st_mm (b : Bool) (x : List AO) : awops call base (⟨d, .mm b x, none, r, fr⟩ :: rest) Q env s = pstep (apure env (.mm b x)) fun v => awops call base rest Q (pE env d v) s := st_pure (by simp) rfl rfl fun _ => rfl
theorem st_nchk (x : AO) : awops call base (⟨d, .nchk x, none, r, fr⟩ :: rest) Q env s = pstep (apure env (.nchk x)) fun v => awops call base rest Q (pE env d v) s := st_pure (by simp) rfl rfl fun _ => rfl
theorem st_load1 (x : AO) : awops call base (⟨d, .load1 x, none, r, false⟩ :: rest) Q env s = pstep (aread call env s (.load1 x)) fun v => awops call base rest Q (pE env d v) s := st_read (by simp) rfl rfl fun _ => rfl
theorem st_loadn (n : Nat) (x : AO) : awops call base (⟨d, .loadn n x, none, r, false⟩ :: rest) Q env s = pstep (aread call env s (.loadn n x)) fun v => awops call base rest Q (pE env d v) s := st_read (by simp) rfl rfl fun _ => rfl
theorem st_b2s (x : AO) : awops call base (⟨d, .b2s x, none, r, false⟩ :: rest) Q env s = pstep (aread call env s (.b2s x)) fun v => awops call base rest Q (pE env d v) s := st_read (by simp) rfl rfl fun _ => rfl
theorem st_look (z : AV) (k : EK) (ok : Bool) (m i : AO) : awops call base (⟨d, .look z k ok m i, none, r, false⟩ :: rest) Q env s = pstep (aread call env s (.look z k ok m i)) fun v => awops call base rest Q (pE env d v) s := st_read (by simp) rfl rfl fun _ => rfl
theorem st_lenm (x : AO) : awops call base (⟨d, .len .mp x, none, r, false⟩ :: rest) Q env s = pstep (aread call env s (.len .mp x)) fun v => awops call base rest Q (pE env d v) s := st_read (by simp) rfl rfl fun _ => rfl
theorem st_ent (x : AO) : awops call base (⟨d, .ent x, none, r, false⟩ :: rest) Q env s = pstep (aread call env s (.ent x)) fun v => awops call base rest Q (pE env d v) s := st_read (by simp) rfl rfl fun _ => rfl
theorem st_calld (f : Nat) (l : List AO) : awops call base (⟨d, .call f true l, none, r, false⟩ :: rest) Q env s = pstep (aread call env s (.call f true l)) fun v => awops call base rest Q (pE env d v) s := st_read (by simp) rfl rfl fun _ => rfl
theorem st_callvd (x : AO) (l : List AO) : awops call base (⟨d, .callv x true l, none, r, false⟩ :: rest) Q env s = pstep (aread call env s (.callv x true l)) fun v => awops call base rest Q (pE env d v) s := st_read (by simp) rfl rfl fun _ => rfl
theorem st_call (f : Nat) (l : List AO) : awops call base (⟨d, .call f false l, none, r, false⟩ :: rest) Q env s = estep (acall (call f) false (l.map (aev env)) s) fun v t => awops call base rest Q (pE env d v) t := st_eff (op := .call f false l) (by simp) rfl rfl rfl
theorem st_callv (x : AO) (l : List AO) : awops call base (⟨d, .callv x false l, none, r, false⟩ :: rest) Q env s = estep (aeff call env s (.callv x false l)) fun v t => awops call base rest Q (pE env d v) t := st_eff (by simp) rfl rfl rfl
theorem st_store (n : Nat) (a x : AO) : awops call base (⟨d, .store n a x, none, r, false⟩ :: rest) Q env s = estep (aeff call env s (.store n a x)) fun v t => awops call base rest Q (pE env d v) t := st_eff (by simp) rfl rfl rfl
theorem st_storef (n : Nat) (a x : AO) : awops call base (⟨d, .store n a x, none, r, true⟩ :: rest) Q env s = estep (aeff call env { s with low := s.next } (.store n a x)) fun v t => if (AOp.store n a x).floor base s.next ≤ t.low then awops call base rest Q (pE env d v) { t with low := min s.low t.low } else False := st_efff (by simp) rfl rfl rfl
theorem st_mkmap (x : Option AO) : awops call base (⟨d, .mkmap x, none, r, false⟩ :: rest) Q env s = estep (aeff call env s (.mkmap x)) fun v t => awops call base rest Q (pE env d v) t := st_eff (by simp) rfl rfl rfl
theorem st_mset (k : EK) (m i x : AO) : awops call base (⟨d, .mset k m i x, none, r, false⟩ :: rest) Q env s = estep (aeff call env s (.mset k m i x)) fun v t => awops call base rest Q (pE env d v) t := st_eff (by simp) rfl rfl rfl
theorem st_mdel (k : EK) (m i : AO) : awops call base (⟨d, .mdel k m i, none, r, false⟩ :: rest) Q env s = estep (aeff call env s (.mdel k m i)) fun v t => awops call base rest Q (pE env d v) t := st_eff (by simp) rfl rfl rfl
theorem st_rng (x : AO) : awops call base (⟨d, .rng x, none, r, false⟩ :: rest) Q env s = estep (aeff call env s (.rng x)) fun v t => awops call base rest Q (pE env d v) t := st_eff (by simp) rfl rfl rfl
theorem st_app (sz b : Nat) (z : List AV) (a x : AO) : awops call base (⟨d, .app sz b z a x, none, r, false⟩ :: rest) Q env s = estep (aeff call env s (.app sz b z a x)) fun v t => awops call base rest Q (pE env d v) t := st_eff (by simp) rfl rfl rfl
theorem st_appz (sz b : Nat) (z : List AV) (a x : AO) : awops call base (⟨d, .appz sz b z a x, none, r, false⟩ :: rest) Q env s = estep (aeff call env s (.appz sz b z a x)) fun v t => awops call base rest Q (pE env d v) t := st_eff (by simp) rfl rfl rfl
theorem st_clr (z : List AV) (x : AO) : awops call base (⟨d, .clr z x, none, r, false⟩ :: rest) Q env s = estep (aeff call env s (.clr z x)) fun v t => awops call base rest Q (pE env d v) t := st_eff (by simp) rfl rfl rfl
theorem st_copy (sz : Nat) (a x : AO) : awops call base (⟨d, .copy sz a x, none, r, false⟩ :: rest) Q env s = estep (aeff call env s (.copy sz a x)) fun v t => awops call base rest Q (pE env d v) t := st_eff (by simp) rfl rfl rfl
theorem st_allo (z : List AV) : awops call base (⟨d, .alloc z, none, none, fr⟩ :: rest) Q env s = awops call base rest Q (pE env d (.ptr s.next 0)) (s.push (.row z true)) := nrfl rfl
theorem st_allor (z : List AV) (j : Nat) : awops call base (⟨d, .alloc z, none, some j, fr⟩ :: rest) Q env s = bstep (s.get (base + j)) (awops call base rest Q (pE env d (.ptr (base + j) 0)) (s.born (base + j) (.row z true))) := st_allocr (op := .alloc z) (by simp) rfl rfl fun _ => rfl
theorem st_box (n : Nat) (x : AO) : awops call base (⟨d, .box n x, none, none, fr⟩ :: rest) Q env s = astep (aalloc env (.box n x)) fun v b => awops call base rest Q (pE env d (v s.next)) (s.push b) := st_alloc (by simp) rfl rfl fun _ => rfl
theorem st_boxr (n : Nat) (x : AO) (j : Nat) : awops call base (⟨d, .box n x, none, some j, fr⟩ :: rest) Q env s = astep (aalloc env (.box n x)) fun v b => bstep (s.get (base + j)) (awops call base rest Q (pE env d (v (base + j))) (s.born (base + j) b)) := st_allocr (by simp) rfl rfl fun _ => rfl
theorem st_bsl (z : List AV) (l n : Nat) (ps : List (Nat × AO)) : awops call base (⟨d, .bsl z l n ps, none, none, fr⟩ :: rest) Q env s = astep (aalloc env (.bsl z l n ps)) fun v b => awops call base rest Q (pE env d (v s.next)) (s.push b) := st_alloc (by simp) rfl rfl fun _ => rfl
theorem st_bslr (z : List AV) (l n : Nat) (ps : List (Nat × AO)) (j : Nat) : awops call base (⟨d, .bsl z l n ps, none, some j, fr⟩ :: rest) Q env s = astep (aalloc env (.bsl z l n ps)) fun v b => bstep (s.get (base + j)) (awops call base rest Q (pE env d (v (base + j))) (s.born (base + j) b)) := st_allocr (by simp) rfl rfl fun _ => rfl
theorem st_mksl (z : List AV) (n : Nat) (a b : AO) : awops call base (⟨d, .mksl z n a b, none, none, fr⟩ :: rest) Q env s = astep (aalloc env (.mksl z n a b)) fun v b => awops call base rest Q (pE env d (v s.next)) (s.push b) := st_alloc (by simp) rfl rfl fun _ => rfl
theorem st_mkslr (z : List AV) (n : Nat) (a b : AO) (j : Nat) : awops call base (⟨d, .mksl z n a b, none, some j, fr⟩ :: rest) Q env s = astep (aalloc env (.mksl z n a b)) fun v b => bstep (s.get (base + j)) (awops call base rest Q (pE env d (v (base + j))) (s.born (base + j) b)) := st_allocr (by simp) rfl rfl fun _ => rfl


/-! ### Steps behind a guard -/
def sel (b : Bool) (x : AV) : AV := if b then x else .und
theorem sel_true (x : AV) : sel true x = x := nrfl rfl
theorem sel_false (x : AV) : sel false x = .und := nrfl rfl
def gP (w : Bool) (v : AV) : Prop := isT w v = true
theorem gP_bt (b : Bool) : gP true (.bool b) = (b = true) := by cases b <;> simp [gP, isT]
theorem gP_bf (b : Bool) : gP false (.bool b) = (b = false) := by cases b <;> simp [gP, isT]
theorem gP_st (p b : Bool) : gP true (sel p (.bool b)) = (p = true ∧ b = true) := by cases p <;> cases b <;> simp [gP, isT, sel]
theorem gP_sf (p b : Bool) : gP false (sel p (.bool b)) = (p = true ∧ b = false) := by cases p <;> cases b <;> simp [gP, isT, sel]
theorem gP_und (w : Bool) : gP w .und = False := by simp [gP, isT]
def gpure (v : AV) (w : Bool) (o : Option AV) (K : AV → Prop) : Prop := gstep v w (pstep o K) (K .und)
@[congr] theorem gpure_congr {v v' : AV} {w : Bool} {g : Prop} {o o' : Option AV} (h : v = v') (hg : gP w v' = g) (ho : g → o = o') (K : AV → Prop) : gpure v w o K = gpure v' w o' K := by
  subst h
  subst hg
  unfold gpure
  by_cases hv : isT w v = true
  · rw [ho hv]
  · cases v <;> try rfl
    rename_i b
    cases b <;> cases w <;> first | rfl | exact absurd rfl hv
theorem gpure_bt (b : Bool) (x : AV) (K : AV → Prop) : gpure (.bool b) true (some x) K = K (sel b x) := by cases b <;> rfl
theorem gpure_bf (b : Bool) (x : AV) (K : AV → Prop) : gpure (.bool b) false (some x) K = K (sel (!b) x) := by cases b <;> rfl
theorem gpure_st (p b : Bool) (x : AV) (K : AV → Prop) : gpure (sel p (.bool b)) true (some x) K = K (sel (p && b) x) := by cases p <;> cases b <;> rfl
theorem gpure_sf (p b : Bool) (x : AV) (K : AV → Prop) : gpure (sel p (.bool b)) false (some x) K = K (sel (p && !b) x) := by cases p <;> cases b <;> rfl
theorem gpure_und (w : Bool) (o : Option AV) (K : AV → Prop) : gpure .und w o K = K .und := nrfl rfl
theorem gpure_tf (o : Option AV) (K : AV → Prop) : gpure (.bool true) false o K = K .und := nrfl rfl
theorem gpure_ft (o : Option AV) (K : AV → Prop) : gpure (.bool false) true o K = K .und := nrfl rfl
theorem gpure_sft (p : Bool) (o : Option AV) (K : AV → Prop) : gpure (sel p (.bool false)) true o K = K .und := by cases p <;> rfl
theorem gpure_stf (p : Bool) (o : Option AV) (K : AV → Prop) : gpure (sel p (.bool true)) false o K = K .und := by cases p <;> rfl
def gcall (s : St) (v : AV) (w : Bool) (o : Option (AV × St)) (K : AV → St → Prop) : Prop := gstep v w (estep o K) (K .und s)
@[congr] theorem gcall_congr {s : St} {v v' : AV} {w : Bool} {g : Prop} {o o' : Option (AV × St)} (h : v = v') (hg : gP w v' = g) (ho : g → o = o') (K : AV → St → Prop) : gcall s v w o K = gcall s v' w o' K := by
  subst h
  subst hg
  unfold gcall
  by_cases hv : isT w v = true
  · rw [ho hv]
  · cases v <;> try rfl
    rename_i b
    cases b <;> cases w <;> first | rfl | exact absurd rfl hv
theorem gcall_bt (s : St) (b : Bool) (x : AV) (K : AV → St → Prop) : gcall s (.bool b) true (some (x, s)) K = K (sel b x) s := by cases b <;> rfl
theorem gcall_bf (s : St) (b : Bool) (x : AV) (K : AV → St → Prop) : gcall s (.bool b) false (some (x, s)) K = K (sel (!b) x) s := by cases b <;> rfl
theorem gcall_st (s : St) (p b : Bool) (x : AV) (K : AV → St → Prop) : gcall s (sel p (.bool b)) true (some (x, s)) K = K (sel (p && b) x) s := by cases p <;> cases b <;> rfl
theorem gcall_sf (s : St) (p b : Bool) (x : AV) (K : AV → St → Prop) : gcall s (sel p (.bool b)) false (some (x, s)) K = K (sel (p && !b) x) s := by cases p <;> cases b <;> rfl
theorem gcall_und (s : St) (w : Bool) (o : Option (AV × St)) (K : AV → St → Prop) : gcall s .und w o K = K .und s := nrfl rfl
theorem gcall_tf (s : St) (o : Option (AV × St)) (K : AV → St → Prop) : gcall s (.bool true) false o K = K .und s := nrfl rfl
theorem gcall_ft (s : St) (o : Option (AV × St)) (K : AV → St → Prop) : gcall s (.bool false) true o K = K .und s := nrfl rfl
theorem gcall_sft (s : St) (p : Bool) (o : Option (AV × St)) (K : AV → St → Prop) : gcall s (sel p (.bool false)) true o K = K .und s := by cases p <;> rfl
theorem gcall_stf (s : St) (p : Bool) (o : Option (AV × St)) (K : AV → St → Prop) : gcall s (sel p (.bool true)) false o K = K .und s := by cases p <;> rfl
theorem gcall_tt (s : St) (o : Option (AV × St)) (K : AV → St → Prop) : gcall s (.bool true) true o K = estep o K := nrfl rfl
theorem gcall_ff (s : St) (o : Option (AV × St)) (K : AV → St → Prop) : gcall s (.bool false) false o K = estep o K := nrfl rfl

theorem sg_mv (x : AO) (t : Nat) (w : Bool) : awops call base (⟨d, .mv x, some (t, w), r, fr⟩ :: rest) Q env s = gpure (E env t) w (some (aev env x)) fun v => awops call base rest Q (pE env d v) s := by
  rw [st_guard, st_mv]
  rfl
theorem sg_pick (c a b : AO) (t : Nat) (w : Bool) : awops call base (⟨d, .pick c a b, some (t, w), r, fr⟩ :: rest) Q env s = gpure (E env t) w (apure env (.pick c a b)) fun v => awops call base rest Q (pE env d v) s := by
  rw [st_guard, st_pick]
  rfl
theorem sg_build (z : List AV) (ps : List (Nat × Nat × AO)) (t : Nat) (w : Bool) : awops call base (⟨d, .build z ps, some (t, w), r, fr⟩ :: rest) Q env s = gpure (E env t) w (apure env (.build z ps)) fun v => awops call base rest Q (pE env d v) s := by
  rw [st_guard, st_build]
  rfl
theorem sg_bin (o : BinOp) (k : EK) (x y : AO) (t : Nat) (w : Bool) : awops call base (⟨d, .bin o k x y, some (t, w), r, fr⟩ :: rest) Q env s = gpure (E env t) w (binOp o k (aev env x) (aev env y)) fun v => awops call base rest Q (pE env d v) s := by
  rw [st_guard, st_bin]
  rfl
theorem sg_un (o : UnOp) (x : AO) (t : Nat) (w : Bool) : awops call base (⟨d, .un o x, some (t, w), r, fr⟩ :: rest) Q env s = gpure (E env t) w (apure env (.un o x)) fun v => awops call base rest Q (pE env d v) s := by
  rw [st_guard, st_un]
  rfl
theorem sg_conv (k : IntKind) (x : AO) (t : Nat) (w : Bool) : awops call base (⟨d, .conv k x, some (t, w), r, fr⟩ :: rest) Q env s = gpure (E env t) w (apure env (.conv k x)) fun v => awops call base rest Q (pE env d v) s := by
  rw [st_guard, st_conv]
  rfl
theorem sg_mkfn (f : Nat) (x : List AO) (t : Nat) (w : Bool) : awops call base (⟨d, .mkfn f x, some (t, w), r, fr⟩ :: rest) Q env s = gpure (E env t) w (apure env (.mkfn f x)) fun v => awops call base rest Q (pE env d v) s := by
  rw [st_guard, st_mkfn]
  rfl
theorem sg_slc (n : Nat) (x : AO) (a b c : Option AO) (t : Nat) (w : Bool) : awops call base (⟨d, .slc n x a b c, some (t, w), r, fr⟩ :: rest) Q env s = gpure (E env t) w (apure env (.slc n x a b c)) fun v => awops call base rest Q (pE env d v) s := by
  rw [st_guard, st_slc]
  rfl
theorem sg_slcs (x : AO) (a b : Option AO) (t : Nat) (w : Bool) : awops call base (⟨d, .slcs x a b, some (t, w), r, fr⟩ :: rest) Q env s = gpure (E env t) w (apure env (.slcs x a b)) fun v => awops call base rest Q (pE env d v) s := by
  rw [st_guard, st_slcs]
  rfl
theorem sg_fad (o : Nat) (x : AO) (t : Nat) (w : Bool) : awops call base (⟨d, .fad o x, some (t, w), r, fr⟩ :: rest) Q env s = gpure (E env t) w (apure env (.fad o x)) fun v => awops call base rest Q (pE env d v) s := by
  rw [st_guard, st_fad]
  rfl
theorem sg_fld (b : Bool) (o n : Nat) (x : AO) (t : Nat) (w : Bool) : awops call base (⟨d, .fld b o n x, some (t, w), r, fr⟩ :: rest) Q env s = gpure (E env t) w (apure env (.fld b o n x)) fun v => awops call base rest Q (pE env d v) s := by
  rw [st_guard, st_fld]
  rfl
theorem sg_iad (n : Nat) (x i : AO) (t : Nat) (w : Bool) : awops call base (⟨d, .iad n x i, some (t, w), r, fr⟩ :: rest) Q env s = gpure (E env t) w (apure env (.iad n x i)) fun v => awops call base rest Q (pE env d v) s := by
  rw [st_guard, st_iad]
  rfl
theorem sg_idxs (x i : AO) (t : Nat) (w : Bool) : awops call base (⟨d, .idxs x i, some (t, w), r, fr⟩ :: rest) Q env s = gpure (E env t) w (apure env (.idxs x i)) fun v => awops call base rest Q (pE env d v) s := by
  rw [st_guard, st_idxs]
  rfl
theorem sg_ext (x : AO) (i : Nat) (t : Nat) (w : Bool) : awops call base (⟨d, .ext x i, some (t, w), r, fr⟩ :: rest) Q env s = gpure (E env t) w (apure env (.ext x i)) fun v => awops call base rest Q (pE env d v) s := by
  rw [st_guard, st_ext]
  rfl
theorem sg_len (x : AO) (t : Nat) (w : Bool) : awops call base (⟨d, .len .sl x, some (t, w), r, fr⟩ :: rest) Q env s = gpure (E env t) w (apure env (.len .sl x)) fun v => awops call base rest Q (pE env d v) s := by
  rw [st_guard, st_len]
  rfl
theorem sg_lens (x : AO) (t : Nat) (w : Bool) : awops call base (⟨d, .len .st x, some (t, w), r, fr⟩ :: rest) Q env s = gpure (E env t) w (apure env (.len .st x)) fun v => awops call base rest Q (pE env d v) s := by
  rw [st_guard, st_lens]
  rfl
theorem sg_cap (x : AO) (t : Nat) (w : Bool) : awops call base (⟨d, .cap x, some (t, w), r, fr⟩ :: rest) Q env s = gpure (E env t) w (apure env (.cap x)) fun v => awops call base rest Q (pE env d v) s := by
  rw [st_guard, st_cap]
  rfl
theorem sg_mm (b : Bool) (x : List AO) (t : Nat) (w : Bool) : awops call base (⟨d, .mm b x, some (t, w), r, fr⟩ :: rest) Q env s = gpure (E env t) w (apure env (.mm b x)) fun v => awops call base rest Q (pE env d v) s := by
  rw [st_guard, st_mm]
  rfl
theorem sg_nchk (x : AO) (t : Nat) (w : Bool) : awops call base (⟨d, .nchk x, some (t, w), r, fr⟩ :: rest) Q env s = gpure (E env t) w (apure env (.nchk x)) fun v => awops call base rest Q (pE env d v) s := by
  rw [st_guard, st_nchk]
  rfl
theorem sg_load1 (x : AO) (t : Nat) (w : Bool) : awops call base (⟨d, .load1 x, some (t, w), r, false⟩ :: rest) Q env s = gpure (E env t) w (aread call env s (.load1 x)) fun v => awops call base rest Q (pE env d v) s := by
  rw [st_guard, st_load1]
  rfl
theorem sg_loadn (n : Nat) (x : AO) (t : Nat) (w : Bool) : awops call base (⟨d, .loadn n x, some (t, w), r, false⟩ :: rest) Q env s = gpure (E env t) w (aread call env s (.loadn n x)) fun v => awops call base rest Q (pE env d v) s := by
  rw [st_guard, st_loadn]
  rfl
theorem sg_b2s (x : AO) (t : Nat) (w : Bool) : awops call base (⟨d, .b2s x, some (t, w), r, false⟩ :: rest) Q env s = gpure (E env t) w (aread call env s (.b2s x)) fun v => awops call base rest Q (pE env d v) s := by
  rw [st_guard, st_b2s]
  rfl
theorem sg_look (z : AV) (k : EK) (ok : Bool) (m i : AO) (t : Nat) (w : Bool) : awops call base (⟨d, .look z k ok m i, some (t, w), r, false⟩ :: rest) Q env s = gpure (E env t) w (aread call env s (.look z k ok m i)) fun v => awops call base rest Q (pE env d v) s := by
  rw [st_guard, st_look]
  rfl
theorem sg_lenm (x : AO) (t : Nat) (w : Bool) : awops call base (⟨d, .len .mp x, some (t, w), r, false⟩ :: rest) Q env s = gpure (E env t) w (aread call env s (.len .mp x)) fun v => awops call base rest Q (pE env d v) s := by
  rw [st_guard, st_lenm]
  rfl
theorem sg_ent (x : AO) (t : Nat) (w : Bool) : awops call base (⟨d, .ent x, some (t, w), r, false⟩ :: rest) Q env s = gpure (E env t) w (aread call env s (.ent x)) fun v => awops call base rest Q (pE env d v) s := by
  rw [st_guard, st_ent]
  rfl
theorem sg_calld (f : Nat) (l : List AO) (t : Nat) (w : Bool) : awops call base (⟨d, .call f true l, some (t, w), r, false⟩ :: rest) Q env s = gpure (E env t) w (aread call env s (.call f true l)) fun v => awops call base rest Q (pE env d v) s := by
  rw [st_guard, st_calld]
  rfl
theorem sg_callvd (x : AO) (l : List AO) (t : Nat) (w : Bool) : awops call base (⟨d, .callv x true l, some (t, w), r, false⟩ :: rest) Q env s = gpure (E env t) w (aread call env s (.callv x true l)) fun v => awops call base rest Q (pE env d v) s := by
  rw [st_guard, st_callvd]
  rfl
theorem sg_call (f : Nat) (l : List AO) (t : Nat) (w : Bool) : awops call base (⟨d, .call f false l, some (t, w), r, false⟩ :: rest) Q env s = gcall s (E env t) w (acall (call f) false (l.map (aev env)) s) fun v t => awops call base rest Q (pE env d v) t := by
  rw [st_guard, st_call]
  rfl
theorem sg_callv (x : AO) (l : List AO) (t : Nat) (w : Bool) : awops call base (⟨d, .callv x false l, some (t, w), r, false⟩ :: rest) Q env s = gcall s (E env t) w (aeff call env s (.callv x false l)) fun v t => awops call base rest Q (pE env d v) t := by
  rw [st_guard, st_callv]
  rfl

/-! ### Code -/
def cstep (v : AV) (A B : Prop) : Prop := match v with
  | .bool true => A
  | .bool false => B
  | _ => False
@[congr] theorem cstep_congr {v v' : AV} (h : v = v') (A B : Prop) : cstep v A B = cstep v' A B := by rw [h]
theorem cstep_true (A B : Prop) : cstep (.bool true) A B = A := nrfl rfl
theorem cstep_false (A B : Prop) : cstep (.bool false) A B = B := nrfl rfl
def noNxt (os : List AOper) : Bool := os.all fun o => match o.op with
  | .nxt _ => false
  | _ => true
theorem awops_some : ∀ (os : List AOper) (env : Env) (s : St), noNxt os = true → awops call base os Q env s → ∃ e t, aops call base os env s = some (e, t) ∧ Q e t
  | [], env, s, _, k => ⟨env, s, rfl, k⟩
  | o :: rest, env, s, hn, k => by
    simp only [noNxt, List.all_cons, Bool.and_eq_true] at hn
    simp only [awops] at k
    simp only [aops]
    split at k
    · rename_i hw
      split at k
      · rename_i x hx
        rw [hx] at hn
        exact absurd hn.1 (by simp)
      · split at k
        · rename_i v t hv
          exact awops_some rest _ _ hn.2 k
        · exact k.elim
    · rename_i hw
      exact awops_some rest _ _ hn.2 k
    · exact k.elim
theorem some_awops : ∀ (os : List AOper) (env : Env) (s : St), noNxt os = true → (∃ e t, aops call base os env s = some (e, t) ∧ Q e t) → awops call base os Q env s
  | [], env, s, _, k => by
    obtain ⟨e, t, h1, h2⟩ := k
    simp only [aops] at h1
    injection h1 with h1
    obtain ⟨rfl, rfl⟩ := Prod.mk.inj h1
    exact h2
  | o :: rest, env, s, hn, k => by
    simp only [noNxt, List.all_cons, Bool.and_eq_true] at hn
    obtain ⟨e, t, h1, h2⟩ := k
    simp only [awops]
    simp only [aops] at h1
    split at h1
    · rename_i hw
      split
      · rename_i x hx
        rw [hx] at hn
        exact absurd hn.1 (by simp)
      · split at h1
        · rename_i v t hv
          exact some_awops rest _ _ hn.2 ⟨e, _, h1, h2⟩
        · cases h1
    · rename_i hw
      exact some_awops rest _ _ hn.2 ⟨e, _, h1, h2⟩
    · cases h1
variable {Qx : AEx → Env → St → Prop}
theorem wp_regd' {k : Nat} {os : List AOper} (h : noNxt os = true) : awp call (.regd k os) Qx env s = awops call s.next os (Qx .nor) env (s.reserve k) :=
  propext ⟨fun q => some_awops os _ _ h q, fun q => awops_some os _ _ h q⟩
def rstep (b : Bool) (A B : Prop) : Prop := if b = true then A else B
@[congr] theorem rstep_congr {b b' : Bool} (h : b = b') (A B : Prop) : rstep b A B = rstep b' A B := by rw [h]
theorem rstep_true (A B : Prop) : rstep true A B = A := by simp [rstep]
def isNx : AOp → Bool
  | .nxt _ => false
  | _ => true
theorem noNxt_nil : noNxt [] = true := nrfl rfl
theorem noNxt_cons (o : AOper) (l : List AOper) : noNxt (o :: l) = (isNx o.op && noNxt l) := nrfl (by
  simp only [noNxt, List.all_cons, isNx])
theorem wp_regd (k : Nat) (os : List AOper) : awp call (.regd k os) Qx env s = rstep (noNxt os) (awops call s.next os (Qx .nor) env (s.reserve k)) (∃ env' s', aops call s.next os env (s.reserve k) = some (env', s') ∧ Qx .nor env' s') := by
  cases h : noNxt os
  · simp only [rstep, Bool.false_eq_true, if_false]
    rfl
  · rw [rstep_true]
    exact wp_regd' h
/-- What a region with loads between its writers is to show. -/
def chkE : List (Nat × Nat) → St → Env → Prop
  | [], _, _ => True
  | c :: r, s, e => (c.1 < elen e ∧ ald s (E e c.2) = some (E e c.1)) ∧ chkE r s e
theorem chkE_nil (s : St) (e : Env) : chkE [] s e = True := nrfl rfl
theorem chkE_of : ∀ {l : List (Nat × Nat)} {s : St} {e : Env}, chkE l s e → chkP l s e
  | [], _, _, _ => fun c hc => by simp at hc
  | c :: r, s, e, h => fun d hd => by
    rcases List.mem_cons.1 hd with rfl | hd
    · exact h.1
    · exact chkE_of h.2 d hd
theorem of_chkE : ∀ {l : List (Nat × Nat)} {s : St} {e : Env}, chkP l s e → chkE l s e
  | [], _, _, _ => trivial
  | c :: r, s, e, h => ⟨h c (by simp), of_chkE fun d hd => h d (by simp [hd])⟩
theorem wp_regw (os : List AOper) (chk : List (Nat × Nat)) : awp call (.regw os chk) Qx env s = rstep (noNxt os) (awops call s.next os (fun e t => chkE chk s e ∧ Qx .nor e t) env s) (∃ env' s', aops call s.next os env s = some (env', s') ∧ chkP chk s env' ∧ Qx .nor env' s') := by
  cases h : noNxt os
  · simp only [rstep, Bool.false_eq_true, if_false]
    rfl
  · rw [rstep_true]
    refine propext ⟨fun q => ?_, fun q => ?_⟩
    · obtain ⟨e, t, h1, h2, h3⟩ := q
      exact some_awops os _ _ h ⟨e, t, h1, of_chkE h2, h3⟩
    · obtain ⟨e, t, h1, h2, h3⟩ := awops_some os _ _ h q
      exact ⟨e, t, h1, chkE_of h2, h3⟩
theorem wp_reg (os : List AOper) : awp call (.reg os) Qx env s = awops call s.next os (Qx .nor) env s := nrfl rfl
theorem wp_skip : awp call .skip Qx env s = Qx .nor env s := nrfl rfl
theorem wp_exit (i : Nat) : awp call (.exit i) Qx env s = Qx (.exit i) env s := nrfl rfl
theorem wp_ret : awp call .ret Qx env s = Qx .ret env s := nrfl rfl
theorem wp_seq (a b : AC) : awp call (.seq a b) Qx env s = awp call a (fun x e t => match x with
    | .nor => awp call b Qx e t
    | x => Qx x e t) env s := nrfl rfl
theorem wp_block (i : Nat) (c : AC) : awp call (.block i c) Qx env s = awp call c (fun x e t => match x with
    | .exit j => if j = i then Qx .nor e t else Qx (.exit j) e t
    | x => Qx x e t) env s := nrfl rfl
theorem wp_cond (c : AO) (a b : AC) : awp call (.cond c a b) Qx env s = cstep (aev env c) (awp call a Qx env s) (awp call b Qx env s) := by
  simp only [awp, cstep]
  generalize aev env c = v
  cases v <;> rfl
theorem res1 (env : Env) (s : St) (a : Nat) : aresults env s [.t a] = some (E env a) := nrfl rfl
theorem res2 (env : Env) (s : St) (a b : Nat) : aresults env s [.t a, .t b] = some (.tup [E env a, E env b]) := nrfl rfl
theorem res0 (env : Env) (s : St) : aresults env s [] = some (.tup []) := nrfl rfl
theorem resc (env : Env) (s : St) (a n : Nat) : aresult env s (.celln a n) = match E env a with
  | .ptr id o => match s.get id with
    | some (.row cs _) => if o + n ≤ cs.length then some (.agg ((cs.drop o).take n)) else none
    | _ => none
  | _ => none := nrfl rfl
theorem rest_t (env : Env) (s : St) (b : Nat) : aresult env s (.t b) = some (E env b) := nrfl rfl
attribute [irreducible] pE E elen

end Go.AM
end
/-
  Lists in the abstract machine's memory: reading them, new ones, appending, what a caller is told. Own work of this project.
-/
section
namespace Go.AM
open Go

/-! ### How elements lie in cells -/
structure Cod (α : Type) where
  sz : Nat
  enc : α → List AV
  dec : List AV → Option α
  pos : 0 < sz
  len : ∀ x, (enc x).length = sz
  plain : ∀ x, (enc x).all AV.plain = true
  dec_enc : ∀ x, dec (enc x) = some x
  enc_dec : ∀ cs x, dec cs = some x → cs = enc x
variable {α : Type}
def Cod.cells (C : Cod α) (l : List α) : List AV := (l.map C.enc).flatten
def decL (C : Cod α) : Nat → List AV → Option (List α)
  | 0, _ => some []
  | n + 1, cs => match C.dec (cs.take C.sz), decL C n (cs.drop C.sz) with
    | some x, some r => some (x :: r)
    | _, _ => none
def read (C : Cod α) (s : St) : AV → Option (List α)
  | .nils => some []
  | .sl id off n _ z => if z = C.sz then match s.get id with
      | some (.row cs _) => if off + n * C.sz ≤ cs.length then decL C n (cs.drop off) else none
      | _ => none
    else none
  | _ => none
theorem cells_nil (C : Cod α) : C.cells [] = [] := rfl
theorem cells_cons (C : Cod α) (x : α) (l : List α) : C.cells (x :: l) = C.enc x ++ C.cells l := rfl
theorem cells_append (C : Cod α) (l m : List α) : C.cells (l ++ m) = C.cells l ++ C.cells m := by simp [Cod.cells]
theorem cells_len (C : Cod α) (l : List α) : (C.cells l).length = l.length * C.sz := by
  induction l with
  | nil => simp [cells_nil]
  | cons x l ih => rw [cells_cons, List.length_append, ih, C.len, List.length_cons, Nat.succ_mul]; omega
theorem cells_plain (C : Cod α) (l : List α) : (C.cells l).all AV.plain = true := by
  induction l with
  | nil => rfl
  | cons x l ih => rw [cells_cons, List.all_append, C.plain, ih]; rfl
theorem plain_ren {v : AV} (f : Nat → Nat) (h : v.plain = true) : v.ren f = v := by cases v <;> simp_all [AV.plain, AV.ren]
theorem plains_rens (f : Nat → Nat) : ∀ {vs : List AV}, vs.all AV.plain = true → AV.rens f vs = vs
  | [], _ => rfl
  | v :: vs, h => by
    simp only [List.all_cons, Bool.and_eq_true] at h
    simp [AV.rens, plain_ren f h.1, plains_rens f h.2]
theorem decL_some {C : Cod α} : ∀ {n : Nat} {cs : List AV} {l : List α}, decL C n cs = some l → l.length = n ∧ n * C.sz ≤ cs.length ∧ cs.take (n * C.sz) = C.cells l
  | 0, cs, l, h => by
    simp only [decL] at h
    injection h with h
    subst h
    simp [cells_nil]
  | n + 1, cs, l, h => by
    simp only [decL] at h
    split at h
    · rename_i x r hx hr
      injection h with h
      subst h
      obtain ⟨h1, h2, h3⟩ := decL_some hr
      have e := C.enc_dec _ _ hx
      have hl := congrArg List.length e
      rw [C.len, List.length_take] at hl
      rw [List.length_drop] at h2
      have hp := C.pos
      refine ⟨by simp [h1], by rw [Nat.succ_mul]; omega, ?_⟩
      rw [cells_cons, ← e, ← h3, Nat.succ_mul, Nat.add_comm (n * C.sz), List.take_add]
    · cases h
theorem decL_cells (C : Cod α) : ∀ (l : List α) (r : List AV), decL C l.length (C.cells l ++ r) = some l
  | [], r => rfl
  | x :: l, r => by
    have h := C.len x
    have e1 : (C.enc x ++ (C.cells l ++ r)).take C.sz = C.enc x := by rw [← h]; simp
    have e2 : (C.enc x ++ (C.cells l ++ r)).drop C.sz = C.cells l ++ r := by rw [← h]; simp
    simp only [List.length_cons, decL, cells_cons, List.append_assoc, e1, e2, C.dec_enc, decL_cells C l r]
theorem cells_at (C : Cod α) : ∀ (l : List α) (i : Nat) (x : α), l[i]? = some x → ∀ k m, k + m ≤ C.sz → ((C.cells l).drop (i * C.sz + k)).take m = ((C.enc x).drop k).take m
  | [], i, x, h, _, _, _ => by simp at h
  | y :: l, 0, x, h, k, m, hk => by
    simp at h
    subst h
    have hl := C.len y
    rw [cells_cons, Nat.zero_mul, Nat.zero_add, List.drop_append_of_le_length (by omega), List.take_append_of_le_length (by rw [List.length_drop]; omega)]
  | y :: l, i + 1, x, h, k, m, hk => by
    have hl := C.len y
    rw [cells_cons, Nat.succ_mul, show i * C.sz + C.sz + k = (C.enc y).length + (i * C.sz + k) by omega, ← List.drop_drop, List.drop_left]
    exact cells_at C l i x (by simpa using h) k m hk
theorem read_sl {C : Cod α} {s : St} {id off n z : Nat} {cap : Option Nat} {l : List α} (h : read C s (.sl id off n cap z) = some l) :
    z = C.sz ∧ n = l.length ∧ ∃ cs own, s.get id = some (.row cs own) ∧ off + n * C.sz ≤ cs.length ∧ (cs.drop off).take (n * C.sz) = C.cells l ∧
      ∀ i x, l[i]? = some x → ∀ k m, k + m ≤ C.sz → off + i * C.sz + k + m ≤ cs.length ∧ (cs.drop (off + i * C.sz + k)).take m = ((C.enc x).drop k).take m := by
  simp only [read] at h
  split at h
  · rename_i hz
    split at h
    · rename_i cs own hg
      split at h
      · rename_i hle
        obtain ⟨h1, h2, h3⟩ := decL_some h
        refine ⟨hz, h1.symm, cs, own, hg, hle, h3, fun i x hi k m hk => ?_⟩
        have hlt := (List.getElem?_eq_some_iff.1 hi).1
        have hmul : i * C.sz + C.sz ≤ n * C.sz := by
          rw [← Nat.succ_mul]
          exact Nat.mul_le_mul_right _ (by omega)
        refine ⟨by omega, ?_⟩
        rw [← cells_at C l i x hi k m hk, ← h3, List.drop_take, List.take_take, List.drop_drop, Nat.min_eq_left (by omega), ← Nat.add_assoc]
      · cases h
    · cases h
  · cases h
theorem read_of {C : Cod α} {s : St} {id off n : Nat} {cap : Option Nat} {l : List α} {cs : List AV} {own : Bool} (hn : n = l.length) (h1 : s.get id = some (.row cs own)) (h2 : off + n * C.sz ≤ cs.length) (h3 : (cs.drop off).take (n * C.sz) = C.cells l) :
    read C s (.sl id off n cap C.sz) = some l := by
  subst hn
  simp only [read, if_true, h1, h2]
  have := decL_cells C l ((cs.drop off).drop (l.length * C.sz))
  rw [← h3, List.take_append_drop] at this
  exact this
/-- Behind what leaves the block as it was. -/
theorem read_mono {C : Cod α} {s t : St} {v : AV} {l : List α} (h : read C s v = some l) (k : ∀ id b, s.get id = some b → t.get id = some b) : read C t v = some l := by
  cases v with
  | nils => exact h
  | sl id off n cap z =>
    obtain ⟨rfl, hn, cs, own, hg, h1, h2, _⟩ := read_sl h
    exact read_of hn (k _ _ hg) h1 h2
  | _ => simp [read] at h
theorem read_len {C : Cod α} {s : St} {v : AV} {l : List α} (h : read C s v = some l) : lenOf v = some l.length := by
  cases v with
  | nils => simp [read] at h; subst h; rfl
  | sl id off n cap z =>
    obtain ⟨rfl, hn, _⟩ := read_sl h
    simp [lenOf, hn]
  | _ => simp [read] at h
theorem read_shown {C : Cod α} {s : St} {v : AV} {l : List α} (h : read C s v = some l) : shown s C.sz v = some (C.cells l) := by
  cases v with
  | nils => simp [read] at h; subst h; rfl
  | sl id off n cap z =>
    obtain ⟨rfl, hn, cs, own, hg, h1, h2, _⟩ := read_sl h
    simp [shown, hg, h1, h2]
  | _ => simp [read] at h
theorem read_drop {C : Cod α} {s : St} {id off n z m : Nat} {cap cap' : Option Nat} {l : List α} (h : read C s (.sl id off n cap z) = some l) (k : Nat) (hm : m = n - k) (hk : k ≤ n) : read C s (.sl id (off + k * z) m cap' z) = some (l.drop k) := by
  obtain ⟨rfl, hn, cs, own, hg, h1, h2, _⟩ := read_sl h
  subst hm
  have e : (n - k) * C.sz + k * C.sz = n * C.sz := by rw [← Nat.add_mul]; congr 1; omega
  refine read_of (by simp [hn]) hg (by omega) ?_
  have hc : (C.cells l).drop (k * C.sz) = C.cells (l.drop k) := by
    conv => lhs; rw [← List.take_append_drop k l, cells_append]
    have : k * C.sz = (C.cells (l.take k)).length := by rw [cells_len, List.length_take, Nat.min_eq_left (by omega)]
    rw [this, List.drop_left]
  rw [← hc, ← h2, List.drop_take, List.drop_drop]
  congr 1
  omega
theorem read_take {C : Cod α} {s : St} {id off n z : Nat} {cap cap' : Option Nat} {l : List α} (h : read C s (.sl id off n cap z) = some l) (k : Nat) (hk : k ≤ n) : read C s (.sl id off k cap' z) = some (l.take k) := by
  obtain ⟨rfl, hn, cs, own, hg, h1, h2, _⟩ := read_sl h
  have hmul : k * C.sz ≤ n * C.sz := Nat.mul_le_mul_right _ hk
  refine read_of (by simp; omega) hg (by omega) ?_
  have hc : (C.cells l).take (k * C.sz) = C.cells (l.take k) := by
    conv => lhs; rw [← List.take_append_drop k l, cells_append]
    have : k * C.sz = (C.cells (l.take k)).length := by rw [cells_len, List.length_take, Nat.min_eq_left (by omega)]
    rw [this, List.take_left]
  rw [← hc, ← h2, List.take_take, Nat.min_eq_left hmul]

/-! ### What was there stays -/
structure Keep (s t : St) : Prop where
  next : s.next ≤ t.next
  get : ∀ id, id < s.next → t.get id = s.get id
  low : min s.low s.next ≤ t.low
theorem Keep.refl (s : St) : Keep s s := ⟨Nat.le_refl _, fun _ _ => rfl, by omega⟩
theorem Keep.push {s t : St} (h : Keep s t) (b : AB) : Keep s (t.push b) :=
  ⟨by have := h.next; simp; omega, fun id hid => by rw [St.get_push_old _ _ (by have := h.next; omega), h.get id hid], by simpa using h.low⟩
theorem Keep.put {s t : St} (h : Keep s t) {id : Nat} (b : AB) (h1 : s.next ≤ id) (h2 : id < t.next) : Keep s (t.put id b) :=
  ⟨by simpa using h.next, fun j hj => by rw [St.get_put_ne _ _ h2 (by omega), h.get j hj], by have := h.low; simp; omega⟩
theorem Keep.trans {a b c : St} (h : Keep a b) (k : Keep b c) : Keep a c :=
  ⟨Nat.le_trans h.next k.next, fun id hid => by rw [k.get id (Nat.lt_of_lt_of_le hid h.next), h.get id hid], by have h1 := h.low; have h2 := k.low; have h3 := h.next; omega⟩
theorem Keep.blk {s t : St} (h : Keep s t) {id : Nat} {b : AB} (hb : s.get id = some b) : t.get id = some b := by rw [h.get id (St.get_lt hb), hb]
theorem Keep.read {s t : St} (h : Keep s t) {C : Cod α} {v : AV} {l : List α} (hr : read C s v = Option.some l) : read C t v = Option.some l := read_mono hr fun _ _ => h.blk
theorem Keep.low' {s t : St} (h : Keep s t) (n : Nat) (hn : min s.low s.next ≤ n) : Keep s { heap := t.heap, next := t.next, low := n } := ⟨h.next, fun id hid => h.get id hid, hn⟩
theorem Keep.grow {s t : St} (h : Keep s t) : Grow s t := by
  refine ⟨h.next, fun id h1 h2 => ?_⟩
  rw [h.get id h1]
  exact h2

theorem gk_push {s t : St} (h : Grow s t ∧ Keeps s t) (b : AB) : Grow s (t.push b) ∧ Keeps s (t.push b) := ⟨h.1.trans (grow_push t b), h.2.trans (keeps_push t b)⟩
theorem gk_low (s : St) : Grow s { heap := s.heap, next := s.next, low := min s.low s.next } ∧ Keeps s { heap := s.heap, next := s.next, low := min s.low s.next } := ⟨⟨Nat.le_refl _, fun _ _ h => h⟩, Nat.le_refl _, Nat.min_le_left _ _, fun _ _ _ => rfl⟩
/-! ### A new list, whose block nobody else has -/
def Own (C : Cod α) (s t : St) (v : AV) (l : List α) : Prop :=
  (v = .nils ∧ l = []) ∨ ∃ j, v = .sl j 0 l.length none C.sz ∧ l ≠ [] ∧ s.next ≤ j ∧ t.get j = some (.row (C.cells l) true)
theorem Own.nil (C : Cod α) (s t : St) : Own C s t .nils [] := .inl ⟨rfl, rfl⟩
theorem Own.read {C : Cod α} {s t : St} {v : AV} {l : List α} (h : Own C s t v l) : read C t v = some l := by
  rcases h with ⟨rfl, rfl⟩ | ⟨j, rfl, _, _, h⟩
  · rfl
  · refine read_of rfl h (by simp [cells_len]) ?_
    rw [List.drop_zero, ← cells_len]
    simp
theorem Own.mono {C : Cod α} {s t u : St} {v : AV} {l : List α} (h : Own C s t v l) (k : ∀ id b, t.get id = some b → u.get id = some b) : Own C s u v l := by
  rcases h with ⟨rfl, rfl⟩ | ⟨j, rfl, h0, h1, h⟩
  · exact .inl ⟨rfl, rfl⟩
  · exact .inr ⟨j, rfl, h0, h1, k _ _ h⟩
theorem get_push_some {t : St} (b : AB) {id : Nat} {c : AB} (h : t.get id = some c) : (t.push b).get id = some c := by rw [St.get_push_old _ _ (St.get_lt h), h]
theorem Own.push {C : Cod α} {s t : St} {v : AV} {l : List α} (h : Own C s t v l) (b : AB) : Own C s (t.push b) v l := h.mono fun _ _ => get_push_some b
theorem append_own {C : Cod α} {s t : St} {v : AV} {l : List α} (hK : Keep s t) (hO : Own C s t v l) (m : List α) (bytes : Nat) (hb : (l.length + m.length) * bytes ≤ roomBytes) :
    ∃ v' t', aappend t C.sz bytes v (C.cells m) m.length = some (v', t') ∧ Keep s t' ∧ Own C s t' v' (l ++ m) := by
  by_cases hm : m = []
  · subst hm
    rcases hO with ⟨rfl, rfl⟩ | ⟨j, rfl, h0, h1, h⟩
    · exact ⟨.nils, t, by simp [aappend], hK, .nil _ _ _⟩
    · exact ⟨.sl j 0 l.length none C.sz, t, by simp [aappend, h], hK, by rw [List.append_nil]; exact .inr ⟨j, rfl, h0, h1, h⟩⟩
  · have hm0 : m.length ≠ 0 := by simpa using hm
    rcases hO with ⟨rfl, rfl⟩ | ⟨j, rfl, h0, h1, h⟩
    · refine ⟨.sl t.next 0 m.length none C.sz, t.push (.row (C.cells m) true), ?_, hK.push _, .inr ⟨t.next, by simp, by simpa using hm, hK.next, by simpa using St.get_push_new t _⟩⟩
      simp only [aappend, if_neg hm0]
      rw [if_pos (by simpa using hb)]
    · refine ⟨.sl t.next 0 (l.length + m.length) none C.sz, (t.put j .dead).push (.row (C.cells (l ++ m)) true), ?_, (hK.put .dead h1 (St.get_lt h)).push _, .inr ⟨t.next, by simp, by simp [hm], hK.next, by simpa using St.get_push_new (t.put j .dead) _⟩⟩
      simp only [aappend, if_true, h, if_neg hm0]
      rw [if_pos ⟨by simp [cells_len], hb⟩]
      have e : (C.cells l).take (l.length * C.sz) = C.cells l := by rw [← cells_len]; simp
      rw [List.drop_zero, e, cells_append]
/-! ### What a caller is told -/
def St.lowed (s : St) : St := { heap := s.heap, next := s.next, low := min s.low s.next }
theorem lowed_get (s : St) (id : Nat) : s.lowed.get id = s.get id := rfl
theorem lowed_next (s : St) : s.lowed.next = s.next := rfl
theorem keep_lowed (s : St) : Keep s s.lowed := ⟨Nat.le_refl _, fun _ _ => rfl, Nat.le_refl _⟩
theorem gk_lowed (s : St) : Grow s s.lowed ∧ Keeps s s.lowed := gk_low s
theorem emb_keep {s t : St} (h : Keep s t) : ∃ f : Nat → Nat, (∀ id, id < s.next → f id = id) ∧ Emb f s s.lowed t := by
  have hn := h.next
  refine ⟨fun id => if id < s.next then id else t.next + id, fun id hid => by simp [hid], ⟨Nat.le_refl _, h.low, fun id hid => by simp [hid], fun id hid => ?_, fun i j h1 h2 e => ?_, fun id b hb => ?_, fun id h1 h2 => rfl⟩⟩
  · have : ¬ id < s.next := by simp [lowed_next] at hid; omega
    simp [this]
  · rw [lowed_next] at h1 h2
    simpa [h1, h2] using e
  · have hlt : id < s.next := St.get_lt (by rwa [lowed_get] at hb)
    rw [lowed_get] at hb
    exact .inr (.inr ⟨hlt, hb, h.blk hb⟩)
end Go.AM
end
/-
  Dots and nodes in memory; rules for stepping that keep them folded. Own work of this project.
-/
section
namespace Go.AM
open Go

/-! ### Numbers of blocks -/
def sameN (n : Nat) (s : St) : Prop := n = s.next
def ltN (n : Nat) (s : St) : Prop := n < s.next
theorem same_self (s : St) : sameN s.next s = True := eq_true rfl
theorem same_push {s t : St} (h : sameN s.next t) (b c : AB) : sameN (s.push b).next (t.push c) = True := eq_true (by unfold sameN at *; simp [h])
theorem same_lowed {n : Nat} {t : St} (h : sameN n t) : sameN n t.lowed = True := eq_true h
theorem same_lowed' {s t : St} (h : sameN s.next t) : sameN s.lowed.next t = True := eq_true h
theorem lt_push {n : Nat} {t : St} (h : ltN n t) (b : AB) : ltN n (t.push b) = True := eq_true (Nat.lt_succ_of_lt h)
theorem lt_push_same {n : Nat} {t : St} (h : sameN n t) (b : AB) : ltN n (t.push b) = True := eq_true (by unfold sameN at h; unfold ltN; simp [h])
theorem lt_lowed {n : Nat} {t : St} (h : ltN n t) : ltN n t.lowed = True := eq_true h
/-! ### Loads and stores by value -/
def lod (s : St) (n : Nat) (v : AV) : Option AV := match v with
  | .ptr id o => match s.get id with
    | some (.row cs _) => if o + n ≤ cs.length then some (.agg ((cs.drop o).take n)) else none
    | _ => none
  | _ => none
def lod1 (s : St) (v : AV) : Option AV := match v with
  | .ptr id o => match s.get id with
    | some (.row cs _) => cs[o]?
    | _ => none
  | _ => none
theorem chkE_cons (t x : Nat) (r : List (Nat × Nat)) (s : St) (e : Env) : chkE ((t, x) :: r) s e = ((t < elen e ∧ lod1 s (E e x) = some (E e t)) ∧ chkE r s e) := nrfl rfl
def sto (s : St) (n : Nat) (a x : AV) : Option (AV × St) := match a with
  | .ptr id o => match s.get id with
    | some (.row cs true) => if x.cells.length = n ∧ x.cells.all AV.one ∧ o + n ≤ cs.length then some (.und, s.put id (.row (setAt cs o x.cells) true)) else none
    | _ => none
  | _ => none
variable {call : Nat → List AV → St → Option (AV × St)} {env : Env} {s t : St}
theorem ar_loadn (n : Nat) (a : AO) : aread call env s (.loadn n a) = lod s n (aev env a) := nrfl rfl
theorem ar_load1 (a : AO) : aread call env s (.load1 a) = lod1 s (aev env a) := nrfl rfl
theorem ae_store (n : Nat) (a x : AO) : aeff call env s (.store n a x) = sto s n (aev env a) (aev env x) := nrfl rfl
def iadV (sz : Nat) (x i : AV) : Option AV := match x, i with
  | .sl id off len _ z, .int _ n => if z = sz ∧ 0 ≤ n ∧ n < len then some (.ptr id (off + n.toNat * sz)) else none
  | _, _ => none
theorem ap_iad (sz : Nat) (x i : AO) : apure env (.iad sz x i) = iadV sz (aev env x) (aev env i) := nrfl rfl
theorem iadV_nat {sz id off len : Nat} {cap : Option Nat} {k : IntKind} {i : Nat} (h : i < len) : iadV sz (.sl id off len cap sz) (.int k (i : Int)) = some (.ptr id (off + i * sz)) := by
  simp [iadV, h]
def fadV (o : Nat) : AV → Option AV
  | .ptr id p => some (.ptr id (p + o))
  | _ => none
theorem ap_fad (o : Nat) (x : AO) : apure env (.fad o x) = fadV o (aev env x) := nrfl rfl
theorem fadV_ptr (o id p : Nat) : fadV o (.ptr id p) = some (.ptr id (p + o)) := nrfl rfl
def lenV : AV → Option AV
  | .sl _ _ n _ _ => some (.int .i64 (n : Int))
  | .nils => some (.int .i64 0)
  | _ => none
theorem ap_len (x : AO) : apure env (.len .sl x) = lenV (aev env x) := nrfl rfl
theorem lenV_sl (a b n : Nat) (c : Option Nat) (z : Nat) : lenV (.sl a b n c z) = some (.int .i64 (n : Int)) := nrfl rfl
theorem lenV_nils : lenV .nils = some (.int .i64 0) := nrfl rfl
theorem lenV_read {α : Type} {C : Cod α} {v : AV} {l : List α} (h : read C s v = some l) : lenV v = some (.int .i64 (l.length : Int)) := by
  cases v with
  | nils => simp [read] at h; subst h; rfl
  | sl id off n cap z =>
    obtain ⟨_, rfl, _⟩ := read_sl h
    rfl
  | _ => simp [read] at h
def pickV (c a b : AV) : Option AV := match c with
  | .bool t => some (if t then a else b)
  | _ => none
theorem ap_pick (c a b : AO) : apure env (.pick c a b) = pickV (aev env c) (aev env a) (aev env b) := nrfl rfl
theorem pickV_t (a b : AV) : pickV (.bool true) a b = some a := nrfl rfl
theorem pickV_f (a b : AV) : pickV (.bool false) a b = some b := nrfl rfl
def notV : AV → Option AV
  | .bool b => some (.bool !b)
  | _ => none
theorem ap_not (x : AO) : apure env (.un .not x) = notV (aev env x) := by
  simp only [apure, notV]
  cases aev env x <;> rfl
theorem notV_bool (b : Bool) : notV (.bool b) = some (.bool !b) := nrfl rfl
def extV (i : Nat) : AV → Option AV
  | .tup vs => vs[i]?
  | _ => none
theorem ap_ext (x : AO) (i : Nat) : apure env (.ext x i) = extV i (aev env x) := nrfl rfl
theorem extV_0 (v : AV) (l : List AV) : extV 0 (.tup (v :: l)) = some v := nrfl rfl
theorem extV_1 (v w : AV) (l : List AV) : extV 1 (.tup (v :: w :: l)) = some w := nrfl rfl
def fstep (cs : List AV) (off n : Nat) (v : AV) (K : List AV → Option (List AV)) : Option (List AV) :=
  if v.cells.length = n ∧ v.cells.all AV.one ∧ off + n ≤ cs.length then K (setAt cs off v.cells) else none
theorem fillP_nil (cs : List AV) : fillP env cs [] = some cs := nrfl rfl
theorem fillP_cons (cs : List AV) (off n : Nat) (x : AO) (r : List (Nat × Nat × AO)) : fillP env cs ((off, n, x) :: r) = fstep cs off n (aev env x) fun cs => fillP env cs r := nrfl rfl
theorem fstep_nd (x : Nd) (K : List AV → Option (List AV)) : fstep [.int .i64 0, .int .i64 0, .int .i64 0, .int .i64 0, .int .i64 0, .int .i32 0] 0 6 (.agg (Nd.av x)) K = K (Nd.av x) := nrfl rfl
theorem fstep_dot (x : Dot) (K : List AV → Option (List AV)) : fstep [.int .i64 0, .int .i64 0] 0 2 (.agg (Dot.av x)) K = K (Dot.av x) := nrfl rfl
theorem aa_bsl1 (z : List AV) (sz : Nat) (x : AO) : aalloc env (.bsl z 1 sz [(0, x)]) = (fstep z 0 sz (aev env x) some).map fun cs => (fun id => .sl id 0 1 (some 1) sz, .row cs true) := by
  simp only [aalloc, List.map_cons, List.map_nil, Nat.zero_mul, fillP_cons]
  rfl

/-! ### A box for one value -/
theorem push_put (s : St) (b c : AB) : (s.push b).put s.next c = s.lowed.push c := by
  simp [St.push, St.put, St.lowed]
theorem reserve0 (s : St) : s.reserve 0 = s := nrfl rfl
theorem reserve1_get (s : St) : (s.reserve 1).get (s.next + 0) = some .unborn := by simp [St.get_reserve]
theorem reserve1_get' (s : St) : (s.reserve 1).get s.next = some .unborn := by simp [St.get_reserve]
theorem reserve1_born (s : St) (b : AB) : (s.reserve 1).born (s.next + 0) b = s.push b := by simp [St.reserve, St.push, St.born]
theorem reserve1_born' (s : St) (b : AB) : (s.reserve 1).born s.next b = s.push b := by simp [St.reserve, St.push, St.born]
theorem sto_nd {n : Nat} {s : St} (h : sameN n s) (x : Nd) : sto (s.push (.row [.int .i64 0, .int .i64 0, .int .i64 0, .int .i64 0, .int .i64 0, .int .i32 0] true)) 6 (.ptr n 0) (.agg (Nd.av x)) = some (.und, s.lowed.push (.row (Nd.av x) true)) := by
  unfold sameN at h
  subst h
  simp only [sto, St.get_push_new, push_put]
  rfl
theorem lod_nd {n : Nat} {s : St} (h : sameN n s) (x : Nd) (own : Bool) : lod (s.push (.row (Nd.av x) own)) 6 (.ptr n 0) = some (.agg (Nd.av x)) := by
  unfold sameN at h
  subst h
  simp only [lod, St.get_push_new]
  rfl
theorem lod_nd_dot {n : Nat} {s : St} (h : sameN n s) (x : Nd) (own : Bool) : lod (s.push (.row (Nd.av x) own)) 2 (.ptr n 0) = some (.agg (Dot.av x.d)) := by
  unfold sameN at h
  subst h
  simp only [lod, St.get_push_new]
  rfl
theorem Keep.lowed {s t : St} (h : Keep s t) : Keep s t.lowed := h.trans (keep_lowed t)
theorem Own.lowed {α : Type} {C : Cod α} {s t : St} {v : AV} {l : List α} (h : Own C s t v l) : Own C s t.lowed v l := h.mono fun _ _ k => k

theorem kt_refl (s : St) : Keep s s = True := eq_true (.refl s)
theorem kt_push (h : Keep s t) (b : AB) : Keep s (t.push b) = True := eq_true (h.push b)
theorem kt_lowed (h : Keep s t) : Keep s t.lowed = True := eq_true (h.trans (keep_lowed t))
/-! ### Operators -/
theorem bin_lss (e : EK) (k : IntKind) (a b : Int) : binOp .lss e (.int k a) (.int k b) = some (.bool (decide (a < b))) := by simp [binOp, intOp]
theorem bin_leq (e : EK) (k : IntKind) (a b : Int) : binOp .leq e (.int k a) (.int k b) = some (.bool (decide (a ≤ b))) := by simp [binOp, intOp]
theorem bin_gtr (e : EK) (k : IntKind) (a b : Int) : binOp .gtr e (.int k a) (.int k b) = some (.bool (decide (b < a))) := by simp [binOp, intOp]
theorem bin_geq (e : EK) (k : IntKind) (a b : Int) : binOp .geq e (.int k a) (.int k b) = some (.bool (decide (b ≤ a))) := by simp [binOp, intOp]
theorem bin_eql (e : EK) (k : IntKind) (a b : Int) : binOp .eql e (.int k a) (.int k b) = some (.bool (decide (a = b))) := by simp [binOp, intOp, beq_dec]
theorem bin_neq (e : EK) (k : IntKind) (a b : Int) : binOp .neq e (.int k a) (.int k b) = some (.bool (!decide (a = b))) := by simp [binOp, intOp, bne_dec]
theorem bin_add (e : EK) (k : IntKind) (a b : Int) : binOp .add e (.int k a) (.int k b) = some (.int k (k.wrap (a + b))) := by simp [binOp, intOp]
theorem bin_sub (e : EK) (k : IntKind) (a b : Int) : binOp .sub e (.int k a) (.int k b) = some (.int k (k.wrap (a - b))) := by simp [binOp, intOp]
theorem bin_eqb (a b : Bool) : binOp .eql .bo (.bool a) (.bool b) = some (.bool (a == b)) := nrfl rfl
theorem bin_neb (a b : Bool) : binOp .neq .bo (.bool a) (.bool b) = some (.bool (!(a == b))) := nrfl rfl
theorem bin_eqd (a b : Dot) : binOp .eql (.fl [.i, .i]) (.agg (Dot.av a)) (.agg (Dot.av b)) = some (.bool (decide (a = b))) := by
  obtain ⟨a1, a2⟩ := a
  obtain ⟨b1, b2⟩ := b
  simp [binOp, eqV, eqL, eqF, Dot.av, beq_dec]
theorem bin_neqd (a b : Dot) : binOp .neq (.fl [.i, .i]) (.agg (Dot.av a)) (.agg (Dot.av b)) = some (.bool (!decide (a = b))) := by
  obtain ⟨a1, a2⟩ := a
  obtain ⟨b1, b2⟩ := b
  simp [binOp, eqV, eqL, eqF, Dot.av, beq_dec]
theorem bin_eqd0 (a : Dot) : binOp .eql (.fl [.i, .i]) (.agg (Dot.av a)) (.agg [.int .i64 0, .int .i64 0]) = some (.bool (decide (a = ⟨0, 0⟩))) := bin_eqd a ⟨0, 0⟩
theorem bin_neqd0 (a : Dot) : binOp .neq (.fl [.i, .i]) (.agg (Dot.av a)) (.agg [.int .i64 0, .int .i64 0]) = some (.bool (!decide (a = ⟨0, 0⟩))) := bin_neqd a ⟨0, 0⟩
theorem bin_eqn (a b : Nd) : binOp .eql (.fl [.i, .i, .i, .i, .i, .i]) (.agg (Nd.av a)) (.agg (Nd.av b)) = some (.bool (decide (a = b))) := by
  obtain ⟨⟨a1, a2⟩, ⟨a3, a4⟩, a5, a6⟩ := a
  obtain ⟨⟨b1, b2⟩, ⟨b3, b4⟩, b5, b6⟩ := b
  simp [binOp, eqV, eqL, eqF, Nd.av, beq_dec, Bool.and_assoc, Bool.decide_and, and_assoc]
theorem bin_neqn (a b : Nd) : binOp .neq (.fl [.i, .i, .i, .i, .i, .i]) (.agg (Nd.av a)) (.agg (Nd.av b)) = some (.bool (!decide (a = b))) := by
  have := bin_eqn a b
  simp only [binOp, Option.map_eq_some_iff] at this ⊢
  obtain ⟨x, h1, h2⟩ := this
  injection h2 with h2
  exact ⟨x, h1, by rw [h2]⟩
theorem pickV_or (c y : Bool) : pickV (.bool c) (.bool true) (.bool y) = some (.bool (c || y)) := by cases c <;> rfl
theorem pickV_ors (c y : Bool) : pickV (.bool c) (.bool true) (sel (!c) (.bool y)) = some (.bool (c || y)) := by cases c <;> rfl
theorem pickV_and (c y : Bool) : pickV (.bool c) (.bool y) (.bool false) = some (.bool (c && y)) := by cases c <;> rfl
theorem pickV_ands (c y : Bool) : pickV (.bool c) (sel c (.bool y)) (.bool false) = some (.bool (c && y)) := by cases c <;> rfl
theorem pickV_orn (c y : Bool) : pickV (.bool (!c)) (.bool true) (sel c (.bool y)) = some (.bool (!c || y)) := by cases c <;> rfl
theorem ar_call (f : Nat) (l : List AO) : aread call env s (.call f true l) = (acall (call f) true (l.map (aev env)) s).map (·.1) := nrfl rfl
def boxV (n : Nat) (v : AV) : Option ((Nat → AV) × AB) := if v.cells.length = n ∧ v.cells.all AV.one then some (fun id => .ptr id 0, .row v.cells true) else none
theorem aa_box (n : Nat) (x : AO) : aalloc env (.box n x) = boxV n (aev env x) := nrfl rfl
theorem boxV_dot (d : Dot) : boxV 2 (.agg (Dot.av d)) = some (fun id => .ptr id 0, .row (Dot.av d) true) := nrfl rfl
theorem boxV_nd (d : Nd) : boxV 6 (.agg (Nd.av d)) = some (fun id => .ptr id 0, .row (Nd.av d) true) := nrfl rfl
theorem lod_push_lt {id : Nat} (h : ltN id s) (b : AB) (n o : Nat) : lod (s.push b) n (.ptr id o) = lod s n (.ptr id o) := by
  simp only [lod, St.get_push_old _ _ h]
theorem lod1_push_lt {id : Nat} (h : ltN id s) (b : AB) (o : Nat) : lod1 (s.push b) (.ptr id o) = lod1 s (.ptr id o) := by
  simp only [lod1, St.get_push_old _ _ h]
theorem lod_lowed (n : Nat) (v : AV) : lod s.lowed n v = lod s n v := by cases v <;> rfl
theorem lod1_lowed (v : AV) : lod1 s.lowed v = lod1 s v := by cases v <;> rfl
theorem lod_lowd (n m : Nat) (v : AV) : lod { heap := s.heap, next := s.next, low := m } n v = lod s n v := by cases v <;> rfl
theorem lod1_lowd (m : Nat) (v : AV) : lod1 { heap := s.heap, next := s.next, low := m } v = lod1 s v := by cases v <;> rfl
theorem lod_nd_par {n : Nat} {s : St} (h : sameN n s) (x : Nd) (own : Bool) : lod (s.push (.row (Nd.av x) own)) 2 (.ptr n 2) = some (.agg (Dot.av x.p)) := by
  unfold sameN at h
  subst h
  simp only [lod, St.get_push_new]
  rfl
theorem lod1_nd_t {n : Nat} {s : St} (h : sameN n s) (x : Nd) (own : Bool) : lod1 (s.push (.row (Nd.av x) own)) (.ptr n 4) = some (.int .i64 x.t) := by
  unfold sameN at h
  subst h
  simp only [lod1, St.get_push_new]
  rfl
theorem lod1_nd_x {n : Nat} {s : St} (h : sameN n s) (x : Nd) (own : Bool) : lod1 (s.push (.row (Nd.av x) own)) (.ptr n 5) = some (.int .i32 x.x) := by
  unfold sameN at h
  subst h
  simp only [lod1, St.get_push_new]
  rfl
theorem lod_dot {n : Nat} {s : St} (h : sameN n s) (x : Dot) (own : Bool) : lod (s.push (.row (Dot.av x) own)) 2 (.ptr n 0) = some (.agg (Dot.av x)) := by
  unfold sameN at h
  subst h
  simp only [lod, St.get_push_new]
  rfl
theorem lod1_dot_r {n : Nat} {s : St} (h : sameN n s) (x : Dot) (own : Bool) : lod1 (s.push (.row (Dot.av x) own)) (.ptr n 0) = some (.int .i64 x.r) := by
  unfold sameN at h
  subst h
  simp only [lod1, St.get_push_new]
  rfl
theorem lod1_dot_c {n : Nat} {s : St} (h : sameN n s) (x : Dot) (own : Bool) : lod1 (s.push (.row (Dot.av x) own)) (.ptr n 1) = some (.int .i64 x.c) := by
  unfold sameN at h
  subst h
  simp only [lod1, St.get_push_new]
  rfl
theorem sto_nd0 {n : Nat} {s : St} (h : sameN n s) : sto (s.push (.row [.int .i64 0, .int .i64 0, .int .i64 0, .int .i64 0, .int .i64 0, .int .i32 0] true)) 6 (.ptr n 0) (.agg [.int .i64 0, .int .i64 0, .int .i64 0, .int .i64 0, .int .i64 0, .int .i32 0]) = some (.und, s.lowed.push (.row (Nd.av ⟨⟨0, 0⟩, ⟨0, 0⟩, 0, 0⟩) true)) := sto_nd h ⟨⟨0, 0⟩, ⟨0, 0⟩, 0, 0⟩
theorem sto_push_lt {id : Nat} (h : ltN id s) (b : AB) (n o : Nat) (x : AV) : sto (s.push b) n (.ptr id o) x = (sto s n (.ptr id o) x).map fun r => (r.1, r.2.push b) := by
  unfold ltN at h
  have e : ∀ c, (s.push b).put id c = (s.put id c).push b := by
    intro c
    have : s.next + 1 - 1 - id = s.next - 1 - id + 1 := by omega
    simp only [St.push, St.put, this, List.set_cons_succ]
  simp only [sto, St.get_push_old _ _ h, e]
  split
  · split <;> rfl
  · rfl
theorem sto_nd_x {n : Nat} {s : St} (h : sameN n s) (x : Nd) (k : Int) : sto (s.push (.row (Nd.av x) true)) 1 (.ptr n 5) (.int .i32 k) = some (.und, s.lowed.push (.row (Nd.av { x with x := k }) true)) := by
  unfold sameN at h
  subst h
  simp only [sto, St.get_push_new, push_put]
  rfl
theorem sto_nd_t {n : Nat} {s : St} (h : sameN n s) (x : Nd) (k : Int) : sto (s.push (.row (Nd.av x) true)) 1 (.ptr n 4) (.int .i64 k) = some (.und, s.lowed.push (.row (Nd.av { x with t := k }) true)) := by
  unfold sameN at h
  subst h
  simp only [sto, St.get_push_new, push_put]
  rfl
theorem ap_build (z : List AV) (ps : List (Nat × Nat × AO)) : apure env (.build z ps) = (fillP env z ps).map .agg := nrfl rfl
theorem rc1 (env : Env) (s : St) (a n : Nat) : aresults env s [.celln a n] = lod s n (E env a) := by
  have h1 : aresult env s (.celln a n) = lod s n (E env a) := resc env s a n
  simp only [aresults, List.mapM_cons, List.mapM_nil, h1]
  cases lod s n (E env a) <;> rfl
theorem rc2 (env : Env) (s : St) (a n b : Nat) : aresults env s [.celln a n, .t b] = (lod s n (E env a)).map fun v => .tup [v, E env b] := by
  have h1 : aresult env s (.celln a n) = lod s n (E env a) := resc env s a n
  have h2 : aresult env s (.t b) = some (E env b) := rest_t env s b
  simp only [aresults, List.mapM_cons, List.mapM_nil, h1, h2]
  cases lod s n (E env a) <;> rfl

/-! ### Calls -/
theorem acall_ro {c : Con} {cl : Bool} {args : List AV} {r : AV} (h : c args { heap := s.heap, next := s.next, low := s.next } = some (r, { heap := s.heap, next := s.next, low := s.next })) (hg : r.ground = true) : acall c cl args s = some (r, s) := by
  simp [acall, h, hg]
theorem SoundAt.lowed {P : Program} {g : Nat} {c c' : Con} (h : SoundAt P g c) (k : ∀ xs s r s', c' xs s = some (r, s') → s' = s.lowed ∧ c xs s = some (r, s)) : SoundAt P g c' := by
  intro xs s r s' hc
  obtain ⟨rfl, h1⟩ := k xs s r s' hc
  obtain ⟨a1, a2, a3⟩ := h xs s r s h1
  refine ⟨a1, gk_lowed s, fun ρ w cargs hf hR hargs => (a3 ρ w cargs hf hR hargs).mono fun e w' hp => ?_⟩
  obtain ⟨ρ', v, h2, h3, h4, h5⟩ := hp
  refine ⟨ρ', v, h2, h3, ⟨Nat.le_refl _, Nat.min_le_left _ _, h4.ren, h4.size, h4.os, h4.tape, h4.output, h4.drawn, fun b hb H => h4.frame b hb fun id L blk e1 => H id L blk (Nat.le_trans (Nat.min_le_left _ _) e1), h4.old, fun id L blk e1 e2 e3 e4 => ?_, fun _ _ _ => rfl⟩, ⟨h5.bound, h5.blk, h5.inj⟩⟩
  exact absurd (St.get_lt e3) (by rw [lowed_next]; omega)
theorem plains_ren (f : Nat → Nat) {v : AV} (h : v.plains = true) : v.ren f = v := by
  cases v
  case agg cs => simp only [AV.plains] at h; simp [AV.ren, plains_rens f h]
  all_goals exact plain_ren f (by simpa [AV.plains] using h)
theorem ground_ren (f : Nat → Nat) {v : AV} (h : v.ground = true) : v.ren f = v := by
  cases v
  case agg cs => simp only [AV.ground] at h; simp [AV.ren, plains_rens f h]
  case tup vs =>
    simp only [AV.ground] at h
    simp only [AV.ren, rens_map]
    congr 1
    refine map_same fun v hv => plains_ren f ?_
    rw [List.all_eq_true] at h
    exact h v hv
  all_goals exact plain_ren f (by simpa [AV.ground] using h)
theorem con_keep {P : Program} {call : Nat → List AV → St → Option (AV × St)} (hS : Sound P call) (hm : P.follows .mixedOrders = true) {g : Nat} {fn : Func} {afn : AFn} (hf : P.funcs[g]? = some fn) (hcal : callable P g = true) (hc : cfn P fn = some afn)
    {c : Con} (h : ∀ args s r s', c args s = some (r, s') → s' = s.lowed ∧ r.ground = true ∧ args.length ≤ afn.ntmps ∧ ∀ env : Env, elen env = afn.ntmps → (∀ i v, args[i]? = some v → E env i = v) →
      awp call afn.body (fun x env t => (∀ i, x ≠ .exit i) ∧ aresults env t afn.results = some r ∧ Keep s t) env s) : SoundAt P g c := by
  refine con_sound hS hm hf hcal hc fun args s r s' hh => ?_
  obtain ⟨rfl, hg, hl, k⟩ := h args s r s' hh
  refine ⟨gk_lowed s, start_env hl fun env h1 h2 => awp_mono _ (fun x e t q => ?_) (k env h1 h2)⟩
  obtain ⟨q1, q2, q3⟩ := q
  obtain ⟨f, _, hf⟩ := emb_keep q3
  exact ⟨q1, f, by rw [q2, ground_ren f hg], hf⟩
end Go.AM
end
/-
  Loops; elements of lists that an argument shows; contracts of functions of lists. Own work of this project.
-/
section
namespace Go.AM
open Go

variable {call : Nat → List AV → St → Option (AV × St)} {env : Env} {s t : St}

/-! ### A loop, its continuation held back from rewriting -/
class HQ where
  q : AEx → Env → St → Prop
def lwp (call : Nat → List AV → St → Option (AV × St)) (c : AC) (env : Env) (s : St) [h : HQ] : Prop := awp call (.loop c) h.q env s
theorem wp_loop (c : AC) (Q : AEx → Env → St → Prop) : awp call (.loop c) Q env s = @lwp call c env s ⟨Q⟩ := nrfl rfl
theorem lwp_inv {c : AC} {Q : AEx → Env → St → Prop} (I : Nat → Env → St → Prop) {n : Nat} (h : I n env s)
    (step : ∀ n e t, I n e t → awp call c (fun x e' t' => match x with
      | .nor => ∃ m, m < n ∧ I m e' t'
      | x => Q x e' t') e t) : @lwp call c env s ⟨Q⟩ := awp_loop I step h

/-! ### Numbers -/
theorem wrap_nat {n : Nat} (h : n < 4611686018427387904) : IntKind.i64.wrap (n : Int) = (n : Int) := by
  simp only [IntKind.wrap, IntKind.signed, IntKind.bits]
  simp
  omega
theorem wrap_add1 {n : Nat} (h : n < 4611686018427387903) : IntKind.i64.wrap ((n : Int) + 1) = ((n + 1 : Nat) : Int) := wrap_nat (n := n + 1) (by omega)
/-! ### Elements -/
def bid : AV → Nat
  | .sl id _ _ _ _ => id
  | _ => 0
def boff : AV → Nat
  | .sl _ off _ _ _ => off
  | _ => 0
theorem read_idx {α : Type} {C : Cod α} {v : AV} {l : List α} (h : read C s v = some l) {i : Nat} {x : α} (hi : l[i]? = some x) (k : IntKind) : iadV C.sz v (.int k (i : Int)) = some (.ptr (bid v) (boff v + i * C.sz)) := by
  have hlt := (List.getElem?_eq_some_iff.1 hi).1
  cases v with
  | nils => simp [read] at h; subst h; simp at hlt
  | sl id off n cap z =>
    obtain ⟨rfl, rfl, _⟩ := read_sl h
    exact iadV_nat hlt
  | _ => simp [read] at h
theorem read_lt {α : Type} {C : Cod α} {v : AV} {l : List α} (h : read C s v = some l) (hK : Keep s t) {i : Nat} {x : α} (hi : l[i]? = some x) : ltN (bid v) t := by
  have hlt := (List.getElem?_eq_some_iff.1 hi).1
  cases v with
  | nils => simp [read] at h; subst h; simp at hlt
  | sl id off n cap z =>
    obtain ⟨rfl, rfl, cs, own, hg, _⟩ := read_sl h
    exact St.get_lt (hK.blk hg)
  | _ => simp [read] at h
theorem lod_reserve {id : Nat} (h : ltN id s) (k n o : Nat) : lod (s.reserve k) n (.ptr id o) = lod s n (.ptr id o) := by
  unfold ltN at h
  simp only [lod, St.get_reserve, if_pos h]
theorem lod1_reserve {id : Nat} (h : ltN id s) (k o : Nat) : lod1 (s.reserve k) (.ptr id o) = lod1 s (.ptr id o) := by
  unfold ltN at h
  simp only [lod1, St.get_reserve, if_pos h]
/-! ### Contracts of functions of lists -/
end Go.AM
end
/-
  Contracts of functions that return a new list. Own work of this project.
-/
section
namespace Go.AM
open Go

variable {β : Type}
/-- The new list alone, or with one more result. -/
def mkR (e : Option AV) (v : AV) : AV := match e with
  | none => v
  | some e => .tup [v, e]
/-- Made by a function that was called: still the caller's own, seen from where the caller began. -/
theorem Own.from {D : Cod β} {s0 s t : St} {v : AV} {l : List β} (h : Own D s t v l) (hn : s0.next ≤ s.next) : Own D s0 t v l := by
  rcases h with ⟨rfl, rfl⟩ | ⟨j, rfl, h0, h1, h⟩
  · exact .inl ⟨rfl, rfl⟩
  · exact .inr ⟨j, rfl, h0, by omega, h⟩
theorem mkR_none (v : AV) : mkR none v = v := nrfl rfl
theorem mkR_some (e v : AV) : mkR (some e) v = .tup [v, e] := nrfl rfl

/-! ### Appending by value -/
variable {call : Nat → List AV → St → Option (AV × St)} {env : Env} {s t : St}
def appV (s : St) (sz bytes : Nat) (a x : AV) : Option (AV × St) := match shown s sz x, lenOf x with
  | some new, some k => aappend s sz bytes a new k
  | _, _ => none
theorem ae_app (sz b : Nat) (z : List AV) (a x : AO) : aeff call env s (.app sz b z a x) = appV s sz b (aev env a) (aev env x) := nrfl rfl
theorem appV_list {C : Cod β} {t : St} {v x : AV} {l m : List β} (hK : Keep s t) (hO : Own C s t v l) (hr : read C t x = some m) (bytes : Nat) (hb : (l.length + m.length) * bytes ≤ roomBytes) :
    ∃ v' t', appV t C.sz bytes v x = some (v', t') ∧ Keep s t' ∧ Own C s t' v' (l ++ m) := by
  simp only [appV, read_shown hr, read_len hr]
  exact append_own hK hO m bytes hb
def slcV (sz : Nat) (x : AV) (lo hi : Option AV) : Option AV := match x with
  | .sl id off len cap z =>
    if z = sz then
      match cap with
      | some c => match optNat hi c len with
          | some h => match optNat lo h 0 with
            | some l => some (.sl id (off + l * sz) (h - l) (some (c - l)) sz)
            | none => none
          | none => none
      | none => match optNat hi len len with
          | some h => match optNat lo h 0 with
            | some l => some (.sl id (off + l * sz) (h - l) none sz)
            | none => none
          | none => none
    else none
  | .nils => match (some 0 : Option Nat), optNat hi 0 0, optNat lo 0 0 with
      | some _, some _, some _ => some .nils
      | _, _, _ => none
  | _ => none
theorem ap_slc (sz : Nat) (x : AO) (lo hi : Option AO) : apure env (.slc sz x lo hi none) = slcV sz (aev env x) (lo.map (aev env)) (hi.map (aev env)) := by
  simp only [apure, slcV]
  cases hx : aev env x with
  | sl id off len cap z =>
    cases cap <;> simp [optNat] <;> rfl
  | nils =>
    simp only [optNat, Option.map_none, Option.isSome_none, Bool.false_and, Bool.false_eq_true, if_false]
    rfl
  | _ => rfl
theorem asNatIn_nat {k : IntKind} {i : Int} {n m : Nat} (hi : i = (n : Int)) (h : n ≤ m) : asNatIn (.int k i) m = some n := by
  subst hi
  simp [asNatIn, h]
theorem slc_lo {C : Cod β} {s : St} {v : AV} {l : List β} (hr : read C s v = some l) {k : IntKind} {i : Int} {n : Nat} (hi : i = (n : Int)) (hn : n ≤ l.length) :
    ∃ v', slcV C.sz v (some (.int k i)) none = some v' ∧ ∀ t, Keep s t → read C t v' = some (l.drop n) := by
  cases v with
  | nils =>
    simp [read] at hr
    subst hr
    have : n = 0 := by simpa using hn
    subst this
    exact ⟨.nils, by simp [slcV, optNat, asNatIn, hi], fun t _ => by simp [read]⟩
  | sl id off len cap z =>
    obtain ⟨rfl, rfl, _⟩ := read_sl hr
    cases cap with
    | none => exact ⟨.sl id (off + n * C.sz) (l.length - n) none C.sz, by simp [slcV, optNat, asNatIn_nat hi hn], fun t hK => read_drop (hK.read hr) n rfl hn⟩
    | some c =>
      by_cases hc : n ≤ c ∧ l.length ≤ c
      · refine ⟨.sl id (off + n * C.sz) (l.length - n) (some (c - n)) C.sz, ?_, fun t hK => read_drop (hK.read hr) n rfl hn⟩
        simp only [slcV, if_true, optNat, asNatIn_nat hi hn]
      · refine ⟨.sl id (off + n * C.sz) (l.length - n) (some (c - n)) C.sz, ?_, fun t hK => read_drop (hK.read hr) n rfl hn⟩
        simp only [slcV, if_true, optNat, asNatIn_nat hi hn]
  | _ => simp [read] at hr
theorem slc_hi {C : Cod β} {s : St} {v : AV} {l : List β} (hr : read C s v = some l) (hcap : ∀ id off n c z, v = .sl id off n (some c) z → n ≤ c) {k : IntKind} {i : Int} {n : Nat} (hi : i = (n : Int)) (hn : n ≤ l.length) :
    ∃ v', slcV C.sz v none (some (.int k i)) = some v' ∧ ∀ t, Keep s t → read C t v' = some (l.take n) := by
  cases v with
  | nils =>
    simp [read] at hr
    subst hr
    have : n = 0 := by simpa using hn
    subst this
    exact ⟨.nils, by simp [slcV, optNat, asNatIn, hi], fun t _ => by simp [read]⟩
  | sl id off len cap z =>
    obtain ⟨rfl, rfl, _⟩ := read_sl hr
    cases cap with
    | none =>
      refine ⟨.sl id off n none C.sz, ?_, fun t hK => read_take (hK.read hr) n hn⟩
      simp [slcV, optNat, asNatIn_nat hi hn]
    | some c =>
      have := hcap _ _ _ _ _ rfl
      refine ⟨.sl id off n (some c) C.sz, ?_, fun t hK => read_take (hK.read hr) n hn⟩
      simp [slcV, optNat, asNatIn_nat hi (show n ≤ c by omega)]
  | _ => simp [read] at hr
end Go.AM
end
/-
  A function's own code as its contract (run with as much fuel as it takes); what a call that changes memory leaves. Own work of this project.
-/
section
namespace Go.AM
open Go

variable {call : Nat → List AV → St → Option (AV × St)}

/-! ### More fuel changes nothing -/
theorem aexec_mono : ∀ {n m : Nat} {c : AC} {env : Env} {s : St} {r : AEx × Env × St}, n ≤ m → aexec call n c env s = some r → aexec call m c env s = some r
  | 0, _, _, _, _, _, _, h => by simp [aexec] at h
  | n + 1, 0, _, _, _, _, hm, _ => by omega
  | n + 1, m + 1, c, env, s, r, hm, h => by
    have hm' : n ≤ m := by omega
    cases c with
    | skip => exact h
    | exit i => exact h
    | ret => exact h
    | bad => exact h
    | reg os => exact h
    | regd k os => exact h
    | regw os chk => exact h
    | seq a b =>
      simp only [aexec] at h ⊢
      cases ha : aexec call n a env s with
      | none => rw [ha] at h; cases h
      | some r1 =>
        rw [ha] at h
        rw [aexec_mono hm' ha]
        obtain ⟨x, e1, s1⟩ := r1
        cases x with
        | nor => exact aexec_mono hm' h
        | exit i => exact h
        | ret => exact h
    | cond c a b =>
      simp only [aexec] at h ⊢
      split at h
      · exact aexec_mono hm' h
      · exact aexec_mono hm' h
      · cases h
    | block id c =>
      simp only [aexec] at h ⊢
      cases ha : aexec call n c env s with
      | none => rw [ha] at h; cases h
      | some r1 =>
        rw [ha] at h
        rw [aexec_mono hm' ha]
        exact h
    | loop c =>
      simp only [aexec] at h ⊢
      cases ha : aexec call n c env s with
      | none => rw [ha] at h; cases h
      | some r1 =>
        rw [ha] at h
        rw [aexec_mono hm' ha]
        obtain ⟨x, e1, s1⟩ := r1
        cases x with
        | nor => exact aexec_mono hm' h
        | exit i => exact h
        | ret => exact h
/-- No range over a map in it. -/
def noNxtC : AC → Bool
  | .reg os | .regd _ os | .regw os _ => noNxt os
  | .seq a b | .cond _ a b => noNxtC a && noNxtC b
  | .block _ c | .loop c => noNxtC c
  | _ => true
theorem awp_exec : ∀ (c : AC) {Q : AEx → Env → St → Prop} {env : Env} {s : St}, noNxtC c = true → awp call c Q env s → ∃ n x e t, aexec call n c env s = some (x, e, t) ∧ Q x e t
  | .skip, _, _, _, _, k => ⟨1, _, _, _, rfl, k⟩
  | .exit _, _, _, _, _, k => ⟨1, _, _, _, rfl, k⟩
  | .ret, _, _, _, _, k => ⟨1, _, _, _, rfl, k⟩
  | .bad, _, _, _, _, k => k.elim
  | .reg os, _, env, s, hn, k => by
    obtain ⟨e, t, h1, h2⟩ := awops_some os env s hn k
    exact ⟨1, _, _, _, by simp only [aexec, h1], h2⟩
  | .regd _ os, _, _, _, _, k => by
    obtain ⟨e, t, h1, h2⟩ := k
    exact ⟨1, _, _, _, by simp only [aexec, h1], h2⟩
  | .regw _ chk, _, _, _, _, k => by
    obtain ⟨e, t, h1, hc, h2⟩ := k
    exact ⟨1, _, _, _, by simp only [aexec, h1, if_pos hc], h2⟩
  | .seq a b, Q, env, s, hn, k => by
    simp only [noNxtC, Bool.and_eq_true] at hn
    obtain ⟨n, x, e, t, h1, h2⟩ := awp_exec a hn.1 k
    cases x with
    | nor =>
      obtain ⟨m, x', e', t', h3, h4⟩ := awp_exec b hn.2 h2
      refine ⟨max n m + 1, x', e', t', ?_, h4⟩
      simp only [aexec]
      rw [aexec_mono (Nat.le_max_left n m) h1]
      exact aexec_mono (Nat.le_max_right n m) h3
    | exit i => exact ⟨n + 1, _, _, _, by simp only [aexec, h1], h2⟩
    | ret => exact ⟨n + 1, _, _, _, by simp only [aexec, h1], h2⟩
  | .cond c a b, Q, env, s, hn, k => by
    simp only [noNxtC, Bool.and_eq_true] at hn
    simp only [awp] at k
    split at k
    · rename_i hc
      obtain ⟨n, x, e, t, h1, h2⟩ := awp_exec a hn.1 k
      exact ⟨n + 1, x, e, t, by simp only [aexec, hc, h1], h2⟩
    · rename_i hc
      obtain ⟨n, x, e, t, h1, h2⟩ := awp_exec b hn.2 k
      exact ⟨n + 1, x, e, t, by simp only [aexec, hc, h1], h2⟩
    · exact k.elim
  | .block id c, Q, env, s, hn, k => by
    obtain ⟨n, x, e, t, h1, h2⟩ := awp_exec c hn k
    cases x with
    | nor => exact ⟨n + 1, _, _, _, by simp only [aexec, h1], h2⟩
    | exit i =>
      simp only at h2
      split at h2
      · rename_i hi
        exact ⟨n + 1, _, _, _, by simp only [aexec, h1, if_pos hi], h2⟩
      · rename_i hi
        exact ⟨n + 1, _, _, _, by simp only [aexec, h1, if_neg hi], h2⟩
    | ret => exact ⟨n + 1, _, _, _, by simp only [aexec, h1], h2⟩
  | .loop c, Q, env, s, hn, k => by
    obtain ⟨r, k⟩ := k
    revert env s k
    induction r with
    | zero => exact fun env s k => k.elim
    | succ r ih =>
      intro env s k
      simp only [arounds] at k
      obtain ⟨n, x, e, t, h1, h2⟩ := awp_exec c hn k
      cases x with
      | nor =>
        obtain ⟨m, x', e', t', h3, h4⟩ := ih _ _ h2
        refine ⟨max n m + 1, x', e', t', ?_, h4⟩
        simp only [aexec]
        rw [aexec_mono (Nat.le_max_left n m) h1]
        exact aexec_mono (Nat.le_max_right n m) h3
      | exit i => exact ⟨n + 1, _, _, _, by simp only [aexec, h1], h2⟩
      | ret => exact ⟨n + 1, _, _, _, by simp only [aexec, h1], h2⟩

/-! ### The code as a contract -/
open Classical in
noncomputable def runFn (call : Nat → List AV → St → Option (AV × St)) (fn : AFn) : Con := fun args s =>
  if h : ∃ n r, acallFn call n fn args s = some r then some (Classical.choose (Classical.choose_spec h)) else none
theorem run_sound {P : Program} (hS : Sound P call) (hm : P.follows .mixedOrders = true) {f : Nat} {fn : Func} {afn : AFn} (hf : P.funcs[f]? = some fn) (hcal : callable P f = true) (hc : cfn P fn = some afn) : SoundAt P f (runFn call afn) := by
  intro args s r s' h
  unfold runFn at h
  split at h
  · rename_i hx
    injection h with h
    have := Classical.choose_spec (Classical.choose_spec hx)
    rw [h] at this
    exact fn_sound hS hm hf hcal hc _ args s r s' this
  · cases h
theorem acallFn_mono {fn : AFn} {n m : Nat} (h : n ≤ m) {args : List AV} {s : St} {r : AV × St} (k : acallFn call n fn args s = some r) : acallFn call m fn args s = some r := by
  unfold acallFn at k ⊢
  cases ha : aexec call n fn.body (args ++ List.replicate (fn.ntmps - args.length) .und) s with
  | none => rw [ha] at k; cases k
  | some q =>
    rw [ha] at k
    rw [aexec_mono h ha]
    exact k
theorem run_of {fn : AFn} {n : Nat} {args : List AV} {s : St} {r : AV × St} (k : acallFn call n fn args s = some r) : runFn call fn args s = some r := by
  have hx : ∃ n r, acallFn call n fn args s = some r := ⟨n, r, k⟩
  unfold runFn
  rw [dif_pos hx]
  have := Classical.choose_spec (Classical.choose_spec hx)
  have h1 := acallFn_mono (Nat.le_max_left n (Classical.choose hx)) k
  have h2 := acallFn_mono (Nat.le_max_right n (Classical.choose hx)) this
  rw [h1] at h2
  exact h2.symm ▸ rfl
theorem run_awp {fn : AFn} (hn : noNxtC fn.body = true) {args : List AV} (hl : args.length ≤ fn.ntmps) {s : St} {Q : AV → St → Prop}
    (h : ∀ env : Env, elen env = fn.ntmps → (∀ i v, args[i]? = some v → E env i = v) → awp call fn.body (fun x e t => (∀ i, x ≠ .exit i) ∧ ∃ r, aresults e t fn.results = some r ∧ Q r t) env s) :
    ∃ r t, runFn call fn args s = some (r, t) ∧ Q r t := by
  have h := start_env hl h
  obtain ⟨n, x, e, t, h1, hx, r, h2, h3⟩ := awp_exec fn.body hn h
  refine ⟨r, t, run_of (n := n) ?_, h3⟩
  unfold acallFn
  rw [h1]
  cases x with
  | nor => simp only [h2, Option.map_some]
  | exit i => exact absurd rfl (hx i)
  | ret => simp only [h2, Option.map_some]

/-! ### What a call changes -/
/-- Only the blocks of M, and what is new. -/
structure Chg (M : List Nat) (s t : St) : Prop where
  next : s.next ≤ t.next
  get : ∀ id, id < s.next → id ∉ M → t.get id = s.get id
  low : ∀ k, k ≤ s.low → k ≤ s.next → (∀ id ∈ M, k ≤ id) → k ≤ t.low
theorem Chg.refl (M : List Nat) (s : St) : Chg M s s := ⟨Nat.le_refl _, fun _ _ _ => rfl, fun _ h _ _ => h⟩
theorem Keep.chg {s t : St} (h : Keep s t) (M : List Nat) : Chg M s t := ⟨h.next, fun id h1 _ => h.get id h1, fun k h1 h2 _ => by have := h.low; omega⟩
theorem Chg.keep {s t : St} (h : Chg [] s t) : Keep s t := ⟨h.next, fun id h1 => h.get id h1 (by simp), h.low _ (Nat.min_le_left _ _) (Nat.min_le_right _ _) (by simp)⟩
theorem Chg.trans {M M' : List Nat} {a b c : St} (h : Chg M a b) (k : Chg M' b c) (hM : ∀ id ∈ M', id ∈ M ∨ a.next ≤ id) : Chg M a c := by
  refine ⟨Nat.le_trans h.next k.next, fun id h1 h2 => ?_, fun n h1 h2 h3 => ?_⟩
  · rw [k.get id (Nat.lt_of_lt_of_le h1 h.next) fun hm => ?_, h.get id h1 h2]
    rcases hM id hm with q | q
    · exact h2 q
    · omega
  · refine k.low n (h.low n h1 h2 h3) (Nat.le_trans h2 h.next) fun id hid => ?_
    rcases hM id hid with q | q
    · exact h3 id q
    · omega
theorem Chg.mono {M M' : List Nat} {s t : St} (h : Chg M s t) (hM : ∀ id ∈ M, id ∈ M') : Chg M' s t :=
  ⟨h.next, fun id h1 h2 => h.get id h1 fun q => h2 (hM id q), fun k h1 h2 h3 => h.low k h1 h2 fun id q => h3 id (hM id q)⟩
theorem Chg.push {M : List Nat} {s t : St} (h : Chg M s t) (b : AB) : Chg M s (t.push b) :=
  h.trans (M' := []) (((Keep.refl t).push b).chg []) (by simp)
theorem Chg.put {M : List Nat} {s t : St} (h : Chg M s t) {id : Nat} (b : AB) (hid : id ∈ M ∨ s.next ≤ id) (hlt : id < t.next) : Chg M s (t.put id b) := by
  refine ⟨by simpa using h.next, fun j h1 h2 => ?_, fun k h1 h2 h3 => ?_⟩
  · rw [St.get_put_ne _ _ hlt fun e => ?_, h.get j h1 h2]
    subst e
    rcases hid with q | q
    · exact h2 q
    · omega
  · have := h.low k h1 h2 h3
    have : k ≤ id := by
      rcases hid with q | q
      · exact h3 id q
      · omega
    simp
    omega
/-- What was made in the meantime may be changed. -/
theorem Chg.new {M M' : List Nat} {a s t : St} (h : Chg M a s) (k : Chg M' s t) (hM : ∀ id ∈ M', a.next ≤ id ∨ id ∈ M) : Chg M a t := h.trans k fun id q => (hM id q).symm
theorem Keep.chgn {M' : List Nat} {a s t : St} (h : Keep a s) (k : Chg M' s t) (hM : ∀ id ∈ M', a.next ≤ id) : Keep a t :=
  ((h.chg []).trans k fun id q => .inr (hM id q)).keep
theorem Chg.blk {M : List Nat} {s t : St} (h : Chg M s t) {id : Nat} {b : AB} (hb : s.get id = some b) (hm : id ∉ M) : t.get id = some b := by rw [h.get id (St.get_lt hb) hm, hb]
@[reducible] def lowd (s : St) : St := { heap := s.heap, next := s.next, low := s.next }
/-- The call answers what names no block, and has changed nothing. -/
theorem acall_same {c : Con} {cl : Bool} {args : List AV} {s t : St} {r : AV} (h : c args (lowd s) = some (r, t)) (hk : Keep (lowd s) t) (hg : r.ground = true) : acall c cl args s = some (r, s) := by
  have hl := hk.low
  have hl : s.next ≤ t.low := by
    have : min s.next s.next ≤ t.low := hl
    omega
  simp only [acall]
  rw [show ({ heap := s.heap, next := s.next, low := s.next } : St) = lowd s from rfl, h]
  simp [hg, hl]
theorem acall_new {c : Con} {args : List AV} {M : List Nat} {s t : St} {r : AV} (h : c args (lowd s) = some (r, t)) (hk : Chg M (lowd s) t) (hng : r.ground = false ∨ t.low < s.next) :
    ∃ t', acall c false args s = some (r, t') ∧ (∀ id, t'.get id = t.get id) ∧ t'.next = t.next ∧ Chg M s t' := by
  refine ⟨{ heap := t.heap, next := t.next, low := min s.low t.low }, ?_, fun _ => rfl, rfl, hk.next, hk.get, fun k h1 h2 h3 => ?_⟩
  · simp only [acall]
    rw [show ({ heap := s.heap, next := s.next, low := s.next } : St) = lowd s from rfl, h]
    simp only
    rw [if_neg]
    · simp
    · simp only [Bool.and_eq_true, decide_eq_true_eq]
      rintro ⟨h1, h2⟩
      rcases hng with q | q
      · rw [h1] at q; cases q
      · omega
  · have := hk.low k h2 h2 h3
    show k ≤ min s.low t.low
    omega
theorem run_same {fn : AFn} (hn : noNxtC fn.body = true) {args : List AV} (hl : args.length ≤ fn.ntmps) {cl : Bool} {s : St} {r : AV} (hg : r.ground = true)
    (h : ∀ env : Env, elen env = fn.ntmps → (∀ i v, args[i]? = some v → E env i = v) → awp call fn.body (fun x e t => (∀ i, x ≠ .exit i) ∧ aresults e t fn.results = some r ∧ Keep (lowd s) t) env (lowd s)) :
    acall (runFn call fn) cl args s = some (r, s) := by
  obtain ⟨r', t, h1, h2, h3⟩ := run_awp hn hl (Q := fun r' t => r' = r ∧ Keep (lowd s) t) fun env h1 h2 => awp_mono _ (fun x e t q => ⟨q.1, r, q.2.1, rfl, q.2.2⟩) (h env h1 h2)
  subst h2
  exact acall_same h1 h3 hg
theorem run_fresh {β : Type} {D : Cod β} {fn : AFn} (hn : noNxtC fn.body = true) {args : List AV} (hl : args.length ≤ fn.ntmps) {s : St} {l : List β} (mk : AV → AV) (hmk : ∀ j off n cap z, (mk (.sl j off n cap z)).ground = false)
    (h : ∀ env : Env, elen env = fn.ntmps → (∀ i v, args[i]? = some v → E env i = v) → awp call fn.body (fun x e t => (∀ i, x ≠ .exit i) ∧ Keep (lowd s) t ∧ ∃ v, aresults e t fn.results = some (mk v) ∧ Own D (lowd s) t v l) env (lowd s)) :
    ∃ v t, acall (runFn call fn) false args s = some (mk v, t) ∧ Own D s t v l ∧ Keep s t := by
  obtain ⟨r, t, h1, h2, v, rfl, h3⟩ := run_awp hn hl (Q := fun r t => Keep (lowd s) t ∧ ∃ v, r = mk v ∧ Own D (lowd s) t v l) fun env h1 h2 => awp_mono _ (fun x e t q => by
    obtain ⟨q1, q2, v, q3, q4⟩ := q
    exact ⟨q1, mk v, q3, q2, v, rfl, q4⟩) (h env h1 h2)
  have hnew : (mk v).ground = false → ∃ v t, acall (runFn call fn) false args s = some (mk v, t) ∧ Own D s t v l ∧ Keep s t := by
    intro hg
    obtain ⟨t', g1, g2, g3, g4⟩ := acall_new h1 (h2.chg []) (.inl hg)
    exact ⟨v, t', g1, h3.mono fun id b hb => by rw [g2]; exact hb, g4.keep⟩
  rcases h3 with ⟨rfl, rfl⟩ | ⟨j, rfl, h4⟩
  · by_cases hg : (mk .nils).ground = true
    · exact ⟨.nils, s, acall_same h1 h2 hg, .nil _ _ _, .refl s⟩
    · exact hnew (by simpa using hg)
  · exact hnew (hmk _ _ _ _ _)
/-! ### A call that answers with new memory, in a region that draws its order -/
def acallF (c : Con) (args : List AV) (s : St) : Option (AV × St) := match acall c false args (lowd s) with
  | some (v, t) => if s.next ≤ t.low then some (v, { heap := t.heap, next := t.next, low := min s.low t.low }) else none
  | none => none
variable {base : Nat} {d : Option Nat} {r : Option Nat} {rest : List AOper} {Q : Env → St → Prop} {env : Env} {s : St}
theorem st_callf (f : Nat) (l : List AO) : awops call base (⟨d, .call f false l, none, r, true⟩ :: rest) Q env s = estep (acallF (call f) (l.map (aev env)) s) fun v t => awops call base rest Q (pE env d v) t := by
  rw [st_efff (op := .call f false l) (by simp) rfl rfl rfl]
  simp only [aeff, acallF, AOp.floor, AOp.isStore, Bool.false_eq_true, if_false]
  cases acall (call f) false (l.map (aev env)) (lowd s) with
  | none => rfl
  | some q =>
    obtain ⟨v, t⟩ := q
    simp only [estep]
    by_cases h : s.next ≤ t.low
    · rw [if_pos h, if_pos h]
    · rw [if_neg h, if_neg h]
theorem acallF_keep {c : Con} {args : List AV} {s t : St} {v : AV} (h : acall c false args (lowd s) = some (v, t)) (hk : Keep (lowd s) t) : ∃ t', acallF c args s = some (v, t') ∧ (∀ id, t'.get id = t.get id) ∧ t'.next = t.next ∧ Keep s t' := by
  have hl : s.next ≤ t.low := by
    have := hk.low
    have : min s.next s.next ≤ t.low := this
    omega
  refine ⟨{ heap := t.heap, next := t.next, low := min s.low t.low }, ?_, fun _ => rfl, rfl, hk.next, hk.get, ?_⟩
  · simp only [acallF, h, if_pos hl]
  · show min s.low s.next ≤ min s.low t.low
    omega
end Go.AM
end
/-
  The functions of this seat as the abstract machine runs them. Printed by a program of this project.
-/
section
set_option maxRecDepth 100000
namespace Go.AM
open Go

/- redpencil/redpencillaw20.DiskNew -/
def a3 : AFn := ⟨54, [.t 4],
  .seq (.reg [oO 4 (.mv (.c (.bool false)))])
 (.seq (.reg [oO 8 (.mv (.t 0)),
 oO 9 (.mv (.t 1)),
 oO 10 (.call 8 false [(.t 8), (.t 9)]),
 oO 7 (.mv (.t 10)),
 oO 11 (.ext (.t 7) 0),
 oO 12 (.ext (.t 7) 1),
 oO 5 (.mv (.t 11)),
 oO 6 (.mv (.t 12))])
 (.seq (.seq (.reg [oO 13 (.mv (.t 0)),
 oO 14 (.bin .lss .no (.t 13) (.c (.int .i64 1))),
 oO 15 (.mv (.t 14)),
 oG 16 (.mv (.t 0)) 15 false,
 oG 17 (.bin .gtr .no (.t 16) (.c (.int .i64 4096))) 15 false,
 oO 18 (.pick (.t 15) (.c (.bool true)) (.t 17)),
 oO 19 (.mv (.t 18)),
 oG 20 (.mv (.t 1)) 19 false,
 oG 21 (.bin .lss .no (.t 20) (.c (.int .i64 32))) 19 false,
 oO 22 (.pick (.t 19) (.c (.bool true)) (.t 21)),
 oO 23 (.mv (.t 22)),
 oG 24 (.mv (.t 1)) 23 false,
 oG 25 (.bin .gtr .no (.t 24) (.c (.int .i64 4096))) 23 false,
 oO 26 (.pick (.t 23) (.c (.bool true)) (.t 25)),
 oO 27 (.mv (.t 26)),
 oG 28 (.mv (.t 0)) 27 false,
 oG 29 (.mv (.t 1)) 27 false,
 oG 30 (.call 9 false [(.t 28), (.t 29)]) 27 false,
 oG 31 (.un .not (.t 30)) 27 false,
 oO 32 (.pick (.t 27) (.c (.bool true)) (.t 31))])
 (.cond (.t 32) (.seq (.reg [oO 33 (.mv (.t 5)),
 oO 34 (.bin .eql .np (.t 33) (.c .nilp)),
 oO 35 (.mv (.t 34)),
 oG 36 (.mv (.t 6)) 35 true,
 oG 37 (.bin .eql .no (.t 36) (.c (.int .i64 2))) 35 true,
 oO 38 (.pick (.t 35) (.t 37) (.c (.bool false))),
 oO 39 (.mv (.t 38)),
 oG 40 (.call 10 false []) 39 true,
 oO 41 (.pick (.t 39) (.t 40) (.c (.bool false))),
 oO 4 (.mv (.t 41))])
 (.ret))
 (.skip)))
 (.seq (.reg [oO 42 (.mv (.t 6)),
 oO 43 (.bin .eql .no (.t 42) (.c (.int .i64 0))),
 oO 44 (.mv (.t 43)),
 oG 45 (.mv (.t 5)) 44 true,
 oG 46 (.mv (.t 0)) 44 true,
 oG 47 (.mv (.t 1)) 44 true,
 oG 48 (.call 12 false [(.t 46), (.t 47)]) 44 true,
 oG 49 (.call 11 false [(.t 45), (.t 48)]) 44 true,
 oO 50 (.pick (.t 44) (.t 49) (.c (.bool false))),
 oO 51 (.mv (.t 50)),
 oG 52 (.call 10 false []) 51 true,
 oO 53 (.pick (.t 51) (.t 52) (.c (.bool false))),
 oO 4 (.mv (.t 53))])
 (.ret))))⟩

/- redpencil/redpencillaw20.DiskLongs -/
def a4 : AFn := ⟨130, [.t 4],
  .seq (.reg [oO 4 (.mv (.c (.bool false)))])
 (.seq (.seq (.reg [oO 14 (.mv (.t 0)),
 oO 15 (.bin .lss .no (.t 14) (.c (.int .i64 9998))),
 oO 16 (.mv (.t 15)),
 oG 17 (.mv (.t 0)) 16 false,
 oG 18 (.bin .gtr .no (.t 17) (.c (.int .i64 10002))) 16 false,
 oO 19 (.pick (.t 16) (.c (.bool true)) (.t 18))])
 (.cond (.t 19) (.seq (.reg [oO 20 (.call 10 false []),
 oO 4 (.mv (.t 20))])
 (.ret))
 (.skip)))
 (.seq (.reg [oO 22 (.call 8 false [(.c (.int .i64 2)), (.c (.int .i64 32))]),
 oO 21 (.mv (.t 22)),
 oO 23 (.ext (.t 21) 0),
 oO 24 (.ext (.t 21) 1),
 oO 5 (.mv (.t 23)),
 oO 6 (.mv (.t 24))])
 (.seq (.reg [oO 26 (.call 8 false [(.c (.int .i64 2)), (.c (.int .i64 32))]),
 oO 25 (.mv (.t 26)),
 oO 27 (.ext (.t 25) 0),
 oO 28 (.ext (.t 25) 1),
 oO 7 (.mv (.t 27)),
 oO 8 (.mv (.t 28))])
 (.seq (.seq (.reg [oO 29 (.mv (.t 5)),
 oO 30 (.bin .eql .np (.t 29) (.c .nilp)),
 oO 31 (.mv (.t 30)),
 oG 32 (.mv (.t 7)) 31 false,
 oG 33 (.bin .eql .np (.t 32) (.c .nilp)) 31 false,
 oO 34 (.pick (.t 31) (.c (.bool true)) (.t 33)),
 oO 35 (.mv (.t 34)),
 oG 36 (.mv (.t 6)) 35 false,
 oG 37 (.bin .neq .no (.t 36) (.c (.int .i64 0))) 35 false,
 oO 38 (.pick (.t 35) (.c (.bool true)) (.t 37)),
 oO 39 (.mv (.t 38)),
 oG 40 (.mv (.t 8)) 39 false,
 oG 41 (.bin .neq .no (.t 40) (.c (.int .i64 0))) 39 false,
 oO 42 (.pick (.t 39) (.c (.bool true)) (.t 41))])
 (.cond (.t 42) (.seq (.reg [oO 4 (.mv (.c (.bool false)))])
 (.ret))
 (.skip)))
 (.seq (.reg [oO 43 (.mv (.t 0)),
 oO 44 (.mksl [(.int .i64 0), .nils] 32 (.t 43) (.t 43)),
 oO 9 (.mv (.t 44))])
 (.seq (.seq (.reg [oO 10 (.mv (.c (.int .i64 0)))])
 (.block 0 (.loop (.seq (.seq (.reg [oO 45 (.mv (.t 10)),
 oO 46 (.mv (.t 0)),
 oO 47 (.bin .lss .no (.t 45) (.t 46))])
 (.cond (.t 47) (.skip)
 (.exit 0)))
 (.seq (.block 1 (.reg [oO 50 (.mv (.t 9)),
 oO 51 (.mv (.t 10)),
 oO 52 (.mv (.t 10)),
 oO 53 (.bin .rem .no (.t 52) (.c (.int .i64 2))),
 oO 54 (.mv (.t 10)),
 oO 55 (.conv .u8 (.t 54)),
 oO 56 (.mv (.t 10)),
 oO 57 (.bin .quo .no (.t 56) (.c (.int .i64 256))),
 oO 58 (.conv .u8 (.t 57)),
 oO 59 (.bsl [(.int .u8 0), (.int .u8 0)] 2 1 [(0, (.t 55)), (1, (.t 58))]),
 oO 60 (.build [(.int .i64 0), .nils] [(0, 1, (.t 53)), (1, 1, (.t 59))]),
 oO 61 (.iad 2 (.t 50) (.t 51)),
 ⟨none, .store 2 (.t 61) (.t 60), none, none, false⟩]))
 (.reg [oO 48 (.mv (.t 10)),
 oO 49 (.bin .add .no (.t 48) (.c (.int .i64 1))),
 oO 10 (.mv (.t 49))]))))))
 (.seq (.seq (.reg [oO 62 (.mv (.t 0)),
 oO 63 (.bin .gtr .no (.t 62) (.c (.int .i64 10000)))])
 (.cond (.t 63) (.seq (.reg [oO 64 (.mv (.t 5)),
 oO 65 (.mv (.t 9)),
 oO 66 (.call 13 false [(.t 64), (.t 65)]),
 oO 67 (.bin .eql .no (.t 66) (.c (.int .i64 5))),
 oO 68 (.mv (.t 67)),
 oG 69 (.mv (.t 7)) 68 true,
 oG 70 (.mv (.t 9)) 68 true,
 oG 71 (.call 14 false [(.t 69), (.t 70), (.c (.int .i64 0)), (.c (.int .i64 0))]) 68 true,
 oG 72 (.bin .eql .no (.t 71) (.c (.int .i64 5))) 68 true,
 oO 73 (.pick (.t 68) (.t 72) (.c (.bool false))),
 oO 74 (.mv (.t 73)),
 oG 75 (.mv (.t 5)) 74 true,
 oG 76 (.mksl [(.int .u8 0)] 1 (.c (.int .i64 64)) (.c (.int .i64 64))) 74 true,
 oG 77 (.call 15 false [(.t 75), (.c (.int .i64 0)), (.c (.int .i64 64)), (.t 76), (.c (.int .i64 0))]) 74 true,
 oO 78 (.pick (.t 74) (.t 77) (.c (.bool false))),
 oO 79 (.mv (.t 78)),
 oG 80 (.call 10 false []) 79 true,
 oO 81 (.pick (.t 79) (.t 80) (.c (.bool false))),
 oO 4 (.mv (.t 81))])
 (.ret))
 (.skip)))
 (.seq (.reg [oO 82 (.mv (.t 1)),
 oO 83 (.conv .i64 (.t 82)),
 oO 84 (.mv (.t 0)),
 oO 85 (.bin .sub .no (.t 84) (.c (.int .i64 2))),
 oO 86 (.bin .rem .no (.t 83) (.t 85)),
 oO 87 (.bin .add .no (.c (.int .i64 2)) (.t 86)),
 oO 11 (.mv (.t 87))])
 (.seq (.seq (.reg [oO 88 (.mv (.t 5)),
 oO 89 (.mv (.t 9)),
 oO 90 (.call 13 false [(.t 88), (.t 89)]),
 oO 91 (.bin .neq .no (.t 90) (.c (.int .i64 0))),
 oO 92 (.mv (.t 91)),
 oG 93 (.mv (.t 7)) 92 false,
 oG 94 (.mv (.t 9)) 92 false,
 oG 95 (.mv (.t 11)) 92 false,
 oG 96 (.call 14 false [(.t 93), (.t 94), (.t 95), (.c (.int .i64 1))]) 92 false,
 oG 97 (.bin .neq .no (.t 96) (.c (.int .i64 0))) 92 false,
 oO 98 (.pick (.t 92) (.c (.bool true)) (.t 97))])
 (.cond (.t 98) (.seq (.reg [oO 4 (.mv (.c (.bool false)))])
 (.ret))
 (.skip)))
 (.seq (.reg [oO 99 (.call 12 false [(.c (.int .i64 2)), (.c (.int .i64 32))]),
 oO 100 (.call 12 false [(.c (.int .i64 2)), (.c (.int .i64 32))]),
 oO 12 (.mv (.t 99)),
 oO 13 (.mv (.t 100))])
 (.seq (.reg [oO 101 (.mv (.t 12)),
 oO 102 (.mv (.t 9)),
 oO 103 (.mv (.t 0)),
 oO 104 (.bin .sub .no (.t 103) (.c (.int .i64 2))),
 oO 105 (.slc 2 (.t 102) (some (.t 104)) none none),
 oO 106 (.call 16 false [(.t 101), (.t 105)])])
 (.seq (.reg [oO 107 (.mv (.t 13)),
 oO 108 (.mv (.t 9)),
 oO 109 (.mv (.t 11)),
 oO 110 (.bin .sub .no (.t 109) (.c (.int .i64 2))),
 oO 111 (.mv (.t 11)),
 oO 112 (.slc 2 (.t 108) (some (.t 110)) (some (.t 111)) none),
 oO 113 (.call 16 false [(.t 107), (.t 112)])])
 (.seq (.reg [oO 114 (.mv (.t 13)),
 oO 115 (.mv (.t 9)),
 oO 116 (.mv (.t 11)),
 oO 117 (.slc 2 (.t 115) (some (.t 116)) none none),
 oO 118 (.call 17 false [(.t 114), (.t 117), (.c (.int .i64 0)), (.c (.int .i64 1))])])
 (.seq (.reg [oO 119 (.mv (.t 5)),
 oO 120 (.mv (.t 12)),
 oO 121 (.call 11 false [(.t 119), (.t 120)]),
 oO 122 (.mv (.t 121)),
 oG 123 (.mv (.t 7)) 122 true,
 oG 124 (.mv (.t 13)) 122 true,
 oG 125 (.call 11 false [(.t 123), (.t 124)]) 122 true,
 oO 126 (.pick (.t 122) (.t 125) (.c (.bool false))),
 oO 127 (.mv (.t 126)),
 oG 128 (.call 10 false []) 127 true,
 oO 129 (.pick (.t 127) (.t 128) (.c (.bool false))),
 oO 4 (.mv (.t 129))])
 (.ret)))))))))))))))⟩

/- redpencil/redpencillaw20.DiskHolds -/
def a5 : AFn := ⟨296, [.t 14],
  .seq (.reg [oO 14 (.mv (.c (.bool false)))])
 (.seq (.seq (.reg [oO 30 (.mv (.t 0)),
 oO 31 (.bin .lss .no (.t 30) (.c (.int .i64 1))),
 oO 32 (.mv (.t 31)),
 oG 33 (.mv (.t 0)) 32 false,
 oG 34 (.bin .gtr .no (.t 33) (.c (.int .i64 8))) 32 false,
 oO 35 (.pick (.t 32) (.c (.bool true)) (.t 34)),
 oO 36 (.mv (.t 35)),
 oG 37 (.mv (.t 1)) 36 false,
 oG 38 (.bin .lss .no (.t 37) (.c (.int .i64 32))) 36 false,
 oO 39 (.pick (.t 36) (.c (.bool true)) (.t 38)),
 oO 40 (.mv (.t 39)),
 oG 41 (.mv (.t 1)) 40 false,
 oG 42 (.bin .gtr .no (.t 41) (.c (.int .i64 64))) 40 false,
 oO 43 (.pick (.t 40) (.c (.bool true)) (.t 42)),
 oO 44 (.mv (.t 43)),
 oG 45 (.mv (.t 2)) 44 false,
 oG 46 (.len .sl (.t 45)) 44 false,
 oG 47 (.bin .gtr .no (.t 46) (.c (.int .i64 500))) 44 false,
 oO 48 (.pick (.t 44) (.c (.bool true)) (.t 47)),
 oO 49 (.mv (.t 48)),
 oG 50 (.mv (.t 4)) 49 false,
 oG 51 (.call 18 false [(.t 50), (.c (.int .i64 8))]) 49 false,
 oG 52 (.un .not (.t 51)) 49 false,
 oO 53 (.pick (.t 49) (.c (.bool true)) (.t 52))])
 (.cond (.t 53) (.seq (.reg [oO 54 (.call 10 false []),
 oO 14 (.mv (.t 54))])
 (.ret))
 (.skip)))
 (.seq (.reg [oO 56 (.mv (.t 0)),
 oO 57 (.mv (.t 1)),
 oO 58 (.call 8 false [(.t 56), (.t 57)]),
 oO 55 (.mv (.t 58)),
 oO 59 (.ext (.t 55) 0),
 oO 60 (.ext (.t 55) 1),
 oO 15 (.mv (.t 59)),
 oO 16 (.mv (.t 60))])
 (.seq (.seq (.reg [oO 61 (.mv (.t 15)),
 oO 62 (.bin .eql .np (.t 61) (.c .nilp)),
 oO 63 (.mv (.t 62)),
 oG 64 (.mv (.t 16)) 63 false,
 oG 65 (.bin .neq .no (.t 64) (.c (.int .i64 0))) 63 false,
 oO 66 (.pick (.t 63) (.c (.bool true)) (.t 65))])
 (.cond (.t 66) (.seq (.reg [oO 14 (.mv (.c (.bool false)))])
 (.ret))
 (.skip)))
 (.seq (.seq (.reg [oO 17 (.mv (.c (.int .i64 0)))])
 (.block 0 (.loop (.seq (.seq (.reg [oO 67 (.mv (.t 17)),
 oO 68 (.mv (.t 4)),
 oO 69 (.len .sl (.t 68)),
 oO 70 (.bin .lss .no (.t 67) (.t 69))])
 (.cond (.t 70) (.skip)
 (.exit 0)))
 (.seq (.block 1 (.reg [oO 73 (.mv (.t 15)),
 oO 74 (.mv (.t 4)),
 oO 75 (.mv (.t 17)),
 oO 76 (.mv (.t 17)),
 oO 77 (.bin .add .no (.t 76) (.c (.int .i64 1))),
 oO 78 (.slc 2 (.t 74) (some (.t 75)) (some (.t 77)) none),
 oO 79 (.call 13 false [(.t 73), (.t 78)])]))
 (.reg [oO 71 (.mv (.t 17)),
 oO 72 (.bin .add .no (.t 71) (.c (.int .i64 1))),
 oO 17 (.mv (.t 72))]))))))
 (.seq (.reg [oO 80 (.mv (.t 0)),
 oO 81 (.mv (.t 1)),
 oO 82 (.bin .mul .no (.t 80) (.t 81)),
 oO 18 (.mv (.t 82))])
 (.seq (.reg [oO 84 (.mv (.t 15)),
 oO 85 (.mv (.t 18)),
 oO 86 (.call 19 false [(.t 84), (.c (.int .i64 0)), (.t 85)]),
 oO 83 (.mv (.t 86)),
 oO 87 (.ext (.t 83) 0),
 oO 88 (.ext (.t 83) 1),
 oO 19 (.mv (.t 87)),
 oO 16 (.mv (.t 88))])
 (.seq (.reg [oO 90 (.mv (.t 15)),
 oO 91 (.mv (.t 3)),
 oO 92 (.conv .i64 (.t 91)),
 oO 93 (.mv (.t 0)),
 oO 94 (.bin .rem .no (.t 92) (.t 93)),
 oO 95 (.mv (.t 2)),
 oO 96 (.call 20 false [(.t 90), (.t 94), (.t 95)]),
 oO 89 (.mv (.t 96)),
 oO 97 (.ext (.t 89) 0),
 oO 98 (.ext (.t 89) 1),
 oO 20 (.mv (.t 97)),
 oO 21 (.mv (.t 98))])
 (.seq (.seq (.reg [oO 99 (.mv (.t 16)),
 oO 100 (.bin .neq .no (.t 99) (.c (.int .i64 0))),
 oO 101 (.mv (.t 100)),
 oG 102 (.mv (.t 21)) 101 false,
 oG 103 (.bin .eql .no (.t 102) (.c (.int .i64 0))) 101 false,
 oG 104 (.mv (.t 2)) 101 false,
 oG 105 (.len .sl (.t 104)) 101 false,
 oG 106 (.mv (.t 0)) 101 false,
 oG 107 (.mv (.t 3)) 101 false,
 oG 108 (.conv .i64 (.t 107)) 101 false,
 oG 109 (.mv (.t 0)) 101 false,
 oG 110 (.bin .rem .no (.t 108) (.t 109)) 101 false,
 oG 111 (.bin .sub .no (.t 106) (.t 110)) 101 false,
 oG 112 (.mv (.t 1)) 101 false,
 oG 113 (.bin .mul .no (.t 111) (.t 112)) 101 false,
 oG 114 (.bin .leq .no (.t 105) (.t 113)) 101 false,
 oG 115 (.bin .neq .bo (.t 103) (.t 114)) 101 false,
 oO 116 (.pick (.t 101) (.c (.bool true)) (.t 115))])
 (.cond (.t 116) (.seq (.reg [oO 14 (.mv (.c (.bool false)))])
 (.ret))
 (.skip)))
 (.seq (.seq (.reg [oO 117 (.mv (.t 21)),
 oO 118 (.bin .neq .no (.t 117) (.c (.int .i64 0)))])
 (.cond (.t 118) (.seq (.reg [oO 119 (.mv (.t 21)),
 oO 120 (.bin .eql .no (.t 119) (.c (.int .i64 3))),
 oO 121 (.mv (.t 120)),
 oG 122 (.call 10 false []) 121 true,
 oO 123 (.pick (.t 121) (.t 122) (.c (.bool false))),
 oO 14 (.mv (.t 123))])
 (.ret))
 (.skip)))
 (.seq (.reg [oO 124 (.mv (.t 15)),
 oO 125 (.call 21 false [(.t 124)]),
 oO 126 (.mv (.t 15)),
 oO 127 (.call 21 false [(.t 126)]),
 oO 128 (.mv (.t 15)),
 oO 129 (.call 21 false [(.t 128)]),
 oO 22 (.mv (.t 125)),
 oO 23 (.mv (.t 127)),
 oO 24 (.mv (.t 129))])
 (.seq (.seq (.reg [oO 130 (.mv (.t 22)),
 oO 131 (.bin .eql .np (.t 130) (.c .nilp)),
 oO 132 (.mv (.t 131)),
 oG 133 (.mv (.t 23)) 132 false,
 oG 134 (.bin .eql .np (.t 133) (.c .nilp)) 132 false,
 oO 135 (.pick (.t 132) (.c (.bool true)) (.t 134)),
 oO 136 (.mv (.t 135)),
 oG 137 (.mv (.t 24)) 136 false,
 oG 138 (.bin .eql .np (.t 137) (.c .nilp)) 136 false,
 oO 139 (.pick (.t 136) (.c (.bool true)) (.t 138)),
 oO 140 (.mv (.t 139)),
 oG 141 (.mv (.t 15)) 140 false,
 oG 142 (.mv (.t 20)) 140 false,
 oG 143 (.call 13 false [(.t 141), (.t 142)]) 140 false,
 oG 144 (.bin .neq .no (.t 143) (.c (.int .i64 0))) 140 false,
 oO 145 (.pick (.t 140) (.c (.bool true)) (.t 144)),
 oO 146 (.mv (.t 145)),
 oG 147 (.mv (.t 15)) 146 false,
 oG 148 (.mv (.t 3)) 146 false,
 oG 149 (.conv .i64 (.t 148)) 146 false,
 oG 150 (.mv (.t 0)) 146 false,
 oG 151 (.bin .rem .no (.t 149) (.t 150)) 146 false,
 oG 152 (.mv (.t 2)) 146 false,
 oG 153 (.len .sl (.t 152)) 146 false,
 oG 154 (.mv (.t 2)) 146 false,
 oG 155 (.call 15 false [(.t 147), (.t 151), (.t 153), (.t 154), (.c (.int .i64 0))]) 146 false,
 oG 156 (.un .not (.t 155)) 146 false,
 oO 157 (.pick (.t 146) (.c (.bool true)) (.t 156))])
 (.cond (.t 157) (.seq (.reg [oO 14 (.mv (.c (.bool false)))])
 (.ret))
 (.skip)))
 (.seq (.reg [oO 159 (.mv (.t 15)),
 oO 160 (.mv (.t 18)),
 oO 161 (.call 19 false [(.t 159), (.c (.int .i64 0)), (.t 160)]),
 oO 158 (.mv (.t 161)),
 oO 162 (.ext (.t 158) 0),
 oO 163 (.ext (.t 158) 1),
 oO 25 (.mv (.t 162)),
 oO 16 (.mv (.t 163))])
 (.seq (.seq (.reg [oO 164 (.mv (.t 16)),
 oO 165 (.bin .neq .no (.t 164) (.c (.int .i64 0))),
 oO 166 (.mv (.t 165)),
 oG 167 (.mv (.t 22)) 166 false,
 oG 168 (.mv (.t 20)) 166 false,
 oG 169 (.mv (.t 20)) 166 false,
 oG 170 (.len .sl (.t 169)) 166 false,
 oG 171 (.call 14 false [(.t 167), (.t 168), (.t 170), (.c (.int .i64 0))]) 166 false,
 oG 172 (.bin .neq .no (.t 171) (.c (.int .i64 0))) 166 false,
 oO 173 (.pick (.t 166) (.c (.bool true)) (.t 172)),
 oO 174 (.mv (.t 173)),
 oG 175 (.mv (.t 22)) 174 false,
 oG 176 (.mv (.t 18)) 174 false,
 oG 177 (.mv (.t 25)) 174 false,
 oG 178 (.call 15 false [(.t 175), (.c (.int .i64 0)), (.t 176), (.t 177), (.c (.int .i64 0))]) 174 false,
 oG 179 (.un .not (.t 178)) 174 false,
 oO 180 (.pick (.t 174) (.c (.bool true)) (.t 179)),
 oO 181 (.mv (.t 180)),
 oG 182 (.mv (.t 23)) 181 false,
 oG 183 (.mv (.t 20)) 181 false,
 oG 184 (.call 14 false [(.t 182), (.t 183), (.c (.int .i64 0)), (.c (.int .i64 0))]) 181 false,
 oG 185 (.bin .neq .no (.t 184) (.c (.int .i64 0))) 181 false,
 oO 186 (.pick (.t 181) (.c (.bool true)) (.t 185)),
 oO 187 (.mv (.t 186)),
 oG 188 (.mv (.t 23)) 187 false,
 oG 189 (.mv (.t 18)) 187 false,
 oG 190 (.mv (.t 19)) 187 false,
 oG 191 (.call 15 false [(.t 188), (.c (.int .i64 0)), (.t 189), (.t 190), (.c (.int .i64 0))]) 187 false,
 oG 192 (.un .not (.t 191)) 187 false,
 oO 193 (.pick (.t 187) (.c (.bool true)) (.t 192))])
 (.cond (.t 193) (.seq (.reg [oO 14 (.mv (.c (.bool false)))])
 (.ret))
 (.skip)))
 (.seq (.reg [oO 194 (.mv (.t 5)),
 oO 195 (.conv .i64 (.t 194)),
 oO 196 (.mv (.t 20)),
 oO 197 (.len .sl (.t 196)),
 oO 198 (.bin .add .no (.t 197) (.c (.int .i64 1))),
 oO 199 (.bin .rem .no (.t 195) (.t 198)),
 oO 26 (.mv (.t 199)),
 oO 27 (.mv (.c (.int .i64 0)))])
 (.seq (.seq (.reg [oO 200 (.mv (.t 26)),
 oO 201 (.mv (.t 20)),
 oO 202 (.len .sl (.t 201)),
 oO 203 (.bin .lss .no (.t 200) (.t 202))])
 (.cond (.t 203) (.reg [oO 204 (.mv (.t 6)),
 oO 205 (.conv .i64 (.t 204)),
 oO 206 (.mv (.t 20)),
 oO 207 (.mv (.t 26)),
 oO 208 (.iad 2 (.t 206) (.t 207)),
 oO 209 (.fad 1 (.t 208)),
 oO 210 (.load1 (.t 209)),
 oO 211 (.len .sl (.t 210)),
 oO 212 (.bin .add .no (.t 211) (.c (.int .i64 1))),
 oO 213 (.bin .rem .no (.t 205) (.t 212)),
 oO 27 (.mv (.t 213))])
 (.skip)))
 (.seq (.seq (.reg [oO 214 (.mv (.t 24)),
 oO 215 (.mv (.t 20)),
 oO 216 (.mv (.t 26)),
 oO 217 (.mv (.t 27)),
 oO 218 (.call 14 false [(.t 214), (.t 215), (.t 216), (.t 217)]),
 oO 219 (.bin .neq .no (.t 218) (.c (.int .i64 0)))])
 (.cond (.t 219) (.seq (.reg [oO 14 (.mv (.c (.bool false)))])
 (.ret))
 (.skip)))
 (.seq (.reg [oO 221 (.mv (.t 24)),
 oO 222 (.mv (.t 18)),
 oO 223 (.call 19 false [(.t 221), (.c (.int .i64 0)), (.t 222)]),
 oO 220 (.mv (.t 223)),
 oO 224 (.ext (.t 220) 0),
 oO 225 (.ext (.t 220) 1),
 oO 28 (.mv (.t 224)),
 oO 16 (.mv (.t 225))])
 (.seq (.reg [oO 226 (.mv (.t 3)),
 oO 227 (.conv .i64 (.t 226)),
 oO 228 (.mv (.t 0)),
 oO 229 (.bin .rem .no (.t 227) (.t 228)),
 oO 230 (.mv (.t 1)),
 oO 231 (.bin .mul .no (.t 229) (.t 230)),
 oO 232 (.mv (.t 2)),
 oO 233 (.len .sl (.t 232)),
 oO 234 (.mv (.t 26)),
 oO 235 (.mv (.t 1)),
 oO 236 (.bin .mul .no (.t 234) (.t 235)),
 oO 237 (.mv (.t 27)),
 oO 238 (.bin .add .no (.t 236) (.t 237)),
 oO 239 (.mm false [(.t 233), (.t 238)]),
 oO 240 (.bin .add .no (.t 231) (.t 239)),
 oO 29 (.mv (.t 240))])
 (.seq (.seq (.regd 0 [oO 241 (.mv (.t 16)),
 oO 242 (.bin .neq .no (.t 241) (.c (.int .i64 0))),
 oO 243 (.mv (.t 242)),
 oG 244 (.mv (.t 28)) 243 false,
 oG 245 (.len .sl (.t 244)) 243 false,
 oG 246 (.mv (.t 18)) 243 false,
 oG 247 (.bin .neq .no (.t 245) (.t 246)) 243 false,
 oO 248 (.pick (.t 243) (.c (.bool true)) (.t 247)),
 oO 249 (.mv (.t 248)),
 oG 250 (.mv (.t 19)) 249 false,
 oG 251 (.len .sl (.t 250)) 249 false,
 oG 252 (.mv (.t 18)) 249 false,
 oG 253 (.bin .neq .no (.t 251) (.t 252)) 249 false,
 oO 254 (.pick (.t 249) (.c (.bool true)) (.t 253)),
 oO 255 (.mv (.t 254)),
 oG 256 (.mv (.t 25)) 255 false,
 oG 257 (.len .sl (.t 256)) 255 false,
 oG 258 (.mv (.t 18)) 255 false,
 oG 259 (.bin .neq .no (.t 257) (.t 258)) 255 false,
 oO 260 (.pick (.t 255) (.c (.bool true)) (.t 259)),
 oO 261 (.mv (.t 260)),
 oG 262 (.mv (.t 28)) 261 false,
 oG 263 (.mv (.t 29)) 261 false,
 oG 264 (.slc 1 (.t 262) none (some (.t 263)) none) 261 false,
 oG 265 (.b2s (.t 264)) 261 false,
 oG 266 (.mv (.t 25)) 261 false,
 oG 267 (.mv (.t 29)) 261 false,
 oG 268 (.slc 1 (.t 266) none (some (.t 267)) none) 261 false,
 oG 269 (.b2s (.t 268)) 261 false,
 oG 270 (.bin .neq .no (.t 265) (.t 269)) 261 false,
 oO 271 (.pick (.t 261) (.c (.bool true)) (.t 270)),
 oO 272 (.mv (.t 271)),
 oG 273 (.mv (.t 28)) 272 false,
 oG 274 (.mv (.t 29)) 272 false,
 oG 275 (.slc 1 (.t 273) (some (.t 274)) none none) 272 false,
 oG 276 (.b2s (.t 275)) 272 false,
 oG 277 (.mv (.t 19)) 272 false,
 oG 278 (.mv (.t 29)) 272 false,
 oG 279 (.slc 1 (.t 277) (some (.t 278)) none none) 272 false,
 oG 280 (.b2s (.t 279)) 272 false,
 oG 281 (.bin .neq .no (.t 276) (.t 280)) 272 false,
 oO 282 (.pick (.t 272) (.c (.bool true)) (.t 281))])
 (.cond (.t 282) (.seq (.reg [oO 14 (.mv (.c (.bool false)))])
 (.ret))
 (.skip)))
 (.seq (.reg [oO 283 (.mv (.t 24)),
 oO 284 (.mv (.t 20)),
 oO 285 (.call 13 false [(.t 283), (.t 284)]),
 oO 286 (.bin .eql .no (.t 285) (.c (.int .i64 0))),
 oO 287 (.mv (.t 286)),
 oG 288 (.mv (.t 24)) 287 true,
 oG 289 (.mv (.t 18)) 287 true,
 oG 290 (.mv (.t 25)) 287 true,
 oG 291 (.call 15 false [(.t 288), (.c (.int .i64 0)), (.t 289), (.t 290), (.c (.int .i64 0))]) 287 true,
 oO 292 (.pick (.t 287) (.t 291) (.c (.bool false))),
 oO 293 (.mv (.t 292)),
 oG 294 (.call 10 false []) 293 true,
 oO 295 (.pick (.t 293) (.t 294) (.c (.bool false))),
 oO 14 (.mv (.t 295))])
 (.ret)))))))))))))))))))))⟩

/- redpencil/redpencillaw20.DiskPlays -/
def a6 : AFn := ⟨296, [.t 6],
  .seq (.reg [oO 6 (.mv (.c (.bool false)))])
 (.seq (.seq (.reg [oO 29 (.mv (.t 0)),
 oO 30 (.bin .lss .no (.t 29) (.c (.int .i64 1))),
 oO 31 (.mv (.t 30)),
 oG 32 (.mv (.t 0)) 31 false,
 oG 33 (.bin .gtr .no (.t 32) (.c (.int .i64 8))) 31 false,
 oO 34 (.pick (.t 31) (.c (.bool true)) (.t 33)),
 oO 35 (.mv (.t 34)),
 oG 36 (.mv (.t 1)) 35 false,
 oG 37 (.bin .lss .no (.t 36) (.c (.int .i64 32))) 35 false,
 oO 38 (.pick (.t 35) (.c (.bool true)) (.t 37)),
 oO 39 (.mv (.t 38)),
 oG 40 (.mv (.t 1)) 39 false,
 oG 41 (.bin .gtr .no (.t 40) (.c (.int .i64 64))) 39 false,
 oO 42 (.pick (.t 39) (.c (.bool true)) (.t 41)),
 oO 43 (.mv (.t 42)),
 oG 44 (.mv (.t 2)) 43 false,
 oG 45 (.len .sl (.t 44)) 43 false,
 oG 46 (.bin .gtr .no (.t 45) (.c (.int .i64 30))) 43 false,
 oO 47 (.pick (.t 43) (.c (.bool true)) (.t 46))])
 (.cond (.t 47) (.seq (.reg [oO 48 (.call 10 false []),
 oO 6 (.mv (.t 48))])
 (.ret))
 (.skip)))
 (.seq (.reg [oO 50 (.mv (.t 0)),
 oO 51 (.mv (.t 1)),
 oO 52 (.call 8 false [(.t 50), (.t 51)]),
 oO 49 (.mv (.t 52)),
 oO 53 (.ext (.t 49) 0),
 oO 54 (.ext (.t 49) 1),
 oO 7 (.mv (.t 53)),
 oO 8 (.mv (.t 54))])
 (.seq (.reg [oO 55 (.mv (.t 0)),
 oO 56 (.mv (.t 1)),
 oO 57 (.call 12 false [(.t 55), (.t 56)]),
 oO 9 (.mv (.t 57))])
 (.seq (.seq (.reg [oO 58 (.mv (.t 8)),
 oO 59 (.bin .neq .no (.t 58) (.c (.int .i64 0)))])
 (.cond (.t 59) (.seq (.reg [oO 6 (.mv (.c (.bool false)))])
 (.ret))
 (.skip)))
 (.seq (.seq (.reg [oO 10 (.mv (.c (.int .i64 0)))])
 (.block 0 (.loop (.seq (.seq (.reg [oO 60 (.mv (.t 10)),
 oO 61 (.mv (.t 2)),
 oO 62 (.len .sl (.t 61)),
 oO 63 (.bin .lss .no (.t 60) (.t 62))])
 (.cond (.t 63) (.skip)
 (.exit 0)))
 (.seq (.block 1 (.seq (.reg [oO 66 (.mv (.t 2)),
 oO 67 (.mv (.t 10)),
 oO 68 (.iad 4 (.t 66) (.t 67)),
 oO 69 (.loadn 4 (.t 68)),
 oO 11 (.alloc [(.int .i64 0), (.int .i64 0), (.int .i64 0), .nils]),
 ⟨none, .store 4 (.t 11) (.t 69), none, none, false⟩])
 (.seq (.seq (.reg [oO 70 (.mv (.t 7)),
 oO 71 (.bin .eql .np (.t 70) (.c .nilp)),
 oO 72 (.mv (.t 71)),
 oG 73 (.fad 3 (.t 11)) 72 false,
 oG 74 (.load1 (.t 73)) 72 false,
 oG 75 (.call 18 false [(.t 74), (.c (.int .i64 8))]) 72 false,
 oG 76 (.un .not (.t 75)) 72 false,
 oO 77 (.pick (.t 72) (.c (.bool true)) (.t 76))])
 (.cond (.t 77) (.seq (.reg [oO 78 (.mv (.t 7)),
 oO 79 (.bin .neq .np (.t 78) (.c .nilp)),
 oO 80 (.mv (.t 79)),
 oG 81 (.call 10 false []) 80 true,
 oO 82 (.pick (.t 80) (.t 81) (.c (.bool false))),
 oO 6 (.mv (.t 82))])
 (.ret))
 (.skip)))
 (.seq (.reg [oO 83 (.fad 3 (.t 11)),
 oO 84 (.load1 (.t 83)),
 oO 85 (.call 22 false [(.t 84)]),
 oO 12 (.mv (.t 85))])
 (.seq (.seq (.reg [oO 86 (.fad 0 (.t 11)),
 oO 87 (.load1 (.t 86))])
 (.block 2 (.seq (.reg [oO 97 (.bin .eql .no (.t 87) (.c (.int .i64 0))),
 oO 96 (.mv (.t 97))])
 (.cond (.t 96) (.seq (.regw [oO 98 (.mv (.t 7)),
 oO 99 (.mv (.t 12)),
 oO 100 (.call 13 false [(.t 98), (.t 99)]),
 oO 101 (.mv (.t 9)),
 oO 102 (.fad 3 (.t 11)),
 oO 103 (.load1 (.t 102)),
 oO 104 (.call 16 false [(.t 101), (.t 103)]),
 oO 105 (.bin .neq .no (.t 100) (.t 104))] [(103, 102)])
 (.cond (.t 105) (.seq (.reg [oO 6 (.mv (.c (.bool false)))])
 (.ret))
 (.skip)))
 (.seq (.seq (.reg [oO 107 (.bin .eql .no (.t 87) (.c (.int .i64 1))),
 oO 106 (.mv (.t 107))])
 (.cond (.t 106) (.skip)
 (.reg [oO 108 (.bin .eql .no (.t 87) (.c (.int .i64 2))),
 oO 106 (.mv (.t 108))])))
 (.cond (.t 106) (.seq (.regd 0 [oO 109 (.fad 1 (.t 11)),
 oO 110 (.load1 (.t 109)),
 oO 111 (.fad 2 (.t 11)),
 oO 112 (.load1 (.t 111)),
 oO 13 (.mv (.t 110)),
 oO 14 (.mv (.t 112))])
 (.seq (.seq (.reg [oO 113 (.fad 0 (.t 11)),
 oO 114 (.load1 (.t 113)),
 oO 115 (.bin .eql .no (.t 114) (.c (.int .i64 2)))])
 (.cond (.t 115) (.seq (.reg [oO 116 (.fad 1 (.t 11)),
 oO 117 (.load1 (.t 116)),
 oO 118 (.conv .u64 (.t 117)),
 oO 119 (.fad 3 (.t 11)),
 oO 120 (.load1 (.t 119)),
 oO 121 (.len .sl (.t 120)),
 oO 122 (.bin .add .no (.t 121) (.c (.int .i64 1))),
 oO 123 (.conv .u64 (.t 122)),
 oO 124 (.bin .rem .no (.t 118) (.t 123)),
 oO 125 (.conv .i64 (.t 124)),
 oO 13 (.mv (.t 125))])
 (.seq (.reg [oO 14 (.mv (.c (.int .i64 0)))])
 (.seq (.reg [oO 126 (.mv (.t 13)),
 oO 127 (.fad 3 (.t 11)),
 oO 128 (.load1 (.t 127)),
 oO 129 (.len .sl (.t 128)),
 oO 130 (.bin .lss .no (.t 126) (.t 129))])
 (.cond (.t 130) (.regd 0 [oO 131 (.fad 2 (.t 11)),
 oO 132 (.load1 (.t 131)),
 oO 133 (.conv .u64 (.t 132)),
 oO 134 (.fad 3 (.t 11)),
 oO 135 (.load1 (.t 134)),
 oO 136 (.mv (.t 13)),
 oO 137 (.iad 2 (.t 135) (.t 136)),
 oO 138 (.fad 1 (.t 137)),
 oO 139 (.load1 (.t 138)),
 oO 140 (.len .sl (.t 139)),
 oO 141 (.bin .add .no (.t 140) (.c (.int .i64 1))),
 oO 142 (.conv .u64 (.t 141)),
 oO 143 (.bin .rem .no (.t 133) (.t 142)),
 oO 144 (.conv .i64 (.t 143)),
 oO 14 (.mv (.t 144))])
 (.skip)))))
 (.skip)))
 (.seq (.regw [oO 145 (.mv (.t 7)),
 oO 146 (.mv (.t 12)),
 oO 147 (.mv (.t 13)),
 oO 148 (.mv (.t 14)),
 oO 149 (.call 14 false [(.t 145), (.t 146), (.t 147), (.t 148)]),
 oO 150 (.mv (.t 9)),
 oO 151 (.fad 3 (.t 11)),
 oO 152 (.load1 (.t 151)),
 oO 153 (.mv (.t 13)),
 oO 154 (.mv (.t 14)),
 oO 155 (.call 17 false [(.t 150), (.t 152), (.t 153), (.t 154)]),
 oO 156 (.bin .neq .no (.t 149) (.t 155))] [(152, 151)])
 (.cond (.t 156) (.seq (.reg [oO 6 (.mv (.c (.bool false)))])
 (.ret))
 (.skip)))))
 (.seq (.reg [oO 158 (.bin .eql .no (.t 87) (.c (.int .i64 3))),
 oO 157 (.mv (.t 158))])
 (.cond (.t 157) (.seq (.reg [oO 160 (.mv (.t 9)),
 oO 161 (.fad 1 (.t 11)),
 oO 162 (.load1 (.t 161)),
 oO 163 (.fad 2 (.t 11)),
 oO 164 (.load1 (.t 163)),
 oO 165 (.call 23 false [(.t 160), (.t 162), (.t 164)]),
 oO 159 (.mv (.t 165)),
 oO 166 (.ext (.t 159) 0),
 oO 167 (.ext (.t 159) 1),
 oO 15 (.mv (.t 166)),
 oO 16 (.mv (.t 167))])
 (.seq (.seq (.reg [oO 168 (.mv (.t 7)),
 oO 169 (.fad 1 (.t 11)),
 oO 170 (.load1 (.t 169)),
 oO 171 (.fad 2 (.t 11)),
 oO 172 (.load1 (.t 171)),
 oO 173 (.mv (.t 15)),
 oO 174 (.mv (.t 16)),
 oO 175 (.call 15 false [(.t 168), (.t 170), (.t 172), (.t 173), (.t 174)]),
 oO 176 (.un .not (.t 175))])
 (.cond (.t 176) (.seq (.reg [oO 6 (.mv (.c (.bool false)))])
 (.ret))
 (.skip)))
 (.seq (.reg [oO 178 (.mv (.t 7)),
 oO 179 (.fad 1 (.t 11)),
 oO 180 (.load1 (.t 179)),
 oO 181 (.fad 2 (.t 11)),
 oO 182 (.load1 (.t 181)),
 oO 183 (.call 19 false [(.t 178), (.t 180), (.t 182)]),
 oO 177 (.mv (.t 183)),
 oO 184 (.ext (.t 177) 0),
 oO 185 (.ext (.t 177) 1),
 oO 17 (.mv (.t 184)),
 oO 18 (.mv (.t 185))])
 (.seq (.reg [oO 19 (.mv (.c (.int .i64 0)))])
 (.block 3 (.loop (.seq (.seq (.reg [oO 186 (.mv (.t 19)),
 oO 187 (.mv (.t 17)),
 oO 188 (.len .sl (.t 187)),
 oO 189 (.bin .lss .no (.t 186) (.t 188))])
 (.cond (.t 189) (.skip)
 (.exit 3)))
 (.seq (.block 4 (.reg [oO 192 (.mv (.t 17)),
 oO 193 (.mv (.t 19)),
 oO 194 (.iad 1 (.t 192) (.t 193)),
 oO 195 (.load1 (.t 194)),
 oO 196 (.bin .add .no (.t 195) (.c (.int .u8 1))),
 oO 197 (.iad 1 (.t 192) (.t 193)),
 ⟨none, .store 1 (.t 197) (.t 196), none, none, false⟩]))
 (.reg [oO 190 (.mv (.t 19)),
 oO 191 (.bin .add .no (.t 190) (.c (.int .i64 1))),
 oO 19 (.mv (.t 191))])))))))))
 (.seq (.reg [oO 199 (.bin .eql .no (.t 87) (.c (.int .i64 4))),
 oO 198 (.mv (.t 199))])
 (.cond (.t 198) (.seq (.reg [oO 20 (.mv (.c .nils))])
 (.seq (.seq (.reg [oO 200 (.fad 3 (.t 11)),
 oO 201 (.load1 (.t 200)),
 oO 202 (.len .sl (.t 201)),
 oO 203 (.bin .gtr .no (.t 202) (.c (.int .i64 0)))])
 (.cond (.t 203) (.reg [oO 204 (.mv (.t 12)),
 oO 205 (.iad 2 (.t 204) (.c (.int .i64 0))),
 oO 206 (.fad 1 (.t 205)),
 oO 207 (.load1 (.t 206)),
 oO 20 (.mv (.t 207))])
 (.skip)))
 (.seq (.reg [oO 209 (.mv (.t 9)),
 oO 210 (.fad 1 (.t 11)),
 oO 211 (.load1 (.t 210)),
 oO 212 (.mv (.t 20)),
 oO 213 (.call 24 false [(.t 209), (.t 211), (.t 212)]),
 oO 208 (.mv (.t 213)),
 oO 214 (.ext (.t 208) 0),
 oO 215 (.ext (.t 208) 1),
 oO 21 (.mv (.t 214)),
 oO 22 (.mv (.t 215))])
 (.seq (.seq (.reg [oO 216 (.mv (.t 7)),
 oO 217 (.fad 1 (.t 11)),
 oO 218 (.load1 (.t 217)),
 oO 219 (.mv (.t 20)),
 oO 220 (.mv (.t 21)),
 oO 221 (.mv (.t 22)),
 oO 222 (.call 25 false [(.t 216), (.t 218), (.t 219), (.t 220), (.t 221)]),
 oO 223 (.un .not (.t 222))])
 (.cond (.t 223) (.seq (.reg [oO 6 (.mv (.c (.bool false)))])
 (.ret))
 (.skip)))
 (.seq (.reg [oO 225 (.mv (.t 7)),
 oO 226 (.fad 1 (.t 11)),
 oO 227 (.load1 (.t 226)),
 oO 228 (.mv (.t 20)),
 oO 229 (.call 20 false [(.t 225), (.t 227), (.t 228)]),
 oO 224 (.mv (.t 229)),
 oO 230 (.ext (.t 224) 0),
 oO 231 (.ext (.t 224) 1),
 oO 23 (.mv (.t 230)),
 oO 24 (.mv (.t 231))])
 (.seq (.reg [oO 25 (.mv (.c (.int .i64 0)))])
 (.block 5 (.loop (.seq (.seq (.reg [oO 232 (.mv (.t 25)),
 oO 233 (.mv (.t 23)),
 oO 234 (.len .sl (.t 233)),
 oO 235 (.bin .lss .no (.t 232) (.t 234))])
 (.cond (.t 235) (.skip)
 (.exit 5)))
 (.seq (.block 6 (.seq (.reg [oO 238 (.mv (.t 23)),
 oO 239 (.mv (.t 25)),
 oO 240 (.iad 2 (.t 238) (.t 239)),
 oO 241 (.fad 1 (.t 240)),
 oO 242 (.load1 (.t 241)),
 oO 243 (.len .sl (.t 242)),
 oO 244 (.bin .gtr .no (.t 243) (.c (.int .i64 0)))])
 (.cond (.t 244) (.reg [oO 245 (.mv (.t 23)),
 oO 246 (.mv (.t 25)),
 oO 247 (.iad 2 (.t 245) (.t 246)),
 oO 248 (.fad 1 (.t 247)),
 oO 249 (.load1 (.t 248)),
 oO 250 (.iad 1 (.t 249) (.c (.int .i64 0))),
 oO 251 (.load1 (.t 250)),
 oO 252 (.bin .add .no (.t 251) (.c (.int .u8 1))),
 oO 253 (.iad 1 (.t 249) (.c (.int .i64 0))),
 ⟨none, .store 1 (.t 253) (.t 252), none, none, false⟩])
 (.skip))))
 (.reg [oO 236 (.mv (.t 25)),
 oO 237 (.bin .add .no (.t 236) (.c (.int .i64 1))),
 oO 25 (.mv (.t 237))])))))))))))
 (.seq (.reg [oO 88 (.mv (.t 7)),
 oO 89 (.call 21 false [(.t 88)]),
 oO 26 (.mv (.t 89))])
 (.seq (.reg [oO 90 (.mv (.t 7)),
 oO 91 (.bsl [(.int .u8 0), (.int .u8 0), (.int .u8 0)] 3 1 [(0, (.c (.int .u8 1))), (1, (.c (.int .u8 2))), (2, (.c (.int .u8 3)))]),
 oO 92 (.build [(.int .i64 0), .nils] [(1, 1, (.t 91))]),
 oO 93 (.bsl [(.int .i64 0), .nils] 1 2 [(0, (.t 92))]),
 oO 94 (.call 13 false [(.t 90), (.t 93)])])
 (.reg [oO 95 (.mv (.t 26)),
 oO 7 (.mv (.t 95))])))))))))))))
 (.seq (.seq (.reg [oO 254 (.mv (.t 12)),
 oO 255 (.fad 3 (.t 11)),
 oO 256 (.load1 (.t 255)),
 oO 257 (.call 26 false [(.t 254), (.t 256)]),
 oO 258 (.un .not (.t 257)),
 oO 259 (.mv (.t 258)),
 oG 260 (.mv (.t 7)) 259 false,
 oG 261 (.mv (.t 9)) 259 false,
 oG 262 (.call 11 false [(.t 260), (.t 261)]) 259 false,
 oG 263 (.un .not (.t 262)) 259 false,
 oO 264 (.pick (.t 259) (.c (.bool true)) (.t 263))])
 (.cond (.t 264) (.seq (.reg [oO 6 (.mv (.c (.bool false)))])
 (.ret))
 (.skip)))
 (.seq (.seq (.reg [oO 27 (.mv (.c (.int .i64 0)))])
 (.block 7 (.loop (.seq (.seq (.reg [oO 265 (.mv (.t 27)),
 oO 266 (.mv (.t 12)),
 oO 267 (.len .sl (.t 266)),
 oO 268 (.bin .lss .no (.t 265) (.t 267))])
 (.cond (.t 268) (.skip)
 (.exit 7)))
 (.seq (.block 8 (.seq (.reg [oO 28 (.mv (.c (.int .i64 0)))])
 (.block 9 (.loop (.seq (.seq (.reg [oO 271 (.mv (.t 28)),
 oO 272 (.mv (.t 12)),
 oO 273 (.mv (.t 27)),
 oO 274 (.iad 2 (.t 272) (.t 273)),
 oO 275 (.fad 1 (.t 274)),
 oO 276 (.load1 (.t 275)),
 oO 277 (.len .sl (.t 276)),
 oO 278 (.bin .lss .no (.t 271) (.t 277))])
 (.cond (.t 278) (.skip)
 (.exit 9)))
 (.seq (.block 10 (.reg [oO 281 (.mv (.t 12)),
 oO 282 (.mv (.t 27)),
 oO 283 (.iad 2 (.t 281) (.t 282)),
 oO 284 (.fad 1 (.t 283)),
 oO 285 (.load1 (.t 284)),
 oO 286 (.mv (.t 28)),
 oO 287 (.iad 1 (.t 285) (.t 286)),
 oO 288 (.load1 (.t 287)),
 oO 289 (.bin .add .no (.t 288) (.c (.int .u8 1))),
 oO 290 (.iad 1 (.t 285) (.t 286)),
 ⟨none, .store 1 (.t 290) (.t 289), none, none, false⟩]))
 (.reg [oO 279 (.mv (.t 28)),
 oO 280 (.bin .add .no (.t 279) (.c (.int .i64 1))),
 oO 28 (.mv (.t 280))])))))))
 (.reg [oO 269 (.mv (.t 27)),
 oO 270 (.bin .add .no (.t 269) (.c (.int .i64 1))),
 oO 27 (.mv (.t 270))]))))))
 (.seq (.reg [oO 291 (.mv (.t 7)),
 oO 292 (.mv (.t 9)),
 oO 293 (.call 11 false [(.t 291), (.t 292)]),
 oO 294 (.un .not (.t 293))])
 (.cond (.t 294) (.seq (.reg [oO 6 (.mv (.c (.bool false)))])
 (.ret))
 (.skip))))))))))
 (.reg [oO 64 (.mv (.t 10)),
 oO 65 (.bin .add .no (.t 64) (.c (.int .i64 1))),
 oO 10 (.mv (.t 65))]))))))
 (.seq (.reg [oO 295 (.call 10 false []),
 oO 6 (.mv (.t 295))])
 (.ret)))))))⟩

/- redpencil/redpencillaw20.DiskNil -/
def a7 : AFn := ⟨64, [.t 6],
  .seq (.reg [oO 6 (.mv (.c (.bool false)))])
 (.seq (.seq (.reg [oO 9 (.mv (.t 2)),
 oO 10 (.call 18 false [(.t 9), (.c (.int .i64 8))]),
 oO 11 (.un .not (.t 10))])
 (.cond (.t 11) (.seq (.reg [oO 12 (.call 10 false []),
 oO 6 (.mv (.t 12))])
 (.ret))
 (.skip)))
 (.seq (.seq (.reg [oO 13 (.build [(.int .i64 0), .nils] []),
 oO 14 (.box 2 (.t 13)),
 oO 15 (.bsl [.nilp, .nilp] 2 1 [(0, (.c .nilp)), (1, (.t 14))]),
 oO 16 (.len .sl (.t 15)),
 oO 17 (.mv (.c (.int .i64 0)))])
 (.block 0 (.loop (.seq (.reg [oO 18 (.bin .lss .no (.t 17) (.t 16))])
 (.seq (.cond (.t 18) (.skip)
 (.exit 0))
 (.seq (.block 1 (.seq (.reg [oO 19 (.iad 1 (.t 15) (.t 17)),
 oO 20 (.load1 (.t 19)),
 oO 8 (.mv (.t 20))])
 (.seq (.reg [oO 21 (.mv (.t 8)),
 oO 22 (.mv (.t 2)),
 oO 23 (.call 13 false [(.t 21), (.t 22)]),
 oO 24 (.bin .neq .no (.t 23) (.c (.int .i64 1))),
 oO 25 (.mv (.t 24)),
 oG 26 (.mv (.t 8)) 25 false,
 oG 27 (.mv (.t 2)) 25 false,
 oG 28 (.mv (.t 0)) 25 false,
 oG 29 (.mv (.t 1)) 25 false,
 oG 30 (.call 14 false [(.t 26), (.t 27), (.t 28), (.t 29)]) 25 false,
 oG 31 (.bin .neq .no (.t 30) (.c (.int .i64 1))) 25 false,
 oO 32 (.pick (.t 25) (.c (.bool true)) (.t 31)),
 oO 33 (.mv (.t 32)),
 oG 34 (.mv (.t 8)) 33 false,
 oG 35 (.mv (.t 0)) 33 false,
 oG 36 (.mv (.t 1)) 33 false,
 oG 37 (.call 15 false [(.t 34), (.t 35), (.t 36), (.c .nils), (.c (.int .i64 1))]) 33 false,
 oG 38 (.un .not (.t 37)) 33 false,
 oO 39 (.pick (.t 33) (.c (.bool true)) (.t 38)),
 oO 40 (.mv (.t 39)),
 oG 41 (.mv (.t 8)) 40 false,
 oG 42 (.mv (.t 0)) 40 false,
 oG 43 (.bsl [(.int .u8 0)] 1 1 [(0, (.c (.int .u8 1)))]) 40 false,
 oG 44 (.call 25 false [(.t 41), (.t 42), (.t 43), (.c .nils), (.c (.int .i64 1))]) 40 false,
 oG 45 (.un .not (.t 44)) 40 false,
 oO 46 (.pick (.t 40) (.c (.bool true)) (.t 45)),
 oO 47 (.mv (.t 46)),
 oG 48 (.mv (.t 8)) 47 false,
 oG 49 (.call 27 false [(.t 48)]) 47 false,
 oG 50 (.bin .neq .no (.t 49) (.c (.int .i64 0))) 47 false,
 oO 51 (.pick (.t 47) (.c (.bool true)) (.t 50)),
 oO 52 (.mv (.t 51)),
 oG 53 (.mv (.t 8)) 52 false,
 oG 54 (.call 28 false [(.t 53)]) 52 false,
 oG 55 (.bin .neq .no (.t 54) (.c (.int .i64 0))) 52 false,
 oO 56 (.pick (.t 52) (.c (.bool true)) (.t 55)),
 oO 57 (.mv (.t 56)),
 oG 58 (.mv (.t 8)) 57 false,
 oG 59 (.call 21 false [(.t 58)]) 57 false,
 oG 60 (.bin .neq .np (.t 59) (.c .nilp)) 57 false,
 oO 61 (.pick (.t 57) (.c (.bool true)) (.t 60))])
 (.cond (.t 61) (.seq (.reg [oO 6 (.mv (.c (.bool false)))])
 (.ret))
 (.skip)))))
 (.reg [oO 62 (.bin .add .no (.t 17) (.c (.int .i64 1))),
 oO 17 (.mv (.t 62))])))))))
 (.seq (.reg [oO 63 (.call 10 false []),
 oO 6 (.mv (.t 63))])
 (.ret))))⟩

/- redpencil/disk.New -/
def a8 : AFn := ⟨33, [.t 4, .t 5],
  .seq (.reg [oO 4 (.mv (.c .nilp)),
 oO 5 (.mv (.c (.int .i64 0)))])
 (.seq (.seq (.reg [oO 6 (.mv (.t 0)),
 oO 7 (.bin .lss .no (.t 6) (.c (.int .i64 1))),
 oO 8 (.mv (.t 7)),
 oG 9 (.mv (.t 0)) 8 false,
 oG 10 (.bin .gtr .no (.t 9) (.c (.int .i64 4096))) 8 false,
 oO 11 (.pick (.t 8) (.c (.bool true)) (.t 10)),
 oO 12 (.mv (.t 11)),
 oG 13 (.mv (.t 1)) 12 false,
 oG 14 (.bin .lss .no (.t 13) (.c (.int .i64 32))) 12 false,
 oO 15 (.pick (.t 12) (.c (.bool true)) (.t 14)),
 oO 16 (.mv (.t 15)),
 oG 17 (.mv (.t 1)) 16 false,
 oG 18 (.bin .gtr .no (.t 17) (.c (.int .i64 4096))) 16 false,
 oO 19 (.pick (.t 16) (.c (.bool true)) (.t 18)),
 oO 20 (.mv (.t 19)),
 oG 21 (.mv (.t 0)) 20 false,
 oG 22 (.mv (.t 1)) 20 false,
 oG 23 (.bin .mul .no (.t 21) (.t 22)) 20 false,
 oG 24 (.bin .gtr .no (.t 23) (.c (.int .i64 1048576))) 20 false,
 oO 25 (.pick (.t 20) (.c (.bool true)) (.t 24))])
 (.cond (.t 25) (.seq (.reg [oO 4 (.mv (.c .nilp)),
 oO 5 (.mv (.c (.int .i64 2)))])
 (.ret))
 (.skip)))
 (.seq (.reg [oO 26 (.mv (.t 1)),
 oO 27 (.mv (.t 0)),
 oO 28 (.mv (.t 1)),
 oO 29 (.bin .mul .no (.t 27) (.t 28)),
 oO 30 (.mksl [(.int .u8 0)] 1 (.t 29) (.t 29)),
 oO 31 (.build [(.int .i64 0), .nils] [(0, 1, (.t 26)), (1, 1, (.t 30))]),
 oO 32 (.box 2 (.t 31)),
 oO 4 (.mv (.t 32)),
 oO 5 (.mv (.c (.int .i64 0)))])
 (.ret)))⟩

/- redpencil/redpencilref20.Right -/
def a9 : AFn := ⟨25, [.t 4],
  .seq (.reg [oO 4 (.mv (.c (.bool false)))])
 (.seq (.reg [oO 5 (.mv (.t 0)),
 oO 6 (.bin .geq .no (.t 5) (.c (.int .i64 1))),
 oO 7 (.mv (.t 6)),
 oG 8 (.mv (.t 0)) 7 true,
 oG 9 (.bin .leq .no (.t 8) (.c (.int .i64 4096))) 7 true,
 oO 10 (.pick (.t 7) (.t 9) (.c (.bool false))),
 oO 11 (.mv (.t 10)),
 oG 12 (.mv (.t 1)) 11 true,
 oG 13 (.bin .geq .no (.t 12) (.c (.int .i64 32))) 11 true,
 oO 14 (.pick (.t 11) (.t 13) (.c (.bool false))),
 oO 15 (.mv (.t 14)),
 oG 16 (.mv (.t 1)) 15 true,
 oG 17 (.bin .leq .no (.t 16) (.c (.int .i64 4096))) 15 true,
 oO 18 (.pick (.t 15) (.t 17) (.c (.bool false))),
 oO 19 (.mv (.t 18)),
 oG 20 (.mv (.t 0)) 19 true,
 oG 21 (.mv (.t 1)) 19 true,
 oG 22 (.bin .mul .no (.t 20) (.t 21)) 19 true,
 oG 23 (.bin .leq .no (.t 22) (.c (.int .i64 1048576))) 19 true,
 oO 24 (.pick (.t 19) (.t 23) (.c (.bool false))),
 oO 4 (.mv (.t 24))])
 (.ret))⟩

end Go.AM
end
/-
  They are what the compiler makes of the loaded program. Printed by a program of this project.
-/
section
namespace Go.AM
open Go Go.Proofs

theorem c3 : cfn Try.prog Try.f3 = some a3 := by kernel_rfl
theorem k3 : callable Try.prog 3 = true := by kernel_rfl
theorem c4 : cfn Try.prog Try.f4 = some a4 := by kernel_rfl
theorem k4 : callable Try.prog 4 = true := by kernel_rfl
theorem c5 : cfn Try.prog Try.f5 = some a5 := by kernel_rfl
theorem k5 : callable Try.prog 5 = true := by kernel_rfl
theorem k6 : callable Try.prog 6 = true := by kernel_rfl
theorem c7 : cfn Try.prog Try.f7 = some a7 := by kernel_rfl
theorem k7 : callable Try.prog 7 = true := by kernel_rfl
theorem c8 : cfn Try.prog Try.f8 = some a8 := by kernel_rfl
theorem k8 : callable Try.prog 8 = true := by kernel_rfl
theorem c9 : cfn Try.prog Try.f9 = some a9 := by kernel_rfl
end Go.AM
end
/-
  The functions of this seat as the abstract machine runs them. Printed by a program of this project.
-/
section
set_option maxRecDepth 100000
namespace Go.AM
open Go

/- redpencil/redpencillaw20.known -/
def a10 : AFn := ⟨103, [.t 0],
  .seq (.reg [oO 0 (.mv (.c (.bool false)))])
 (.seq (.reg [oO 6 (.call 8 false [(.c (.int .i64 3)), (.c (.int .i64 32))]),
 oO 5 (.mv (.t 6)),
 oO 7 (.ext (.t 5) 0),
 oO 8 (.ext (.t 5) 1),
 oO 1 (.mv (.t 7)),
 oO 2 (.mv (.t 8))])
 (.seq (.reg [oO 9 (.call 29 false [(.c (.int .i64 32)), (.c (.int .u8 7))]),
 oO 10 (.build [(.int .i64 0), .nils] [(0, 1, (.c (.int .i64 1))), (1, 1, (.t 9))]),
 oO 11 (.call 29 false [(.c (.int .i64 8)), (.c (.int .u8 7))]),
 oO 12 (.build [(.int .i64 0), .nils] [(0, 1, (.c (.int .i64 2))), (1, 1, (.t 11))]),
 oO 13 (.bsl [(.int .i64 0), .nils, (.int .i64 0), .nils] 2 2 [(0, (.t 10)), (1, (.t 12))]),
 oO 3 (.mv (.t 13))])
 (.seq (.seq (.reg [oO 14 (.mv (.t 1)),
 oO 15 (.bin .eql .np (.t 14) (.c .nilp)),
 oO 16 (.mv (.t 15)),
 oG 17 (.mv (.t 2)) 16 false,
 oG 18 (.bin .neq .no (.t 17) (.c (.int .i64 0))) 16 false,
 oO 19 (.pick (.t 16) (.c (.bool true)) (.t 18)),
 oO 20 (.mv (.t 19)),
 oG 21 (.mv (.t 1)) 20 false,
 oG 22 (.call 29 false [(.c (.int .i64 40)), (.c (.int .u8 7))]) 20 false,
 oG 23 (.mv (.t 3)) 20 false,
 oG 24 (.call 25 false [(.t 21), (.c (.int .i64 1)), (.t 22), (.t 23), (.c (.int .i64 0))]) 20 false,
 oG 25 (.un .not (.t 24)) 20 false,
 oO 26 (.pick (.t 20) (.c (.bool true)) (.t 25)),
 oO 27 (.mv (.t 26)),
 oG 28 (.mv (.t 1)) 27 false,
 oG 29 (.mv (.t 3)) 27 false,
 oG 30 (.call 13 false [(.t 28), (.t 29)]) 27 false,
 oG 31 (.bin .neq .no (.t 30) (.c (.int .i64 0))) 27 false,
 oO 32 (.pick (.t 27) (.c (.bool true)) (.t 31)),
 oO 33 (.mv (.t 32)),
 oG 34 (.mv (.t 1)) 33 false,
 oG 35 (.call 29 false [(.c (.int .i64 40)), (.c (.int .u8 7))]) 33 false,
 oG 36 (.bsl [(.int .u8 0)] 1 1 [(0, (.c (.int .u8 0)))]) 33 false,
 oG 37 (.app 1 1 [(.int .u8 0)] (.t 35) (.t 36)) 33 false,
 oG 38 (.call 15 false [(.t 34), (.c (.int .i64 1)), (.c (.int .i64 41)), (.t 37), (.c (.int .i64 0))]) 33 false,
 oG 39 (.un .not (.t 38)) 33 false,
 oO 40 (.pick (.t 33) (.c (.bool true)) (.t 39))])
 (.cond (.t 40) (.seq (.reg [oO 0 (.mv (.c (.bool false)))])
 (.ret))
 (.skip)))
 (.seq (.seq (.reg [oO 41 (.mv (.t 1)),
 oO 42 (.bsl [(.int .u8 0)] 1 1 [(0, (.c (.int .u8 9)))]),
 oO 43 (.build [(.int .i64 0), .nils] [(0, 1, (.c (.int .i64 0))), (1, 1, (.t 42))]),
 oO 44 (.bsl [(.int .u8 0), (.int .u8 0), (.int .u8 0)] 3 1 [(0, (.c (.int .u8 8))), (1, (.c (.int .u8 8))), (2, (.c (.int .u8 8)))]),
 oO 45 (.build [(.int .i64 0), .nils] [(0, 1, (.c (.int .i64 1))), (1, 1, (.t 44))]),
 oO 46 (.bsl [(.int .i64 0), .nils, (.int .i64 0), .nils] 2 2 [(0, (.t 43)), (1, (.t 45))]),
 oO 47 (.call 14 false [(.t 41), (.t 46), (.c (.int .i64 1)), (.c (.int .i64 2))]),
 oO 48 (.bin .neq .no (.t 47) (.c (.int .i64 0))),
 oO 49 (.mv (.t 48)),
 oG 50 (.mv (.t 1)) 49 false,
 oG 51 (.bsl [(.int .u8 0)] 1 1 [(0, (.c (.int .u8 9)))]) 49 false,
 oG 52 (.call 15 false [(.t 50), (.c (.int .i64 0)), (.c (.int .i64 1)), (.t 51), (.c (.int .i64 0))]) 49 false,
 oG 53 (.un .not (.t 52)) 49 false,
 oO 54 (.pick (.t 49) (.c (.bool true)) (.t 53)),
 oO 55 (.mv (.t 54)),
 oG 56 (.mv (.t 1)) 55 false,
 oG 57 (.bsl [(.int .u8 0), (.int .u8 0), (.int .u8 0), (.int .u8 0)] 4 1 [(0, (.c (.int .u8 8))), (1, (.c (.int .u8 8))), (2, (.c (.int .u8 7))), (3, (.c (.int .u8 7)))]) 55 false,
 oG 58 (.call 15 false [(.t 56), (.c (.int .i64 1)), (.c (.int .i64 4)), (.t 57), (.c (.int .i64 0))]) 55 false,
 oG 59 (.un .not (.t 58)) 55 false,
 oO 60 (.pick (.t 55) (.c (.bool true)) (.t 59))])
 (.cond (.t 60) (.seq (.reg [oO 0 (.mv (.c (.bool false)))])
 (.ret))
 (.skip)))
 (.seq (.reg [oO 62 (.call 8 false [(.c (.int .i64 1)), (.c (.int .i64 31))]),
 oO 61 (.mv (.t 62)),
 oO 63 (.ext (.t 61) 0),
 oO 64 (.ext (.t 61) 1),
 oO 4 (.mv (.t 63)),
 oO 2 (.mv (.t 64))])
 (.seq (.reg [oO 65 (.mv (.t 1)),
 oO 66 (.build [(.int .i64 0), .nils] [(0, 1, (.c (.int .i64 3)))]),
 oO 67 (.bsl [(.int .i64 0), .nils] 1 2 [(0, (.t 66))]),
 oO 68 (.call 13 false [(.t 65), (.t 67)]),
 oO 69 (.bin .eql .no (.t 68) (.c (.int .i64 3))),
 oO 70 (.mv (.t 69)),
 oG 71 (.mv (.t 1)) 70 true,
 oG 72 (.call 29 false [(.c (.int .i64 33)), (.c (.int .u8 1))]) 70 true,
 oG 73 (.build [(.int .i64 0), .nils] [(1, 1, (.t 72))]) 70 true,
 oG 74 (.bsl [(.int .i64 0), .nils] 1 2 [(0, (.t 73))]) 70 true,
 oG 75 (.call 13 false [(.t 71), (.t 74)]) 70 true,
 oG 76 (.bin .eql .no (.t 75) (.c (.int .i64 5))) 70 true,
 oO 77 (.pick (.t 70) (.t 76) (.c (.bool false))),
 oO 78 (.mv (.t 77)),
 oG 79 (.mv (.t 1)) 78 true,
 oG 80 (.bsl [(.int .u8 0)] 1 1 [(0, (.c (.int .u8 1)))]) 78 true,
 oG 81 (.build [(.int .i64 0), .nils] [(1, 1, (.t 80))]) 78 true,
 oG 82 (.bsl [(.int .i64 0), .nils] 1 2 [(0, (.t 81))]) 78 true,
 oG 83 (.call 14 false [(.t 79), (.t 82), (.c (.int .i64 1)), (.c (.int .i64 1))]) 78 true,
 oG 84 (.bin .eql .no (.t 83) (.c (.int .i64 2))) 78 true,
 oO 85 (.pick (.t 78) (.t 84) (.c (.bool false))),
 oO 86 (.mv (.t 85)),
 oG 87 (.mv (.t 1)) 86 true,
 oG 88 (.call 15 false [(.t 87), (.c (.int .i64 2)), (.c (.int .i64 33)), (.c .nils), (.c (.int .i64 3))]) 86 true,
 oO 89 (.pick (.t 86) (.t 88) (.c (.bool false))),
 oO 90 (.mv (.t 89)),
 oG 91 (.mv (.t 1)) 90 true,
 oG 92 (.call 29 false [(.c (.int .i64 97)), (.c (.int .u8 1))]) 90 true,
 oG 93 (.call 25 false [(.t 91), (.c (.int .i64 0)), (.t 92), (.c .nils), (.c (.int .i64 3))]) 90 true,
 oO 94 (.pick (.t 90) (.t 93) (.c (.bool false))),
 oO 95 (.mv (.t 94)),
 oG 96 (.mv (.t 4)) 95 true,
 oG 97 (.bin .eql .np (.t 96) (.c .nilp)) 95 true,
 oO 98 (.pick (.t 95) (.t 97) (.c (.bool false))),
 oO 99 (.mv (.t 98)),
 oG 100 (.mv (.t 2)) 99 true,
 oG 101 (.bin .eql .no (.t 100) (.c (.int .i64 2))) 99 true,
 oO 102 (.pick (.t 99) (.t 101) (.c (.bool false))),
 oO 0 (.mv (.t 102))])
 (.ret)))))))⟩

/- redpencil/redpencillaw20.alike -/
def a11 : AFn := ⟨42, [.t 4],
  .seq (.reg [oO 4 (.mv (.c (.bool false)))])
 (.seq (.regd 0 [oO 5 (.mv (.t 0)),
 oO 6 (.bin .neq .np (.t 5) (.c .nilp)),
 oO 7 (.mv (.t 6)),
 oG 8 (.mv (.t 0)) 7 true,
 oG 9 (.call 27 true [(.t 8)]) 7 true,
 oG 10 (.mv (.t 1)) 7 true,
 oG 11 (.nchk (.t 10)) 7 true,
 oG 12 (.fad 1 (.t 11)) 7 true,
 oG 13 (.load1 (.t 12)) 7 true,
 oG 14 (.len .sl (.t 13)) 7 true,
 oG 15 (.bin .eql .no (.t 9) (.t 14)) 7 true,
 oO 16 (.pick (.t 7) (.t 15) (.c (.bool false))),
 oO 17 (.mv (.t 16)),
 oG 18 (.mv (.t 0)) 17 true,
 oG 19 (.call 28 true [(.t 18)]) 17 true,
 oG 20 (.mv (.t 1)) 17 true,
 oG 21 (.nchk (.t 20)) 17 true,
 oG 22 (.fad 0 (.t 21)) 17 true,
 oG 23 (.load1 (.t 22)) 17 true,
 oG 24 (.bin .eql .no (.t 19) (.t 23)) 17 true,
 oO 25 (.pick (.t 17) (.t 24) (.c (.bool false))),
 oO 26 (.mv (.t 25)),
 oG 27 (.mv (.t 0)) 26 true,
 oG 28 (.mv (.t 1)) 26 true,
 oG 29 (.nchk (.t 28)) 26 true,
 oG 30 (.fad 1 (.t 29)) 26 true,
 oG 31 (.load1 (.t 30)) 26 true,
 oG 32 (.len .sl (.t 31)) 26 true,
 oG 33 (.mv (.t 1)) 26 true,
 oG 34 (.nchk (.t 33)) 26 true,
 oG 35 (.fad 0 (.t 34)) 26 true,
 oG 36 (.load1 (.t 35)) 26 true,
 oG 37 (.bin .mul .no (.t 32) (.t 36)) 26 true,
 oG 38 (.mv (.t 1)) 26 true,
 ⟨(some 39), .call 30 false [(.t 38), (.c (.int .i64 0))], (some (26, true)), none, true⟩,
 oG 40 (.call 15 false [(.t 27), (.c (.int .i64 0)), (.t 37), (.t 39), (.c (.int .i64 0))]) 26 true,
 oO 41 (.pick (.t 26) (.t 40) (.c (.bool false))),
 oO 4 (.mv (.t 41))])
 (.ret))⟩

/- redpencil/redpencilref20.New -/
def a12 : AFn := ⟨27, [.t 4],
  .seq (.reg [oO 4 (.mv (.c .nilp))])
 (.seq (.reg [oO 7 (.mv (.t 1)),
 oO 8 (.build [(.int .i64 0), .nils] [(0, 1, (.t 7))]),
 oO 9 (.box 2 (.t 8)),
 oO 5 (.mv (.t 9))])
 (.seq (.seq (.reg [oO 6 (.mv (.c (.int .i64 0)))])
 (.block 0 (.loop (.seq (.seq (.reg [oO 10 (.mv (.t 6)),
 oO 11 (.mv (.t 0)),
 oO 12 (.bin .lss .no (.t 10) (.t 11))])
 (.cond (.t 12) (.skip)
 (.exit 0)))
 (.seq (.block 1 (.regd 2 [oO 15 (.mv (.t 5)),
 oO 16 (.mv (.t 5)),
 oO 17 (.nchk (.t 16)),
 oO 18 (.fad 1 (.t 17)),
 oO 19 (.load1 (.t 18)),
 oO 20 (.mv (.t 1)),
 ⟨(some 21), .mksl [(.int .u8 0)] 1 (.t 20) (.t 20), none, (some 0), false⟩,
 ⟨(some 22), .bsl [.nils] 1 1 [(0, (.t 21))], none, (some 1), false⟩,
 oO 23 (.app 1 24 [.nils] (.t 19) (.t 22)),
 oO 24 (.nchk (.t 15)),
 oO 25 (.fad 1 (.t 24)),
 ⟨none, .store 1 (.t 25) (.t 23), none, none, false⟩]))
 (.reg [oO 13 (.mv (.t 6)),
 oO 14 (.bin .add .no (.t 13) (.c (.int .i64 1))),
 oO 6 (.mv (.t 14))]))))))
 (.seq (.reg [oO 26 (.mv (.t 5)),
 oO 4 (.mv (.t 26))])
 (.ret))))⟩

/- (*redpencil/disk.Disk).Write -/
def a13 : AFn := ⟨15, [.t 4],
  .seq (.reg [oO 4 (.mv (.c (.int .i64 0)))])
 (.seq (.reg [oO 6 (.mv (.t 0)),
 oO 7 (.mv (.t 1)),
 oO 8 (.call 31 false [(.t 6), (.t 7)]),
 oO 5 (.mv (.t 8))])
 (.seq (.seq (.reg [oO 9 (.mv (.t 5)),
 oO 10 (.bin .eql .no (.t 9) (.c (.int .i64 0)))])
 (.cond (.t 10) (.reg [oO 11 (.mv (.t 0)),
 oO 12 (.mv (.t 1)),
 oO 13 (.call 32 false [(.t 11), (.t 12)])])
 (.skip)))
 (.seq (.reg [oO 14 (.mv (.t 5)),
 oO 4 (.mv (.t 14))])
 (.ret))))⟩

/- (*redpencil/disk.Disk).Crash -/
def a14 : AFn := ⟨57, [.t 8],
  .seq (.reg [oO 8 (.mv (.c (.int .i64 0)))])
 (.seq (.seq (.reg [oO 11 (.mv (.t 0)),
 oO 12 (.mv (.t 1)),
 oO 13 (.call 31 false [(.t 11), (.t 12)]),
 oO 9 (.mv (.t 13))])
 (.seq (.reg [oO 14 (.mv (.t 9)),
 oO 15 (.bin .neq .no (.t 14) (.c (.int .i64 0)))])
 (.cond (.t 15) (.seq (.reg [oO 16 (.mv (.t 9)),
 oO 8 (.mv (.t 16))])
 (.ret))
 (.skip))))
 (.seq (.seq (.reg [oO 17 (.mv (.t 2)),
 oO 18 (.bin .lss .no (.t 17) (.c (.int .i64 0))),
 oO 19 (.mv (.t 18)),
 oG 20 (.mv (.t 2)) 19 false,
 oG 21 (.mv (.t 1)) 19 false,
 oG 22 (.len .sl (.t 21)) 19 false,
 oG 23 (.bin .gtr .no (.t 20) (.t 22)) 19 false,
 oO 24 (.pick (.t 19) (.c (.bool true)) (.t 23))])
 (.cond (.t 24) (.seq (.reg [oO 8 (.mv (.c (.int .i64 2)))])
 (.ret))
 (.skip)))
 (.seq (.reg [oO 10 (.alloc [(.int .i64 0), .nils])])
 (.seq (.seq (.reg [oO 25 (.mv (.t 2)),
 oO 26 (.mv (.t 1)),
 oO 27 (.len .sl (.t 26)),
 oO 28 (.bin .lss .no (.t 25) (.t 27))])
 (.cond (.t 28) (.reg [oO 29 (.mv (.t 1)),
 oO 30 (.mv (.t 2)),
 oO 31 (.iad 2 (.t 29) (.t 30)),
 oO 32 (.loadn 2 (.t 31)),
 ⟨none, .store 2 (.t 10) (.t 32), none, none, false⟩])
 (.skip)))
 (.seq (.seq (.reg [oO 33 (.mv (.t 3)),
 oO 34 (.bin .lss .no (.t 33) (.c (.int .i64 0))),
 oO 35 (.mv (.t 34)),
 oG 36 (.mv (.t 3)) 35 false,
 oG 37 (.fad 1 (.t 10)) 35 false,
 oG 38 (.load1 (.t 37)) 35 false,
 oG 39 (.len .sl (.t 38)) 35 false,
 oG 40 (.bin .gtr .no (.t 36) (.t 39)) 35 false,
 oO 41 (.pick (.t 35) (.c (.bool true)) (.t 40))])
 (.cond (.t 41) (.seq (.reg [oO 8 (.mv (.c (.int .i64 2)))])
 (.ret))
 (.skip)))
 (.seq (.reg [oO 42 (.mv (.t 0)),
 oO 43 (.mv (.t 1)),
 oO 44 (.mv (.t 2)),
 oO 45 (.slc 2 (.t 43) none (some (.t 44)) none),
 oO 46 (.call 32 false [(.t 42), (.t 45)])])
 (.seq (.regd 1 [oO 47 (.mv (.t 0)),
 oO 48 (.fad 0 (.t 10)),
 oO 49 (.load1 (.t 48)),
 oO 50 (.fad 1 (.t 10)),
 oO 51 (.load1 (.t 50)),
 oO 52 (.mv (.t 3)),
 oO 53 (.slc 1 (.t 51) none (some (.t 52)) none),
 oO 54 (.build [(.int .i64 0), .nils] [(0, 1, (.t 49)), (1, 1, (.t 53))]),
 ⟨(some 55), .bsl [(.int .i64 0), .nils] 1 2 [(0, (.t 54))], none, (some 0), false⟩,
 oO 56 (.call 32 false [(.t 47), (.t 55)])])
 (.seq (.reg [oO 8 (.mv (.c (.int .i64 0)))])
 (.ret)))))))))⟩

/- redpencil/redpencillaw20.reads -/
def a15 : AFn := ⟨30, [.t 10],
  .seq (.reg [oO 10 (.mv (.c (.bool false)))])
 (.seq (.reg [oO 14 (.mv (.t 0)),
 oO 15 (.mv (.t 1)),
 oO 16 (.mv (.t 2)),
 oO 17 (.call 19 false [(.t 14), (.t 15), (.t 16)]),
 oO 13 (.mv (.t 17)),
 oO 18 (.ext (.t 13) 0),
 oO 19 (.ext (.t 13) 1),
 oO 11 (.mv (.t 18)),
 oO 12 (.mv (.t 19))])
 (.seq (.reg [oO 20 (.mv (.t 11)),
 oO 21 (.b2s (.t 20)),
 oO 22 (.mv (.t 3)),
 oO 23 (.b2s (.t 22)),
 oO 24 (.bin .eql .no (.t 21) (.t 23)),
 oO 25 (.mv (.t 24)),
 oG 26 (.mv (.t 12)) 25 true,
 oG 27 (.mv (.t 4)) 25 true,
 oG 28 (.bin .eql .no (.t 26) (.t 27)) 25 true,
 oO 29 (.pick (.t 25) (.t 28) (.c (.bool false))),
 oO 10 (.mv (.t 29))])
 (.ret)))⟩

/- (*redpencil/redpencilref20.Disk).Write -/
def a16 : AFn := ⟨31, [.t 4],
  .seq (.reg [oO 4 (.mv (.c (.int .i64 0)))])
 (.seq (.seq (.reg [oO 7 (.mv (.t 0)),
 oO 8 (.mv (.t 1)),
 oO 9 (.call 33 false [(.t 7), (.t 8)]),
 oO 5 (.mv (.t 9))])
 (.seq (.reg [oO 10 (.mv (.t 5)),
 oO 11 (.bin .neq .no (.t 10) (.c (.int .i64 0)))])
 (.cond (.t 11) (.seq (.reg [oO 12 (.mv (.t 5)),
 oO 4 (.mv (.t 12))])
 (.ret))
 (.skip))))
 (.seq (.seq (.reg [oO 6 (.mv (.c (.int .i64 0)))])
 (.block 0 (.loop (.seq (.seq (.reg [oO 13 (.mv (.t 6)),
 oO 14 (.mv (.t 1)),
 oO 15 (.len .sl (.t 14)),
 oO 16 (.bin .lss .no (.t 13) (.t 15))])
 (.cond (.t 16) (.skip)
 (.exit 0)))
 (.seq (.block 1 (.regd 0 [oO 19 (.mv (.t 0)),
 oO 20 (.mv (.t 1)),
 oO 21 (.mv (.t 6)),
 oO 22 (.iad 2 (.t 20) (.t 21)),
 oO 23 (.loadn 2 (.t 22)),
 oO 24 (.mv (.t 1)),
 oO 25 (.mv (.t 6)),
 oO 26 (.iad 2 (.t 24) (.t 25)),
 oO 27 (.fad 1 (.t 26)),
 oO 28 (.load1 (.t 27)),
 oO 29 (.len .sl (.t 28)),
 oO 30 (.call 34 false [(.t 19), (.t 23), (.t 29)])]))
 (.reg [oO 17 (.mv (.t 6)),
 oO 18 (.bin .add .no (.t 17) (.c (.int .i64 1))),
 oO 6 (.mv (.t 18))]))))))
 (.seq (.reg [oO 4 (.mv (.c (.int .i64 0)))])
 (.ret))))⟩

/- (*redpencil/redpencilref20.Disk).Crash -/
def a17 : AFn := ⟨70, [.t 8],
  .seq (.reg [oO 8 (.mv (.c (.int .i64 0)))])
 (.seq (.seq (.reg [oO 10 (.mv (.t 0)),
 oO 11 (.mv (.t 1)),
 oO 12 (.call 33 false [(.t 10), (.t 11)]),
 oO 9 (.mv (.t 12))])
 (.seq (.reg [oO 13 (.mv (.t 9)),
 oO 14 (.bin .neq .no (.t 13) (.c (.int .i64 0)))])
 (.cond (.t 14) (.seq (.reg [oO 15 (.mv (.t 9)),
 oO 8 (.mv (.t 15))])
 (.ret))
 (.skip))))
 (.seq (.seq (.reg [oO 16 (.mv (.t 2)),
 oO 17 (.bin .lss .no (.t 16) (.c (.int .i64 0))),
 oO 18 (.mv (.t 17)),
 oG 19 (.mv (.t 2)) 18 false,
 oG 20 (.mv (.t 1)) 18 false,
 oG 21 (.len .sl (.t 20)) 18 false,
 oG 22 (.bin .gtr .no (.t 19) (.t 21)) 18 false,
 oO 23 (.pick (.t 18) (.c (.bool true)) (.t 22)),
 oO 24 (.mv (.t 23)),
 oG 25 (.mv (.t 3)) 24 false,
 oG 26 (.bin .lss .no (.t 25) (.c (.int .i64 0))) 24 false,
 oO 27 (.pick (.t 24) (.c (.bool true)) (.t 26)),
 oO 28 (.mv (.t 27)),
 oG 29 (.mv (.t 2)) 28 false,
 oG 30 (.mv (.t 1)) 28 false,
 oG 31 (.len .sl (.t 30)) 28 false,
 oG 32 (.bin .eql .no (.t 29) (.t 31)) 28 false,
 oG 33 (.mv (.t 32)) 28 false,
 oG 34 (.mv (.t 3)) 33 true,
 oG 35 (.bin .gtr .no (.t 34) (.c (.int .i64 0))) 33 true,
 oG 36 (.pick (.t 33) (.t 35) (.c (.bool false))) 28 false,
 oO 37 (.pick (.t 28) (.c (.bool true)) (.t 36)),
 oO 38 (.mv (.t 37)),
 oG 39 (.mv (.t 2)) 38 false,
 oG 40 (.mv (.t 1)) 38 false,
 oG 41 (.len .sl (.t 40)) 38 false,
 oG 42 (.bin .lss .no (.t 39) (.t 41)) 38 false,
 oG 43 (.mv (.t 42)) 38 false,
 oG 44 (.mv (.t 3)) 43 true,
 oG 45 (.mv (.t 1)) 43 true,
 oG 46 (.mv (.t 2)) 43 true,
 oG 47 (.iad 2 (.t 45) (.t 46)) 43 true,
 oG 48 (.fad 1 (.t 47)) 43 true,
 oG 49 (.load1 (.t 48)) 43 true,
 oG 50 (.len .sl (.t 49)) 43 true,
 oG 51 (.bin .gtr .no (.t 44) (.t 50)) 43 true,
 oG 52 (.pick (.t 43) (.t 51) (.c (.bool false))) 38 false,
 oO 53 (.pick (.t 38) (.c (.bool true)) (.t 52))])
 (.cond (.t 53) (.seq (.reg [oO 8 (.mv (.c (.int .i64 2)))])
 (.ret))
 (.skip)))
 (.seq (.reg [oO 54 (.mv (.t 0)),
 oO 55 (.mv (.t 1)),
 oO 56 (.mv (.t 2)),
 oO 57 (.slc 2 (.t 55) none (some (.t 56)) none),
 oO 58 (.call 16 false [(.t 54), (.t 57)])])
 (.seq (.seq (.reg [oO 59 (.mv (.t 2)),
 oO 60 (.mv (.t 1)),
 oO 61 (.len .sl (.t 60)),
 oO 62 (.bin .lss .no (.t 59) (.t 61))])
 (.cond (.t 62) (.reg [oO 63 (.mv (.t 0)),
 oO 64 (.mv (.t 1)),
 oO 65 (.mv (.t 2)),
 oO 66 (.iad 2 (.t 64) (.t 65)),
 oO 67 (.loadn 2 (.t 66)),
 oO 68 (.mv (.t 3)),
 oO 69 (.call 34 false [(.t 63), (.t 67), (.t 68)])])
 (.skip)))
 (.seq (.reg [oO 8 (.mv (.c (.int .i64 0)))])
 (.ret))))))⟩

/- redpencil/redpencilref20.Small -/
/- (*redpencil/disk.Disk).Read -/
def a19 : AFn := ⟨36, [.t 6, .t 7],
  .seq (.reg [oO 6 (.mv (.c .nils)),
 oO 7 (.mv (.c (.int .i64 0)))])
 (.seq (.reg [oO 11 (.mv (.t 0)),
 oO 12 (.mv (.t 1)),
 oO 13 (.call 35 false [(.t 11), (.t 12)]),
 oO 10 (.mv (.t 13)),
 oO 14 (.ext (.t 10) 0),
 oO 15 (.ext (.t 10) 1),
 oO 8 (.mv (.t 14)),
 oO 9 (.mv (.t 15))])
 (.seq (.block 0 (.seq (.reg [oO 17 (.mv (.t 9)),
 oO 18 (.bin .eql .no (.t 17) (.c (.int .i64 1))),
 oO 16 (.mv (.t 18))])
 (.cond (.t 16) (.seq (.reg [oO 19 (.mv (.t 9)),
 oO 6 (.mv (.c .nils)),
 oO 7 (.mv (.t 19))])
 (.ret))
 (.seq (.reg [oO 21 (.mv (.t 2)),
 oO 22 (.bin .lss .no (.t 21) (.c (.int .i64 0))),
 oO 20 (.mv (.t 22))])
 (.cond (.t 20) (.seq (.reg [oO 6 (.mv (.c .nils)),
 oO 7 (.mv (.c (.int .i64 2)))])
 (.ret))
 (.seq (.reg [oO 24 (.mv (.t 9)),
 oO 25 (.bin .neq .no (.t 24) (.c (.int .i64 0))),
 oO 23 (.mv (.t 25))])
 (.cond (.t 23) (.seq (.reg [oO 26 (.mv (.t 9)),
 oO 6 (.mv (.c .nils)),
 oO 7 (.mv (.t 26))])
 (.ret))
 (.seq (.reg [oO 28 (.mv (.t 2)),
 oO 29 (.mv (.t 8)),
 oO 30 (.len .sl (.t 29)),
 oO 31 (.bin .gtr .no (.t 28) (.t 30)),
 oO 27 (.mv (.t 31))])
 (.cond (.t 27) (.seq (.reg [oO 6 (.mv (.c .nils)),
 oO 7 (.mv (.c (.int .i64 3)))])
 (.ret))
 (.skip))))))))))
 (.seq (.reg [oO 32 (.mv (.t 8)),
 oO 33 (.mv (.t 2)),
 oO 34 (.slc 1 (.t 32) none (some (.t 33)) none),
 oO 35 (.call 36 false [(.t 34)]),
 oO 6 (.mv (.t 35)),
 oO 7 (.mv (.c (.int .i64 0)))])
 (.ret))))⟩

/- (*redpencil/disk.Disk).Split -/
/- (*redpencil/disk.Disk).Copy -/
/- redpencil/redpencillaw20.copied -/
/- (*redpencil/redpencilref20.Disk).Read -/
/- (*redpencil/redpencilref20.Disk).Split -/
/- redpencil/redpencillaw20.splits -/
def a25 : AFn := ⟨28, [.t 10],
  .seq (.reg [oO 10 (.mv (.c (.bool false)))])
 (.seq (.reg [oO 14 (.mv (.t 0)),
 oO 15 (.mv (.t 1)),
 oO 16 (.mv (.t 2)),
 oO 17 (.call 20 false [(.t 14), (.t 15), (.t 16)]),
 oO 13 (.mv (.t 17)),
 oO 18 (.ext (.t 13) 0),
 oO 19 (.ext (.t 13) 1),
 oO 11 (.mv (.t 18)),
 oO 12 (.mv (.t 19))])
 (.seq (.reg [oO 20 (.mv (.t 11)),
 oO 21 (.mv (.t 3)),
 oO 22 (.call 26 false [(.t 20), (.t 21)]),
 oO 23 (.mv (.t 22)),
 oG 24 (.mv (.t 12)) 23 true,
 oG 25 (.mv (.t 4)) 23 true,
 oG 26 (.bin .eql .no (.t 24) (.t 25)) 23 true,
 oO 27 (.pick (.t 23) (.t 26) (.c (.bool false))),
 oO 10 (.mv (.t 27))])
 (.ret)))⟩

/- redpencil/redpencilref20.Same -/
def a26 : AFn := ⟨43, [.t 4],
  .seq (.reg [oO 4 (.mv (.c (.bool false)))])
 (.seq (.seq (.reg [oO 6 (.mv (.t 0)),
 oO 7 (.len .sl (.t 6)),
 oO 8 (.mv (.t 1)),
 oO 9 (.len .sl (.t 8)),
 oO 10 (.bin .neq .no (.t 7) (.t 9))])
 (.cond (.t 10) (.seq (.reg [oO 4 (.mv (.c (.bool false)))])
 (.ret))
 (.skip)))
 (.seq (.seq (.reg [oO 5 (.mv (.c (.int .i64 0)))])
 (.block 0 (.loop (.seq (.seq (.reg [oO 11 (.mv (.t 5)),
 oO 12 (.mv (.t 0)),
 oO 13 (.len .sl (.t 12)),
 oO 14 (.bin .lss .no (.t 11) (.t 13))])
 (.cond (.t 14) (.skip)
 (.exit 0)))
 (.seq (.block 1 (.seq (.regd 0 [oO 17 (.mv (.t 0)),
 oO 18 (.mv (.t 5)),
 oO 19 (.iad 2 (.t 17) (.t 18)),
 oO 20 (.fad 0 (.t 19)),
 oO 21 (.load1 (.t 20)),
 oO 22 (.mv (.t 1)),
 oO 23 (.mv (.t 5)),
 oO 24 (.iad 2 (.t 22) (.t 23)),
 oO 25 (.fad 0 (.t 24)),
 oO 26 (.load1 (.t 25)),
 oO 27 (.bin .neq .no (.t 21) (.t 26)),
 oO 28 (.mv (.t 27)),
 oG 29 (.mv (.t 0)) 28 false,
 oG 30 (.mv (.t 5)) 28 false,
 oG 31 (.iad 2 (.t 29) (.t 30)) 28 false,
 oG 32 (.fad 1 (.t 31)) 28 false,
 oG 33 (.load1 (.t 32)) 28 false,
 oG 34 (.b2s (.t 33)) 28 false,
 oG 35 (.mv (.t 1)) 28 false,
 oG 36 (.mv (.t 5)) 28 false,
 oG 37 (.iad 2 (.t 35) (.t 36)) 28 false,
 oG 38 (.fad 1 (.t 37)) 28 false,
 oG 39 (.load1 (.t 38)) 28 false,
 oG 40 (.b2s (.t 39)) 28 false,
 oG 41 (.bin .neq .no (.t 34) (.t 40)) 28 false,
 oO 42 (.pick (.t 28) (.c (.bool true)) (.t 41))])
 (.cond (.t 42) (.seq (.reg [oO 4 (.mv (.c (.bool false)))])
 (.ret))
 (.skip))))
 (.reg [oO 15 (.mv (.t 5)),
 oO 16 (.bin .add .no (.t 15) (.c (.int .i64 1))),
 oO 5 (.mv (.t 16))]))))))
 (.seq (.reg [oO 4 (.mv (.c (.bool true)))])
 (.ret))))⟩

/- (*redpencil/disk.Disk).Blocks -/
def a27 : AFn := ⟨15, [.t 2],
  .seq (.reg [oO 2 (.mv (.c (.int .i64 0)))])
 (.seq (.seq (.reg [oO 3 (.mv (.t 0)),
 oO 4 (.call 38 false [(.t 3)])])
 (.cond (.t 4) (.seq (.reg [oO 2 (.mv (.c (.int .i64 0)))])
 (.ret))
 (.skip)))
 (.seq (.regd 0 [oO 5 (.mv (.t 0)),
 oO 6 (.nchk (.t 5)),
 oO 7 (.fad 1 (.t 6)),
 oO 8 (.load1 (.t 7)),
 oO 9 (.len .sl (.t 8)),
 oO 10 (.mv (.t 0)),
 oO 11 (.nchk (.t 10)),
 oO 12 (.fad 0 (.t 11)),
 oO 13 (.load1 (.t 12)),
 oO 14 (.bin .quo .no (.t 9) (.t 13)),
 oO 2 (.mv (.t 14))])
 (.ret)))⟩

/- (*redpencil/disk.Disk).Size -/
def a28 : AFn := ⟨9, [.t 2],
  .seq (.reg [oO 2 (.mv (.c (.int .i64 0)))])
 (.seq (.seq (.reg [oO 3 (.mv (.t 0)),
 oO 4 (.call 38 false [(.t 3)])])
 (.cond (.t 4) (.seq (.reg [oO 2 (.mv (.c (.int .i64 0)))])
 (.ret))
 (.skip)))
 (.seq (.reg [oO 5 (.mv (.t 0)),
 oO 6 (.nchk (.t 5)),
 oO 7 (.fad 0 (.t 6)),
 oO 8 (.load1 (.t 7)),
 oO 2 (.mv (.t 8))])
 (.ret)))⟩

/- redpencil/redpencillaw20.fill -/
def a29 : AFn := ⟨19, [.t 4],
  .seq (.reg [oO 4 (.mv (.c .nils))])
 (.seq (.reg [oO 7 (.mv (.t 0)),
 oO 8 (.mksl [(.int .u8 0)] 1 (.t 7) (.t 7)),
 oO 5 (.mv (.t 8))])
 (.seq (.seq (.reg [oO 6 (.mv (.c (.int .i64 0)))])
 (.block 0 (.loop (.seq (.seq (.reg [oO 9 (.mv (.t 6)),
 oO 10 (.mv (.t 0)),
 oO 11 (.bin .lss .no (.t 9) (.t 10))])
 (.cond (.t 11) (.skip)
 (.exit 0)))
 (.seq (.block 1 (.reg [oO 14 (.mv (.t 5)),
 oO 15 (.mv (.t 6)),
 oO 16 (.mv (.t 1)),
 oO 17 (.iad 1 (.t 14) (.t 15)),
 ⟨none, .store 1 (.t 17) (.t 16), none, none, false⟩]))
 (.reg [oO 12 (.mv (.t 6)),
 oO 13 (.bin .add .no (.t 12) (.c (.int .i64 1))),
 oO 6 (.mv (.t 13))]))))))
 (.seq (.reg [oO 18 (.mv (.t 5)),
 oO 4 (.mv (.t 18))])
 (.ret))))⟩

/- (*redpencil/redpencilref20.Disk).From -/
def a30 : AFn := ⟨27, [.t 4],
  .seq (.reg [oO 4 (.mv (.c .nils))])
 (.seq (.reg [oO 5 (.mv (.c .nils))])
 (.seq (.seq (.reg [oO 7 (.mv (.t 1)),
 oO 6 (.mv (.t 7))])
 (.block 0 (.loop (.seq (.seq (.reg [oO 8 (.mv (.t 6)),
 oO 9 (.mv (.t 0)),
 oO 10 (.nchk (.t 9)),
 oO 11 (.fad 1 (.t 10)),
 oO 12 (.load1 (.t 11)),
 oO 13 (.len .sl (.t 12)),
 oO 14 (.bin .lss .no (.t 8) (.t 13))])
 (.cond (.t 14) (.skip)
 (.exit 0)))
 (.seq (.block 1 (.reg [oO 17 (.mv (.t 5)),
 oO 18 (.mv (.t 0)),
 oO 19 (.nchk (.t 18)),
 oO 20 (.fad 1 (.t 19)),
 oO 21 (.load1 (.t 20)),
 oO 22 (.mv (.t 6)),
 oO 23 (.iad 1 (.t 21) (.t 22)),
 oO 24 (.load1 (.t 23)),
 oO 25 (.app 1 1 [(.int .u8 0)] (.t 17) (.t 24)),
 oO 5 (.mv (.t 25))]))
 (.reg [oO 15 (.mv (.t 6)),
 oO 16 (.bin .add .no (.t 15) (.c (.int .i64 1))),
 oO 6 (.mv (.t 16))]))))))
 (.seq (.reg [oO 26 (.mv (.t 5)),
 oO 4 (.mv (.t 26))])
 (.ret))))⟩

/- (*redpencil/disk.Disk).check -/
def a31 : AFn := ⟨37, [.t 4],
  .seq (.reg [oO 4 (.mv (.c (.int .i64 0)))])
 (.seq (.seq (.reg [oO 7 (.mv (.t 0)),
 oO 8 (.call 38 false [(.t 7)])])
 (.cond (.t 8) (.seq (.reg [oO 4 (.mv (.c (.int .i64 1)))])
 (.ret))
 (.skip)))
 (.seq (.seq (.reg [oO 9 (.mv (.t 1)),
 oO 10 (.len .sl (.t 9)),
 oO 11 (.bin .gtr .no (.t 10) (.c (.int .i64 10000)))])
 (.cond (.t 11) (.seq (.reg [oO 4 (.mv (.c (.int .i64 5)))])
 (.ret))
 (.skip)))
 (.seq (.seq (.reg [oO 12 (.mv (.t 1)),
 oO 13 (.len .sl (.t 12)),
 oO 14 (.mv (.c (.int .i64 0)))])
 (.block 0 (.loop (.seq (.reg [oO 15 (.bin .lss .no (.t 14) (.t 13))])
 (.seq (.cond (.t 15) (.skip)
 (.exit 0))
 (.seq (.block 1 (.seq (.reg [oO 16 (.iad 2 (.t 12) (.t 14)),
 oO 17 (.loadn 2 (.t 16)),
 oO 6 (.alloc [(.int .i64 0), .nils]),
 ⟨none, .store 2 (.t 6) (.t 17), none, none, false⟩])
 (.seq (.seq (.regd 0 [oO 18 (.fad 0 (.t 6)),
 oO 19 (.load1 (.t 18)),
 oO 20 (.bin .lss .no (.t 19) (.c (.int .i64 0))),
 oO 21 (.mv (.t 20)),
 oG 22 (.fad 0 (.t 6)) 21 false,
 oG 23 (.load1 (.t 22)) 21 false,
 oG 24 (.mv (.t 0)) 21 false,
 oG 25 (.call 27 true [(.t 24)]) 21 false,
 oG 26 (.bin .geq .no (.t 23) (.t 25)) 21 false,
 oO 27 (.pick (.t 21) (.c (.bool true)) (.t 26))])
 (.cond (.t 27) (.seq (.reg [oO 4 (.mv (.c (.int .i64 3)))])
 (.ret))
 (.skip)))
 (.seq (.regd 0 [oO 28 (.fad 1 (.t 6)),
 oO 29 (.load1 (.t 28)),
 oO 30 (.len .sl (.t 29)),
 oO 31 (.mv (.t 0)),
 oO 32 (.nchk (.t 31)),
 oO 33 (.fad 0 (.t 32)),
 oO 34 (.load1 (.t 33)),
 oO 35 (.bin .gtr .no (.t 30) (.t 34))])
 (.cond (.t 35) (.seq (.reg [oO 4 (.mv (.c (.int .i64 5)))])
 (.ret))
 (.skip))))))
 (.reg [oO 36 (.bin .add .no (.t 14) (.c (.int .i64 1))),
 oO 14 (.mv (.t 36))])))))))
 (.seq (.reg [oO 4 (.mv (.c (.int .i64 0)))])
 (.ret)))))⟩

/- (*redpencil/disk.Disk).run -/
def a32 : AFn := ⟨28, [],
  .seq (.reg [oO 6 (.mv (.t 1)),
 oO 7 (.len .sl (.t 6)),
 oO 8 (.mv (.c (.int .i64 0)))])
 (.block 0 (.loop (.seq (.reg [oO 9 (.bin .lss .no (.t 8) (.t 7))])
 (.seq (.cond (.t 9) (.skip)
 (.exit 0))
 (.seq (.block 1 (.seq (.reg [oO 10 (.iad 2 (.t 6) (.t 8)),
 oO 11 (.loadn 2 (.t 10)),
 oO 5 (.alloc [(.int .i64 0), .nils]),
 ⟨none, .store 2 (.t 5) (.t 11), none, none, false⟩])
 (.regd 0 [oO 12 (.mv (.t 0)),
 oO 13 (.nchk (.t 12)),
 oO 14 (.fad 1 (.t 13)),
 oO 15 (.load1 (.t 14)),
 oO 16 (.fad 0 (.t 5)),
 oO 17 (.load1 (.t 16)),
 oO 18 (.mv (.t 0)),
 oO 19 (.nchk (.t 18)),
 oO 20 (.fad 0 (.t 19)),
 oO 21 (.load1 (.t 20)),
 oO 22 (.bin .mul .no (.t 17) (.t 21)),
 oO 23 (.slc 1 (.t 15) (some (.t 22)) none none),
 oO 24 (.fad 1 (.t 5)),
 oO 25 (.load1 (.t 24)),
 oO 26 (.copy 1 (.t 23) (.t 25))])))
 (.reg [oO 27 (.bin .add .no (.t 8) (.c (.int .i64 1))),
 oO 8 (.mv (.t 27))]))))))⟩

/- (*redpencil/redpencilref20.Disk).Bad -/
def a33 : AFn := ⟨45, [.t 4],
  .seq (.reg [oO 4 (.mv (.c (.int .i64 0)))])
 (.seq (.seq (.reg [oO 6 (.mv (.t 1)),
 oO 7 (.len .sl (.t 6)),
 oO 8 (.bin .gtr .no (.t 7) (.c (.int .i64 10000)))])
 (.cond (.t 8) (.seq (.reg [oO 4 (.mv (.c (.int .i64 5)))])
 (.ret))
 (.skip)))
 (.seq (.seq (.reg [oO 5 (.mv (.c (.int .i64 0)))])
 (.block 0 (.loop (.seq (.seq (.reg [oO 9 (.mv (.t 5)),
 oO 10 (.mv (.t 1)),
 oO 11 (.len .sl (.t 10)),
 oO 12 (.bin .lss .no (.t 9) (.t 11))])
 (.cond (.t 12) (.skip)
 (.exit 0)))
 (.seq (.block 1 (.seq (.seq (.regd 0 [oO 15 (.mv (.t 1)),
 oO 16 (.mv (.t 5)),
 oO 17 (.iad 2 (.t 15) (.t 16)),
 oO 18 (.fad 0 (.t 17)),
 oO 19 (.load1 (.t 18)),
 oO 20 (.bin .lss .no (.t 19) (.c (.int .i64 0))),
 oO 21 (.mv (.t 20)),
 oG 22 (.mv (.t 1)) 21 false,
 oG 23 (.mv (.t 5)) 21 false,
 oG 24 (.iad 2 (.t 22) (.t 23)) 21 false,
 oG 25 (.fad 0 (.t 24)) 21 false,
 oG 26 (.load1 (.t 25)) 21 false,
 oG 27 (.mv (.t 0)) 21 false,
 oG 28 (.nchk (.t 27)) 21 false,
 oG 29 (.fad 1 (.t 28)) 21 false,
 oG 30 (.load1 (.t 29)) 21 false,
 oG 31 (.len .sl (.t 30)) 21 false,
 oG 32 (.bin .geq .no (.t 26) (.t 31)) 21 false,
 oO 33 (.pick (.t 21) (.c (.bool true)) (.t 32))])
 (.cond (.t 33) (.seq (.reg [oO 4 (.mv (.c (.int .i64 3)))])
 (.ret))
 (.skip)))
 (.seq (.regd 0 [oO 34 (.mv (.t 1)),
 oO 35 (.mv (.t 5)),
 oO 36 (.iad 2 (.t 34) (.t 35)),
 oO 37 (.fad 1 (.t 36)),
 oO 38 (.load1 (.t 37)),
 oO 39 (.len .sl (.t 38)),
 oO 40 (.mv (.t 0)),
 oO 41 (.nchk (.t 40)),
 oO 42 (.fad 0 (.t 41)),
 oO 43 (.load1 (.t 42)),
 oO 44 (.bin .gtr .no (.t 39) (.t 43))])
 (.cond (.t 44) (.seq (.reg [oO 4 (.mv (.c (.int .i64 5)))])
 (.ret))
 (.skip)))))
 (.reg [oO 13 (.mv (.t 5)),
 oO 14 (.bin .add .no (.t 13) (.c (.int .i64 1))),
 oO 5 (.mv (.t 14))]))))))
 (.seq (.reg [oO 4 (.mv (.c (.int .i64 0)))])
 (.ret))))⟩

/- (*redpencil/redpencilref20.Disk).put -/
def a34 : AFn := ⟨27, [],
  .seq (.reg [oO 4 (.box 2 (.t 1))])
 (.seq (.reg [oO 6 (.mv (.c (.int .i64 0)))])
 (.block 0 (.loop (.seq (.seq (.reg [oO 7 (.mv (.t 6)),
 oO 8 (.mv (.t 2)),
 oO 9 (.bin .lss .no (.t 7) (.t 8))])
 (.cond (.t 9) (.skip)
 (.exit 0)))
 (.seq (.block 1 (.regd 0 [oO 12 (.mv (.t 0)),
 oO 13 (.nchk (.t 12)),
 oO 14 (.fad 1 (.t 13)),
 oO 15 (.load1 (.t 14)),
 oO 16 (.fad 0 (.t 4)),
 oO 17 (.load1 (.t 16)),
 oO 18 (.iad 1 (.t 15) (.t 17)),
 oO 19 (.load1 (.t 18)),
 oO 20 (.mv (.t 6)),
 oO 21 (.fad 1 (.t 4)),
 oO 22 (.load1 (.t 21)),
 oO 23 (.mv (.t 6)),
 oO 24 (.iad 1 (.t 22) (.t 23)),
 oO 25 (.load1 (.t 24)),
 oO 26 (.iad 1 (.t 19) (.t 20)),
 ⟨none, .store 1 (.t 26) (.t 25), none, none, false⟩]))
 (.reg [oO 10 (.mv (.t 6)),
 oO 11 (.bin .add .no (.t 10) (.c (.int .i64 1))),
 oO 6 (.mv (.t 11))]))))))⟩

/- (*redpencil/disk.Disk).from -/
def a35 : AFn := ⟨29, [.t 4, .t 5],
  .seq (.reg [oO 4 (.mv (.c .nils)),
 oO 5 (.mv (.c (.int .i64 0)))])
 (.seq (.block 0 (.seq (.reg [oO 7 (.mv (.t 0)),
 oO 8 (.call 38 false [(.t 7)]),
 oO 6 (.mv (.t 8))])
 (.cond (.t 6) (.seq (.reg [oO 4 (.mv (.c .nils)),
 oO 5 (.mv (.c (.int .i64 1)))])
 (.ret))
 (.seq (.reg [oO 10 (.mv (.t 1)),
 oO 11 (.bin .lss .no (.t 10) (.c (.int .i64 0))),
 oO 12 (.mv (.t 11)),
 oG 13 (.mv (.t 1)) 12 false,
 oG 14 (.mv (.t 0)) 12 false,
 oG 15 (.call 27 false [(.t 14)]) 12 false,
 oG 16 (.bin .geq .no (.t 13) (.t 15)) 12 false,
 oO 17 (.pick (.t 12) (.c (.bool true)) (.t 16)),
 oO 9 (.mv (.t 17))])
 (.cond (.t 9) (.seq (.reg [oO 4 (.mv (.c .nils)),
 oO 5 (.mv (.c (.int .i64 3)))])
 (.ret))
 (.skip))))))
 (.seq (.regd 0 [oO 18 (.mv (.t 0)),
 oO 19 (.nchk (.t 18)),
 oO 20 (.fad 1 (.t 19)),
 oO 21 (.load1 (.t 20)),
 oO 22 (.mv (.t 1)),
 oO 23 (.mv (.t 0)),
 oO 24 (.nchk (.t 23)),
 oO 25 (.fad 0 (.t 24)),
 oO 26 (.load1 (.t 25)),
 oO 27 (.bin .mul .no (.t 22) (.t 26)),
 oO 28 (.slc 1 (.t 21) (some (.t 27)) none none),
 oO 4 (.mv (.t 28)),
 oO 5 (.mv (.c (.int .i64 0)))])
 (.ret)))⟩

/- slices.Clone[[]byte,byte] -/
def a36 : AFn := ⟨8, [.t 2],
  .seq (.reg [oO 2 (.mv (.c .nils))])
 (.seq (.seq (.reg [oO 3 (.mv (.t 0)),
 oO 4 (.bin .eql .ns (.t 3) (.c .nils))])
 (.cond (.t 4) (.seq (.reg [oO 2 (.mv (.c .nils))])
 (.ret))
 (.skip)))
 (.seq (.reg [oO 5 (.bsl [] 0 1 []),
 oO 6 (.mv (.t 0)),
 oO 7 (.app 1 1 [(.int .u8 0)] (.t 5) (.t 6)),
 oO 2 (.mv (.t 7))])
 (.ret)))⟩

/- slices.Chunk[[]byte,byte] -/
def a37 : AFn := ⟨9, [.t 4],
  .seq (.reg [oO 2 (.box 1 (.t 0)),
 oO 3 (.box 1 (.t 1)),
 oO 4 (.mv (.c .nilf))])
 (.seq (.seq (.reg [oO 5 (.load1 (.t 3)),
 oO 6 (.bin .lss .no (.t 5) (.c (.int .i64 1)))])
 (.cond (.t 6) (.reg [oO 7 (.bad),
 ⟨none, .bad, none, none, false⟩])
 (.skip)))
 (.seq (.reg [oO 8 (.mkfn 39 [(.t 2), (.t 3)]),
 oO 4 (.mv (.t 8))])
 (.ret)))⟩

/- (*redpencil/disk.Disk).none -/
def a38 : AFn := ⟨12, [.t 2],
  .seq (.reg [oO 2 (.mv (.c (.bool false)))])
 (.seq (.reg [oO 3 (.mv (.t 0)),
 oO 4 (.bin .eql .np (.t 3) (.c .nilp)),
 oO 5 (.mv (.t 4)),
 oG 6 (.mv (.t 0)) 5 false,
 oG 7 (.nchk (.t 6)) 5 false,
 oG 8 (.fad 0 (.t 7)) 5 false,
 oG 9 (.load1 (.t 8)) 5 false,
 oG 10 (.bin .eql .no (.t 9) (.c (.int .i64 0))) 5 false,
 oO 11 (.pick (.t 5) (.c (.bool true)) (.t 10)),
 oO 2 (.mv (.t 11))])
 (.ret))⟩

/- slices.Chunk[[]byte,byte]$1 -/
end Go.AM
end
/-
  They are what the compiler makes of the loaded program. Printed by a program of this project.
-/
section
namespace Go.AM
open Go Go.Proofs

theorem c10 : cfn Try.prog Try.f10 = some a10 := by kernel_rfl
theorem k10 : callable Try.prog 10 = true := by kernel_rfl
theorem c11 : cfn Try.prog Try.f11 = some a11 := by kernel_rfl
theorem k11 : callable Try.prog 11 = true := by kernel_rfl
theorem c12 : cfn Try.prog Try.f12 = some a12 := by kernel_rfl
theorem k12 : callable Try.prog 12 = true := by kernel_rfl
theorem c13 : cfn Try.prog Try.f13 = some a13 := by kernel_rfl
theorem k13 : callable Try.prog 13 = true := by kernel_rfl
theorem c14 : cfn Try.prog Try.f14 = some a14 := by kernel_rfl
theorem k14 : callable Try.prog 14 = true := by kernel_rfl
theorem c15 : cfn Try.prog Try.f15 = some a15 := by kernel_rfl
theorem k15 : callable Try.prog 15 = true := by kernel_rfl
theorem c16 : cfn Try.prog Try.f16 = some a16 := by kernel_rfl
theorem k16 : callable Try.prog 16 = true := by kernel_rfl
theorem c17 : cfn Try.prog Try.f17 = some a17 := by kernel_rfl
theorem k17 : callable Try.prog 17 = true := by kernel_rfl
theorem c19 : cfn Try.prog Try.f19 = some a19 := by kernel_rfl
theorem k19 : callable Try.prog 19 = true := by kernel_rfl
theorem c25 : cfn Try.prog Try.f25 = some a25 := by kernel_rfl
theorem k25 : callable Try.prog 25 = true := by kernel_rfl
theorem c26 : cfn Try.prog Try.f26 = some a26 := by kernel_rfl
theorem k26 : callable Try.prog 26 = true := by kernel_rfl
theorem c27 : cfn Try.prog Try.f27 = some a27 := by kernel_rfl
theorem k27 : callable Try.prog 27 = true := by kernel_rfl
theorem c28 : cfn Try.prog Try.f28 = some a28 := by kernel_rfl
theorem k28 : callable Try.prog 28 = true := by kernel_rfl
theorem c29 : cfn Try.prog Try.f29 = some a29 := by kernel_rfl
theorem k29 : callable Try.prog 29 = true := by kernel_rfl
theorem c30 : cfn Try.prog Try.f30 = some a30 := by kernel_rfl
theorem k30 : callable Try.prog 30 = true := by kernel_rfl
theorem c31 : cfn Try.prog Try.f31 = some a31 := by kernel_rfl
theorem k31 : callable Try.prog 31 = true := by kernel_rfl
theorem c32 : cfn Try.prog Try.f32 = some a32 := by kernel_rfl
theorem k32 : callable Try.prog 32 = true := by kernel_rfl
theorem c33 : cfn Try.prog Try.f33 = some a33 := by kernel_rfl
theorem k33 : callable Try.prog 33 = true := by kernel_rfl
theorem c34 : cfn Try.prog Try.f34 = some a34 := by kernel_rfl
theorem k34 : callable Try.prog 34 = true := by kernel_rfl
theorem c35 : cfn Try.prog Try.f35 = some a35 := by kernel_rfl
theorem k35 : callable Try.prog 35 = true := by kernel_rfl
theorem c36 : cfn Try.prog Try.f36 = some a36 := by kernel_rfl
theorem k36 : callable Try.prog 36 = true := by kernel_rfl
theorem c37 : cfn Try.prog Try.f37 = some a37 := by kernel_rfl
theorem k37 : callable Try.prog 37 = true := by kernel_rfl
theorem c38 : cfn Try.prog Try.f38 = some a38 := by kernel_rfl
theorem k38 : callable Try.prog 38 = true := by kernel_rfl
end Go.AM
end
/-
  What all chapters need: conditions, slices made ready, pointers, maps by value, numbers. Own work of this project.
-/
section
set_option maxRecDepth 100000
namespace Go.AM
open Go Go.Proofs

variable {call : Nat → List AV → St → Option (AV × St)} {env : Env} {s t u : St}
theorem cs_dec (p : Prop) [Decidable p] (A B : Prop) : cstep (.bool (decide p)) A B = ((p → A) ∧ (¬ p → B)) := by by_cases h : p <;> simp [cstep, h]
theorem cs_not (b : Bool) (A B : Prop) : cstep (.bool (!b)) A B = cstep (.bool b) B A := by cases b <;> rfl
theorem cs_and (a b : Bool) (A B : Prop) : cstep (.bool (a && b)) A B = ((a = true ∧ b = true → A) ∧ ((a && b) = false → B)) := by cases a <;> cases b <;> simp [cstep]
theorem cs_or (a b : Bool) (A B : Prop) : cstep (.bool (a || b)) A B = (((a || b) = true → A) ∧ (a = false ∧ b = false → B)) := by cases a <;> cases b <;> simp [cstep]
theorem cs_true (A B : Prop) : cstep (.bool (decide True)) A B = A := by simp [cstep]
theorem cs_false (A B : Prop) : cstep (.bool (decide False)) A B = B := by simp [cstep]
def lookV (s : St) (z : AV) (k : EK) (ok : Bool) (m i : AV) : Option AV :=
  if i.key k then
    match m with
    | .nilm => some (if ok then .tup [z, .bool false] else z)
    | .mp id => match s.get id with
      | some (.map es _) => match findE k i es 0 with
        | some (some (_, v)) => some (if ok then .tup [v, .bool true] else v)
        | some none => some (if ok then .tup [z, .bool false] else z)
        | none => none
      | _ => none
    | _ => none
  else none
theorem ar_look (z : AV) (k : EK) (ok : Bool) (m i : AO) : aread call env s (.look z k ok m i) = lookV s z k ok (aev env m) (aev env i) := nrfl rfl
def msetV (s : St) (k : EK) (m i x : AV) : Option (AV × St) :=
  if i.key k && x.whole then
    match m with
    | .mp id => match s.get id with
      | some (.map es ck) => match findE k i es 0 with
        | some (some (j, _)) => match es[j]? with
          | some (_, _, b) => some (.und, s.put id (.map (es.set j (i, x, b)) ck))
          | none => none
        | some none => some (.und, s.put id (.map (es ++ [(i, x, ck)]) (ck + 1)))
        | none => none
      | _ => none
    | _ => none
  else none
theorem ae_mset (k : EK) (m i x : AO) : aeff call env s (.mset k m i x) = msetV s k (aev env m) (aev env i) (aev env x) := nrfl rfl
def rngV (s : St) : AV → Option (AV × St)
  | .nilm => some (.ptr s.next 0, s.push (.iter none 0 [] 0))
  | .mp id => match s.get id with
    | some (.map _ ck) => some (.ptr s.next 0, s.push (.iter (some id) ck [] ck))
    | _ => none
  | _ => none
theorem ae_rng (x : AO) : aeff call env s (.rng x) = rngV s (aev env x) := nrfl rfl
theorem ae_mkmap0 : aeff call env s (.mkmap none) = some (.mp s.next, s.push (.map [] 0)) := nrfl rfl
def entV (s : St) : AV → Option AV
  | .ptr id 0 => match s.get id with
    | some (.iter (some m) _ seen last) => match seen.getLast?, s.get m with
      | some stamp, some (.map es ck) => if ck = last then (es.find? fun e => e.2.2 == stamp).map fun e => .tup [e.1, e.2.1] else none
      | _, _ => none
    | _ => none
  | _ => none
theorem ar_ent (x : AO) : aread call env s (.ent x) = entV s (aev env x) := nrfl (by
  simp only [aread, entV]
  cases aev env x <;> rfl)
theorem lookV_push {id : Nat} (h : ltN id s) (b : AB) (z : AV) (k : EK) (ok : Bool) (i : AV) : lookV (s.push b) z k ok (.mp id) i = lookV s z k ok (.mp id) i := by
  simp only [lookV, St.get_push_old _ _ h]
theorem lookV_lowed (z : AV) (k : EK) (ok : Bool) (m i : AV) : lookV s.lowed z k ok m i = lookV s z k ok m i := by cases m <;> rfl
theorem put_push_lt {id : Nat} (h : ltN id s) (b c : AB) : (s.push b).put id c = (s.put id c).push b := by
  unfold ltN at h
  have : s.next + 1 - 1 - id = s.next - 1 - id + 1 := by omega
  simp only [St.push, St.put, this, List.set_cons_succ]
theorem msetV_push {id : Nat} (h : ltN id s) (b : AB) (k : EK) (i x : AV) : msetV (s.push b) k (.mp id) i x = (msetV s k (.mp id) i x).map fun r => (r.1, r.2.push b) := by
  simp only [msetV, St.get_push_old _ _ h, put_push_lt h]
  repeat' split
  all_goals rfl
theorem put_lowed (id : Nat) (c : AB) : s.lowed.put id c = (s.put id c).lowed := by
  simp only [St.put, St.lowed]
  congr 1
  omega
theorem msetV_lowed (k : EK) (m i x : AV) : msetV s.lowed k m i x = (msetV s k m i x).map fun r => (r.1, r.2.lowed) := by
  simp only [msetV, lowed_get, put_lowed]
  repeat' split
  all_goals rfl
theorem cs_dead (p : Prop) [Decidable p] (A B : Prop) : cstep (.bool (!decide p)) A B = cstep (.bool (decide p)) B A := cs_not _ _ _
theorem lt_put {n id : Nat} {t : St} (h : ltN n t) (c : AB) : ltN n (t.put id c) = True := eq_true h
theorem same_put {n id : Nat} {t : St} (h : sameN n t) (c : AB) : sameN n (t.put id c) = True := eq_true h
theorem sto_lowed (n : Nat) (a x : AV) : sto s.lowed n a x = (sto s n a x).map fun r => (r.1, r.2.lowed) := by
  simp only [sto, lowed_get, put_lowed]
  repeat' split
  all_goals rfl
def bslV (z : List AV) (len sz : Nat) (ps : List (Nat × AV)) : Option ((Nat → AV) × AB) := (fillP [] z (ps.map fun p => (p.1 * sz, sz, .c p.2))).map fun cs => (fun id => .sl id 0 len (some len) sz, .row cs true)
theorem fillP_aev (env : Env) : ∀ (ps : List (Nat × Nat × AO)) (z : List AV), fillP env z ps = fillP [] z (ps.map fun p => (p.1, p.2.1, .c (aev env p.2.2)))
  | [], z => rfl
  | (a, b, x) :: r, z => by
    simp only [fillP, List.map_cons]
    show (if _ then _ else _) = (if _ then _ else _)
    rw [fillP_aev env r]
    rfl
theorem aa_bsl {env : Env} (z : List AV) (len sz : Nat) (ps : List (Nat × AO)) : aalloc env (.bsl z len sz ps) = bslV z len sz (ps.map fun p => (p.1, aev env p.2)) := by
  simp only [aalloc, bslV]
  rw [fillP_aev]
  simp only [List.map_map, Function.comp_def]
theorem sg_bsl {call : Nat → List AV → St → Option (AV × St)} {base : Nat} {d : Option Nat} {r : Option Nat} {fr : Bool} {rest : List AOper} {Q : Env → St → Prop} {env : Env} (z : List AV) (l n : Nat) (ps : List (Nat × AO)) (t : Nat) (w : Bool) :
    awops call base (⟨d, .bsl z l n ps, some (t, w), r, fr⟩ :: rest) Q env s = gstep (E env t) w (awops call base (⟨d, .bsl z l n ps, none, r, fr⟩ :: rest) Q env s) (awops call base rest Q (pE env d .und) s) := st_guard _ _ _
def nchkV : AV → Option AV
  | .ptr id o => some (.ptr id o)
  | _ => none
theorem ap_nchk (x : AO) : apure env (.nchk x) = nchkV (aev env x) := by
  simp only [apure, nchkV]
  generalize aev env x = v
  cases v <;> rfl
theorem nchkV_ptr (id o : Nat) : nchkV (.ptr id o) = some (.ptr id o) := nrfl rfl
theorem bin_np (id o : Nat) : binOp .eql .np (.ptr id o) .nilp = some (.bool false) := nrfl rfl
theorem bin_npn : binOp .eql .np .nilp .nilp = some (.bool true) := nrfl rfl
theorem bin_npx (id o : Nat) : binOp .neq .np (.ptr id o) .nilp = some (.bool true) := nrfl rfl
theorem bin_npnx : binOp .neq .np .nilp .nilp = some (.bool false) := nrfl rfl
def mmV (big : Bool) : List AV → Option AV
  | v :: r => mmL big v r
  | [] => none
theorem ap_mm (big : Bool) (xs : List AO) : apure env (.mm big xs) = mmV big (xs.map (aev env)) := by
  simp only [apure, mmV]
  cases xs.map (aev env) <;> rfl
theorem mmV_max (k : IntKind) (a b : Int) : mmV true [.int k a, .int k b] = some (.int k (max a b)) := by
  simp only [mmV, mmL, if_true]
  congr 2
  split <;> omega
theorem mmV_min (k : IntKind) (a b : Int) : mmV false [.int k a, .int k b] = some (.int k (min a b)) := by
  simp only [mmV, mmL, if_true, Bool.false_eq_true, if_false]
  congr 2
  split <;> omega
theorem res3 (env : Env) (s : St) (a b c : Nat) : aresults env s [.t a, .t b, .t c] = some (.tup [E env a, E env b, E env c]) := by
  unfold E
  rfl
theorem row2_lod {id : Nat} {a b : AV} {own : Bool} (h : t.get id = some (.row [a, b] own)) : lod1 t (.ptr id 0) = some a ∧ lod1 t (.ptr id 1) = some b ∧ ltN id t := by
  refine ⟨?_, ?_, St.get_lt h⟩ <;> simp [lod1, h]
theorem row2_sto {id : Nat} {a b : AV} (h : t.get id = some (.row [a, b] true)) {x : AV} (hc : x.cells = [x]) (ho : x.one = true) : sto t 1 (.ptr id 0) x = some (.und, t.put id (.row [x, b] true)) ∧ sto t 1 (.ptr id 1) x = some (.und, t.put id (.row [a, x] true)) := by
  constructor <;> simp [sto, h, hc, ho, setAt]
theorem Keep.born {s t : St} (h : Keep s t) {id : Nat} (b : AB) (h1 : s.next ≤ id) (h2 : id < t.next) : Keep s (t.born id b) :=
  ⟨by simpa using h.next, fun j hj => by rw [St.get_born_ne _ _ h2 (by omega), h.get j hj], by simpa using h.low⟩
theorem keep_reserve (s : St) (k : Nat) : Keep s (s.reserve k) := ⟨by simp, fun id h => by rw [St.get_reserve, if_pos h], by simp; omega⟩
theorem keep_lowd (s : St) : Keep s (lowd s) := ⟨Nat.le_refl _, fun _ _ => rfl, Nat.min_le_right _ _⟩
theorem read_low' {α : Type} {C : Cod α} {v : AV} {l : List α} (h : read C s v = some l) : read C (lowd s) v = some l := (keep_lowd s).read h
def mkslV (z : List AV) (bytes : Nat) (l c : AV) : Option ((Nat → AV) × AB) := match l, c with
  | .int .i64 l, .int .i64 c =>
    if 0 ≤ l ∧ l ≤ c ∧ (bytes : Int) * c ≤ roomBytes ∧ c ≤ 9223372036854775807 then
        some (fun id => .sl id 0 l.toNat (some c.toNat) z.length, .row (zeros z c.toNat) true)
      else none
  | _, _ => none
theorem aa_mksl {env : Env} (z : List AV) (b : Nat) (l c : AO) : aalloc env (.mksl z b l c) = mkslV z b (aev env l) (aev env c) := by
  simp only [aalloc, mkslV]
  rfl
def copyV (s : St) (sz : Nat) (d x : AV) : Option (AV × St) := match d, shown s sz x, lenOf x with
    | .nils, some _, some _ => some (.int .i64 0, s)
    | .sl id off len _ z, some new, some k =>
      if z = sz then
        match s.get id with
        | some (.row cs true) =>
          if off + len * sz ≤ cs.length then
            some (.int .i64 ((min k len : Nat) : Int), s.put id (.row (setAt cs off (new.take (min k len * sz))) true))
          else none
        | _ => none
      else none
    | _, _, _ => none
theorem ae_copy {call : Nat → List AV → St → Option (AV × St)} {env : Env} (sz : Nat) (d x : AO) : aeff call env s (.copy sz d x) = copyV s sz (aev env d) (aev env x) := by
  simp only [aeff, copyV]
  rfl
def slc3V (sz : Nat) (x h m : AV) : Option AV := apure [] (.slc sz (.c x) none (some (.c h)) (some (.c m)))
theorem ap_slc3 {env : Env} (sz : Nat) (x h m : AO) : apure env (.slc sz x none (some h) (some m)) = slc3V sz (aev env x) (aev env h) (aev env m) := nrfl rfl
theorem slc3V_all (j n : Nat) : slc3V 1 (.sl j 0 n (some n) 1) (.int .i64 (n : Int)) (.int .i64 (n : Int)) = some (.sl j 0 n (some n) 1) := by
  simp [slc3V, apure, aev, optNat, asNatIn]
theorem bin_nss (id off n : Nat) (cap : Option Nat) (z : Nat) : binOp .eql .ns (.sl id off n cap z) .nils = some (.bool false) := nrfl rfl
theorem bin_nsn : binOp .eql .ns .nils .nils = some (.bool true) := nrfl rfl
theorem boxV_2 {a b : AV} (ha : a.one = true) (hb : b.one = true) : boxV 2 (.agg [a, b]) = some (fun id => .ptr id 0, .row [a, b] true) := by
  simp [boxV, AV.cells, ha, hb]
theorem tb_at (g : Nat) (c : Con) (r : List (Nat × Con)) (f : Nat) : tb ((g, c) :: r) f = if f = g then c else tb r f := nrfl rfl
theorem extV_2 (a b c : AV) (r : List AV) : extV 2 (.tup (a :: b :: c :: r)) = some c := nrfl rfl
end Go.AM
end
/-
  The rules for stepping that all chapters use, in one. Own work of this project.
-/
section
namespace Go.AM
open Go

theorem bX : type_of% (And.intro @cs_dec <|
  And.intro @cs_not <|
  And.intro @cs_and <|
  And.intro @cs_or <|
  And.intro @cs_dead <|
  And.intro @cs_true <|
  And.intro @cs_false <|
  And.intro @ae_app <|
  And.intro @ap_slc <|
  And.intro @mkR_none <|
  And.intro @mkR_some <|
  And.intro @ar_look <|
  And.intro @ae_mset <|
  And.intro @ae_rng <|
  And.intro @ae_mkmap0 <|
  And.intro @ar_ent <|
  And.intro @lookV_push <|
  And.intro @lookV_lowed <|
  And.intro @msetV_push <|
  And.intro @msetV_lowed <|
  And.intro @lt_put <|
  And.intro @same_put <|
  And.intro @sto_lowed <|
  And.intro @aa_bsl <|
  And.intro @ap_nchk <|
  And.intro @nchkV_ptr <|
  And.intro @bin_np <|
  And.intro @bin_npn <|
  And.intro @bin_npx <|
  And.intro @bin_npnx <|
  And.intro @ap_mm <|
  And.intro @mmV_max <|
  And.intro @mmV_min <|
  And.intro @res3 <|
  And.intro @aa_mksl <|
  And.intro @ae_copy <|
  And.intro @ap_slc3 <|
  And.intro @slc3V_all <|
  And.intro @bin_nss <|
  And.intro @bin_nsn <|
  @extV_2) := And.intro @cs_dec <|
  And.intro @cs_not <|
  And.intro @cs_and <|
  And.intro @cs_or <|
  And.intro @cs_dead <|
  And.intro @cs_true <|
  And.intro @cs_false <|
  And.intro @ae_app <|
  And.intro @ap_slc <|
  And.intro @mkR_none <|
  And.intro @mkR_some <|
  And.intro @ar_look <|
  And.intro @ae_mset <|
  And.intro @ae_rng <|
  And.intro @ae_mkmap0 <|
  And.intro @ar_ent <|
  And.intro @lookV_push <|
  And.intro @lookV_lowed <|
  And.intro @msetV_push <|
  And.intro @msetV_lowed <|
  And.intro @lt_put <|
  And.intro @same_put <|
  And.intro @sto_lowed <|
  And.intro @aa_bsl <|
  And.intro @ap_nchk <|
  And.intro @nchkV_ptr <|
  And.intro @bin_np <|
  And.intro @bin_npn <|
  And.intro @bin_npx <|
  And.intro @bin_npnx <|
  And.intro @ap_mm <|
  And.intro @mmV_max <|
  And.intro @mmV_min <|
  And.intro @res3 <|
  And.intro @aa_mksl <|
  And.intro @ae_copy <|
  And.intro @ap_slc3 <|
  And.intro @slc3V_all <|
  And.intro @bin_nss <|
  And.intro @bin_nsn <|
  @extV_2
theorem bE : type_of% (And.intro @E_pne <|
  And.intro @E_psame <|
  @elen_put) := And.intro @E_pne <|
  And.intro @E_psame <|
  @elen_put
end Go.AM
end
/-
  The rules for stepping, in bundles (simp takes a conjunction apart). Own work of this project; printed by a program of it.
-/
section
namespace Go.AM
open Go

theorem bD0 : type_of% (And.intro @st_nil <|
  And.intro @st_mv <|
  And.intro @sg_mv <|
  And.intro @st_pick <|
  And.intro @sg_pick <|
  And.intro @st_build <|
  And.intro @sg_build <|
  And.intro @st_bin <|
  And.intro @sg_bin <|
  And.intro @st_un <|
  And.intro @sg_un <|
  @st_conv) :=
  And.intro @st_nil <|
  And.intro @st_mv <|
  And.intro @sg_mv <|
  And.intro @st_pick <|
  And.intro @sg_pick <|
  And.intro @st_build <|
  And.intro @sg_build <|
  And.intro @st_bin <|
  And.intro @sg_bin <|
  And.intro @st_un <|
  And.intro @sg_un <|
  @st_conv
theorem bD1 : type_of% (And.intro @sg_conv <|
  And.intro @st_mkfn <|
  And.intro @sg_mkfn <|
  And.intro @st_slc <|
  And.intro @sg_slc <|
  And.intro @st_slcs <|
  And.intro @sg_slcs <|
  And.intro @st_fad <|
  And.intro @sg_fad <|
  And.intro @st_fld <|
  And.intro @sg_fld <|
  @st_iad) :=
  And.intro @sg_conv <|
  And.intro @st_mkfn <|
  And.intro @sg_mkfn <|
  And.intro @st_slc <|
  And.intro @sg_slc <|
  And.intro @st_slcs <|
  And.intro @sg_slcs <|
  And.intro @st_fad <|
  And.intro @sg_fad <|
  And.intro @st_fld <|
  And.intro @sg_fld <|
  @st_iad
theorem bD2 : type_of% (And.intro @sg_iad <|
  And.intro @st_idxs <|
  And.intro @sg_idxs <|
  And.intro @st_ext <|
  And.intro @sg_ext <|
  And.intro @st_len <|
  And.intro @sg_len <|
  And.intro @st_lens <|
  And.intro @sg_lens <|
  And.intro @st_cap <|
  And.intro @sg_cap <|
  @st_mm) :=
  And.intro @sg_iad <|
  And.intro @st_idxs <|
  And.intro @sg_idxs <|
  And.intro @st_ext <|
  And.intro @sg_ext <|
  And.intro @st_len <|
  And.intro @sg_len <|
  And.intro @st_lens <|
  And.intro @sg_lens <|
  And.intro @st_cap <|
  And.intro @sg_cap <|
  @st_mm
theorem bD3 : type_of% (And.intro @sg_mm <|
  And.intro @st_nchk <|
  And.intro @sg_nchk <|
  And.intro @st_load1 <|
  And.intro @sg_load1 <|
  And.intro @st_loadn <|
  And.intro @sg_loadn <|
  And.intro @st_b2s <|
  And.intro @sg_b2s <|
  And.intro @st_look <|
  And.intro @sg_look <|
  @st_lenm) :=
  And.intro @sg_mm <|
  And.intro @st_nchk <|
  And.intro @sg_nchk <|
  And.intro @st_load1 <|
  And.intro @sg_load1 <|
  And.intro @st_loadn <|
  And.intro @sg_loadn <|
  And.intro @st_b2s <|
  And.intro @sg_b2s <|
  And.intro @st_look <|
  And.intro @sg_look <|
  @st_lenm
theorem bD4 : type_of% (And.intro @sg_lenm <|
  And.intro @st_ent <|
  And.intro @sg_ent <|
  And.intro @st_calld <|
  And.intro @sg_calld <|
  And.intro @st_callvd <|
  And.intro @sg_callvd <|
  And.intro @st_call <|
  And.intro @sg_call <|
  And.intro @st_callv <|
  And.intro @sg_callv <|
  @st_store) :=
  And.intro @sg_lenm <|
  And.intro @st_ent <|
  And.intro @sg_ent <|
  And.intro @st_calld <|
  And.intro @sg_calld <|
  And.intro @st_callvd <|
  And.intro @sg_callvd <|
  And.intro @st_call <|
  And.intro @sg_call <|
  And.intro @st_callv <|
  And.intro @sg_callv <|
  @st_store
theorem bD5 : type_of% (And.intro @st_storef <|
  And.intro @st_app <|
  And.intro @st_appz <|
  And.intro @st_copy <|
  And.intro @st_clr <|
  And.intro @st_mkmap <|
  And.intro @st_mset <|
  And.intro @st_mdel <|
  And.intro @st_rng <|
  And.intro @st_allo <|
  And.intro @st_allor <|
  @st_box) :=
  And.intro @st_storef <|
  And.intro @st_app <|
  And.intro @st_appz <|
  And.intro @st_copy <|
  And.intro @st_clr <|
  And.intro @st_mkmap <|
  And.intro @st_mset <|
  And.intro @st_mdel <|
  And.intro @st_rng <|
  And.intro @st_allo <|
  And.intro @st_allor <|
  @st_box
theorem bD6 : type_of% (And.intro @st_boxr <|
  And.intro @st_bsl <|
  And.intro @st_bslr <|
  And.intro @st_mksl <|
  And.intro @st_mkslr <|
  And.intro @wp_regd <|
  And.intro @wp_regw <|
  And.intro @wp_reg <|
  And.intro @wp_skip <|
  And.intro @wp_exit <|
  And.intro @wp_ret <|
  @wp_seq) :=
  And.intro @st_boxr <|
  And.intro @st_bsl <|
  And.intro @st_bslr <|
  And.intro @st_mksl <|
  And.intro @st_mkslr <|
  And.intro @wp_regd <|
  And.intro @wp_regw <|
  And.intro @wp_reg <|
  And.intro @wp_skip <|
  And.intro @wp_exit <|
  And.intro @wp_ret <|
  @wp_seq
theorem bD7 : type_of% (
  @wp_block) :=
  
  @wp_block
theorem bU0 : type_of% (And.intro @E_pne <|
  And.intro @E_psame <|
  And.intro @elen_put <|
  And.intro @aev_t <|
  And.intro @aev_c <|
  And.intro @aev_f <|
  And.intro @pE_none <|
  And.intro @pstep_some <|
  And.intro @estep_some <|
  And.intro @gstep_tt <|
  And.intro @gstep_ff <|
  @gstep_tf) :=
  And.intro @E_pne <|
  And.intro @E_psame <|
  And.intro @elen_put <|
  And.intro @aev_t <|
  And.intro @aev_c <|
  And.intro @aev_f <|
  And.intro @pE_none <|
  And.intro @pstep_some <|
  And.intro @estep_some <|
  And.intro @gstep_tt <|
  And.intro @gstep_ff <|
  @gstep_tf
theorem bU1 : type_of% (And.intro @gstep_ft <|
  And.intro @gstep_und <|
  And.intro @astep_some <|
  And.intro @bstep_some <|
  And.intro @chkE_nil <|
  And.intro @chkE_cons <|
  And.intro @cstep_true <|
  And.intro @cstep_false <|
  And.intro @rstep_true <|
  And.intro @noNxt_nil <|
  And.intro @noNxt_cons <|
  @Bool.and_true) :=
  And.intro @gstep_ft <|
  And.intro @gstep_und <|
  And.intro @astep_some <|
  And.intro @bstep_some <|
  And.intro @chkE_nil <|
  And.intro @chkE_cons <|
  And.intro @cstep_true <|
  And.intro @cstep_false <|
  And.intro @rstep_true <|
  And.intro @noNxt_nil <|
  And.intro @noNxt_cons <|
  @Bool.and_true
theorem bU2 : type_of% (And.intro @Bool.true_and <|
  And.intro @Bool.and_false <|
  And.intro @Bool.false_and <|
  And.intro @Bool.or_true <|
  And.intro @Bool.true_or <|
  And.intro @Bool.or_false <|
  And.intro @Bool.false_or <|
  And.intro @Bool.and_eq_true <|
  And.intro @sel_true <|
  And.intro @sel_false <|
  And.intro @gP_bt <|
  @gP_bf) :=
  And.intro @Bool.true_and <|
  And.intro @Bool.and_false <|
  And.intro @Bool.false_and <|
  And.intro @Bool.or_true <|
  And.intro @Bool.true_or <|
  And.intro @Bool.or_false <|
  And.intro @Bool.false_or <|
  And.intro @Bool.and_eq_true <|
  And.intro @sel_true <|
  And.intro @sel_false <|
  And.intro @gP_bt <|
  @gP_bf
theorem bU3 : type_of% (And.intro @gP_st <|
  And.intro @gP_sf <|
  And.intro @gP_und <|
  And.intro @gpure_bt <|
  And.intro @gpure_bf <|
  And.intro @gpure_st <|
  And.intro @gpure_sf <|
  And.intro @gpure_und <|
  And.intro @gpure_sft <|
  And.intro @gpure_stf <|
  And.intro @gcall_sft <|
  @gcall_stf) :=
  And.intro @gP_st <|
  And.intro @gP_sf <|
  And.intro @gP_und <|
  And.intro @gpure_bt <|
  And.intro @gpure_bf <|
  And.intro @gpure_st <|
  And.intro @gpure_sf <|
  And.intro @gpure_und <|
  And.intro @gpure_sft <|
  And.intro @gpure_stf <|
  And.intro @gcall_sft <|
  @gcall_stf
theorem bU4 : type_of% (And.intro @gpure_tf <|
  And.intro @gpure_ft <|
  And.intro @gcall_bt <|
  And.intro @gcall_bf <|
  And.intro @gcall_st <|
  And.intro @gcall_sf <|
  And.intro @gcall_und <|
  And.intro @gcall_tf <|
  And.intro @gcall_ft <|
  And.intro @gcall_tt <|
  And.intro @gcall_ff <|
  @res1) :=
  And.intro @gpure_tf <|
  And.intro @gpure_ft <|
  And.intro @gcall_bt <|
  And.intro @gcall_bf <|
  And.intro @gcall_st <|
  And.intro @gcall_sf <|
  And.intro @gcall_und <|
  And.intro @gcall_tf <|
  And.intro @gcall_ft <|
  And.intro @gcall_tt <|
  And.intro @gcall_ff <|
  @res1
theorem bU5 : type_of% (And.intro @res2 <|
  And.intro @res0 <|
  And.intro @rc1 <|
  And.intro @rc2 <|
  And.intro @ar_loadn <|
  And.intro @ar_load1 <|
  And.intro @ae_store <|
  And.intro @ap_iad <|
  And.intro @ap_fad <|
  And.intro @fadV_ptr <|
  And.intro @ap_len <|
  @lenV_sl) :=
  And.intro @res2 <|
  And.intro @res0 <|
  And.intro @rc1 <|
  And.intro @rc2 <|
  And.intro @ar_loadn <|
  And.intro @ar_load1 <|
  And.intro @ae_store <|
  And.intro @ap_iad <|
  And.intro @ap_fad <|
  And.intro @fadV_ptr <|
  And.intro @ap_len <|
  @lenV_sl
theorem bU6 : type_of% (And.intro @lenV_nils <|
  And.intro @ap_pick <|
  And.intro @pickV_t <|
  And.intro @pickV_f <|
  And.intro @pickV_or <|
  And.intro @pickV_ors <|
  And.intro @pickV_orn <|
  And.intro @ar_call <|
  And.intro @pickV_and <|
  And.intro @pickV_ands <|
  And.intro @ap_not <|
  @notV_bool) :=
  And.intro @lenV_nils <|
  And.intro @ap_pick <|
  And.intro @pickV_t <|
  And.intro @pickV_f <|
  And.intro @pickV_or <|
  And.intro @pickV_ors <|
  And.intro @pickV_orn <|
  And.intro @ar_call <|
  And.intro @pickV_and <|
  And.intro @pickV_ands <|
  And.intro @ap_not <|
  @notV_bool
theorem bU7 : type_of% (And.intro @ap_ext <|
  And.intro @extV_0 <|
  And.intro @extV_1 <|
  And.intro @ap_build <|
  And.intro @fillP_nil <|
  And.intro @fillP_cons <|
  And.intro @aa_bsl1 <|
  And.intro @aa_box <|
  And.intro @boxV_dot <|
  And.intro @boxV_nd <|
  And.intro @fstep_nd <|
  @fstep_dot) :=
  And.intro @ap_ext <|
  And.intro @extV_0 <|
  And.intro @extV_1 <|
  And.intro @ap_build <|
  And.intro @fillP_nil <|
  And.intro @fillP_cons <|
  And.intro @aa_bsl1 <|
  And.intro @aa_box <|
  And.intro @boxV_dot <|
  And.intro @boxV_nd <|
  And.intro @fstep_nd <|
  @fstep_dot
theorem bU8 : type_of% (And.intro @push_put <|
  And.intro @reserve0 <|
  And.intro @reserve1_get <|
  And.intro @reserve1_get' <|
  And.intro @reserve1_born <|
  And.intro @reserve1_born' <|
  And.intro @sto_nd <|
  And.intro @sto_nd0 <|
  And.intro @lod_nd <|
  And.intro @lod_nd_dot <|
  And.intro @lod_nd_par <|
  @lod1_nd_t) :=
  And.intro @push_put <|
  And.intro @reserve0 <|
  And.intro @reserve1_get <|
  And.intro @reserve1_get' <|
  And.intro @reserve1_born <|
  And.intro @reserve1_born' <|
  And.intro @sto_nd <|
  And.intro @sto_nd0 <|
  And.intro @lod_nd <|
  And.intro @lod_nd_dot <|
  And.intro @lod_nd_par <|
  @lod1_nd_t
theorem bU9 : type_of% (And.intro @lod1_nd_x <|
  And.intro @lod_dot <|
  And.intro @lod1_dot_r <|
  And.intro @lod1_dot_c <|
  And.intro @sto_push_lt <|
  And.intro @lod_reserve <|
  And.intro @lod1_reserve <|
  And.intro @sto_nd_x <|
  And.intro @sto_nd_t <|
  And.intro @lt_lowed <|
  And.intro @kt_refl <|
  @kt_push) :=
  And.intro @lod1_nd_x <|
  And.intro @lod_dot <|
  And.intro @lod1_dot_r <|
  And.intro @lod1_dot_c <|
  And.intro @sto_push_lt <|
  And.intro @lod_reserve <|
  And.intro @lod1_reserve <|
  And.intro @sto_nd_x <|
  And.intro @sto_nd_t <|
  And.intro @lt_lowed <|
  And.intro @kt_refl <|
  @kt_push
theorem bU10 : type_of% (And.intro @kt_lowed <|
  And.intro @lod_push_lt <|
  And.intro @lod1_push_lt <|
  And.intro @lod_lowed <|
  And.intro @lod1_lowed <|
  And.intro @lod_lowd <|
  And.intro @lod1_lowd <|
  And.intro @bin_lss <|
  And.intro @bin_leq <|
  And.intro @bin_gtr <|
  And.intro @bin_geq <|
  @bin_eql) :=
  And.intro @kt_lowed <|
  And.intro @lod_push_lt <|
  And.intro @lod1_push_lt <|
  And.intro @lod_lowed <|
  And.intro @lod1_lowed <|
  And.intro @lod_lowd <|
  And.intro @lod1_lowd <|
  And.intro @bin_lss <|
  And.intro @bin_leq <|
  And.intro @bin_gtr <|
  And.intro @bin_geq <|
  @bin_eql
theorem bU11 : type_of% (And.intro @bin_neq <|
  And.intro @bin_add <|
  And.intro @bin_sub <|
  And.intro @bin_eqb <|
  And.intro @bin_neb <|
  And.intro @bin_eqd <|
  And.intro @bin_neqd <|
  And.intro @bin_eqd0 <|
  And.intro @bin_neqd0 <|
  And.intro @bin_eqn <|
  And.intro @bin_neqn <|
  @Nat.add_zero) :=
  And.intro @bin_neq <|
  And.intro @bin_add <|
  And.intro @bin_sub <|
  And.intro @bin_eqb <|
  And.intro @bin_neb <|
  And.intro @bin_eqd <|
  And.intro @bin_neqd <|
  And.intro @bin_eqd0 <|
  And.intro @bin_neqd0 <|
  And.intro @bin_eqn <|
  And.intro @bin_neqn <|
  @Nat.add_zero
theorem bU12 : type_of% (And.intro @Nat.zero_add <|
  And.intro @Bool.not_true <|
  And.intro @Bool.not_eq_true' <|
  And.intro @Bool.not_eq_false' <|
  And.intro @Bool.not_false <|
  And.intro @Bool.not_not <|
  And.intro @not_false_eq_true <|
  And.intro @true_and <|
  And.intro @and_true <|
  And.intro @Nat.one_ne_zero <|
  And.intro @Nat.zero_ne_one <|
  @Nat.zero_mul) :=
  And.intro @Nat.zero_add <|
  And.intro @Bool.not_true <|
  And.intro @Bool.not_eq_true' <|
  And.intro @Bool.not_eq_false' <|
  And.intro @Bool.not_false <|
  And.intro @Bool.not_not <|
  And.intro @not_false_eq_true <|
  And.intro @true_and <|
  And.intro @and_true <|
  And.intro @Nat.one_ne_zero <|
  And.intro @Nat.zero_ne_one <|
  @Nat.zero_mul
theorem bU13 : type_of% (And.intro @Nat.one_mul <|
  And.intro @lowed_next <|
  And.intro @lt_push <|
  And.intro @lt_push_same <|
  And.intro @same_self <|
  And.intro @same_push <|
  And.intro @same_lowed <|
  And.intro @same_lowed' <|
  And.intro @decide_true <|
  @decide_false) :=
  And.intro @Nat.one_mul <|
  And.intro @lowed_next <|
  And.intro @lt_push <|
  And.intro @lt_push_same <|
  And.intro @same_self <|
  And.intro @same_push <|
  And.intro @same_lowed <|
  And.intro @same_lowed' <|
  And.intro @decide_true <|
  @decide_false
theorem bD : type_of% (And.intro @bD0 <|
  And.intro @bD1 <|
  And.intro @bD2 <|
  And.intro @bD3 <|
  And.intro @bD4 <|
  And.intro @bD5 <|
  And.intro @bD6 <|
  @bD7) :=
  And.intro @bD0 <|
  And.intro @bD1 <|
  And.intro @bD2 <|
  And.intro @bD3 <|
  And.intro @bD4 <|
  And.intro @bD5 <|
  And.intro @bD6 <|
  @bD7
theorem bU : type_of% (And.intro @bU0 <|
  And.intro @bU1 <|
  And.intro @bU2 <|
  And.intro @bU3 <|
  And.intro @bU4 <|
  And.intro @bU5 <|
  And.intro @bU6 <|
  And.intro @bU7 <|
  And.intro @bU8 <|
  And.intro @bU9 <|
  And.intro @bU10 <|
  And.intro @bU11 <|
  And.intro @bU12 <|
  @bU13) :=
  And.intro @bU0 <|
  And.intro @bU1 <|
  And.intro @bU2 <|
  And.intro @bU3 <|
  And.intro @bU4 <|
  And.intro @bU5 <|
  And.intro @bU6 <|
  And.intro @bU7 <|
  And.intro @bU8 <|
  And.intro @bU9 <|
  And.intro @bU10 <|
  And.intro @bU11 <|
  And.intro @bU12 <|
  @bU13

theorem bS : type_of% (And.intro @List.all_cons.{0} <| And.intro @List.all_nil.{0} <| And.intro @Option.map_some.{0,0} <| And.intro @List.map_cons.{0,0} <| And.intro @List.map_nil.{0,0} <| @ne_eq.{1}) :=
  And.intro @List.all_cons.{0} <| And.intro @List.all_nil.{0} <| And.intro @Option.map_some.{0,0} <| And.intro @List.map_cons.{0,0} <| And.intro @List.map_nil.{0,0} <| @ne_eq.{1}
theorem bT : type_of% (And.intro @Int.ofNat_lt <| And.intro @Int.ofNat_le <| And.intro @exists_const.{1} <| And.intro @Option.map_none.{0,0} <| And.intro @beq_self_eq_true.{0} <| @decide_true) :=
  And.intro @Int.ofNat_lt <| And.intro @Int.ofNat_le <| And.intro @exists_const.{1} <| And.intro @Option.map_none.{0,0} <| And.intro @beq_self_eq_true.{0} <| @decide_true
theorem bN : type_of% (And.intro @ne_eq.{1} <| not_false_eq_true) :=
  And.intro @ne_eq.{1} <| not_false_eq_true
end Go.AM
end
/-
  The program follows no fixed order. Own work of this project.
-/
section
namespace Go.AM
open Go Go.Proofs
theorem mixed : Try.prog.follows .mixedOrders = true := by kernel_rfl
end Go.AM
end
/-
  Disks: bytes, and what a disk says of itself. Own work of this project; in part printed by a program of it.
-/
section
set_option maxRecDepth 100000
set_option maxHeartbeats 8000000
namespace Go.AM
open Go Go.Proofs

variable {s t u : St}

/-! ### Bytes -/
def byC : Cod UInt8 where
  sz := 1
  enc := fun b => [.int .u8 (b.toNat : Int)]
  dec := fun cs => match cs with
    | [.int .u8 n] => if 0 ≤ n ∧ n < 256 then some (UInt8.ofNat n.toNat) else none
    | _ => none
  pos := by decide
  len := fun _ => rfl
  plain := fun _ => rfl
  dec_enc := fun b => by
    have h := b.toNat_lt
    simp only
    rw [if_pos ⟨by omega, by omega⟩]
    simp
  enc_dec := fun cs x h => by
    split at h
    · split at h
      · rename_i n hn
        injection h with h
        subst h
        have : (UInt8.ofNat n.toNat).toNat = n.toNat := by
          simp only [UInt8.toNat_ofNat']
          omega
        rw [this]
        congr 1
        congr 1
        omega
      · cases h
    · cases h
theorem byC_sz : byC.sz = 1 := rfl
theorem unbytes_cells : ∀ l : List UInt8, unbytes (byC.cells l) = some l
  | [] => rfl
  | b :: l => by
    rw [cells_cons]
    show unbytes (AV.int .u8 (b.toNat : Int) :: byC.cells l) = _
    simp only [unbytes, unbytes_cells l, Option.map_some]
    simp
/-- A slice of bytes as a string. -/
def strB (l : List UInt8) : AV := .str ⟨l.toArray⟩
def b2sV (s : St) (v : AV) : Option AV := match v with
  | .str _ => none
  | v => match shown s 1 v with
    | some cs => (unbytes cs).map fun l => .str ⟨l.toArray⟩
    | none => none
theorem ar_b2s {call : Nat → List AV → St → Option (AV × St)} {env : Env} (x : AO) : aread call env s (.b2s x) = b2sV s (aev env x) := by
  simp only [aread, b2sV]
  cases aev env x <;> rfl
theorem b2s_read {v : AV} {l : List UInt8} (h : read byC s v = some l) : b2sV s v = some (strB l) := by
  have h1 : shown s 1 v = some (byC.cells l) := read_shown h
  cases v <;> first | (simp [read] at h; done) | (simp only [b2sV, h1, unbytes_cells]; rfl)
theorem strB_list (l : List UInt8) : (⟨l.toArray⟩ : ByteArray).toList = l := by
  rw [ByteArray.toList_eq] <;> simp
theorem bin_eqs (l m : List UInt8) : binOp .eql .no (strB l) (strB m) = some (.bool (decide (l = m))) := by
  simp only [strB, binOp, strOp, strB_list]
  rw [show (l == m) = decide (l = m) by rw [Bool.eq_iff_iff]; simp]
theorem bin_mulE (e : EK) (k : IntKind) (a b : Int) : binOp .mul e (.int k a) (.int k b) = some (.int k (k.wrap (a * b))) := by simp [binOp, intOp]
theorem wrapI {x : Int} (h1 : -4611686018427387904 ≤ x) (h2 : x < 4611686018427387904) : IntKind.i64.wrap x = x := by
  have e : (2 : Int) ^ IntKind.i64.bits = 18446744073709551616 := by decide
  have e3 : (2 : Int) ^ (IntKind.i64.bits - 1) = 9223372036854775808 := by decide
  have e2 : IntKind.i64.signed = true := rfl
  simp only [IntKind.wrap, e, e2, e3]
  simp
  omega
theorem bin_quoN {a b : Nat} (hb : 0 < b) (ha : a < 4611686018427387904) : binOp .quo .no (.int .i64 (a : Int)) (.int .i64 (b : Int)) = some (.int .i64 ((a / b : Nat) : Int)) := by
  have h0 : ¬ ((b : Int) = 0) := by omega
  have e : (a : Int).tdiv (b : Int) = ((a / b : Nat) : Int) := by rw [Int.tdiv_eq_ediv_of_nonneg (by omega)]; rfl
  have hd : a / b ≤ a := Nat.div_le_self a b
  have hw : IntKind.i64.wrap ((a / b : Nat) : Int) = ((a / b : Nat) : Int) := by
    generalize a / b = q at hd
    exact wrapI (by omega) (by omega)
  show (if (b : Int) = 0 then none else some (AV.int .i64 (IntKind.i64.wrap ((a : Int).tdiv (b : Int))))) = _
  rw [if_neg h0, e, hw]
theorem run_any {call : Nat → List AV → St → Option (AV × St)} {fn : AFn} (hn : noNxtC fn.body = true) {args : List AV} (hl : args.length ≤ fn.ntmps) {s : St} {Q : AV → St → Prop} (hQ : ∀ r t t', (∀ id, t'.get id = t.get id) → t'.next = t.next → Q r t → Q r t') (hg : ∀ r t, r.ground = true → Keep s t → Q r t → Q r s)
    (h : ∀ env : Env, elen env = fn.ntmps → (∀ i v, args[i]? = some v → E env i = v) → awp call fn.body (fun x e t => (∀ i, x ≠ .exit i) ∧ ∃ r, aresults e t fn.results = some r ∧ Q r t ∧ Keep (lowd s) t) env (lowd s)) :
    ∃ r t, acall (runFn call fn) false args s = some (r, t) ∧ Q r t ∧ Keep s t := by
  obtain ⟨r, t, h1, h2, h3⟩ := run_awp hn hl (Q := fun r t => Q r t ∧ Keep (lowd s) t) h
  have hk0 : Keep s (lowd s) := ⟨Nat.le_refl _, fun _ _ => rfl, Nat.min_le_right _ _⟩
  by_cases hgr : r.ground = true
  · exact ⟨r, s, acall_same h1 h3 hgr, hg r t hgr (hk0.trans h3) h2, .refl s⟩
  · obtain ⟨t', g1, g2, g3, g4⟩ := acall_new h1 (h3.chg []) (.inl (by simpa using hgr))
    exact ⟨r, t', g1, hQ r t t' g2 g3 h2, g4.keep⟩
/-! ### A disk -/
noncomputable def R_none : Con := runFn (tb []) a38
theorem s_none : SoundAt Try.prog 38 R_none := run_sound (tb_sound (l := []) (by simp)) mixed Try.func38 k38 c38
theorem n_none : noNxtC a38.body = true := by kernel_rfl
theorem w_none_nil {s : St}  : ∀ env : Env, elen env = a38.ntmps → (∀ i x_, [.nilp][i]? = some x_ → E env i = x_) → awp (tb []) a38.body (fun x e t => (∀ i, x ≠ .exit i) ∧ aresults e t a38.results = some (.bool true) ∧ Keep s t) env s := by
  intro env hlen ha
  have h0 : E env 0 = _ := ha 0 _ rfl
  have hlen : elen env = _ := hlen
  simp only [a38] at hlen
  unfold a38
  try dsimp only [oO, oG]
  simp (config := {contextual := true, maxDischargeDepth := 12}) only [tb_at, h0, hlen, bin_npn, ↓bD, bU, forall_const, bS, implies_true, isNx, eq_self, ↓wp_cond, ↓wp_loop, ↓reduceIte, reduceCtorEq, Nat.reduceEqDiff, Nat.reduceLT, Nat.reduceAdd, Nat.reduceMul, bT, ↓sg_bsl, ↓st_callf, bX, ar_b2s, bin_mulE]
  all_goals first | exact .refl s | skip
theorem q_none_nil (cl : Bool) {s : St}  : acall R_none cl [.nilp] s = some (.bool true, s) := run_same n_none (by simp [a38]) rfl (w_none_nil (s := lowd s) )
theorem w_none {s : St} {id : Nat} {z : Int} {dv : AV} {own : Bool} (hb : s.get id = some (.row [.int .i64 z, dv] own)) : ∀ env : Env, elen env = a38.ntmps → (∀ i x_, [.ptr id 0][i]? = some x_ → E env i = x_) → awp (tb []) a38.body (fun x e t => (∀ i, x ≠ .exit i) ∧ aresults e t a38.results = some (.bool (decide (z = 0))) ∧ Keep s t) env s := by
  intro env hlen ha
  have h0 : E env 0 = _ := ha 0 _ rfl
  have hlen : elen env = _ := hlen
  simp only [a38] at hlen
  unfold a38
  try dsimp only [oO, oG]
  obtain ⟨b0, b1, blt⟩ := row2_lod hb
  simp (config := {contextual := true, maxDischargeDepth := 12}) only [tb_at, h0, hlen, bin_np, nchkV_ptr, b0, b1, blt, ↓bD, bU, forall_const, bS, implies_true, isNx, eq_self, ↓wp_cond, ↓wp_loop, ↓reduceIte, reduceCtorEq, Nat.reduceEqDiff, Nat.reduceLT, Nat.reduceAdd, Nat.reduceMul, bT, ↓sg_bsl, ↓st_callf, bX, ar_b2s, bin_mulE]
  all_goals first | exact .refl s | skip
theorem q_none (cl : Bool) {s : St} {id : Nat} {z : Int} {dv : AV} {own : Bool} (hb : s.get id = some (.row [.int .i64 z, dv] own)) : acall R_none cl [.ptr id 0] s = some (.bool (decide (z = 0)), s) := run_same n_none (by simp [a38]) rfl (w_none (s := lowd s) hb)
noncomputable def R_Blocks : Con := runFn (tb [(38, R_none)]) a27
theorem s_Blocks : SoundAt Try.prog 27 R_Blocks := run_sound (tb_sound (l := [(38, R_none)]) (by simpa using s_none)) mixed Try.func27 k27 c27
theorem n_Blocks : noNxtC a27.body = true := by kernel_rfl
theorem w_Blocks {s : St} {id z n : Nat} {dv : AV} {own : Bool} (hb : s.get id = some (.row [.int .i64 (z : Int), dv] own)) (hz : 0 < z) (hn : lenV dv = some (.int .i64 (n : Int))) (hnl : n ≤ 4000000) : ∀ env : Env, elen env = a27.ntmps → (∀ i x_, [.ptr id 0][i]? = some x_ → E env i = x_) → awp (tb [(38, R_none)]) a27.body (fun x e t => (∀ i, x ≠ .exit i) ∧ aresults e t a27.results = some (.int .i64 ((n / z : Nat) : Int)) ∧ Keep s t) env s := by
  intro env hlen ha
  have h0 : E env 0 = _ := ha 0 _ rfl
  have hlen : elen env = _ := hlen
  simp only [a27] at hlen
  unfold a27
  try dsimp only [oO, oG]
  obtain ⟨b0, b1, blt⟩ := row2_lod hb
  have q := q_none false hb
  rw [decide_eq_false (by omega)] at q
  have hq := bin_quoN hz (show n < 4611686018427387904 by omega)
  simp (config := {contextual := true, maxDischargeDepth := 12}) only [tb_at, h0, hlen, q, b0, b1, blt, hn, hq, nchkV_ptr, reserve0, ↓bD, bU, forall_const, bS, implies_true, isNx, eq_self, ↓wp_cond, ↓wp_loop, ↓reduceIte, reduceCtorEq, Nat.reduceEqDiff, Nat.reduceLT, Nat.reduceAdd, Nat.reduceMul, bT, ↓sg_bsl, ↓st_callf, bX, ar_b2s, bin_mulE]
  all_goals first | exact .refl s | skip
theorem q_Blocks (cl : Bool) {s : St} {id z n : Nat} {dv : AV} {own : Bool} (hb : s.get id = some (.row [.int .i64 (z : Int), dv] own)) (hz : 0 < z) (hn : lenV dv = some (.int .i64 (n : Int))) (hnl : n ≤ 4000000) : acall R_Blocks cl [.ptr id 0] s = some (.int .i64 ((n / z : Nat) : Int), s) := run_same n_Blocks (by simp [a27]) rfl (w_Blocks (s := lowd s) hb hz hn hnl)
noncomputable def R_Size : Con := runFn (tb [(38, R_none)]) a28
theorem s_Size : SoundAt Try.prog 28 R_Size := run_sound (tb_sound (l := [(38, R_none)]) (by simpa using s_none)) mixed Try.func28 k28 c28
theorem n_Size : noNxtC a28.body = true := by kernel_rfl
theorem w_Size {s : St} {id z n : Nat} {dv : AV} {own : Bool} (hb : s.get id = some (.row [.int .i64 (z : Int), dv] own)) (hz : 0 < z) (hn : lenV dv = some (.int .i64 (n : Int))) (hnl : n ≤ 4000000) : ∀ env : Env, elen env = a28.ntmps → (∀ i x_, [.ptr id 0][i]? = some x_ → E env i = x_) → awp (tb [(38, R_none)]) a28.body (fun x e t => (∀ i, x ≠ .exit i) ∧ aresults e t a28.results = some (.int .i64 (z : Int)) ∧ Keep s t) env s := by
  intro env hlen ha
  have h0 : E env 0 = _ := ha 0 _ rfl
  have hlen : elen env = _ := hlen
  simp only [a28] at hlen
  unfold a28
  try dsimp only [oO, oG]
  obtain ⟨b0, b1, blt⟩ := row2_lod hb
  have q := q_none false hb
  rw [decide_eq_false (by omega)] at q
  simp (config := {contextual := true, maxDischargeDepth := 12}) only [tb_at, h0, hlen, q, b0, b1, blt, nchkV_ptr, reserve0, ↓bD, bU, forall_const, bS, implies_true, isNx, eq_self, ↓wp_cond, ↓wp_loop, ↓reduceIte, reduceCtorEq, Nat.reduceEqDiff, Nat.reduceLT, Nat.reduceAdd, Nat.reduceMul, bT, ↓sg_bsl, ↓st_callf, bX, ar_b2s, bin_mulE]
  all_goals first | exact .refl s | skip
theorem q_Size (cl : Bool) {s : St} {id z n : Nat} {dv : AV} {own : Bool} (hb : s.get id = some (.row [.int .i64 (z : Int), dv] own)) (hz : 0 < z) (hn : lenV dv = some (.int .i64 (n : Int))) (hnl : n ≤ 4000000) : acall R_Size cl [.ptr id 0] s = some (.int .i64 (z : Int), s) := run_same n_Size (by simp [a28]) rfl (w_Size (s := lowd s) hb hz hn hnl)

end Go.AM
end
/-
  Disks: from, Clone, Chunk. Own work of this project; in part printed by a program of it.
-/
section
set_option maxRecDepth 100000
set_option maxHeartbeats 8000000
namespace Go.AM
open Go Go.Proofs

variable {s t u : St}

theorem read_ground {β : Type} {C : Cod β} {v : AV} {l : List β} (h : read C s v = some l) (hg : v.ground = true) : v = .nils ∧ l = [] := by
  cases v with
  | nils => exact ⟨rfl, by simpa [read] using h.symm⟩
  | sl => simp [AV.ground, AV.plain] at hg
  | _ => simp [read] at h
/-- A list of bytes whose row is new, and nothing else. -/
def NewB (s t : St) (v : AV) (l : List UInt8) : Prop := (v = .nils ∧ l = []) ∨ ∃ j cap, v = .sl j 0 l.length cap 1 ∧ s.next ≤ j ∧ t.get j = some (.row (byC.cells l) true) ∧ ∀ c, cap = some c → c = l.length
theorem NewB.read {v : AV} {l : List UInt8} (h : NewB s t v l) : read byC t v = some l := by
  rcases h with ⟨rfl, rfl⟩ | ⟨j, cap, rfl, h1, h2, h3⟩
  · rfl
  · exact read_of (C := byC) (n := l.length) rfl h2 (by rw [cells_len]; simp) (by rw [List.drop_zero]; show (byC.cells l).take (l.length * byC.sz) = _; rw [← cells_len]; simp)
theorem NewB.mono {v : AV} {l : List UInt8} (h : NewB s t v l) (k : ∀ id b, t.get id = some b → u.get id = some b) : NewB s u v l :=
  h.imp id fun ⟨j, cap, e, h1, h2, h3⟩ => ⟨j, cap, e, h1, k _ _ h2, h3⟩
theorem NewB.ground {v : AV} {l : List UInt8} (h : NewB s t v l) (hg : v.ground = true) : NewB s u v l := by
  obtain ⟨rfl, rfl⟩ := read_ground h.read hg
  exact .inl ⟨rfl, rfl⟩
theorem row1_lod {id : Nat} {v : AV} {own : Bool} (h : t.get id = some (.row [v] own)) : lod1 t (.ptr id 0) = some v ∧ ltN id t := ⟨by simp [lod1, h], St.get_lt h⟩
theorem ap_mkfn {env : Env} (f : Nat) (caps : List AO) : apure env (.mkfn f caps) = some (.fn f (caps.map (aev env))) := nrfl rfl
theorem hRL {v : AV} {l : List UInt8} (h : AM.read byC s v = some l) : AM.read byC (lowd s) v = some l := read_low' h
noncomputable def R_from : Con := runFn (tb [(38, R_none), (27, R_Blocks)]) a35
theorem s_from : SoundAt Try.prog 35 R_from := run_sound (tb_sound (l := [(38, R_none), (27, R_Blocks)]) (by simpa using ⟨s_none, s_Blocks⟩)) mixed Try.func35 k35 c35
theorem n_from : noNxtC a35.body = true := by kernel_rfl
theorem w_from_nil {s : St} (b : Int) : ∀ env : Env, elen env = a35.ntmps → (∀ i x_, [.nilp, .int .i64 b][i]? = some x_ → E env i = x_) → awp (tb [(38, R_none), (27, R_Blocks)]) a35.body (fun x e t => (∀ i, x ≠ .exit i) ∧ aresults e t a35.results = some (.tup [.nils, .int .i64 1]) ∧ Keep s t) env s := by
  intro env hlen ha
  have h0 : E env 0 = _ := ha 0 _ rfl
  have h1 : E env 1 = _ := ha 1 _ rfl
  have hlen : elen env = _ := hlen
  simp only [a35] at hlen
  unfold a35
  try dsimp only [oO, oG]
  have q := q_none_nil false (s := s)
  simp (config := {contextual := true, maxDischargeDepth := 12}) only [tb_at, h0, h1, hlen, q, ↓bD, bU, forall_const, bS, implies_true, isNx, eq_self, ↓wp_cond, ↓wp_loop, ↓reduceIte, reduceCtorEq, Nat.reduceEqDiff, Nat.reduceLT, Nat.reduceAdd, Nat.reduceMul, bT, ↓sg_bsl, ↓st_callf, bX, ar_b2s, bin_mulE, ap_mkfn]
  all_goals first | exact .refl s | skip
theorem q_from_nil (cl : Bool) {s : St} (b : Int) : acall R_from cl [.nilp, .int .i64 b] s = some (.tup [.nils, .int .i64 1], s) := run_same n_from (by simp [a35]) rfl (w_from_nil (s := lowd s) b)
theorem w_from_zero {s : St} {id : Nat} {dv : AV} {own : Bool} (hb : s.get id = some (.row [.int .i64 0, dv] own)) (b : Int) : ∀ env : Env, elen env = a35.ntmps → (∀ i x_, [.ptr id 0, .int .i64 b][i]? = some x_ → E env i = x_) → awp (tb [(38, R_none), (27, R_Blocks)]) a35.body (fun x e t => (∀ i, x ≠ .exit i) ∧ aresults e t a35.results = some (.tup [.nils, .int .i64 1]) ∧ Keep s t) env s := by
  intro env hlen ha
  have h0 : E env 0 = _ := ha 0 _ rfl
  have h1 : E env 1 = _ := ha 1 _ rfl
  have hlen : elen env = _ := hlen
  simp only [a35] at hlen
  unfold a35
  try dsimp only [oO, oG]
  have q := q_none false hb
  rw [decide_eq_true rfl] at q
  simp (config := {contextual := true, maxDischargeDepth := 12}) only [tb_at, h0, h1, hlen, q, ↓bD, bU, forall_const, bS, implies_true, isNx, eq_self, ↓wp_cond, ↓wp_loop, ↓reduceIte, reduceCtorEq, Nat.reduceEqDiff, Nat.reduceLT, Nat.reduceAdd, Nat.reduceMul, bT, ↓sg_bsl, ↓st_callf, bX, ar_b2s, bin_mulE, ap_mkfn]
  all_goals first | exact .refl s | skip
theorem q_from_zero (cl : Bool) {s : St} {id : Nat} {dv : AV} {own : Bool} (hb : s.get id = some (.row [.int .i64 0, dv] own)) (b : Int) : acall R_from cl [.ptr id 0, .int .i64 b] s = some (.tup [.nils, .int .i64 1], s) := run_same n_from (by simp [a35]) rfl (w_from_zero (s := lowd s) hb b)
theorem w_from_bad {s : St} {id z : Nat} {dv : AV} {own : Bool} {l : List UInt8} (hb : s.get id = some (.row [.int .i64 (z : Int), dv] own)) (hz : 0 < z) (hr : read byC s dv = some l) (hl : l.length ≤ 4000000) (b : Int) (hbad : b < 0 ∨ ((l.length / z : Nat) : Int) ≤ b) : ∀ env : Env, elen env = a35.ntmps → (∀ i x_, [.ptr id 0, .int .i64 b][i]? = some x_ → E env i = x_) → awp (tb [(38, R_none), (27, R_Blocks)]) a35.body (fun x e t => (∀ i, x ≠ .exit i) ∧ aresults e t a35.results = some (.tup [.nils, .int .i64 3]) ∧ Keep s t) env s := by
  intro env hlen ha
  have h0 : E env 0 = _ := ha 0 _ rfl
  have h1 : E env 1 = _ := ha 1 _ rfl
  have hlen : elen env = _ := hlen
  simp only [a35] at hlen
  unfold a35
  try dsimp only [oO, oG]
  have q := q_none false hb
  rw [decide_eq_false (by omega)] at q
  have hn := lenV_read hr
  have qb := q_Blocks false hb hz hn hl
  obtain ⟨b0, b1, blt⟩ := row2_lod hb
  by_cases h0' : b < 0
  · have z1 := eq_true h0'
    simp (config := {contextual := true, maxDischargeDepth := 12}) only [tb_at, h0, h1, hlen, q, qb, z1, ↓bD, bU, forall_const, bS, implies_true, isNx, eq_self, ↓wp_cond, ↓wp_loop, ↓reduceIte, reduceCtorEq, Nat.reduceEqDiff, Nat.reduceLT, Nat.reduceAdd, Nat.reduceMul, bT, ↓sg_bsl, ↓st_callf, bX, ar_b2s, bin_mulE, ap_mkfn]
    all_goals first | exact .refl s | skip
  · have z1 := eq_false h0'
    have z2 := eq_true (show ((l.length / z : Nat) : Int) ≤ b by omega)
    simp (config := {contextual := true, maxDischargeDepth := 12}) only [tb_at, h0, h1, hlen, q, qb, z1, z2, ↓bD, bU, forall_const, bS, implies_true, isNx, eq_self, ↓wp_cond, ↓wp_loop, ↓reduceIte, reduceCtorEq, Nat.reduceEqDiff, Nat.reduceLT, Nat.reduceAdd, Nat.reduceMul, bT, ↓sg_bsl, ↓st_callf, bX, ar_b2s, bin_mulE, ap_mkfn]
    all_goals first | exact .refl s | skip
theorem q_from_bad (cl : Bool) {s : St} {id z : Nat} {dv : AV} {own : Bool} {l : List UInt8} (hb : s.get id = some (.row [.int .i64 (z : Int), dv] own)) (hz : 0 < z) (hr : read byC s dv = some l) (hl : l.length ≤ 4000000) (b : Int) (hbad : b < 0 ∨ ((l.length / z : Nat) : Int) ≤ b) : acall R_from cl [.ptr id 0, .int .i64 b] s = some (.tup [.nils, .int .i64 3], s) := run_same n_from (by simp [a35]) rfl (w_from_bad (s := lowd s) hb hz (hRL hr) hl b hbad)
theorem w_from_ok {s : St} {id z : Nat} {dv : AV} {own : Bool} {l : List UInt8} (hb : s.get id = some (.row [.int .i64 (z : Int), dv] own)) (hz : 0 < z) (hr : read byC s dv = some l) (hl : l.length ≤ 4000000) {k : Nat} (hk : k < l.length / z) : ∀ env : Env, elen env = a35.ntmps → (∀ i x_, [.ptr id 0, .int .i64 (k : Int)][i]? = some x_ → E env i = x_) → awp (tb [(38, R_none), (27, R_Blocks)]) a35.body (fun x e t => (∀ i, x ≠ .exit i) ∧ ∃ r, aresults e t a35.results = some r ∧ (∃ v, r = .tup [v, .int .i64 0] ∧ read byC t v = some (l.drop (k * z))) ∧ Keep s t) env s := by
  intro env hlen ha
  have h0 : E env 0 = _ := ha 0 _ rfl
  have h1 : E env 1 = _ := ha 1 _ rfl
  have hlen : elen env = _ := hlen
  simp only [a35] at hlen
  unfold a35
  try dsimp only [oO, oG]
  have q := q_none false hb
  rw [decide_eq_false (by omega)] at q
  have hn := lenV_read hr
  have qb := q_Blocks false hb hz hn hl
  obtain ⟨b0, b1, blt⟩ := row2_lod hb
  have hkz : k * z ≤ l.length := Nat.le_trans (Nat.mul_le_mul_right z (Nat.le_of_lt hk)) (Nat.div_mul_le_self _ _)
  have z1 := eq_false (show ¬ (k : Int) < 0 by omega)
  have z2 := eq_false (show ¬ ((l.length / z : Nat) : Int) ≤ (k : Int) by omega)
  have hm : IntKind.i64.wrap ((k : Int) * (z : Int)) = ((k * z : Nat) : Int) := by
    rw [← Int.natCast_mul]
    exact wrapI (by omega) (by omega)
  obtain ⟨v, sl1, rd1⟩ := slc_lo (C := byC) hr (k := .i64) (i := ((k * z : Nat) : Int)) rfl hkz
  have sl1 : slcV 1 dv (some (.int .i64 ((k * z : Nat) : Int))) none = some v := sl1
  simp (config := {contextual := true, maxDischargeDepth := 12}) only [tb_at, h0, h1, hlen, q, qb, z1, z2, b0, b1, blt, nchkV_ptr, hm, sl1, reserve0, ↓bD, bU, forall_const, bS, implies_true, isNx, eq_self, ↓wp_cond, ↓wp_loop, ↓reduceIte, reduceCtorEq, Nat.reduceEqDiff, Nat.reduceLT, Nat.reduceAdd, Nat.reduceMul, bT, ↓sg_bsl, ↓st_callf, bX, ar_b2s, bin_mulE, ap_mkfn]
  all_goals first | exact ⟨_, rfl, ⟨v, rfl, rd1 _ (.refl s)⟩, .refl s⟩ | exact ⟨_, rfl, v, rfl, rd1 _ (.refl s)⟩ | skip
theorem q_from_ok {s : St} {id z : Nat} {dv : AV} {own : Bool} {l : List UInt8} (hb : s.get id = some (.row [.int .i64 (z : Int), dv] own)) (hz : 0 < z) (hr : read byC s dv = some l) (hl : l.length ≤ 4000000) {k : Nat} (hk : k < l.length / z) : ∃ v t, acall R_from false [.ptr id 0, .int .i64 (k : Int)] s = some (.tup [v, .int .i64 0], t) ∧ read byC t v = some (l.drop (k * z)) ∧ Keep s t := by
  obtain ⟨r, t, h1, ⟨v, rfl, h2⟩, h3⟩ := run_any n_from (args := [.ptr id 0, .int .i64 (k : Int)]) (Q := fun r t => ∃ v, r = .tup [v, .int .i64 0] ∧ read byC t v = some (l.drop (k * z))) (by simp [a35]) (fun r t t' hg hn ⟨v, e, h⟩ => ⟨v, e, read_mono h fun id b hb => by rw [hg]; exact hb⟩) (fun r t hgr hk ⟨v, e, h⟩ => ⟨v, e, by
    rw [e] at hgr
    cases v with
    | nils => exact h
    | sl => simp [AV.ground, AV.plains, AV.plain] at hgr
    | _ => simp [read] at h⟩) (w_from_ok (s := lowd s) hb hz (hRL hr) hl hk)
  exact ⟨v, t, h1, h2, h3⟩
noncomputable def R_BClone : Con := runFn (tb []) a36
theorem s_BClone : SoundAt Try.prog 36 R_BClone := run_sound (tb_sound (l := []) (by simp)) mixed Try.func36 k36 c36
theorem n_BClone : noNxtC a36.body = true := by kernel_rfl
theorem w_BClone {s : St} {v : AV} {l : List UInt8} (hr : read byC s v = some l) (hl : l.length ≤ 4000000) : ∀ env : Env, elen env = a36.ntmps → (∀ i x_, [v][i]? = some x_ → E env i = x_) → awp (tb []) a36.body (fun x e t => (∀ i, x ≠ .exit i) ∧ ∃ r, aresults e t a36.results = some r ∧ NewB s t r l ∧ Keep s t) env s := by
  intro env hlen ha
  have h0 : E env 0 = _ := ha 0 _ rfl
  have hlen : elen env = _ := hlen
  simp only [a36] at hlen
  unfold a36
  try dsimp only [oO, oG]
  cases v with
  | nils =>
    obtain rfl : l = [] := by simpa [read] using hr.symm
    simp (config := {contextual := true, maxDischargeDepth := 12}) only [tb_at, h0, hlen, bin_nsn, ↓bD, bU, forall_const, bS, implies_true, isNx, eq_self, ↓wp_cond, ↓wp_loop, ↓reduceIte, reduceCtorEq, Nat.reduceEqDiff, Nat.reduceLT, Nat.reduceAdd, Nat.reduceMul, bT, ↓sg_bsl, ↓st_callf, bX, ar_b2s, bin_mulE, ap_mkfn]
    all_goals first | exact ⟨_, rfl, .inl ⟨rfl, rfl⟩, .refl s⟩ | exact ⟨_, rfl, .inl ⟨rfl, rfl⟩⟩ | skip
  | sl j off n cap z =>
    have hbs : bslV [] 0 1 [] = some (fun id => .sl id 0 0 (some 0) 1, .row [] true) := rfl
    have hs1 := read_shown ((((Keep.refl s).push (.row [] true)).read hr))
    have hs2 := read_len ((((Keep.refl s).push (.row [] true)).read hr))
    have hg : (s.push (.row [] true)).get s.next = some (.row [] true) := St.get_push_new _ _
    have hs1 : shown (s.push (.row [] true)) 1 (.sl j off n cap z) = some (byC.cells l) := hs1
    obtain ⟨w, t, hap, hN, hK⟩ : ∃ w t, appV (s.push (.row [] true)) 1 1 (.sl s.next 0 0 (some 0) 1) (.sl j off n cap z) = some (w, t) ∧ NewB s t w l ∧ Keep s t := by
      simp only [appV, hs1, hs2, aappend, hg, if_true]
      by_cases h0 : l.length = 0
      · rw [if_pos h0]
        have hl0 : l = [] := by simpa using h0
        subst hl0
        exact ⟨_, _, rfl, .inr ⟨s.next, some 0, rfl, Nat.le_refl _, hg, fun c hc => by injection hc with hc; exact hc.symm⟩, (Keep.refl s).push _⟩
      · rw [if_neg h0, if_pos ⟨by simp, by unfold roomBytes; omega⟩, if_neg (by omega)]
        refine ⟨_, _, rfl, .inr ⟨_, none, by rw [Nat.zero_add], by simp, ?_, fun c hc => by cases hc⟩, ((Keep.refl s).push _).push _⟩
        rw [St.get_push_new]
        simp
    simp (config := {contextual := true, maxDischargeDepth := 12}) only [tb_at, h0, hlen, bin_nss, hbs, hap, ↓bD, bU, forall_const, bS, implies_true, isNx, eq_self, ↓wp_cond, ↓wp_loop, ↓reduceIte, reduceCtorEq, Nat.reduceEqDiff, Nat.reduceLT, Nat.reduceAdd, Nat.reduceMul, bT, ↓sg_bsl, ↓st_callf, bX, ar_b2s, bin_mulE, ap_mkfn]
    all_goals first | exact ⟨_, rfl, hN, hK⟩ | exact ⟨_, rfl, hN⟩ | skip
  | _ => simp [read] at hr
theorem q_BClone {s : St} {v : AV} {l : List UInt8} (hr : read byC s v = some l) (hl : l.length ≤ 4000000) : ∃ w t, acall R_BClone false [v] s = some (w, t) ∧ NewB s t w l ∧ Keep s t :=
  run_any n_BClone (args := [v]) (Q := fun r t => NewB s t r l) (by simp [a36]) (fun r t t' hg hn h => h.mono fun id b hb => by rw [hg]; exact hb) (fun r t hgr hk h => h.ground hgr) (w_BClone (s := lowd s) (hRL hr) hl)
theorem q_BCloneF {s : St} {v : AV} {l : List UInt8} (hr : read byC s v = some l) (hl : l.length ≤ 4000000) : ∃ w t, acallF R_BClone [v] s = some (w, t) ∧ NewB s t w l ∧ Keep s t := by
  obtain ⟨w, t, h1, h2, h3⟩ := q_BClone (s := lowd s) (hRL hr) hl
  obtain ⟨t', g1, g2, g3, g4⟩ := acallF_keep h1 h3
  exact ⟨w, t', g1, NewB.mono (s := s) h2 fun id b hb => by rw [g2]; exact hb, g4⟩
noncomputable def R_Chunk : Con := runFn (tb []) a37
theorem s_Chunk : SoundAt Try.prog 37 R_Chunk := run_sound (tb_sound (l := []) (by simp)) mixed Try.func37 k37 c37
theorem n_Chunk : noNxtC a37.body = true := by kernel_rfl
theorem w_Chunk {s : St} {v : AV} {z : Nat} (hone : v.one = true ∧ v.cells = [v]) (hz : 0 < z) : ∀ env : Env, elen env = a37.ntmps → (∀ i x_, [v, .int .i64 (z : Int)][i]? = some x_ → E env i = x_) → awp (tb []) a37.body (fun x e t => (∀ i, x ≠ .exit i) ∧ ∃ r, aresults e t a37.results = some r ∧ (∃ b c, r = .fn 39 [.ptr b 0, .ptr c 0] ∧ t.get b = some (.row [v] true) ∧ t.get c = some (.row [.int .i64 (z : Int)] true) ∧ s.next ≤ b ∧ s.next ≤ c) ∧ Keep s t) env s := by
  intro env hlen ha
  have h0 : E env 0 = _ := ha 0 _ rfl
  have h1 : E env 1 = _ := ha 1 _ rfl
  have hlen : elen env = _ := hlen
  simp only [a37] at hlen
  unfold a37
  try dsimp only [oO, oG]
  have hz1 := eq_false (show ¬ (z : Int) < 1 by omega)
  have hb1 : boxV 1 v = some (fun id => .ptr id 0, .row [v] true) := by simp [boxV, hone.1, hone.2]
  have hb2 : boxV 1 (.int .i64 (z : Int)) = some (fun id => .ptr id 0, .row [.int .i64 (z : Int)] true) := rfl
  obtain ⟨l1, l2⟩ := row1_lod (St.get_push_new (s.push (.row [v] true)) (.row [.int .i64 (z : Int)] true))
  simp (config := {contextual := true, maxDischargeDepth := 12}) only [tb_at, h0, h1, hlen, hb1, hb2, hz1, l1, l2, ↓bD, bU, forall_const, bS, implies_true, isNx, eq_self, ↓wp_cond, ↓wp_loop, ↓reduceIte, reduceCtorEq, Nat.reduceEqDiff, Nat.reduceLT, Nat.reduceAdd, Nat.reduceMul, bT, ↓sg_bsl, ↓st_callf, bX, ar_b2s, bin_mulE, ap_mkfn]
  all_goals first | exact ⟨_, rfl, ⟨_, _, rfl, get_push_some _ (St.get_push_new s _), St.get_push_new _ _, Nat.le_refl _, by simp⟩, ((Keep.refl s).push _).push _⟩ | exact ⟨_, rfl, _, _, rfl, get_push_some _ (St.get_push_new s _), St.get_push_new _ _, Nat.le_refl _, by simp⟩ | skip
theorem q_Chunk {s : St} {v : AV} {z : Nat} (hone : v.one = true ∧ v.cells = [v]) (hz : 0 < z) : ∃ b c t, acall R_Chunk false [v, .int .i64 (z : Int)] s = some (.fn 39 [.ptr b 0, .ptr c 0], t) ∧ t.get b = some (.row [v] true) ∧ t.get c = some (.row [.int .i64 (z : Int)] true) ∧ s.next ≤ b ∧ s.next ≤ c ∧ Keep s t := by
  obtain ⟨r, t, h1, ⟨b, c, rfl, h2, h3, h5, h6⟩, h4⟩ := run_any n_Chunk (args := [v, .int .i64 (z : Int)]) (Q := fun r t => ∃ b c, r = .fn 39 [.ptr b 0, .ptr c 0] ∧ t.get b = some (.row [v] true) ∧ t.get c = some (.row [.int .i64 (z : Int)] true) ∧ s.next ≤ b ∧ s.next ≤ c) (by simp [a37]) (fun r t t' hg hn ⟨b, c, e, h, h', h5, h6⟩ => ⟨b, c, e, by rw [hg]; exact h, by rw [hg]; exact h', h5, h6⟩) (fun r t hgr hk ⟨b, c, e, h, h', _⟩ => by
    rw [e] at hgr
    simp [AV.ground, AV.plain] at hgr) (w_Chunk (s := lowd s) hone hz)
  exact ⟨b, c, t, h1, h2, h3, h5, h6, h4⟩

end Go.AM
end
