/-
  Rules for stepping through the abstract machine's code by rewriting. Own work of this project.
-/
import Derived.Test.YtihjheckdjocoaaAmTb
set_option linter.unusedVariables false
set_option linter.unusedSimpArgs false
namespace Go.AM
open Go

variable {call : Nat → List AV → St → Option (AV × St)}

/-! ### What holds behind the code may be weakened; loops with a bound -/
theorem awops_mono {base : Nat} {Q Q' : Env → St → Prop} (h : ∀ e t, Q e t → Q' e t) : ∀ (os : List AOper) (env : Env) (s : St), awops call base os Q env s → awops call base os Q' env s
  | [], env, s, k => h _ _ k
  | o :: rest, env, s, k => by
    simp only [awops] at k ⊢
    split at k
    · split at k
      · rename_i x hx
        unfold anext at k ⊢
        split at k
        · split at k
          · exact awops_mono h rest _ _ k
          · split at k
            · exact ⟨k.1, k.2.1, fun q => awops_mono h rest _ _ (k.2.2.1 q), fun e h1 h2 => awops_mono h rest _ _ (k.2.2.2 e h1 h2)⟩
            · exact k
          · exact k
        · exact k
      · split at k
        · exact awops_mono h rest _ _ k
        · exact k
    · exact awops_mono h rest _ _ k
    · exact k
theorem arounds_mono {b : (AEx → Env → St → Prop) → Env → St → Prop} (hb : ∀ {Q Q' : AEx → Env → St → Prop}, (∀ x e t, Q x e t → Q' x e t) → ∀ {e t}, b Q e t → b Q' e t) {Q Q' : AEx → Env → St → Prop} (h : ∀ x e t, Q x e t → Q' x e t) :
    ∀ (n m : Nat) {e : Env} {t : St}, n ≤ m → arounds b Q n e t → arounds b Q' m e t
  | 0, _, _, _, _, k => k.elim
  | n + 1, 0, _, _, hn, _ => by omega
  | n + 1, m + 1, e, t, hn, k => by
    simp only [arounds] at k ⊢
    refine hb (fun x e t q => ?_) k
    cases x with
    | nor => exact arounds_mono hb h n m (by omega) q
    | exit i => exact h _ _ _ q
    | ret => exact h _ _ _ q
theorem awp_mono : ∀ (c : AC) {Q Q' : AEx → Env → St → Prop} (h : ∀ x e t, Q x e t → Q' x e t) {env : Env} {s : St}, awp call c Q env s → awp call c Q' env s
  | .skip, _, _, h, _, _, k => h _ _ _ k
  | .reg os, _, _, h, _, _, k => awops_mono (h .nor) os _ _ k
  | .regd n os, _, _, h, _, _, k => by
    obtain ⟨e, t, h1, h2⟩ := k
    exact ⟨e, t, h1, h _ _ _ h2⟩
  | .seq a b, Q, Q', h, _, _, k => by
    refine awp_mono a (fun x e t q => ?_) k
    cases x with
    | nor => exact awp_mono b h q
    | exit i => exact h _ _ _ q
    | ret => exact h _ _ _ q
  | .cond c a b, Q, Q', h, env, s, k => by
    simp only [awp] at k ⊢
    split at k
    · exact awp_mono a h k
    · exact awp_mono b h k
    · exact k
  | .block id c, Q, Q', h, _, _, k => by
    refine awp_mono c (fun x e t q => ?_) k
    cases x with
    | nor => exact h _ _ _ q
    | exit i =>
      simp only at q ⊢
      split
      · rename_i hi
        rw [if_pos hi] at q
        exact h _ _ _ q
      · rename_i hi
        rw [if_neg hi] at q
        exact h _ _ _ q
    | ret => exact h _ _ _ q
  | .loop c, Q, Q', h, env, s, k => by
    obtain ⟨n, k⟩ := k
    exact ⟨n, arounds_mono (b := awp call c) (fun h => fun q => awp_mono c h q) h n n (Nat.le_refl _) k⟩
  | .exit _, _, _, h, _, _, k => h _ _ _ k
  | .ret, _, _, h, _, _, k => h _ _ _ k
  | .bad, _, _, _, _, _, k => k

theorem awp_loop {c : AC} {Q : AEx → Env → St → Prop} (I : Nat → Env → St → Prop)
    (step : ∀ n e t, I n e t → awp call c (fun x e' t' => match x with
      | .nor => ∃ m, m < n ∧ I m e' t'
      | x => Q x e' t') e t) {n : Nat} {e : Env} {t : St} (h : I n e t) : awp call (.loop c) Q e t := by
  have key : ∀ n e t, I n e t → arounds (awp call c) Q (n + 1) e t := by
    intro n
    induction n using Nat.strongRecOn with
    | ind n ih =>
      intro e t h
      simp only [arounds]
      refine awp_mono c (fun x e' t' q => ?_) (step n e t h)
      cases x with
      | nor =>
        obtain ⟨m, h1, h2⟩ := q
        exact arounds_mono (b := awp call c) (fun h => fun q => awp_mono c h q) (fun _ _ _ q => q) (m + 1) n (by omega) (ih m h1 e' t' h2)
      | exit i => exact q
      | ret => exact q
  exact ⟨n + 1, key n e t h⟩
/-- A cut. -/
theorem awp_cut {a b : AC} {Q : AEx → Env → St → Prop} (J : Env → St → Prop) {e : Env} {t : St} (h : awp call a (fun x e t => match x with
      | .nor => J e t
      | x => Q x e t) e t) (k : ∀ e t, J e t → awp call b Q e t) : awp call (.seq a b) Q e t :=
  awp_mono a (fun x e t q => by cases x with
    | nor => exact k e t q
    | exit i => exact q
    | ret => exact q) h

universe u
theorem nrfl {α : Sort u} {a b : α} (h : a = b) : a = b := by
  cases h
  rfl
/-! ### Temporaries -/
def E (env : Env) (i : Nat) : AV := env.getD i .und
theorem aev_t (env : Env) (n : Nat) : aev env (.t n) = E env n := nrfl rfl
theorem aev_c (env : Env) (v : AV) : aev env (.c v) = v := nrfl rfl
theorem aev_f (env : Env) (n : Nat) : aev env (.f n) = .fn n [] := nrfl rfl
theorem putE_some (env : Env) (d : Nat) (v : AV) : putE env (some d) v = env.set d v := nrfl rfl
theorem putE_none (env : Env) (v : AV) : putE env none v = env := nrfl rfl

theorem E_same {env : Env} {i : Nat} (h : i < env.length) (v : AV) : E (env.set i v) i = v := by
  simp [E, h]
theorem E_ne {i j : Nat} (h : i ≠ j) (env : Env) (v : AV) : E (env.set i v) j = E env j := by
  simp [E, List.getElem?_set_ne h]
theorem env_len (env : Env) (i : Nat) (v : AV) : (env.set i v).length = env.length := by simp
def pE (env : Env) (d : Option Nat) (v : AV) : Env := putE env d v
theorem pE_none (env : Env) (v : AV) : pE env none v = env := nrfl rfl
def elen (env : Env) : Nat := env.length
theorem E_pne {i j : Nat} (h : i ≠ j) (env : Env) (v : AV) : E (pE env (some i) v) j = E env j := E_ne h env v
theorem E_psame {env : Env} {i : Nat} (h : i < elen env) (v : AV) : E (pE env (some i) v) i = v := E_same h v
theorem elen_put (env : Env) (d : Option Nat) (v : AV) : elen (pE env d v) = elen env := by cases d <;> simp [elen, pE, putE]
theorem start_env {args : List AV} {n : Nat} (h : args.length ≤ n) {p : Env → Prop} (k : ∀ env : Env, elen env = n → (∀ i v, args[i]? = some v → E env i = v) → p env) : p (args ++ List.replicate (n - args.length) .und) := by
  refine k _ (by simp [elen]; omega) fun i v hi => ?_
  have := (List.getElem?_eq_some_iff.1 hi).1
  simp [E, List.getElem?_append_left this, hi]

/-! ### Steps -/
def pstep (o : Option AV) (K : AV → Prop) : Prop := match o with
  | some v => K v
  | none => False
def estep (o : Option (AV × St)) (K : AV → St → Prop) : Prop := match o with
  | some (v, s) => K v s
  | none => False
theorem pstep_some (v : AV) (K : AV → Prop) : pstep (some v) K = K v := nrfl rfl
theorem estep_some (v : AV) (s : St) (K : AV → St → Prop) : estep (some (v, s)) K = K v s := nrfl rfl
def isT (w : Bool) : AV → Bool
  | .bool b => b == w
  | _ => false
def gstep (v : AV) (w : Bool) (A B : Prop) : Prop := match v with
  | .bool b => if b = w then A else B
  | .any => False
  | _ => B
theorem gstep_tt (A B : Prop) : gstep (.bool true) true A B = A := nrfl rfl
theorem gstep_ff (A B : Prop) : gstep (.bool false) false A B = A := nrfl rfl
theorem gstep_tf (A B : Prop) : gstep (.bool true) false A B = B := nrfl rfl
theorem gstep_ft (A B : Prop) : gstep (.bool false) true A B = B := nrfl rfl
theorem gstep_und (w : Bool) (A B : Prop) : gstep .und w A B = B := nrfl rfl
@[congr] theorem gstep_congr {v v' : AV} (h : v = v') (w : Bool) (A B : Prop) : gstep v w A B = gstep v' w A B := by rw [h]
@[congr] theorem pstep_congr {o o' : Option AV} (h : o = o') (K : AV → Prop) : pstep o K = pstep o' K := by rw [h]
@[congr] theorem estep_congr {o o' : Option (AV × St)} (h : o = o') (K : AV → St → Prop) : estep o K = estep o' K := by rw [h]

variable {base : Nat} {d : Option Nat} {r : Option Nat} {fr : Bool} {rest : List AOper} {Q : Env → St → Prop} {env : Env} {s : St}

theorem st_nil : awops call base [] Q env s = Q env s := nrfl rfl
theorem st_guard (op : AOp) (t : Nat) (w : Bool) : awops call base (⟨d, op, some (t, w), r, fr⟩ :: rest) Q env s =
    gstep (E env t) w (awops call base (⟨d, op, none, r, fr⟩ :: rest) Q env s) (awops call base rest Q (pE env d .und) s) := by
  simp only [awops, wanted]
  unfold E
  generalize env.getD t .und = v
  cases v <;> try rfl
  rename_i b
  cases b <;> cases w <;> rfl
theorem pE_eq (env : Env) (d : Option Nat) (v : AV) : pE env d v = putE env d v := nrfl rfl
theorem awops_cons {op : AOp} (h0 : ∀ x, op ≠ .nxt x) : awops call base (⟨d, op, none, r, fr⟩ :: rest) Q env s = estep (aop call base ⟨d, op, none, r, fr⟩ env s) fun v t => awops call base rest Q (pE env d v) t := by
  cases op
  case nxt x => exact absurd rfl (h0 x)
  all_goals rfl
theorem st_pure {op : AOp} (h0 : ∀ x, op ≠ .nxt x) (h1 : aalloc env op = none) (h2 : aread call env s op = none) (h3 : ∀ s, aeff call env s op = none) :
    awops call base (⟨d, op, none, r, fr⟩ :: rest) Q env s = pstep (apure env op) fun v => awops call base rest Q (pE env d v) s := by
  rw [awops_cons h0]
  simp only [aop, h1, h2, h3]
  cases apure env op with
  | some v => rfl
  | none => cases fr <;> rfl
theorem st_read {op : AOp} (h0 : ∀ x, op ≠ .nxt x) (h1 : aalloc env op = none) (h2 : apure env op = none) (h3 : ∀ s, aeff call env s op = none) :
    awops call base (⟨d, op, none, r, false⟩ :: rest) Q env s = pstep (aread call env s op) fun v => awops call base rest Q (pE env d v) s := by
  rw [awops_cons h0]
  simp only [aop, h1, h2, h3, Bool.false_and, Bool.false_eq_true, if_false]
  cases aread call env s op with
  | some v => rfl
  | none => rfl
theorem st_eff {op : AOp} (h0 : ∀ x, op ≠ .nxt x) (h1 : aalloc env op = none) (h2 : apure env op = none) (h3 : aread call env s op = none) :
    awops call base (⟨d, op, none, r, false⟩ :: rest) Q env s = estep (aeff call env s op) fun v t => awops call base rest Q (pE env d v) t := by
  rw [awops_cons h0]
  simp only [aop, h1, h2, h3]
  rfl
theorem st_efff {op : AOp} (h0 : ∀ x, op ≠ .nxt x) (h1 : aalloc env op = none) (h2 : apure env op = none) (h3 : aread call env s op = none) :
    awops call base (⟨d, op, none, r, true⟩ :: rest) Q env s = estep (aeff call env { s with low := s.next } op) fun v t => if op.floor base s.next ≤ t.low then awops call base rest Q (pE env d v) { t with low := min s.low t.low } else False := by
  rw [awops_cons h0]
  simp only [aop, h1, h2, h3, if_true]
  cases aeff call env { s with low := s.next } op with
  | some v =>
    simp only [estep]
    split <;> rename_i h
    · split at h
      · rename_i h'
        injection h with h
        obtain ⟨rfl, rfl⟩ := Prod.mk.inj h
        rw [if_pos h']
      · cases h
    · split at h
      · cases h
      · rename_i h'
        rw [if_neg h']
  | none => rfl
def astep (o : Option ((Nat → AV) × AB)) (K : (Nat → AV) → AB → Prop) : Prop := match o with
  | some (v, b) => K v b
  | none => False
@[congr] theorem astep_congr {o o' : Option ((Nat → AV) × AB)} (h : o = o') (K : (Nat → AV) → AB → Prop) : astep o K = astep o' K := by rw [h]
theorem astep_some (v : Nat → AV) (b : AB) (K : (Nat → AV) → AB → Prop) : astep (some (v, b)) K = K v b := nrfl rfl
theorem st_alloc {op : AOp} (h0 : ∀ x, op ≠ .nxt x) (h1 : apure env op = none) (h2 : aread call env s op = none) (h3 : ∀ s, aeff call env s op = none) :
    awops call base (⟨d, op, none, none, fr⟩ :: rest) Q env s = astep (aalloc env op) fun v b => awops call base rest Q (pE env d (v s.next)) (s.push b) := by
  rw [awops_cons h0]
  simp only [aop, h1, h2, h3]
  cases aalloc env op with
  | some v => rfl
  | none => cases fr <;> rfl
def bstep (o : Option AB) (A : Prop) : Prop := match o with
  | some .unborn => A
  | _ => False
theorem bstep_some (A : Prop) : bstep (some .unborn) A = A := nrfl rfl
@[congr] theorem bstep_congr {o o' : Option AB} (h : o = o') (A : Prop) : bstep o A = bstep o' A := by rw [h]
theorem st_allocr {op : AOp} {j : Nat} (h0 : ∀ x, op ≠ .nxt x) (h1 : apure env op = none) (h2 : aread call env s op = none) (h3 : ∀ s, aeff call env s op = none) :
    awops call base (⟨d, op, none, some j, fr⟩ :: rest) Q env s = astep (aalloc env op) fun v b => bstep (s.get (base + j)) (awops call base rest Q (pE env d (v (base + j))) (s.born (base + j) b)) := by
  rw [awops_cons h0]
  simp only [aop, h1, h2, h3]
  cases aalloc env op with
  | some v =>
    simp only [astep, bstep]
    cases s.get (base + j) with
    | none => rfl
    | some b => cases b <;> rfl
  | none => cases fr <;> rfl

theorem st_mv (x : AO) : awops call base (⟨d, .mv x, none, r, fr⟩ :: rest) Q env s = pstep (some (aev env x)) fun v => awops call base rest Q (pE env d v) s := nrfl rfl
theorem st_pick (c a b : AO) : awops call base (⟨d, .pick c a b, none, r, fr⟩ :: rest) Q env s = pstep (apure env (.pick c a b)) fun v => awops call base rest Q (pE env d v) s := st_pure (by simp) rfl rfl fun _ => rfl
theorem st_build (z : List AV) (ps : List (Nat × Nat × AO)) : awops call base (⟨d, .build z ps, none, r, fr⟩ :: rest) Q env s = pstep (apure env (.build z ps)) fun v => awops call base rest Q (pE env d v) s := st_pure (by simp) rfl rfl fun _ => rfl
theorem st_bin (o : BinOp) (k : EK) (x y : AO) : awops call base (⟨d, .bin o k x y, none, r, fr⟩ :: rest) Q env s = pstep (binOp o k (aev env x) (aev env y)) fun v => awops call base rest Q (pE env d v) s := st_pure (op := .bin o k x y) (by simp) rfl rfl fun _ => rfl
theorem st_un (o : UnOp) (x : AO) : awops call base (⟨d, .un o x, none, r, fr⟩ :: rest) Q env s = pstep (apure env (.un o x)) fun v => awops call base rest Q (pE env d v) s := st_pure (by simp) rfl rfl fun _ => rfl
theorem st_conv (k : IntKind) (x : AO) : awops call base (⟨d, .conv k x, none, r, fr⟩ :: rest) Q env s = pstep (apure env (.conv k x)) fun v => awops call base rest Q (pE env d v) s := st_pure (by simp) rfl rfl fun _ => rfl
theorem st_mkfn (f : Nat) (x : List AO) : awops call base (⟨d, .mkfn f x, none, r, fr⟩ :: rest) Q env s = pstep (apure env (.mkfn f x)) fun v => awops call base rest Q (pE env d v) s := st_pure (by simp) rfl rfl fun _ => rfl
theorem st_slc (n : Nat) (x : AO) (a b c : Option AO) : awops call base (⟨d, .slc n x a b c, none, r, fr⟩ :: rest) Q env s = pstep (apure env (.slc n x a b c)) fun v => awops call base rest Q (pE env d v) s := st_pure (by simp) rfl rfl fun _ => rfl
theorem st_slcs (x : AO) (a b : Option AO) : awops call base (⟨d, .slcs x a b, none, r, fr⟩ :: rest) Q env s = pstep (apure env (.slcs x a b)) fun v => awops call base rest Q (pE env d v) s := st_pure (by simp) rfl rfl fun _ => rfl
theorem st_fad (o : Nat) (x : AO) : awops call base (⟨d, .fad o x, none, r, fr⟩ :: rest) Q env s = pstep (apure env (.fad o x)) fun v => awops call base rest Q (pE env d v) s := st_pure (by simp) rfl rfl fun _ => rfl
theorem st_fld (b : Bool) (o n : Nat) (x : AO) : awops call base (⟨d, .fld b o n x, none, r, fr⟩ :: rest) Q env s = pstep (apure env (.fld b o n x)) fun v => awops call base rest Q (pE env d v) s := st_pure (by simp) rfl rfl fun _ => rfl
theorem st_iad (n : Nat) (x i : AO) : awops call base (⟨d, .iad n x i, none, r, fr⟩ :: rest) Q env s = pstep (apure env (.iad n x i)) fun v => awops call base rest Q (pE env d v) s := st_pure (by simp) rfl rfl fun _ => rfl
theorem st_idxs (x i : AO) : awops call base (⟨d, .idxs x i, none, r, fr⟩ :: rest) Q env s = pstep (apure env (.idxs x i)) fun v => awops call base rest Q (pE env d v) s := st_pure (by simp) rfl rfl fun _ => rfl
theorem st_ext (x : AO) (i : Nat) : awops call base (⟨d, .ext x i, none, r, fr⟩ :: rest) Q env s = pstep (apure env (.ext x i)) fun v => awops call base rest Q (pE env d v) s := st_pure (by simp) rfl rfl fun _ => rfl
theorem st_len (x : AO) : awops call base (⟨d, .len .sl x, none, r, fr⟩ :: rest) Q env s = pstep (apure env (.len .sl x)) fun v => awops call base rest Q (pE env d v) s := st_pure (by simp) rfl rfl fun _ => rfl
theorem st_lens (x : AO) : awops call base (⟨d, .len .st x, none, r, fr⟩ :: rest) Q env s = pstep (apure env (.len .st x)) fun v => awops call base rest Q (pE env d v) s := st_pure (by simp) rfl rfl fun _ => rfl
theorem st_cap (x : AO) : awops call base (⟨d, .cap x, none, r, fr⟩ :: rest) Q env s = pstep (apure env (.cap x)) fun v => awops call base rest Q (pE env d v) s := st_pure (by simp) rfl rfl fun _ => rfl
theorem st_mm (b : Bool) (x : List AO) : awops call base (⟨d, .mm b x, none, r, fr⟩ :: rest) Q env s = pstep (apure env (.mm b x)) fun v => awops call base rest Q (pE env d v) s := st_pure (by simp) rfl rfl fun _ => rfl
theorem st_nchk (x : AO) : awops call base (⟨d, .nchk x, none, r, fr⟩ :: rest) Q env s = pstep (apure env (.nchk x)) fun v => awops call base rest Q (pE env d v) s := st_pure (by simp) rfl rfl fun _ => rfl
theorem st_load1 (x : AO) : awops call base (⟨d, .load1 x, none, r, false⟩ :: rest) Q env s = pstep (aread call env s (.load1 x)) fun v => awops call base rest Q (pE env d v) s := st_read (by simp) rfl rfl fun _ => rfl
theorem st_loadn (n : Nat) (x : AO) : awops call base (⟨d, .loadn n x, none, r, false⟩ :: rest) Q env s = pstep (aread call env s (.loadn n x)) fun v => awops call base rest Q (pE env d v) s := st_read (by simp) rfl rfl fun _ => rfl
theorem st_b2s (x : AO) : awops call base (⟨d, .b2s x, none, r, false⟩ :: rest) Q env s = pstep (aread call env s (.b2s x)) fun v => awops call base rest Q (pE env d v) s := st_read (by simp) rfl rfl fun _ => rfl
theorem st_look (z : AV) (k : EK) (ok : Bool) (m i : AO) : awops call base (⟨d, .look z k ok m i, none, r, false⟩ :: rest) Q env s = pstep (aread call env s (.look z k ok m i)) fun v => awops call base rest Q (pE env d v) s := st_read (by simp) rfl rfl fun _ => rfl
theorem st_lenm (x : AO) : awops call base (⟨d, .len .mp x, none, r, false⟩ :: rest) Q env s = pstep (aread call env s (.len .mp x)) fun v => awops call base rest Q (pE env d v) s := st_read (by simp) rfl rfl fun _ => rfl
theorem st_ent (x : AO) : awops call base (⟨d, .ent x, none, r, false⟩ :: rest) Q env s = pstep (aread call env s (.ent x)) fun v => awops call base rest Q (pE env d v) s := st_read (by simp) rfl rfl fun _ => rfl
theorem st_calld (f : Nat) (l : List AO) : awops call base (⟨d, .call f true l, none, r, false⟩ :: rest) Q env s = pstep (aread call env s (.call f true l)) fun v => awops call base rest Q (pE env d v) s := st_read (by simp) rfl rfl fun _ => rfl
theorem st_callvd (x : AO) (l : List AO) : awops call base (⟨d, .callv x true l, none, r, false⟩ :: rest) Q env s = pstep (aread call env s (.callv x true l)) fun v => awops call base rest Q (pE env d v) s := st_read (by simp) rfl rfl fun _ => rfl
theorem st_call (f : Nat) (l : List AO) : awops call base (⟨d, .call f false l, none, r, false⟩ :: rest) Q env s = estep (acall (call f) false (l.map (aev env)) s) fun v t => awops call base rest Q (pE env d v) t := st_eff (op := .call f false l) (by simp) rfl rfl rfl
theorem st_callv (x : AO) (l : List AO) : awops call base (⟨d, .callv x false l, none, r, false⟩ :: rest) Q env s = estep (aeff call env s (.callv x false l)) fun v t => awops call base rest Q (pE env d v) t := st_eff (by simp) rfl rfl rfl
theorem st_store (n : Nat) (a x : AO) : awops call base (⟨d, .store n a x, none, r, false⟩ :: rest) Q env s = estep (aeff call env s (.store n a x)) fun v t => awops call base rest Q (pE env d v) t := st_eff (by simp) rfl rfl rfl
theorem st_storef (n : Nat) (a x : AO) : awops call base (⟨d, .store n a x, none, r, true⟩ :: rest) Q env s = estep (aeff call env { s with low := s.next } (.store n a x)) fun v t => if (AOp.store n a x).floor base s.next ≤ t.low then awops call base rest Q (pE env d v) { t with low := min s.low t.low } else False := st_efff (by simp) rfl rfl rfl
theorem st_mkmap (x : Option AO) : awops call base (⟨d, .mkmap x, none, r, false⟩ :: rest) Q env s = estep (aeff call env s (.mkmap x)) fun v t => awops call base rest Q (pE env d v) t := st_eff (by simp) rfl rfl rfl
theorem st_mset (k : EK) (m i x : AO) : awops call base (⟨d, .mset k m i x, none, r, false⟩ :: rest) Q env s = estep (aeff call env s (.mset k m i x)) fun v t => awops call base rest Q (pE env d v) t := st_eff (by simp) rfl rfl rfl
theorem st_mdel (k : EK) (m i : AO) : awops call base (⟨d, .mdel k m i, none, r, false⟩ :: rest) Q env s = estep (aeff call env s (.mdel k m i)) fun v t => awops call base rest Q (pE env d v) t := st_eff (by simp) rfl rfl rfl
theorem st_rng (x : AO) : awops call base (⟨d, .rng x, none, r, false⟩ :: rest) Q env s = estep (aeff call env s (.rng x)) fun v t => awops call base rest Q (pE env d v) t := st_eff (by simp) rfl rfl rfl
theorem st_s2b (x : AO) : awops call base (⟨d, .s2b x, none, r, false⟩ :: rest) Q env s = estep (aeff call env s (.s2b x)) fun v t => awops call base rest Q (pE env d v) t := st_eff (by simp) rfl rfl rfl
theorem st_app (sz b : Nat) (z : List AV) (a x : AO) : awops call base (⟨d, .app sz b z a x, none, r, false⟩ :: rest) Q env s = estep (aeff call env s (.app sz b z a x)) fun v t => awops call base rest Q (pE env d v) t := st_eff (by simp) rfl rfl rfl
theorem st_appz (sz b : Nat) (z : List AV) (a x : AO) : awops call base (⟨d, .appz sz b z a x, none, r, false⟩ :: rest) Q env s = estep (aeff call env s (.appz sz b z a x)) fun v t => awops call base rest Q (pE env d v) t := st_eff (by simp) rfl rfl rfl
theorem st_copy (sz : Nat) (a x : AO) : awops call base (⟨d, .copy sz a x, none, r, false⟩ :: rest) Q env s = estep (aeff call env s (.copy sz a x)) fun v t => awops call base rest Q (pE env d v) t := st_eff (by simp) rfl rfl rfl
theorem st_nxt (x : AO) : awops call base (⟨d, .nxt x, none, r, fr⟩ :: rest) Q env s = anext (aev env x) s fun v t => awops call base rest Q (pE env d v) t := nrfl rfl
theorem st_allo (z : List AV) : awops call base (⟨d, .alloc z, none, none, fr⟩ :: rest) Q env s = awops call base rest Q (pE env d (.ptr s.next 0)) (s.push (.row z true)) := nrfl rfl
theorem st_allor (z : List AV) (j : Nat) : awops call base (⟨d, .alloc z, none, some j, fr⟩ :: rest) Q env s = bstep (s.get (base + j)) (awops call base rest Q (pE env d (.ptr (base + j) 0)) (s.born (base + j) (.row z true))) := st_allocr (op := .alloc z) (by simp) rfl rfl fun _ => rfl
theorem st_box (n : Nat) (x : AO) : awops call base (⟨d, .box n x, none, none, fr⟩ :: rest) Q env s = astep (aalloc env (.box n x)) fun v b => awops call base rest Q (pE env d (v s.next)) (s.push b) := st_alloc (by simp) rfl rfl fun _ => rfl
theorem st_boxr (n : Nat) (x : AO) (j : Nat) : awops call base (⟨d, .box n x, none, some j, fr⟩ :: rest) Q env s = astep (aalloc env (.box n x)) fun v b => bstep (s.get (base + j)) (awops call base rest Q (pE env d (v (base + j))) (s.born (base + j) b)) := st_allocr (by simp) rfl rfl fun _ => rfl
theorem st_bsl (z : List AV) (l n : Nat) (ps : List (Nat × AO)) : awops call base (⟨d, .bsl z l n ps, none, none, fr⟩ :: rest) Q env s = astep (aalloc env (.bsl z l n ps)) fun v b => awops call base rest Q (pE env d (v s.next)) (s.push b) := st_alloc (by simp) rfl rfl fun _ => rfl
theorem st_bslr (z : List AV) (l n : Nat) (ps : List (Nat × AO)) (j : Nat) : awops call base (⟨d, .bsl z l n ps, none, some j, fr⟩ :: rest) Q env s = astep (aalloc env (.bsl z l n ps)) fun v b => bstep (s.get (base + j)) (awops call base rest Q (pE env d (v (base + j))) (s.born (base + j) b)) := st_allocr (by simp) rfl rfl fun _ => rfl
theorem st_mksl (z : List AV) (n : Nat) (a b : AO) : awops call base (⟨d, .mksl z n a b, none, none, fr⟩ :: rest) Q env s = astep (aalloc env (.mksl z n a b)) fun v b => awops call base rest Q (pE env d (v s.next)) (s.push b) := st_alloc (by simp) rfl rfl fun _ => rfl
theorem st_mkslr (z : List AV) (n : Nat) (a b : AO) (j : Nat) : awops call base (⟨d, .mksl z n a b, none, some j, fr⟩ :: rest) Q env s = astep (aalloc env (.mksl z n a b)) fun v b => bstep (s.get (base + j)) (awops call base rest Q (pE env d (v (base + j))) (s.born (base + j) b)) := st_allocr (by simp) rfl rfl fun _ => rfl


/-! ### Steps behind a guard -/
def sel (b : Bool) (x : AV) : AV := if b then x else .und
theorem sel_true (x : AV) : sel true x = x := nrfl rfl
theorem sel_false (x : AV) : sel false x = .und := nrfl rfl
def gP (w : Bool) (v : AV) : Prop := isT w v = true
theorem gP_bt (b : Bool) : gP true (.bool b) = (b = true) := by cases b <;> simp [gP, isT]
theorem gP_bf (b : Bool) : gP false (.bool b) = (b = false) := by cases b <;> simp [gP, isT]
theorem gP_st (p b : Bool) : gP true (sel p (.bool b)) = (p = true ∧ b = true) := by cases p <;> cases b <;> simp [gP, isT, sel]
theorem gP_sf (p b : Bool) : gP false (sel p (.bool b)) = (p = true ∧ b = false) := by cases p <;> cases b <;> simp [gP, isT, sel]
theorem gP_und (w : Bool) : gP w .und = False := by simp [gP, isT]
def gpure (v : AV) (w : Bool) (o : Option AV) (K : AV → Prop) : Prop := gstep v w (pstep o K) (K .und)
@[congr] theorem gpure_congr {v v' : AV} {w : Bool} {g : Prop} {o o' : Option AV} (h : v = v') (hg : gP w v' = g) (ho : g → o = o') (K : AV → Prop) : gpure v w o K = gpure v' w o' K := by
  subst h
  subst hg
  unfold gpure
  by_cases hv : isT w v = true
  · rw [ho hv]
  · cases v <;> try rfl
    rename_i b
    cases b <;> cases w <;> first | rfl | exact absurd rfl hv
theorem gpure_bt (b : Bool) (x : AV) (K : AV → Prop) : gpure (.bool b) true (some x) K = K (sel b x) := by cases b <;> rfl
theorem gpure_bf (b : Bool) (x : AV) (K : AV → Prop) : gpure (.bool b) false (some x) K = K (sel (!b) x) := by cases b <;> rfl
theorem gpure_st (p b : Bool) (x : AV) (K : AV → Prop) : gpure (sel p (.bool b)) true (some x) K = K (sel (p && b) x) := by cases p <;> cases b <;> rfl
theorem gpure_sf (p b : Bool) (x : AV) (K : AV → Prop) : gpure (sel p (.bool b)) false (some x) K = K (sel (p && !b) x) := by cases p <;> cases b <;> rfl
theorem gpure_und (w : Bool) (o : Option AV) (K : AV → Prop) : gpure .und w o K = K .und := nrfl rfl
theorem gpure_tf (o : Option AV) (K : AV → Prop) : gpure (.bool true) false o K = K .und := nrfl rfl
theorem gpure_ft (o : Option AV) (K : AV → Prop) : gpure (.bool false) true o K = K .und := nrfl rfl
theorem gpure_sft (p : Bool) (o : Option AV) (K : AV → Prop) : gpure (sel p (.bool false)) true o K = K .und := by cases p <;> rfl
theorem gpure_stf (p : Bool) (o : Option AV) (K : AV → Prop) : gpure (sel p (.bool true)) false o K = K .und := by cases p <;> rfl
def gcall (s : St) (v : AV) (w : Bool) (o : Option (AV × St)) (K : AV → St → Prop) : Prop := gstep v w (estep o K) (K .und s)
@[congr] theorem gcall_congr {s : St} {v v' : AV} {w : Bool} {g : Prop} {o o' : Option (AV × St)} (h : v = v') (hg : gP w v' = g) (ho : g → o = o') (K : AV → St → Prop) : gcall s v w o K = gcall s v' w o' K := by
  subst h
  subst hg
  unfold gcall
  by_cases hv : isT w v = true
  · rw [ho hv]
  · cases v <;> try rfl
    rename_i b
    cases b <;> cases w <;> first | rfl | exact absurd rfl hv
theorem gcall_bt (s : St) (b : Bool) (x : AV) (K : AV → St → Prop) : gcall s (.bool b) true (some (x, s)) K = K (sel b x) s := by cases b <;> rfl
theorem gcall_bf (s : St) (b : Bool) (x : AV) (K : AV → St → Prop) : gcall s (.bool b) false (some (x, s)) K = K (sel (!b) x) s := by cases b <;> rfl
theorem gcall_st (s : St) (p b : Bool) (x : AV) (K : AV → St → Prop) : gcall s (sel p (.bool b)) true (some (x, s)) K = K (sel (p && b) x) s := by cases p <;> cases b <;> rfl
theorem gcall_sf (s : St) (p b : Bool) (x : AV) (K : AV → St → Prop) : gcall s (sel p (.bool b)) false (some (x, s)) K = K (sel (p && !b) x) s := by cases p <;> cases b <;> rfl
theorem gcall_und (s : St) (w : Bool) (o : Option (AV × St)) (K : AV → St → Prop) : gcall s .und w o K = K .und s := nrfl rfl
theorem gcall_tf (s : St) (o : Option (AV × St)) (K : AV → St → Prop) : gcall s (.bool true) false o K = K .und s := nrfl rfl
theorem gcall_ft (s : St) (o : Option (AV × St)) (K : AV → St → Prop) : gcall s (.bool false) true o K = K .und s := nrfl rfl
theorem gcall_sft (s : St) (p : Bool) (o : Option (AV × St)) (K : AV → St → Prop) : gcall s (sel p (.bool false)) true o K = K .und s := by cases p <;> rfl
theorem gcall_stf (s : St) (p : Bool) (o : Option (AV × St)) (K : AV → St → Prop) : gcall s (sel p (.bool true)) false o K = K .und s := by cases p <;> rfl
theorem gcall_tt (s : St) (o : Option (AV × St)) (K : AV → St → Prop) : gcall s (.bool true) true o K = estep o K := nrfl rfl
theorem gcall_ff (s : St) (o : Option (AV × St)) (K : AV → St → Prop) : gcall s (.bool false) false o K = estep o K := nrfl rfl

theorem sg_mv (x : AO) (t : Nat) (w : Bool) : awops call base (⟨d, .mv x, some (t, w), r, fr⟩ :: rest) Q env s = gpure (E env t) w (some (aev env x)) fun v => awops call base rest Q (pE env d v) s := by
  rw [st_guard, st_mv]
  rfl
theorem sg_pick (c a b : AO) (t : Nat) (w : Bool) : awops call base (⟨d, .pick c a b, some (t, w), r, fr⟩ :: rest) Q env s = gpure (E env t) w (apure env (.pick c a b)) fun v => awops call base rest Q (pE env d v) s := by
  rw [st_guard, st_pick]
  rfl
theorem sg_build (z : List AV) (ps : List (Nat × Nat × AO)) (t : Nat) (w : Bool) : awops call base (⟨d, .build z ps, some (t, w), r, fr⟩ :: rest) Q env s = gpure (E env t) w (apure env (.build z ps)) fun v => awops call base rest Q (pE env d v) s := by
  rw [st_guard, st_build]
  rfl
theorem sg_bin (o : BinOp) (k : EK) (x y : AO) (t : Nat) (w : Bool) : awops call base (⟨d, .bin o k x y, some (t, w), r, fr⟩ :: rest) Q env s = gpure (E env t) w (binOp o k (aev env x) (aev env y)) fun v => awops call base rest Q (pE env d v) s := by
  rw [st_guard, st_bin]
  rfl
theorem sg_un (o : UnOp) (x : AO) (t : Nat) (w : Bool) : awops call base (⟨d, .un o x, some (t, w), r, fr⟩ :: rest) Q env s = gpure (E env t) w (apure env (.un o x)) fun v => awops call base rest Q (pE env d v) s := by
  rw [st_guard, st_un]
  rfl
theorem sg_conv (k : IntKind) (x : AO) (t : Nat) (w : Bool) : awops call base (⟨d, .conv k x, some (t, w), r, fr⟩ :: rest) Q env s = gpure (E env t) w (apure env (.conv k x)) fun v => awops call base rest Q (pE env d v) s := by
  rw [st_guard, st_conv]
  rfl
theorem sg_mkfn (f : Nat) (x : List AO) (t : Nat) (w : Bool) : awops call base (⟨d, .mkfn f x, some (t, w), r, fr⟩ :: rest) Q env s = gpure (E env t) w (apure env (.mkfn f x)) fun v => awops call base rest Q (pE env d v) s := by
  rw [st_guard, st_mkfn]
  rfl
theorem sg_slc (n : Nat) (x : AO) (a b c : Option AO) (t : Nat) (w : Bool) : awops call base (⟨d, .slc n x a b c, some (t, w), r, fr⟩ :: rest) Q env s = gpure (E env t) w (apure env (.slc n x a b c)) fun v => awops call base rest Q (pE env d v) s := by
  rw [st_guard, st_slc]
  rfl
theorem sg_slcs (x : AO) (a b : Option AO) (t : Nat) (w : Bool) : awops call base (⟨d, .slcs x a b, some (t, w), r, fr⟩ :: rest) Q env s = gpure (E env t) w (apure env (.slcs x a b)) fun v => awops call base rest Q (pE env d v) s := by
  rw [st_guard, st_slcs]
  rfl
theorem sg_fad (o : Nat) (x : AO) (t : Nat) (w : Bool) : awops call base (⟨d, .fad o x, some (t, w), r, fr⟩ :: rest) Q env s = gpure (E env t) w (apure env (.fad o x)) fun v => awops call base rest Q (pE env d v) s := by
  rw [st_guard, st_fad]
  rfl
theorem sg_fld (b : Bool) (o n : Nat) (x : AO) (t : Nat) (w : Bool) : awops call base (⟨d, .fld b o n x, some (t, w), r, fr⟩ :: rest) Q env s = gpure (E env t) w (apure env (.fld b o n x)) fun v => awops call base rest Q (pE env d v) s := by
  rw [st_guard, st_fld]
  rfl
theorem sg_iad (n : Nat) (x i : AO) (t : Nat) (w : Bool) : awops call base (⟨d, .iad n x i, some (t, w), r, fr⟩ :: rest) Q env s = gpure (E env t) w (apure env (.iad n x i)) fun v => awops call base rest Q (pE env d v) s := by
  rw [st_guard, st_iad]
  rfl
theorem sg_idxs (x i : AO) (t : Nat) (w : Bool) : awops call base (⟨d, .idxs x i, some (t, w), r, fr⟩ :: rest) Q env s = gpure (E env t) w (apure env (.idxs x i)) fun v => awops call base rest Q (pE env d v) s := by
  rw [st_guard, st_idxs]
  rfl
theorem sg_ext (x : AO) (i : Nat) (t : Nat) (w : Bool) : awops call base (⟨d, .ext x i, some (t, w), r, fr⟩ :: rest) Q env s = gpure (E env t) w (apure env (.ext x i)) fun v => awops call base rest Q (pE env d v) s := by
  rw [st_guard, st_ext]
  rfl
theorem sg_len (x : AO) (t : Nat) (w : Bool) : awops call base (⟨d, .len .sl x, some (t, w), r, fr⟩ :: rest) Q env s = gpure (E env t) w (apure env (.len .sl x)) fun v => awops call base rest Q (pE env d v) s := by
  rw [st_guard, st_len]
  rfl
theorem sg_lens (x : AO) (t : Nat) (w : Bool) : awops call base (⟨d, .len .st x, some (t, w), r, fr⟩ :: rest) Q env s = gpure (E env t) w (apure env (.len .st x)) fun v => awops call base rest Q (pE env d v) s := by
  rw [st_guard, st_lens]
  rfl
theorem sg_cap (x : AO) (t : Nat) (w : Bool) : awops call base (⟨d, .cap x, some (t, w), r, fr⟩ :: rest) Q env s = gpure (E env t) w (apure env (.cap x)) fun v => awops call base rest Q (pE env d v) s := by
  rw [st_guard, st_cap]
  rfl
theorem sg_mm (b : Bool) (x : List AO) (t : Nat) (w : Bool) : awops call base (⟨d, .mm b x, some (t, w), r, fr⟩ :: rest) Q env s = gpure (E env t) w (apure env (.mm b x)) fun v => awops call base rest Q (pE env d v) s := by
  rw [st_guard, st_mm]
  rfl
theorem sg_nchk (x : AO) (t : Nat) (w : Bool) : awops call base (⟨d, .nchk x, some (t, w), r, fr⟩ :: rest) Q env s = gpure (E env t) w (apure env (.nchk x)) fun v => awops call base rest Q (pE env d v) s := by
  rw [st_guard, st_nchk]
  rfl
theorem sg_load1 (x : AO) (t : Nat) (w : Bool) : awops call base (⟨d, .load1 x, some (t, w), r, false⟩ :: rest) Q env s = gpure (E env t) w (aread call env s (.load1 x)) fun v => awops call base rest Q (pE env d v) s := by
  rw [st_guard, st_load1]
  rfl
theorem sg_loadn (n : Nat) (x : AO) (t : Nat) (w : Bool) : awops call base (⟨d, .loadn n x, some (t, w), r, false⟩ :: rest) Q env s = gpure (E env t) w (aread call env s (.loadn n x)) fun v => awops call base rest Q (pE env d v) s := by
  rw [st_guard, st_loadn]
  rfl
theorem sg_b2s (x : AO) (t : Nat) (w : Bool) : awops call base (⟨d, .b2s x, some (t, w), r, false⟩ :: rest) Q env s = gpure (E env t) w (aread call env s (.b2s x)) fun v => awops call base rest Q (pE env d v) s := by
  rw [st_guard, st_b2s]
  rfl
theorem sg_look (z : AV) (k : EK) (ok : Bool) (m i : AO) (t : Nat) (w : Bool) : awops call base (⟨d, .look z k ok m i, some (t, w), r, false⟩ :: rest) Q env s = gpure (E env t) w (aread call env s (.look z k ok m i)) fun v => awops call base rest Q (pE env d v) s := by
  rw [st_guard, st_look]
  rfl
theorem sg_lenm (x : AO) (t : Nat) (w : Bool) : awops call base (⟨d, .len .mp x, some (t, w), r, false⟩ :: rest) Q env s = gpure (E env t) w (aread call env s (.len .mp x)) fun v => awops call base rest Q (pE env d v) s := by
  rw [st_guard, st_lenm]
  rfl
theorem sg_ent (x : AO) (t : Nat) (w : Bool) : awops call base (⟨d, .ent x, some (t, w), r, false⟩ :: rest) Q env s = gpure (E env t) w (aread call env s (.ent x)) fun v => awops call base rest Q (pE env d v) s := by
  rw [st_guard, st_ent]
  rfl
theorem sg_calld (f : Nat) (l : List AO) (t : Nat) (w : Bool) : awops call base (⟨d, .call f true l, some (t, w), r, false⟩ :: rest) Q env s = gpure (E env t) w (aread call env s (.call f true l)) fun v => awops call base rest Q (pE env d v) s := by
  rw [st_guard, st_calld]
  rfl
theorem sg_callvd (x : AO) (l : List AO) (t : Nat) (w : Bool) : awops call base (⟨d, .callv x true l, some (t, w), r, false⟩ :: rest) Q env s = gpure (E env t) w (aread call env s (.callv x true l)) fun v => awops call base rest Q (pE env d v) s := by
  rw [st_guard, st_callvd]
  rfl
theorem sg_call (f : Nat) (l : List AO) (t : Nat) (w : Bool) : awops call base (⟨d, .call f false l, some (t, w), r, false⟩ :: rest) Q env s = gcall s (E env t) w (acall (call f) false (l.map (aev env)) s) fun v t => awops call base rest Q (pE env d v) t := by
  rw [st_guard, st_call]
  rfl
theorem sg_callv (x : AO) (l : List AO) (t : Nat) (w : Bool) : awops call base (⟨d, .callv x false l, some (t, w), r, false⟩ :: rest) Q env s = gcall s (E env t) w (aeff call env s (.callv x false l)) fun v t => awops call base rest Q (pE env d v) t := by
  rw [st_guard, st_callv]
  rfl

/-! ### Code -/
def cstep (v : AV) (A B : Prop) : Prop := match v with
  | .bool true => A
  | .bool false => B
  | _ => False
@[congr] theorem cstep_congr {v v' : AV} (h : v = v') (A B : Prop) : cstep v A B = cstep v' A B := by rw [h]
theorem cstep_true (A B : Prop) : cstep (.bool true) A B = A := nrfl rfl
theorem cstep_false (A B : Prop) : cstep (.bool false) A B = B := nrfl rfl
theorem cstep_of {v : AV} {b : Bool} (h : v = .bool b) {A B : Prop} (h1 : b = true → A) (h2 : b = false → B) : cstep v A B := by
  subst h
  cases b
  · exact h2 rfl
  · exact h1 rfl
def noNxt (os : List AOper) : Bool := os.all fun o => match o.op with
  | .nxt _ => false
  | _ => true
theorem awops_some : ∀ (os : List AOper) (env : Env) (s : St), noNxt os = true → awops call base os Q env s → ∃ e t, aops call base os env s = some (e, t) ∧ Q e t
  | [], env, s, _, k => ⟨env, s, rfl, k⟩
  | o :: rest, env, s, hn, k => by
    simp only [noNxt, List.all_cons, Bool.and_eq_true] at hn
    simp only [awops] at k
    simp only [aops]
    split at k
    · rename_i hw
      split at k
      · rename_i x hx
        rw [hx] at hn
        exact absurd hn.1 (by simp)
      · split at k
        · rename_i v t hv
          exact awops_some rest _ _ hn.2 k
        · exact k.elim
    · rename_i hw
      exact awops_some rest _ _ hn.2 k
    · exact k.elim
theorem some_awops : ∀ (os : List AOper) (env : Env) (s : St), noNxt os = true → (∃ e t, aops call base os env s = some (e, t) ∧ Q e t) → awops call base os Q env s
  | [], env, s, _, k => by
    obtain ⟨e, t, h1, h2⟩ := k
    simp only [aops] at h1
    injection h1 with h1
    obtain ⟨rfl, rfl⟩ := Prod.mk.inj h1
    exact h2
  | o :: rest, env, s, hn, k => by
    simp only [noNxt, List.all_cons, Bool.and_eq_true] at hn
    obtain ⟨e, t, h1, h2⟩ := k
    simp only [awops]
    simp only [aops] at h1
    split at h1
    · rename_i hw
      split
      · rename_i x hx
        rw [hx] at hn
        exact absurd hn.1 (by simp)
      · split at h1
        · rename_i v t hv
          exact some_awops rest _ _ hn.2 ⟨e, _, h1, h2⟩
        · cases h1
    · rename_i hw
      exact some_awops rest _ _ hn.2 ⟨e, _, h1, h2⟩
    · cases h1
variable {Qx : AEx → Env → St → Prop}
theorem wp_regd' {k : Nat} {os : List AOper} (h : noNxt os = true) : awp call (.regd k os) Qx env s = awops call s.next os (Qx .nor) env (s.reserve k) :=
  propext ⟨fun q => some_awops os _ _ h q, fun q => awops_some os _ _ h q⟩
def rstep (b : Bool) (A B : Prop) : Prop := if b = true then A else B
@[congr] theorem rstep_congr {b b' : Bool} (h : b = b') (A B : Prop) : rstep b A B = rstep b' A B := by rw [h]
theorem rstep_true (A B : Prop) : rstep true A B = A := by simp [rstep]
def isNx : AOp → Bool
  | .nxt _ => false
  | _ => true
theorem noNxt_nil : noNxt [] = true := nrfl rfl
theorem noNxt_cons (o : AOper) (l : List AOper) : noNxt (o :: l) = (isNx o.op && noNxt l) := nrfl (by
  simp only [noNxt, List.all_cons, isNx])
theorem wp_regd (k : Nat) (os : List AOper) : awp call (.regd k os) Qx env s = rstep (noNxt os) (awops call s.next os (Qx .nor) env (s.reserve k)) (∃ env' s', aops call s.next os env (s.reserve k) = some (env', s') ∧ Qx .nor env' s') := by
  cases h : noNxt os
  · simp only [rstep, Bool.false_eq_true, if_false]
    rfl
  · rw [rstep_true]
    exact wp_regd' h
theorem wp_reg (os : List AOper) : awp call (.reg os) Qx env s = awops call 0 os (Qx .nor) env s := nrfl rfl
theorem wp_skip : awp call .skip Qx env s = Qx .nor env s := nrfl rfl
theorem wp_exit (i : Nat) : awp call (.exit i) Qx env s = Qx (.exit i) env s := nrfl rfl
theorem wp_ret : awp call .ret Qx env s = Qx .ret env s := nrfl rfl
theorem wp_seq (a b : AC) : awp call (.seq a b) Qx env s = awp call a (fun x e t => match x with
    | .nor => awp call b Qx e t
    | x => Qx x e t) env s := nrfl rfl
theorem wp_block (i : Nat) (c : AC) : awp call (.block i c) Qx env s = awp call c (fun x e t => match x with
    | .exit j => if j = i then Qx .nor e t else Qx (.exit j) e t
    | x => Qx x e t) env s := nrfl rfl
theorem wp_cond (c : AO) (a b : AC) : awp call (.cond c a b) Qx env s = cstep (aev env c) (awp call a Qx env s) (awp call b Qx env s) := by
  simp only [awp, cstep]
  generalize aev env c = v
  cases v <;> rfl
theorem res1 (env : Env) (s : St) (a : Nat) : aresults env s [.t a] = some (E env a) := nrfl rfl
theorem res2 (env : Env) (s : St) (a b : Nat) : aresults env s [.t a, .t b] = some (.tup [E env a, E env b]) := nrfl rfl
theorem res0 (env : Env) (s : St) : aresults env s [] = some (.tup []) := nrfl rfl
theorem resc (env : Env) (s : St) (a n : Nat) : aresult env s (.celln a n) = match E env a with
  | .ptr id o => match s.get id with
    | some (.row cs _) => if o + n ≤ cs.length then some (.agg ((cs.drop o).take n)) else none
    | _ => none
  | _ => none := nrfl rfl
theorem rest_t (env : Env) (s : St) (b : Nat) : aresult env s (.t b) = some (E env b) := nrfl rfl
attribute [irreducible] pE E elen

end Go.AM
