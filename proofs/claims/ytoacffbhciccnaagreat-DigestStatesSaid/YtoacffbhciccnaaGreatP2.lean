/-
  Rules for stepping through the abstract machine's code by rewriting. Own work of this project.
-/
import Derived.Test.YtoacffbhciccnaaGreatP1
import Derived.Test.YtoacffbhciccnaaGreatProg
import Derived.KernelRfl
set_option linter.unusedVariables false
set_option linter.unusedSimpArgs false
section
namespace Go.AM
open Go

variable {call : Nat → List AV → St → Option (AV × St)}

/-! ### What holds behind the code may be weakened; loops with a bound -/
theorem awops_mono {base : Nat} {Q Q' : Env → St → Prop} (h : ∀ e t, Q e t → Q' e t) : ∀ (os : List AOper) (env : Env) (s : St), awops call base os Q env s → awops call base os Q' env s
  | [], env, s, k => h _ _ k
  | o :: rest, env, s, k => by
    simp only [awops] at k ⊢
    split at k
    · split at k
      · rename_i x hx
        unfold anext at k ⊢
        split at k
        · split at k
          · exact awops_mono h rest _ _ k
          · split at k
            · exact ⟨k.1, k.2.1, fun q => awops_mono h rest _ _ (k.2.2.1 q), fun e h1 h2 => awops_mono h rest _ _ (k.2.2.2 e h1 h2)⟩
            · exact k
          · exact k
        · exact k
      · split at k
        · exact awops_mono h rest _ _ k
        · exact k
    · exact awops_mono h rest _ _ k
    · exact k
theorem arounds_mono {b : (AEx → Env → St → Prop) → Env → St → Prop} (hb : ∀ {Q Q' : AEx → Env → St → Prop}, (∀ x e t, Q x e t → Q' x e t) → ∀ {e t}, b Q e t → b Q' e t) {Q Q' : AEx → Env → St → Prop} (h : ∀ x e t, Q x e t → Q' x e t) :
    ∀ (n m : Nat) {e : Env} {t : St}, n ≤ m → arounds b Q n e t → arounds b Q' m e t
  | 0, _, _, _, _, k => k.elim
  | n + 1, 0, _, _, hn, _ => by omega
  | n + 1, m + 1, e, t, hn, k => by
    simp only [arounds] at k ⊢
    refine hb (fun x e t q => ?_) k
    cases x with
    | nor => exact arounds_mono hb h n m (by omega) q
    | exit i => exact h _ _ _ q
    | ret => exact h _ _ _ q
theorem awp_mono : ∀ (c : AC) {Q Q' : AEx → Env → St → Prop} (h : ∀ x e t, Q x e t → Q' x e t) {env : Env} {s : St}, awp call c Q env s → awp call c Q' env s
  | .skip, _, _, h, _, _, k => h _ _ _ k
  | .reg os, _, _, h, _, _, k => awops_mono (h .nor) os _ _ k
  | .regd n os, _, _, h, _, _, k => by
    obtain ⟨e, t, h1, h2⟩ := k
    exact ⟨e, t, h1, h _ _ _ h2⟩
  | .seq a b, Q, Q', h, _, _, k => by
    refine awp_mono a (fun x e t q => ?_) k
    cases x with
    | nor => exact awp_mono b h q
    | exit i => exact h _ _ _ q
    | ret => exact h _ _ _ q
  | .cond c a b, Q, Q', h, env, s, k => by
    simp only [awp] at k ⊢
    split at k
    · exact awp_mono a h k
    · exact awp_mono b h k
    · exact k
  | .block id c, Q, Q', h, _, _, k => by
    refine awp_mono c (fun x e t q => ?_) k
    cases x with
    | nor => exact h _ _ _ q
    | exit i =>
      simp only at q ⊢
      split
      · rename_i hi
        rw [if_pos hi] at q
        exact h _ _ _ q
      · rename_i hi
        rw [if_neg hi] at q
        exact h _ _ _ q
    | ret => exact h _ _ _ q
  | .loop c, Q, Q', h, env, s, k => by
    obtain ⟨n, k⟩ := k
    exact ⟨n, arounds_mono (b := awp call c) (fun h => fun q => awp_mono c h q) h n n (Nat.le_refl _) k⟩
  | .exit _, _, _, h, _, _, k => h _ _ _ k
  | .ret, _, _, h, _, _, k => h _ _ _ k
  | .bad, _, _, _, _, _, k => k

theorem awp_loop {c : AC} {Q : AEx → Env → St → Prop} (I : Nat → Env → St → Prop)
    (step : ∀ n e t, I n e t → awp call c (fun x e' t' => match x with
      | .nor => ∃ m, m < n ∧ I m e' t'
      | x => Q x e' t') e t) {n : Nat} {e : Env} {t : St} (h : I n e t) : awp call (.loop c) Q e t := by
  have key : ∀ n e t, I n e t → arounds (awp call c) Q (n + 1) e t := by
    intro n
    induction n using Nat.strongRecOn with
    | ind n ih =>
      intro e t h
      simp only [arounds]
      refine awp_mono c (fun x e' t' q => ?_) (step n e t h)
      cases x with
      | nor =>
        obtain ⟨m, h1, h2⟩ := q
        exact arounds_mono (b := awp call c) (fun h => fun q => awp_mono c h q) (fun _ _ _ q => q) (m + 1) n (by omega) (ih m h1 e' t' h2)
      | exit i => exact q
      | ret => exact q
  exact ⟨n + 1, key n e t h⟩
universe u
theorem nrfl {α : Sort u} {a b : α} (h : a = b) : a = b := by
  cases h
  rfl
/-! ### Temporaries -/
def E (env : Env) (i : Nat) : AV := env.getD i .und
theorem aev_t (env : Env) (n : Nat) : aev env (.t n) = E env n := nrfl rfl
theorem aev_c (env : Env) (v : AV) : aev env (.c v) = v := nrfl rfl
theorem aev_f (env : Env) (n : Nat) : aev env (.f n) = .fn n [] := nrfl rfl
theorem E_same {env : Env} {i : Nat} (h : i < env.length) (v : AV) : E (env.set i v) i = v := by
  simp [E, h]
theorem E_ne {i j : Nat} (h : i ≠ j) (env : Env) (v : AV) : E (env.set i v) j = E env j := by
  simp [E, List.getElem?_set_ne h]
def pE (env : Env) (d : Option Nat) (v : AV) : Env := putE env d v
theorem pE_none (env : Env) (v : AV) : pE env none v = env := nrfl rfl
def elen (env : Env) : Nat := env.length
theorem E_pne {i j : Nat} (h : i ≠ j) (env : Env) (v : AV) : E (pE env (some i) v) j = E env j := E_ne h env v
theorem E_psame {env : Env} {i : Nat} (h : i < elen env) (v : AV) : E (pE env (some i) v) i = v := E_same h v
theorem elen_put (env : Env) (d : Option Nat) (v : AV) : elen (pE env d v) = elen env := by cases d <;> simp [elen, pE, putE]
theorem start_env {args : List AV} {n : Nat} (h : args.length ≤ n) {p : Env → Prop} (k : ∀ env : Env, elen env = n → (∀ i v, args[i]? = some v → E env i = v) → p env) : p (args ++ List.replicate (n - args.length) .und) := by
  refine k _ (by simp [elen]; omega) fun i v hi => ?_
  have := (List.getElem?_eq_some_iff.1 hi).1
  simp [E, List.getElem?_append_left this, hi]

/-! ### Steps -/
def pstep (o : Option AV) (K : AV → Prop) : Prop := match o with
  | some v => K v
  | none => False
def estep (o : Option (AV × St)) (K : AV → St → Prop) : Prop := match o with
  | some (v, s) => K v s
  | none => False
theorem pstep_some (v : AV) (K : AV → Prop) : pstep (some v) K = K v := nrfl rfl
theorem estep_some (v : AV) (s : St) (K : AV → St → Prop) : estep (some (v, s)) K = K v s := nrfl rfl
def isT (w : Bool) : AV → Bool
  | .bool b => b == w
  | _ => false
def gstep (v : AV) (w : Bool) (A B : Prop) : Prop := match v with
  | .bool b => if b = w then A else B
  | .any => False
  | _ => B
theorem gstep_tt (A B : Prop) : gstep (.bool true) true A B = A := nrfl rfl
theorem gstep_ff (A B : Prop) : gstep (.bool false) false A B = A := nrfl rfl
theorem gstep_tf (A B : Prop) : gstep (.bool true) false A B = B := nrfl rfl
theorem gstep_ft (A B : Prop) : gstep (.bool false) true A B = B := nrfl rfl
theorem gstep_und (w : Bool) (A B : Prop) : gstep .und w A B = B := nrfl rfl
@[congr] theorem gstep_congr {v v' : AV} (h : v = v') (w : Bool) (A B : Prop) : gstep v w A B = gstep v' w A B := by rw [h]
@[congr] theorem pstep_congr {o o' : Option AV} (h : o = o') (K : AV → Prop) : pstep o K = pstep o' K := by rw [h]
@[congr] theorem estep_congr {o o' : Option (AV × St)} (h : o = o') (K : AV → St → Prop) : estep o K = estep o' K := by rw [h]

variable {base : Nat} {d : Option Nat} {r : Option Nat} {fr : Bool} {rest : List AOper} {Q : Env → St → Prop} {env : Env} {s : St}

theorem st_nil : awops call base [] Q env s = Q env s := nrfl rfl
theorem st_guard (op : AOp) (t : Nat) (w : Bool) : awops call base (⟨d, op, some (t, w), r, fr⟩ :: rest) Q env s =
    gstep (E env t) w (awops call base (⟨d, op, none, r, fr⟩ :: rest) Q env s) (awops call base rest Q (pE env d .und) s) := by
  simp only [awops, wanted]
  unfold E
  generalize env.getD t .und = v
  cases v <;> try rfl
  rename_i b
  cases b <;> cases w <;> rfl
theorem awops_cons {op : AOp} (h0 : ∀ x, op ≠ .nxt x) : awops call base (⟨d, op, none, r, fr⟩ :: rest) Q env s = estep (aop call base ⟨d, op, none, r, fr⟩ env s) fun v t => awops call base rest Q (pE env d v) t := by
  cases op
  case nxt x => exact absurd rfl (h0 x)
  all_goals rfl
theorem st_pure {op : AOp} (h0 : ∀ x, op ≠ .nxt x) (h1 : aalloc env op = none) (h2 : aread call env s op = none) (h3 : ∀ s, aeff call env s op = none) :
    awops call base (⟨d, op, none, r, fr⟩ :: rest) Q env s = pstep (apure env op) fun v => awops call base rest Q (pE env d v) s := by
  rw [awops_cons h0]
  simp only [aop, h1, h2, h3]
  cases apure env op with
  | some v => rfl
  | none => cases fr <;> rfl
theorem st_read {op : AOp} (h0 : ∀ x, op ≠ .nxt x) (h1 : aalloc env op = none) (h2 : apure env op = none) (h3 : ∀ s, aeff call env s op = none) :
    awops call base (⟨d, op, none, r, false⟩ :: rest) Q env s = pstep (aread call env s op) fun v => awops call base rest Q (pE env d v) s := by
  rw [awops_cons h0]
  simp only [aop, h1, h2, h3, Bool.false_and, Bool.false_eq_true, if_false]
  cases aread call env s op with
  | some v => rfl
  | none => rfl
theorem st_eff {op : AOp} (h0 : ∀ x, op ≠ .nxt x) (h1 : aalloc env op = none) (h2 : apure env op = none) (h3 : aread call env s op = none) :
    awops call base (⟨d, op, none, r, false⟩ :: rest) Q env s = estep (aeff call env s op) fun v t => awops call base rest Q (pE env d v) t := by
  rw [awops_cons h0]
  simp only [aop, h1, h2, h3]
  rfl
theorem st_efff {op : AOp} (h0 : ∀ x, op ≠ .nxt x) (h1 : aalloc env op = none) (h2 : apure env op = none) (h3 : aread call env s op = none) :
    awops call base (⟨d, op, none, r, true⟩ :: rest) Q env s = estep (aeff call env { s with low := s.next } op) fun v t => if op.floor base s.next ≤ t.low then awops call base rest Q (pE env d v) { t with low := min s.low t.low } else False := by
  rw [awops_cons h0]
  simp only [aop, h1, h2, h3, if_true]
  cases aeff call env { s with low := s.next } op with
  | some v =>
    simp only [estep]
    split <;> rename_i h
    · split at h
      · rename_i h'
        injection h with h
        obtain ⟨rfl, rfl⟩ := Prod.mk.inj h
        rw [if_pos h']
      · cases h
    · split at h
      · cases h
      · rename_i h'
        rw [if_neg h']
  | none => rfl
def astep (o : Option ((Nat → AV) × AB)) (K : (Nat → AV) → AB → Prop) : Prop := match o with
  | some (v, b) => K v b
  | none => False
@[congr] theorem astep_congr {o o' : Option ((Nat → AV) × AB)} (h : o = o') (K : (Nat → AV) → AB → Prop) : astep o K = astep o' K := by rw [h]
theorem astep_some (v : Nat → AV) (b : AB) (K : (Nat → AV) → AB → Prop) : astep (some (v, b)) K = K v b := nrfl rfl
theorem st_alloc {op : AOp} (h0 : ∀ x, op ≠ .nxt x) (h1 : apure env op = none) (h2 : aread call env s op = none) (h3 : ∀ s, aeff call env s op = none) :
    awops call base (⟨d, op, none, none, fr⟩ :: rest) Q env s = astep (aalloc env op) fun v b => awops call base rest Q (pE env d (v s.next)) (s.push b) := by
  rw [awops_cons h0]
  simp only [aop, h1, h2, h3]
  cases aalloc env op with
  | some v => rfl
  | none => cases fr <;> rfl
def bstep (o : Option AB) (A : Prop) : Prop := match o with
  | some .unborn => A
  | _ => False
theorem bstep_some (A : Prop) : bstep (some .unborn) A = A := nrfl rfl
@[congr] theorem bstep_congr {o o' : Option AB} (h : o = o') (A : Prop) : bstep o A = bstep o' A := by rw [h]
theorem st_allocr {op : AOp} {j : Nat} (h0 : ∀ x, op ≠ .nxt x) (h1 : apure env op = none) (h2 : aread call env s op = none) (h3 : ∀ s, aeff call env s op = none) :
    awops call base (⟨d, op, none, some j, fr⟩ :: rest) Q env s = astep (aalloc env op) fun v b => bstep (s.get (base + j)) (awops call base rest Q (pE env d (v (base + j))) (s.born (base + j) b)) := by
  rw [awops_cons h0]
  simp only [aop, h1, h2, h3]
  cases aalloc env op with
  | some v =>
    simp only [astep, bstep]
    cases s.get (base + j) with
    | none => rfl
    | some b => cases b <;> rfl
  | none => cases fr <;> rfl

theorem st_mv (x : AO) : awops call base (⟨d, .mv x, none, r, fr⟩ :: rest) Q env s = pstep (some (aev env x)) fun v => awops call base rest Q (pE env d v) s := nrfl rfl
theorem st_pick (c a b : AO) : awops call base (⟨d, .pick c a b, none, r, fr⟩ :: rest) Q env s = pstep (apure env (.pick c a b)) fun v => awops call base rest Q (pE env d v) s := st_pure (by simp) rfl rfl fun _ => rfl
theorem st_build (z : List AV) (ps : List (Nat × Nat × AO)) : awops call base (⟨d, .build z ps, none, r, fr⟩ :: rest) Q env s = pstep (apure env (.build z ps)) fun v => awops call base rest Q (pE env d v) s := st_pure (by simp) rfl rfl fun _ => rfl
theorem st_bin (o : BinOp) (k : EK) (x y : AO) : awops call base (⟨d, .bin o k x y, none, r, fr⟩ :: rest) Q env s = pstep (binOp o k (aev env x) (aev env y)) fun v => awops call base rest Q (pE env d v) s := st_pure (op := .bin o k x y) (by simp) rfl rfl fun _ => rfl
theorem st_un (o : UnOp) (x : AO) : awops call base (⟨d, .un o x, none, r, fr⟩ :: rest) Q env s = pstep (apure env (.un o x)) fun v => awops call base rest Q (pE env d v) s := st_pure (by simp) rfl rfl fun _ => rfl
theorem st_conv (k : IntKind) (x : AO) : awops call base (⟨d, .conv k x, none, r, fr⟩ :: rest) Q env s = pstep (apure env (.conv k x)) fun v => awops call base rest Q (pE env d v) s := st_pure (by simp) rfl rfl fun _ => rfl
theorem st_mkfn (f : Nat) (x : List AO) : awops call base (⟨d, .mkfn f x, none, r, fr⟩ :: rest) Q env s = pstep (apure env (.mkfn f x)) fun v => awops call base rest Q (pE env d v) s := st_pure (by simp) rfl rfl fun _ => rfl
theorem st_slc (n : Nat) (x : AO) (a b c : Option AO) : awops call base (⟨d, .slc n x a b c, none, r, fr⟩ :: rest) Q env s = pstep (apure env (.slc n x a b c)) fun v => awops call base rest Q (pE env d v) s := st_pure (by simp) rfl rfl fun _ => rfl
theorem st_slcs (x : AO) (a b : Option AO) : awops call base (⟨d, .slcs x a b, none, r, fr⟩ :: rest) Q env s = pstep (apure env (.slcs x a b)) fun v => awops call base rest Q (pE env d v) s := st_pure (by simp) rfl rfl fun _ => rfl
theorem st_fad (o : Nat) (x : AO) : awops call base (⟨d, .fad o x, none, r, fr⟩ :: rest) Q env s = pstep (apure env (.fad o x)) fun v => awops call base rest Q (pE env d v) s := st_pure (by simp) rfl rfl fun _ => rfl
theorem st_fld (b : Bool) (o n : Nat) (x : AO) : awops call base (⟨d, .fld b o n x, none, r, fr⟩ :: rest) Q env s = pstep (apure env (.fld b o n x)) fun v => awops call base rest Q (pE env d v) s := st_pure (by simp) rfl rfl fun _ => rfl
theorem st_iad (n : Nat) (x i : AO) : awops call base (⟨d, .iad n x i, none, r, fr⟩ :: rest) Q env s = pstep (apure env (.iad n x i)) fun v => awops call base rest Q (pE env d v) s := st_pure (by simp) rfl rfl fun _ => rfl
theorem st_idxs (x i : AO) : awops call base (⟨d, .idxs x i, none, r, fr⟩ :: rest) Q env s = pstep (apure env (.idxs x i)) fun v => awops call base rest Q (pE env d v) s := st_pure (by simp) rfl rfl fun _ => rfl
theorem st_ext (x : AO) (i : Nat) : awops call base (⟨d, .ext x i, none, r, fr⟩ :: rest) Q env s = pstep (apure env (.ext x i)) fun v => awops call base rest Q (pE env d v) s := st_pure (by simp) rfl rfl fun _ => rfl
theorem st_len (x : AO) : awops call base (⟨d, .len .sl x, none, r, fr⟩ :: rest) Q env s = pstep (apure env (.len .sl x)) fun v => awops call base rest Q (pE env d v) s := st_pure (by simp) rfl rfl fun _ => rfl
theorem st_lens (x : AO) : awops call base (⟨d, .len .st x, none, r, fr⟩ :: rest) Q env s = pstep (apure env (.len .st x)) fun v => awops call base rest Q (pE env d v) s := st_pure (by simp) rfl rfl fun _ => rfl
theorem st_cap (x : AO) : awops call base (⟨d, .cap x, none, r, fr⟩ :: rest) Q env s = pstep (apure env (.cap x)) fun v => awops call base rest Q (pE env d v) s := st_pure (by simp) rfl rfl fun _ => rfl
theorem st_mm (b : Bool) (x : List AO) : awops call base (⟨d, .mm b x, none, r, fr⟩ :: rest) Q env s = pstep (apure env (.mm b x)) fun v => awops call base rest Q (pE env d v) s := st_pure (by simp) rfl rfl fun _ => rfl
theorem st_nchk (x : AO) : awops call base (⟨d, .nchk x, none, r, fr⟩ :: rest) Q env s = pstep (apure env (.nchk x)) fun v => awops call base rest Q (pE env d v) s := st_pure (by simp) rfl rfl fun _ => rfl
theorem st_load1 (x : AO) : awops call base (⟨d, .load1 x, none, r, false⟩ :: rest) Q env s = pstep (aread call env s (.load1 x)) fun v => awops call base rest Q (pE env d v) s := st_read (by simp) rfl rfl fun _ => rfl
theorem st_loadn (n : Nat) (x : AO) : awops call base (⟨d, .loadn n x, none, r, false⟩ :: rest) Q env s = pstep (aread call env s (.loadn n x)) fun v => awops call base rest Q (pE env d v) s := st_read (by simp) rfl rfl fun _ => rfl
theorem st_b2s (x : AO) : awops call base (⟨d, .b2s x, none, r, false⟩ :: rest) Q env s = pstep (aread call env s (.b2s x)) fun v => awops call base rest Q (pE env d v) s := st_read (by simp) rfl rfl fun _ => rfl
theorem st_look (z : AV) (k : EK) (ok : Bool) (m i : AO) : awops call base (⟨d, .look z k ok m i, none, r, false⟩ :: rest) Q env s = pstep (aread call env s (.look z k ok m i)) fun v => awops call base rest Q (pE env d v) s := st_read (by simp) rfl rfl fun _ => rfl
theorem st_lenm (x : AO) : awops call base (⟨d, .len .mp x, none, r, false⟩ :: rest) Q env s = pstep (aread call env s (.len .mp x)) fun v => awops call base rest Q (pE env d v) s := st_read (by simp) rfl rfl fun _ => rfl
theorem st_ent (x : AO) : awops call base (⟨d, .ent x, none, r, false⟩ :: rest) Q env s = pstep (aread call env s (.ent x)) fun v => awops call base rest Q (pE env d v) s := st_read (by simp) rfl rfl fun _ => rfl
theorem st_calld (f : Nat) (l : List AO) : awops call base (⟨d, .call f true l, none, r, false⟩ :: rest) Q env s = pstep (aread call env s (.call f true l)) fun v => awops call base rest Q (pE env d v) s := st_read (by simp) rfl rfl fun _ => rfl
theorem st_callvd (x : AO) (l : List AO) : awops call base (⟨d, .callv x true l, none, r, false⟩ :: rest) Q env s = pstep (aread call env s (.callv x true l)) fun v => awops call base rest Q (pE env d v) s := st_read (by simp) rfl rfl fun _ => rfl
theorem st_call (f : Nat) (l : List AO) : awops call base (⟨d, .call f false l, none, r, false⟩ :: rest) Q env s = estep (acall (call f) false (l.map (aev env)) s) fun v t => awops call base rest Q (pE env d v) t := st_eff (op := .call f false l) (by simp) rfl rfl rfl
theorem st_callv (x : AO) (l : List AO) : awops call base (⟨d, .callv x false l, none, r, false⟩ :: rest) Q env s = estep (aeff call env s (.callv x false l)) fun v t => awops call base rest Q (pE env d v) t := st_eff (by simp) rfl rfl rfl
theorem st_store (n : Nat) (a x : AO) : awops call base (⟨d, .store n a x, none, r, false⟩ :: rest) Q env s = estep (aeff call env s (.store n a x)) fun v t => awops call base rest Q (pE env d v) t := st_eff (by simp) rfl rfl rfl
theorem st_storef (n : Nat) (a x : AO) : awops call base (⟨d, .store n a x, none, r, true⟩ :: rest) Q env s = estep (aeff call env { s with low := s.next } (.store n a x)) fun v t => if (AOp.store n a x).floor base s.next ≤ t.low then awops call base rest Q (pE env d v) { t with low := min s.low t.low } else False := st_efff (by simp) rfl rfl rfl
theorem st_mkmap (x : Option AO) : awops call base (⟨d, .mkmap x, none, r, false⟩ :: rest) Q env s = estep (aeff call env s (.mkmap x)) fun v t => awops call base rest Q (pE env d v) t := st_eff (by simp) rfl rfl rfl
theorem st_mset (k : EK) (m i x : AO) : awops call base (⟨d, .mset k m i x, none, r, false⟩ :: rest) Q env s = estep (aeff call env s (.mset k m i x)) fun v t => awops call base rest Q (pE env d v) t := st_eff (by simp) rfl rfl rfl
theorem st_mdel (k : EK) (m i : AO) : awops call base (⟨d, .mdel k m i, none, r, false⟩ :: rest) Q env s = estep (aeff call env s (.mdel k m i)) fun v t => awops call base rest Q (pE env d v) t := st_eff (by simp) rfl rfl rfl
theorem st_rng (x : AO) : awops call base (⟨d, .rng x, none, r, false⟩ :: rest) Q env s = estep (aeff call env s (.rng x)) fun v t => awops call base rest Q (pE env d v) t := st_eff (by simp) rfl rfl rfl
theorem st_app (sz b : Nat) (z : List AV) (a x : AO) : awops call base (⟨d, .app sz b z a x, none, r, false⟩ :: rest) Q env s = estep (aeff call env s (.app sz b z a x)) fun v t => awops call base rest Q (pE env d v) t := st_eff (by simp) rfl rfl rfl
theorem st_appz (sz b : Nat) (z : List AV) (a x : AO) : awops call base (⟨d, .appz sz b z a x, none, r, false⟩ :: rest) Q env s = estep (aeff call env s (.appz sz b z a x)) fun v t => awops call base rest Q (pE env d v) t := st_eff (by simp) rfl rfl rfl
theorem st_clr (z : List AV) (x : AO) : awops call base (⟨d, .clr z x, none, r, false⟩ :: rest) Q env s = estep (aeff call env s (.clr z x)) fun v t => awops call base rest Q (pE env d v) t := st_eff (by simp) rfl rfl rfl
theorem st_copy (sz : Nat) (a x : AO) : awops call base (⟨d, .copy sz a x, none, r, false⟩ :: rest) Q env s = estep (aeff call env s (.copy sz a x)) fun v t => awops call base rest Q (pE env d v) t := st_eff (by simp) rfl rfl rfl
theorem st_nxt (x : AO) : awops call base (⟨d, .nxt x, none, r, fr⟩ :: rest) Q env s = anext (aev env x) s fun v t => awops call base rest Q (pE env d v) t := nrfl rfl
theorem st_allo (z : List AV) : awops call base (⟨d, .alloc z, none, none, fr⟩ :: rest) Q env s = awops call base rest Q (pE env d (.ptr s.next 0)) (s.push (.row z true)) := nrfl rfl
theorem st_allor (z : List AV) (j : Nat) : awops call base (⟨d, .alloc z, none, some j, fr⟩ :: rest) Q env s = bstep (s.get (base + j)) (awops call base rest Q (pE env d (.ptr (base + j) 0)) (s.born (base + j) (.row z true))) := st_allocr (op := .alloc z) (by simp) rfl rfl fun _ => rfl
theorem st_box (n : Nat) (x : AO) : awops call base (⟨d, .box n x, none, none, fr⟩ :: rest) Q env s = astep (aalloc env (.box n x)) fun v b => awops call base rest Q (pE env d (v s.next)) (s.push b) := st_alloc (by simp) rfl rfl fun _ => rfl
theorem st_boxr (n : Nat) (x : AO) (j : Nat) : awops call base (⟨d, .box n x, none, some j, fr⟩ :: rest) Q env s = astep (aalloc env (.box n x)) fun v b => bstep (s.get (base + j)) (awops call base rest Q (pE env d (v (base + j))) (s.born (base + j) b)) := st_allocr (by simp) rfl rfl fun _ => rfl
theorem st_bsl (z : List AV) (l n : Nat) (ps : List (Nat × AO)) : awops call base (⟨d, .bsl z l n ps, none, none, fr⟩ :: rest) Q env s = astep (aalloc env (.bsl z l n ps)) fun v b => awops call base rest Q (pE env d (v s.next)) (s.push b) := st_alloc (by simp) rfl rfl fun _ => rfl
theorem st_bslr (z : List AV) (l n : Nat) (ps : List (Nat × AO)) (j : Nat) : awops call base (⟨d, .bsl z l n ps, none, some j, fr⟩ :: rest) Q env s = astep (aalloc env (.bsl z l n ps)) fun v b => bstep (s.get (base + j)) (awops call base rest Q (pE env d (v (base + j))) (s.born (base + j) b)) := st_allocr (by simp) rfl rfl fun _ => rfl
theorem st_mksl (z : List AV) (n : Nat) (a b : AO) : awops call base (⟨d, .mksl z n a b, none, none, fr⟩ :: rest) Q env s = astep (aalloc env (.mksl z n a b)) fun v b => awops call base rest Q (pE env d (v s.next)) (s.push b) := st_alloc (by simp) rfl rfl fun _ => rfl
theorem st_mkslr (z : List AV) (n : Nat) (a b : AO) (j : Nat) : awops call base (⟨d, .mksl z n a b, none, some j, fr⟩ :: rest) Q env s = astep (aalloc env (.mksl z n a b)) fun v b => bstep (s.get (base + j)) (awops call base rest Q (pE env d (v (base + j))) (s.born (base + j) b)) := st_allocr (by simp) rfl rfl fun _ => rfl


/-! ### Steps behind a guard -/
def sel (b : Bool) (x : AV) : AV := if b then x else .und
theorem sel_true (x : AV) : sel true x = x := nrfl rfl
theorem sel_false (x : AV) : sel false x = .und := nrfl rfl
def gP (w : Bool) (v : AV) : Prop := isT w v = true
theorem gP_bt (b : Bool) : gP true (.bool b) = (b = true) := by cases b <;> simp [gP, isT]
theorem gP_bf (b : Bool) : gP false (.bool b) = (b = false) := by cases b <;> simp [gP, isT]
theorem gP_st (p b : Bool) : gP true (sel p (.bool b)) = (p = true ∧ b = true) := by cases p <;> cases b <;> simp [gP, isT, sel]
theorem gP_sf (p b : Bool) : gP false (sel p (.bool b)) = (p = true ∧ b = false) := by cases p <;> cases b <;> simp [gP, isT, sel]
theorem gP_und (w : Bool) : gP w .und = False := by simp [gP, isT]
def gpure (v : AV) (w : Bool) (o : Option AV) (K : AV → Prop) : Prop := gstep v w (pstep o K) (K .und)
@[congr] theorem gpure_congr {v v' : AV} {w : Bool} {g : Prop} {o o' : Option AV} (h : v = v') (hg : gP w v' = g) (ho : g → o = o') (K : AV → Prop) : gpure v w o K = gpure v' w o' K := by
  subst h
  subst hg
  unfold gpure
  by_cases hv : isT w v = true
  · rw [ho hv]
  · cases v <;> try rfl
    rename_i b
    cases b <;> cases w <;> first | rfl | exact absurd rfl hv
theorem gpure_bt (b : Bool) (x : AV) (K : AV → Prop) : gpure (.bool b) true (some x) K = K (sel b x) := by cases b <;> rfl
theorem gpure_bf (b : Bool) (x : AV) (K : AV → Prop) : gpure (.bool b) false (some x) K = K (sel (!b) x) := by cases b <;> rfl
theorem gpure_st (p b : Bool) (x : AV) (K : AV → Prop) : gpure (sel p (.bool b)) true (some x) K = K (sel (p && b) x) := by cases p <;> cases b <;> rfl
theorem gpure_sf (p b : Bool) (x : AV) (K : AV → Prop) : gpure (sel p (.bool b)) false (some x) K = K (sel (p && !b) x) := by cases p <;> cases b <;> rfl
theorem gpure_und (w : Bool) (o : Option AV) (K : AV → Prop) : gpure .und w o K = K .und := nrfl rfl
theorem gpure_tf (o : Option AV) (K : AV → Prop) : gpure (.bool true) false o K = K .und := nrfl rfl
theorem gpure_ft (o : Option AV) (K : AV → Prop) : gpure (.bool false) true o K = K .und := nrfl rfl
theorem gpure_sft (p : Bool) (o : Option AV) (K : AV → Prop) : gpure (sel p (.bool false)) true o K = K .und := by cases p <;> rfl
theorem gpure_stf (p : Bool) (o : Option AV) (K : AV → Prop) : gpure (sel p (.bool true)) false o K = K .und := by cases p <;> rfl
def gcall (s : St) (v : AV) (w : Bool) (o : Option (AV × St)) (K : AV → St → Prop) : Prop := gstep v w (estep o K) (K .und s)
@[congr] theorem gcall_congr {s : St} {v v' : AV} {w : Bool} {g : Prop} {o o' : Option (AV × St)} (h : v = v') (hg : gP w v' = g) (ho : g → o = o') (K : AV → St → Prop) : gcall s v w o K = gcall s v' w o' K := by
  subst h
  subst hg
  unfold gcall
  by_cases hv : isT w v = true
  · rw [ho hv]
  · cases v <;> try rfl
    rename_i b
    cases b <;> cases w <;> first | rfl | exact absurd rfl hv
theorem gcall_bt (s : St) (b : Bool) (x : AV) (K : AV → St → Prop) : gcall s (.bool b) true (some (x, s)) K = K (sel b x) s := by cases b <;> rfl
theorem gcall_bf (s : St) (b : Bool) (x : AV) (K : AV → St → Prop) : gcall s (.bool b) false (some (x, s)) K = K (sel (!b) x) s := by cases b <;> rfl
theorem gcall_st (s : St) (p b : Bool) (x : AV) (K : AV → St → Prop) : gcall s (sel p (.bool b)) true (some (x, s)) K = K (sel (p && b) x) s := by cases p <;> cases b <;> rfl
theorem gcall_sf (s : St) (p b : Bool) (x : AV) (K : AV → St → Prop) : gcall s (sel p (.bool b)) false (some (x, s)) K = K (sel (p && !b) x) s := by cases p <;> cases b <;> rfl
theorem gcall_und (s : St) (w : Bool) (o : Option (AV × St)) (K : AV → St → Prop) : gcall s .und w o K = K .und s := nrfl rfl
theorem gcall_tf (s : St) (o : Option (AV × St)) (K : AV → St → Prop) : gcall s (.bool true) false o K = K .und s := nrfl rfl
theorem gcall_ft (s : St) (o : Option (AV × St)) (K : AV → St → Prop) : gcall s (.bool false) true o K = K .und s := nrfl rfl
theorem gcall_sft (s : St) (p : Bool) (o : Option (AV × St)) (K : AV → St → Prop) : gcall s (sel p (.bool false)) true o K = K .und s := by cases p <;> rfl
theorem gcall_stf (s : St) (p : Bool) (o : Option (AV × St)) (K : AV → St → Prop) : gcall s (sel p (.bool true)) false o K = K .und s := by cases p <;> rfl
theorem gcall_tt (s : St) (o : Option (AV × St)) (K : AV → St → Prop) : gcall s (.bool true) true o K = estep o K := nrfl rfl
theorem gcall_ff (s : St) (o : Option (AV × St)) (K : AV → St → Prop) : gcall s (.bool false) false o K = estep o K := nrfl rfl

theorem sg_mv (x : AO) (t : Nat) (w : Bool) : awops call base (⟨d, .mv x, some (t, w), r, fr⟩ :: rest) Q env s = gpure (E env t) w (some (aev env x)) fun v => awops call base rest Q (pE env d v) s := by
  rw [st_guard, st_mv]
  rfl
theorem sg_pick (c a b : AO) (t : Nat) (w : Bool) : awops call base (⟨d, .pick c a b, some (t, w), r, fr⟩ :: rest) Q env s = gpure (E env t) w (apure env (.pick c a b)) fun v => awops call base rest Q (pE env d v) s := by
  rw [st_guard, st_pick]
  rfl
theorem sg_build (z : List AV) (ps : List (Nat × Nat × AO)) (t : Nat) (w : Bool) : awops call base (⟨d, .build z ps, some (t, w), r, fr⟩ :: rest) Q env s = gpure (E env t) w (apure env (.build z ps)) fun v => awops call base rest Q (pE env d v) s := by
  rw [st_guard, st_build]
  rfl
theorem sg_bin (o : BinOp) (k : EK) (x y : AO) (t : Nat) (w : Bool) : awops call base (⟨d, .bin o k x y, some (t, w), r, fr⟩ :: rest) Q env s = gpure (E env t) w (binOp o k (aev env x) (aev env y)) fun v => awops call base rest Q (pE env d v) s := by
  rw [st_guard, st_bin]
  rfl
theorem sg_un (o : UnOp) (x : AO) (t : Nat) (w : Bool) : awops call base (⟨d, .un o x, some (t, w), r, fr⟩ :: rest) Q env s = gpure (E env t) w (apure env (.un o x)) fun v => awops call base rest Q (pE env d v) s := by
  rw [st_guard, st_un]
  rfl
theorem sg_conv (k : IntKind) (x : AO) (t : Nat) (w : Bool) : awops call base (⟨d, .conv k x, some (t, w), r, fr⟩ :: rest) Q env s = gpure (E env t) w (apure env (.conv k x)) fun v => awops call base rest Q (pE env d v) s := by
  rw [st_guard, st_conv]
  rfl
theorem sg_mkfn (f : Nat) (x : List AO) (t : Nat) (w : Bool) : awops call base (⟨d, .mkfn f x, some (t, w), r, fr⟩ :: rest) Q env s = gpure (E env t) w (apure env (.mkfn f x)) fun v => awops call base rest Q (pE env d v) s := by
  rw [st_guard, st_mkfn]
  rfl
theorem sg_slc (n : Nat) (x : AO) (a b c : Option AO) (t : Nat) (w : Bool) : awops call base (⟨d, .slc n x a b c, some (t, w), r, fr⟩ :: rest) Q env s = gpure (E env t) w (apure env (.slc n x a b c)) fun v => awops call base rest Q (pE env d v) s := by
  rw [st_guard, st_slc]
  rfl
theorem sg_slcs (x : AO) (a b : Option AO) (t : Nat) (w : Bool) : awops call base (⟨d, .slcs x a b, some (t, w), r, fr⟩ :: rest) Q env s = gpure (E env t) w (apure env (.slcs x a b)) fun v => awops call base rest Q (pE env d v) s := by
  rw [st_guard, st_slcs]
  rfl
theorem sg_fad (o : Nat) (x : AO) (t : Nat) (w : Bool) : awops call base (⟨d, .fad o x, some (t, w), r, fr⟩ :: rest) Q env s = gpure (E env t) w (apure env (.fad o x)) fun v => awops call base rest Q (pE env d v) s := by
  rw [st_guard, st_fad]
  rfl
theorem sg_fld (b : Bool) (o n : Nat) (x : AO) (t : Nat) (w : Bool) : awops call base (⟨d, .fld b o n x, some (t, w), r, fr⟩ :: rest) Q env s = gpure (E env t) w (apure env (.fld b o n x)) fun v => awops call base rest Q (pE env d v) s := by
  rw [st_guard, st_fld]
  rfl
theorem sg_iad (n : Nat) (x i : AO) (t : Nat) (w : Bool) : awops call base (⟨d, .iad n x i, some (t, w), r, fr⟩ :: rest) Q env s = gpure (E env t) w (apure env (.iad n x i)) fun v => awops call base rest Q (pE env d v) s := by
  rw [st_guard, st_iad]
  rfl
theorem sg_idxs (x i : AO) (t : Nat) (w : Bool) : awops call base (⟨d, .idxs x i, some (t, w), r, fr⟩ :: rest) Q env s = gpure (E env t) w (apure env (.idxs x i)) fun v => awops call base rest Q (pE env d v) s := by
  rw [st_guard, st_idxs]
  rfl
theorem sg_ext (x : AO) (i : Nat) (t : Nat) (w : Bool) : awops call base (⟨d, .ext x i, some (t, w), r, fr⟩ :: rest) Q env s = gpure (E env t) w (apure env (.ext x i)) fun v => awops call base rest Q (pE env d v) s := by
  rw [st_guard, st_ext]
  rfl
theorem sg_len (x : AO) (t : Nat) (w : Bool) : awops call base (⟨d, .len .sl x, some (t, w), r, fr⟩ :: rest) Q env s = gpure (E env t) w (apure env (.len .sl x)) fun v => awops call base rest Q (pE env d v) s := by
  rw [st_guard, st_len]
  rfl
theorem sg_lens (x : AO) (t : Nat) (w : Bool) : awops call base (⟨d, .len .st x, some (t, w), r, fr⟩ :: rest) Q env s = gpure (E env t) w (apure env (.len .st x)) fun v => awops call base rest Q (pE env d v) s := by
  rw [st_guard, st_lens]
  rfl
theorem sg_cap (x : AO) (t : Nat) (w : Bool) : awops call base (⟨d, .cap x, some (t, w), r, fr⟩ :: rest) Q env s = gpure (E env t) w (apure env (.cap x)) fun v => awops call base rest Q (pE env d v) s := by
  rw [st_guard, st_cap]
  rfl
theorem sg_mm (b : Bool) (x : List AO) (t : Nat) (w : Bool) : awops call base (⟨d, .mm b x, some (t, w), r, fr⟩ :: rest) Q env s = gpure (E env t) w (apure env (.mm b x)) fun v => awops call base rest Q (pE env d v) s := by
  rw [st_guard, st_mm]
  rfl
theorem sg_nchk (x : AO) (t : Nat) (w : Bool) : awops call base (⟨d, .nchk x, some (t, w), r, fr⟩ :: rest) Q env s = gpure (E env t) w (apure env (.nchk x)) fun v => awops call base rest Q (pE env d v) s := by
  rw [st_guard, st_nchk]
  rfl
theorem sg_load1 (x : AO) (t : Nat) (w : Bool) : awops call base (⟨d, .load1 x, some (t, w), r, false⟩ :: rest) Q env s = gpure (E env t) w (aread call env s (.load1 x)) fun v => awops call base rest Q (pE env d v) s := by
  rw [st_guard, st_load1]
  rfl
theorem sg_loadn (n : Nat) (x : AO) (t : Nat) (w : Bool) : awops call base (⟨d, .loadn n x, some (t, w), r, false⟩ :: rest) Q env s = gpure (E env t) w (aread call env s (.loadn n x)) fun v => awops call base rest Q (pE env d v) s := by
  rw [st_guard, st_loadn]
  rfl
theorem sg_b2s (x : AO) (t : Nat) (w : Bool) : awops call base (⟨d, .b2s x, some (t, w), r, false⟩ :: rest) Q env s = gpure (E env t) w (aread call env s (.b2s x)) fun v => awops call base rest Q (pE env d v) s := by
  rw [st_guard, st_b2s]
  rfl
theorem sg_look (z : AV) (k : EK) (ok : Bool) (m i : AO) (t : Nat) (w : Bool) : awops call base (⟨d, .look z k ok m i, some (t, w), r, false⟩ :: rest) Q env s = gpure (E env t) w (aread call env s (.look z k ok m i)) fun v => awops call base rest Q (pE env d v) s := by
  rw [st_guard, st_look]
  rfl
theorem sg_lenm (x : AO) (t : Nat) (w : Bool) : awops call base (⟨d, .len .mp x, some (t, w), r, false⟩ :: rest) Q env s = gpure (E env t) w (aread call env s (.len .mp x)) fun v => awops call base rest Q (pE env d v) s := by
  rw [st_guard, st_lenm]
  rfl
theorem sg_ent (x : AO) (t : Nat) (w : Bool) : awops call base (⟨d, .ent x, some (t, w), r, false⟩ :: rest) Q env s = gpure (E env t) w (aread call env s (.ent x)) fun v => awops call base rest Q (pE env d v) s := by
  rw [st_guard, st_ent]
  rfl
theorem sg_calld (f : Nat) (l : List AO) (t : Nat) (w : Bool) : awops call base (⟨d, .call f true l, some (t, w), r, false⟩ :: rest) Q env s = gpure (E env t) w (aread call env s (.call f true l)) fun v => awops call base rest Q (pE env d v) s := by
  rw [st_guard, st_calld]
  rfl
theorem sg_callvd (x : AO) (l : List AO) (t : Nat) (w : Bool) : awops call base (⟨d, .callv x true l, some (t, w), r, false⟩ :: rest) Q env s = gpure (E env t) w (aread call env s (.callv x true l)) fun v => awops call base rest Q (pE env d v) s := by
  rw [st_guard, st_callvd]
  rfl
theorem sg_call (f : Nat) (l : List AO) (t : Nat) (w : Bool) : awops call base (⟨d, .call f false l, some (t, w), r, false⟩ :: rest) Q env s = gcall s (E env t) w (acall (call f) false (l.map (aev env)) s) fun v t => awops call base rest Q (pE env d v) t := by
  rw [st_guard, st_call]
  rfl
theorem sg_callv (x : AO) (l : List AO) (t : Nat) (w : Bool) : awops call base (⟨d, .callv x false l, some (t, w), r, false⟩ :: rest) Q env s = gcall s (E env t) w (aeff call env s (.callv x false l)) fun v t => awops call base rest Q (pE env d v) t := by
  rw [st_guard, st_callv]
  rfl

/-! ### Code -/
def cstep (v : AV) (A B : Prop) : Prop := match v with
  | .bool true => A
  | .bool false => B
  | _ => False
@[congr] theorem cstep_congr {v v' : AV} (h : v = v') (A B : Prop) : cstep v A B = cstep v' A B := by rw [h]
theorem cstep_true (A B : Prop) : cstep (.bool true) A B = A := nrfl rfl
theorem cstep_false (A B : Prop) : cstep (.bool false) A B = B := nrfl rfl
def noNxt (os : List AOper) : Bool := os.all fun o => match o.op with
  | .nxt _ => false
  | _ => true
theorem awops_some : ∀ (os : List AOper) (env : Env) (s : St), noNxt os = true → awops call base os Q env s → ∃ e t, aops call base os env s = some (e, t) ∧ Q e t
  | [], env, s, _, k => ⟨env, s, rfl, k⟩
  | o :: rest, env, s, hn, k => by
    simp only [noNxt, List.all_cons, Bool.and_eq_true] at hn
    simp only [awops] at k
    simp only [aops]
    split at k
    · rename_i hw
      split at k
      · rename_i x hx
        rw [hx] at hn
        exact absurd hn.1 (by simp)
      · split at k
        · rename_i v t hv
          exact awops_some rest _ _ hn.2 k
        · exact k.elim
    · rename_i hw
      exact awops_some rest _ _ hn.2 k
    · exact k.elim
theorem some_awops : ∀ (os : List AOper) (env : Env) (s : St), noNxt os = true → (∃ e t, aops call base os env s = some (e, t) ∧ Q e t) → awops call base os Q env s
  | [], env, s, _, k => by
    obtain ⟨e, t, h1, h2⟩ := k
    simp only [aops] at h1
    injection h1 with h1
    obtain ⟨rfl, rfl⟩ := Prod.mk.inj h1
    exact h2
  | o :: rest, env, s, hn, k => by
    simp only [noNxt, List.all_cons, Bool.and_eq_true] at hn
    obtain ⟨e, t, h1, h2⟩ := k
    simp only [awops]
    simp only [aops] at h1
    split at h1
    · rename_i hw
      split
      · rename_i x hx
        rw [hx] at hn
        exact absurd hn.1 (by simp)
      · split at h1
        · rename_i v t hv
          exact some_awops rest _ _ hn.2 ⟨e, _, h1, h2⟩
        · cases h1
    · rename_i hw
      exact some_awops rest _ _ hn.2 ⟨e, _, h1, h2⟩
    · cases h1
variable {Qx : AEx → Env → St → Prop}
theorem wp_regd' {k : Nat} {os : List AOper} (h : noNxt os = true) : awp call (.regd k os) Qx env s = awops call s.next os (Qx .nor) env (s.reserve k) :=
  propext ⟨fun q => some_awops os _ _ h q, fun q => awops_some os _ _ h q⟩
def rstep (b : Bool) (A B : Prop) : Prop := if b = true then A else B
@[congr] theorem rstep_congr {b b' : Bool} (h : b = b') (A B : Prop) : rstep b A B = rstep b' A B := by rw [h]
theorem rstep_true (A B : Prop) : rstep true A B = A := by simp [rstep]
def isNx : AOp → Bool
  | .nxt _ => false
  | _ => true
theorem noNxt_nil : noNxt [] = true := nrfl rfl
theorem noNxt_cons (o : AOper) (l : List AOper) : noNxt (o :: l) = (isNx o.op && noNxt l) := nrfl (by
  simp only [noNxt, List.all_cons, isNx])
theorem wp_regd (k : Nat) (os : List AOper) : awp call (.regd k os) Qx env s = rstep (noNxt os) (awops call s.next os (Qx .nor) env (s.reserve k)) (∃ env' s', aops call s.next os env (s.reserve k) = some (env', s') ∧ Qx .nor env' s') := by
  cases h : noNxt os
  · simp only [rstep, Bool.false_eq_true, if_false]
    rfl
  · rw [rstep_true]
    exact wp_regd' h
theorem wp_reg (os : List AOper) : awp call (.reg os) Qx env s = awops call s.next os (Qx .nor) env s := nrfl rfl
theorem wp_skip : awp call .skip Qx env s = Qx .nor env s := nrfl rfl
theorem wp_exit (i : Nat) : awp call (.exit i) Qx env s = Qx (.exit i) env s := nrfl rfl
theorem wp_ret : awp call .ret Qx env s = Qx .ret env s := nrfl rfl
theorem wp_seq (a b : AC) : awp call (.seq a b) Qx env s = awp call a (fun x e t => match x with
    | .nor => awp call b Qx e t
    | x => Qx x e t) env s := nrfl rfl
theorem wp_block (i : Nat) (c : AC) : awp call (.block i c) Qx env s = awp call c (fun x e t => match x with
    | .exit j => if j = i then Qx .nor e t else Qx (.exit j) e t
    | x => Qx x e t) env s := nrfl rfl
theorem wp_cond (c : AO) (a b : AC) : awp call (.cond c a b) Qx env s = cstep (aev env c) (awp call a Qx env s) (awp call b Qx env s) := by
  simp only [awp, cstep]
  generalize aev env c = v
  cases v <;> rfl
theorem res1 (env : Env) (s : St) (a : Nat) : aresults env s [.t a] = some (E env a) := nrfl rfl
theorem res2 (env : Env) (s : St) (a b : Nat) : aresults env s [.t a, .t b] = some (.tup [E env a, E env b]) := nrfl rfl
theorem res0 (env : Env) (s : St) : aresults env s [] = some (.tup []) := nrfl rfl
theorem resc (env : Env) (s : St) (a n : Nat) : aresult env s (.celln a n) = match E env a with
  | .ptr id o => match s.get id with
    | some (.row cs _) => if o + n ≤ cs.length then some (.agg ((cs.drop o).take n)) else none
    | _ => none
  | _ => none := nrfl rfl
theorem rest_t (env : Env) (s : St) (b : Nat) : aresult env s (.t b) = some (E env b) := nrfl rfl
attribute [irreducible] pE E elen

end Go.AM
end
/-
  Lists in the abstract machine's memory: reading them, new ones, appending, what a caller is told. Own work of this project.
-/
section
namespace Go.AM
open Go

/-! ### How elements lie in cells -/
structure Cod (α : Type) where
  sz : Nat
  enc : α → List AV
  dec : List AV → Option α
  pos : 0 < sz
  len : ∀ x, (enc x).length = sz
  plain : ∀ x, (enc x).all AV.plain = true
  dec_enc : ∀ x, dec (enc x) = some x
  enc_dec : ∀ cs x, dec cs = some x → cs = enc x
variable {α : Type}
def Cod.cells (C : Cod α) (l : List α) : List AV := (l.map C.enc).flatten
def decL (C : Cod α) : Nat → List AV → Option (List α)
  | 0, _ => some []
  | n + 1, cs => match C.dec (cs.take C.sz), decL C n (cs.drop C.sz) with
    | some x, some r => some (x :: r)
    | _, _ => none
def read (C : Cod α) (s : St) : AV → Option (List α)
  | .nils => some []
  | .sl id off n _ z => if z = C.sz then match s.get id with
      | some (.row cs _) => if off + n * C.sz ≤ cs.length then decL C n (cs.drop off) else none
      | _ => none
    else none
  | _ => none
theorem cells_nil (C : Cod α) : C.cells [] = [] := rfl
theorem cells_cons (C : Cod α) (x : α) (l : List α) : C.cells (x :: l) = C.enc x ++ C.cells l := rfl
theorem cells_append (C : Cod α) (l m : List α) : C.cells (l ++ m) = C.cells l ++ C.cells m := by simp [Cod.cells]
theorem cells_one (C : Cod α) (x : α) : C.cells [x] = C.enc x := by simp [Cod.cells]
theorem cells_len (C : Cod α) (l : List α) : (C.cells l).length = l.length * C.sz := by
  induction l with
  | nil => simp [cells_nil]
  | cons x l ih => rw [cells_cons, List.length_append, ih, C.len, List.length_cons, Nat.succ_mul]; omega
theorem cells_plain (C : Cod α) (l : List α) : (C.cells l).all AV.plain = true := by
  induction l with
  | nil => rfl
  | cons x l ih => rw [cells_cons, List.all_append, C.plain, ih]; rfl
theorem plain_one {v : AV} (h : v.plain = true) : v.one = true := by cases v <;> simp_all [AV.plain, AV.one]
theorem plain_ren {v : AV} (f : Nat → Nat) (h : v.plain = true) : v.ren f = v := by cases v <;> simp_all [AV.plain, AV.ren]
theorem plains_rens (f : Nat → Nat) : ∀ {vs : List AV}, vs.all AV.plain = true → AV.rens f vs = vs
  | [], _ => rfl
  | v :: vs, h => by
    simp only [List.all_cons, Bool.and_eq_true] at h
    simp [AV.rens, plain_ren f h.1, plains_rens f h.2]
theorem cells_one' (C : Cod α) (l : List α) : (C.cells l).all AV.one = true := by
  have := cells_plain C l
  rw [List.all_eq_true] at this ⊢
  exact fun v hv => plain_one (this v hv)
theorem decL_some {C : Cod α} : ∀ {n : Nat} {cs : List AV} {l : List α}, decL C n cs = some l → l.length = n ∧ n * C.sz ≤ cs.length ∧ cs.take (n * C.sz) = C.cells l
  | 0, cs, l, h => by
    simp only [decL] at h
    injection h with h
    subst h
    simp [cells_nil]
  | n + 1, cs, l, h => by
    simp only [decL] at h
    split at h
    · rename_i x r hx hr
      injection h with h
      subst h
      obtain ⟨h1, h2, h3⟩ := decL_some hr
      have e := C.enc_dec _ _ hx
      have hl := congrArg List.length e
      rw [C.len, List.length_take] at hl
      rw [List.length_drop] at h2
      have hp := C.pos
      refine ⟨by simp [h1], by rw [Nat.succ_mul]; omega, ?_⟩
      rw [cells_cons, ← e, ← h3, Nat.succ_mul, Nat.add_comm (n * C.sz), List.take_add]
    · cases h
theorem decL_cells (C : Cod α) : ∀ (l : List α) (r : List AV), decL C l.length (C.cells l ++ r) = some l
  | [], r => rfl
  | x :: l, r => by
    have h := C.len x
    have e1 : (C.enc x ++ (C.cells l ++ r)).take C.sz = C.enc x := by rw [← h]; simp
    have e2 : (C.enc x ++ (C.cells l ++ r)).drop C.sz = C.cells l ++ r := by rw [← h]; simp
    simp only [List.length_cons, decL, cells_cons, List.append_assoc, e1, e2, C.dec_enc, decL_cells C l r]
theorem cells_at (C : Cod α) : ∀ (l : List α) (i : Nat) (x : α), l[i]? = some x → ∀ k m, k + m ≤ C.sz → ((C.cells l).drop (i * C.sz + k)).take m = ((C.enc x).drop k).take m
  | [], i, x, h, _, _, _ => by simp at h
  | y :: l, 0, x, h, k, m, hk => by
    simp at h
    subst h
    have hl := C.len y
    rw [cells_cons, Nat.zero_mul, Nat.zero_add, List.drop_append_of_le_length (by omega), List.take_append_of_le_length (by rw [List.length_drop]; omega)]
  | y :: l, i + 1, x, h, k, m, hk => by
    have hl := C.len y
    rw [cells_cons, Nat.succ_mul, show i * C.sz + C.sz + k = (C.enc y).length + (i * C.sz + k) by omega, ← List.drop_drop, List.drop_left]
    exact cells_at C l i x (by simpa using h) k m hk
theorem read_nils (C : Cod α) (s : St) : read C s .nils = some [] := rfl
theorem read_sl {C : Cod α} {s : St} {id off n z : Nat} {cap : Option Nat} {l : List α} (h : read C s (.sl id off n cap z) = some l) :
    z = C.sz ∧ n = l.length ∧ ∃ cs own, s.get id = some (.row cs own) ∧ off + n * C.sz ≤ cs.length ∧ (cs.drop off).take (n * C.sz) = C.cells l ∧
      ∀ i x, l[i]? = some x → ∀ k m, k + m ≤ C.sz → off + i * C.sz + k + m ≤ cs.length ∧ (cs.drop (off + i * C.sz + k)).take m = ((C.enc x).drop k).take m := by
  simp only [read] at h
  split at h
  · rename_i hz
    split at h
    · rename_i cs own hg
      split at h
      · rename_i hle
        obtain ⟨h1, h2, h3⟩ := decL_some h
        refine ⟨hz, h1.symm, cs, own, hg, hle, h3, fun i x hi k m hk => ?_⟩
        have hlt := (List.getElem?_eq_some_iff.1 hi).1
        have hmul : i * C.sz + C.sz ≤ n * C.sz := by
          rw [← Nat.succ_mul]
          exact Nat.mul_le_mul_right _ (by omega)
        refine ⟨by omega, ?_⟩
        rw [← cells_at C l i x hi k m hk, ← h3, List.drop_take, List.take_take, List.drop_drop, Nat.min_eq_left (by omega), ← Nat.add_assoc]
      · cases h
    · cases h
  · cases h
theorem read_of {C : Cod α} {s : St} {id off n : Nat} {cap : Option Nat} {l : List α} {cs : List AV} {own : Bool} (hn : n = l.length) (h1 : s.get id = some (.row cs own)) (h2 : off + n * C.sz ≤ cs.length) (h3 : (cs.drop off).take (n * C.sz) = C.cells l) :
    read C s (.sl id off n cap C.sz) = some l := by
  subst hn
  simp only [read, if_true, h1, h2]
  have := decL_cells C l ((cs.drop off).drop (l.length * C.sz))
  rw [← h3, List.take_append_drop] at this
  exact this
/-- Behind what leaves the block as it was. -/
theorem read_mono {C : Cod α} {s t : St} {v : AV} {l : List α} (h : read C s v = some l) (k : ∀ id b, s.get id = some b → t.get id = some b) : read C t v = some l := by
  cases v with
  | nils => exact h
  | sl id off n cap z =>
    obtain ⟨rfl, hn, cs, own, hg, h1, h2, _⟩ := read_sl h
    exact read_of hn (k _ _ hg) h1 h2
  | _ => simp [read] at h
theorem read_low (C : Cod α) (s : St) (n : Nat) (v : AV) : read C { heap := s.heap, next := s.next, low := n } v = read C s v := by
  cases v <;> rfl
theorem read_len {C : Cod α} {s : St} {v : AV} {l : List α} (h : read C s v = some l) : lenOf v = some l.length := by
  cases v with
  | nils => simp [read] at h; subst h; rfl
  | sl id off n cap z =>
    obtain ⟨rfl, hn, _⟩ := read_sl h
    simp [lenOf, hn]
  | _ => simp [read] at h
theorem read_shown {C : Cod α} {s : St} {v : AV} {l : List α} (h : read C s v = some l) : shown s C.sz v = some (C.cells l) := by
  cases v with
  | nils => simp [read] at h; subst h; rfl
  | sl id off n cap z =>
    obtain ⟨rfl, hn, cs, own, hg, h1, h2, _⟩ := read_sl h
    simp [shown, hg, h1, h2]
  | _ => simp [read] at h
theorem read_drop {C : Cod α} {s : St} {id off n z m : Nat} {cap cap' : Option Nat} {l : List α} (h : read C s (.sl id off n cap z) = some l) (k : Nat) (hm : m = n - k) (hk : k ≤ n) : read C s (.sl id (off + k * z) m cap' z) = some (l.drop k) := by
  obtain ⟨rfl, hn, cs, own, hg, h1, h2, _⟩ := read_sl h
  subst hm
  have e : (n - k) * C.sz + k * C.sz = n * C.sz := by rw [← Nat.add_mul]; congr 1; omega
  refine read_of (by simp [hn]) hg (by omega) ?_
  have hc : (C.cells l).drop (k * C.sz) = C.cells (l.drop k) := by
    conv => lhs; rw [← List.take_append_drop k l, cells_append]
    have : k * C.sz = (C.cells (l.take k)).length := by rw [cells_len, List.length_take, Nat.min_eq_left (by omega)]
    rw [this, List.drop_left]
  rw [← hc, ← h2, List.drop_take, List.drop_drop]
  congr 1
  omega
theorem read_take {C : Cod α} {s : St} {id off n z : Nat} {cap cap' : Option Nat} {l : List α} (h : read C s (.sl id off n cap z) = some l) (k : Nat) (hk : k ≤ n) : read C s (.sl id off k cap' z) = some (l.take k) := by
  obtain ⟨rfl, hn, cs, own, hg, h1, h2, _⟩ := read_sl h
  have hmul : k * C.sz ≤ n * C.sz := Nat.mul_le_mul_right _ hk
  refine read_of (by simp; omega) hg (by omega) ?_
  have hc : (C.cells l).take (k * C.sz) = C.cells (l.take k) := by
    conv => lhs; rw [← List.take_append_drop k l, cells_append]
    have : k * C.sz = (C.cells (l.take k)).length := by rw [cells_len, List.length_take, Nat.min_eq_left (by omega)]
    rw [this, List.take_left]
  rw [← hc, ← h2, List.take_take, Nat.min_eq_left hmul]

/-! ### What was there stays -/
structure Keep (s t : St) : Prop where
  next : s.next ≤ t.next
  get : ∀ id, id < s.next → t.get id = s.get id
  low : min s.low s.next ≤ t.low
theorem Keep.refl (s : St) : Keep s s := ⟨Nat.le_refl _, fun _ _ => rfl, by omega⟩
theorem Keep.push {s t : St} (h : Keep s t) (b : AB) : Keep s (t.push b) :=
  ⟨by have := h.next; simp; omega, fun id hid => by rw [St.get_push_old _ _ (by have := h.next; omega), h.get id hid], by simpa using h.low⟩
theorem Keep.put {s t : St} (h : Keep s t) {id : Nat} (b : AB) (h1 : s.next ≤ id) (h2 : id < t.next) : Keep s (t.put id b) :=
  ⟨by simpa using h.next, fun j hj => by rw [St.get_put_ne _ _ h2 (by omega), h.get j hj], by have := h.low; simp; omega⟩
theorem Keep.trans {a b c : St} (h : Keep a b) (k : Keep b c) : Keep a c :=
  ⟨Nat.le_trans h.next k.next, fun id hid => by rw [k.get id (Nat.lt_of_lt_of_le hid h.next), h.get id hid], by have h1 := h.low; have h2 := k.low; have h3 := h.next; omega⟩
theorem Keep.blk {s t : St} (h : Keep s t) {id : Nat} {b : AB} (hb : s.get id = some b) : t.get id = some b := by rw [h.get id (St.get_lt hb), hb]
theorem Keep.read {s t : St} (h : Keep s t) {C : Cod α} {v : AV} {l : List α} (hr : read C s v = Option.some l) : read C t v = Option.some l := read_mono hr fun _ _ => h.blk
theorem Keep.low' {s t : St} (h : Keep s t) (n : Nat) (hn : min s.low s.next ≤ n) : Keep s { heap := t.heap, next := t.next, low := n } := ⟨h.next, fun id hid => h.get id hid, hn⟩
theorem Keep.grow {s t : St} (h : Keep s t) : Grow s t := by
  refine ⟨h.next, fun id h1 h2 => ?_⟩
  rw [h.get id h1]
  exact h2

theorem gk_push {s t : St} (h : Grow s t ∧ Keeps s t) (b : AB) : Grow s (t.push b) ∧ Keeps s (t.push b) := ⟨h.1.trans (grow_push t b), h.2.trans (keeps_push t b)⟩
theorem gk_low (s : St) : Grow s { heap := s.heap, next := s.next, low := min s.low s.next } ∧ Keeps s { heap := s.heap, next := s.next, low := min s.low s.next } := ⟨⟨Nat.le_refl _, fun _ _ h => h⟩, Nat.le_refl _, Nat.min_le_left _ _, fun _ _ _ => rfl⟩
/-! ### A new list, whose block nobody else has -/
def Own (C : Cod α) (s t : St) (v : AV) (l : List α) : Prop :=
  (v = .nils ∧ l = []) ∨ ∃ j, v = .sl j 0 l.length none C.sz ∧ l ≠ [] ∧ s.next ≤ j ∧ t.get j = some (.row (C.cells l) true)
theorem Own.nil (C : Cod α) (s t : St) : Own C s t .nils [] := .inl ⟨rfl, rfl⟩
theorem Own.read {C : Cod α} {s t : St} {v : AV} {l : List α} (h : Own C s t v l) : read C t v = some l := by
  rcases h with ⟨rfl, rfl⟩ | ⟨j, rfl, _, _, h⟩
  · rfl
  · refine read_of rfl h (by simp [cells_len]) ?_
    rw [List.drop_zero, ← cells_len]
    simp
theorem Own.mono {C : Cod α} {s t u : St} {v : AV} {l : List α} (h : Own C s t v l) (k : ∀ id b, t.get id = some b → u.get id = some b) : Own C s u v l := by
  rcases h with ⟨rfl, rfl⟩ | ⟨j, rfl, h0, h1, h⟩
  · exact .inl ⟨rfl, rfl⟩
  · exact .inr ⟨j, rfl, h0, h1, k _ _ h⟩
theorem get_push_some {t : St} (b : AB) {id : Nat} {c : AB} (h : t.get id = some c) : (t.push b).get id = some c := by rw [St.get_push_old _ _ (St.get_lt h), h]
theorem Own.push {C : Cod α} {s t : St} {v : AV} {l : List α} (h : Own C s t v l) (b : AB) : Own C s (t.push b) v l := h.mono fun _ _ => get_push_some b
theorem append_own {C : Cod α} {s t : St} {v : AV} {l : List α} (hK : Keep s t) (hO : Own C s t v l) (m : List α) (bytes : Nat) (hb : (l.length + m.length) * bytes ≤ roomBytes) :
    ∃ v' t', aappend t C.sz bytes v (C.cells m) m.length = some (v', t') ∧ Keep s t' ∧ Own C s t' v' (l ++ m) := by
  by_cases hm : m = []
  · subst hm
    rcases hO with ⟨rfl, rfl⟩ | ⟨j, rfl, h0, h1, h⟩
    · exact ⟨.nils, t, by simp [aappend], hK, .nil _ _ _⟩
    · exact ⟨.sl j 0 l.length none C.sz, t, by simp [aappend, h], hK, by rw [List.append_nil]; exact .inr ⟨j, rfl, h0, h1, h⟩⟩
  · have hm0 : m.length ≠ 0 := by simpa using hm
    rcases hO with ⟨rfl, rfl⟩ | ⟨j, rfl, h0, h1, h⟩
    · refine ⟨.sl t.next 0 m.length none C.sz, t.push (.row (C.cells m) true), ?_, hK.push _, .inr ⟨t.next, by simp, by simpa using hm, hK.next, by simpa using St.get_push_new t _⟩⟩
      simp only [aappend, if_neg hm0]
      rw [if_pos (by simpa using hb)]
    · refine ⟨.sl t.next 0 (l.length + m.length) none C.sz, (t.put j .dead).push (.row (C.cells (l ++ m)) true), ?_, (hK.put .dead h1 (St.get_lt h)).push _, .inr ⟨t.next, by simp, by simp [hm], hK.next, by simpa using St.get_push_new (t.put j .dead) _⟩⟩
      simp only [aappend, if_true, h, if_neg hm0]
      rw [if_pos ⟨by simp [cells_len], hb⟩]
      have e : (C.cells l).take (l.length * C.sz) = C.cells l := by rw [← cells_len]; simp
      rw [List.drop_zero, e, cells_append]
/-! ### What a caller is told -/
def St.lowed (s : St) : St := { heap := s.heap, next := s.next, low := min s.low s.next }
/-- A new list: nil if it is empty. -/
def freshV (C : Cod α) (s : St) (l : List α) : AV := if l.isEmpty then .nils else .sl s.next 0 l.length none C.sz
def freshS (C : Cod α) (s : St) (l : List α) : St := if l.isEmpty then s.lowed else s.lowed.push (.row (C.cells l) true)
theorem lowed_get (s : St) (id : Nat) : s.lowed.get id = s.get id := rfl
theorem lowed_next (s : St) : s.lowed.next = s.next := rfl
theorem keep_lowed (s : St) : Keep s s.lowed := ⟨Nat.le_refl _, fun _ _ => rfl, Nat.le_refl _⟩
theorem keep_fresh (C : Cod α) (s : St) (l : List α) : Keep s (freshS C s l) := by
  unfold freshS
  split
  · exact keep_lowed s
  · exact (keep_lowed s).push _
theorem gk_lowed (s : St) : Grow s s.lowed ∧ Keeps s s.lowed := gk_low s
theorem gk_fresh (C : Cod α) (s : St) (l : List α) : Grow s (freshS C s l) ∧ Keeps s (freshS C s l) := by
  unfold freshS
  split
  · exact gk_lowed s
  · exact gk_push (gk_lowed s) _
theorem emb_keep {s t : St} (h : Keep s t) : ∃ f : Nat → Nat, (∀ id, id < s.next → f id = id) ∧ Emb f s s.lowed t := by
  have hn := h.next
  refine ⟨fun id => if id < s.next then id else t.next + id, fun id hid => by simp [hid], ⟨Nat.le_refl _, h.low, fun id hid => by simp [hid], fun id hid => ?_, fun i j h1 h2 e => ?_, fun id b hb => ?_, fun id h1 h2 => rfl⟩⟩
  · have : ¬ id < s.next := by simp [lowed_next] at hid; omega
    simp [this]
  · rw [lowed_next] at h1 h2
    simpa [h1, h2] using e
  · have hlt : id < s.next := St.get_lt (by rwa [lowed_get] at hb)
    rw [lowed_get] at hb
    exact .inr (.inr ⟨hlt, hb, h.blk hb⟩)
theorem emb_fresh {C : Cod α} {s t : St} (h : Keep s t) {v : AV} {l : List α} (hO : Own C s t v l) : ∃ f : Nat → Nat, (∀ id, id < s.next → f id = id) ∧ Emb f s (freshS C s l) t ∧ v = (freshV C s l).ren f := by
  rcases hO with ⟨rfl, rfl⟩ | ⟨j, rfl, hl, h1, hj⟩
  · obtain ⟨f, h1, h2⟩ := emb_keep h
    exact ⟨f, h1, h2, by simp [freshV, AV.ren]⟩
  · have hn := h.next
    have hlow := h.low
    have hlt := St.get_lt hj
    have hle : l.isEmpty = false := by simpa using hl
    have e0 : freshS C s l = s.lowed.push (.row (C.cells l) true) := by simp [freshS, hle]
    have e1 : (freshS C s l).next = s.next + 1 := by rw [e0]; rfl
    have e2 : ∀ id, (freshS C s l).get id = if id = s.next then some (.row (C.cells l) true) else s.get id := fun id => by rw [e0, St.get_push]; rfl
    refine ⟨fun id => if id < s.next then id else if id = s.next then j else t.next + id, fun id hid => by simp [hid], ⟨by omega, ?_, fun id hid => by simp [hid], fun id hid => ?_, fun i k h1 h2 e => ?_, fun id b hb => ?_, fun id h1 h2 => ?_⟩, ?_⟩
    · rw [e0]
      exact hlow
    · rw [e1] at hid
      rw [if_neg (by omega), if_neg (by omega)]
      omega
    · rw [e1] at h1 h2
      by_cases a1 : i < s.next
      · by_cases a2 : k < s.next
        · rw [if_pos a1, if_pos a2] at e; exact e
        · rw [if_pos a1, if_neg a2, if_pos (by omega)] at e; omega
      · by_cases a2 : k < s.next
        · rw [if_neg a1, if_pos a2, if_pos (by omega)] at e; omega
        · omega
    · rw [e2] at hb
      split at hb
      · rename_i hid
        injection hb with hb
        subst hb
        refine .inr (.inl ?_)
        rw [if_neg (by omega), if_pos hid, hj, AB.ren, plains_rens _ (cells_plain C l)]
      · have hid := St.get_lt hb
        exact .inr (.inr ⟨hid, hb, h.blk hb⟩)
    · rw [e2, if_neg (by omega)]
    · simp [freshV, hle, AV.ren]
end Go.AM
end
/-
  Dots and nodes in memory; rules for stepping that keep them folded. Own work of this project.
-/
section
namespace Go.AM
open Go

def dotC : Cod Dot where
  sz := 2
  enc := Dot.av
  dec := fun cs => match cs with
    | [.int .i64 a, .int .i64 b] => some ⟨a, b⟩
    | _ => none
  pos := by decide
  len := fun _ => rfl
  plain := fun _ => rfl
  dec_enc := fun _ => rfl
  enc_dec := fun cs x h => by
    split at h
    · injection h with h; subst h; rfl
    · cases h
def ndC : Cod Nd where
  sz := 6
  enc := Nd.av
  dec := fun cs => match cs with
    | [.int .i64 a, .int .i64 b, .int .i64 c, .int .i64 d, .int .i64 e, .int .i32 x] => some ⟨⟨a, b⟩, ⟨c, d⟩, e, x⟩
    | _ => none
  pos := by decide
  len := fun _ => rfl
  plain := fun _ => rfl
  dec_enc := fun _ => rfl
  enc_dec := fun cs x h => by
    split at h
    · injection h with h; subst h; rfl
    · cases h

/-! ### Numbers of blocks -/
def sameN (n : Nat) (s : St) : Prop := n = s.next
def ltN (n : Nat) (s : St) : Prop := n < s.next
theorem same_self (s : St) : sameN s.next s = True := eq_true rfl
theorem same_push {s t : St} (h : sameN s.next t) (b c : AB) : sameN (s.push b).next (t.push c) = True := eq_true (by unfold sameN at *; simp [h])
theorem same_lowed {n : Nat} {t : St} (h : sameN n t) : sameN n t.lowed = True := eq_true h
theorem same_lowed' {s t : St} (h : sameN s.next t) : sameN s.lowed.next t = True := eq_true h
theorem lt_push {n : Nat} {t : St} (h : ltN n t) (b : AB) : ltN n (t.push b) = True := eq_true (Nat.lt_succ_of_lt h)
theorem lt_push_same {n : Nat} {t : St} (h : sameN n t) (b : AB) : ltN n (t.push b) = True := eq_true (by unfold sameN at h; unfold ltN; simp [h])
theorem lt_lowed {n : Nat} {t : St} (h : ltN n t) : ltN n t.lowed = True := eq_true h
theorem lt_of_get {s : St} {id : Nat} {b : AB} (h : s.get id = some b) : ltN id s := St.get_lt h
/-! ### Loads and stores by value -/
def lod (s : St) (n : Nat) (v : AV) : Option AV := match v with
  | .ptr id o => match s.get id with
    | some (.row cs _) => if o + n ≤ cs.length then some (.agg ((cs.drop o).take n)) else none
    | _ => none
  | _ => none
def lod1 (s : St) (v : AV) : Option AV := match v with
  | .ptr id o => match s.get id with
    | some (.row cs _) => cs[o]?
    | _ => none
  | _ => none
def sto (s : St) (n : Nat) (a x : AV) : Option (AV × St) := match a with
  | .ptr id o => match s.get id with
    | some (.row cs true) => if x.cells.length = n ∧ x.cells.all AV.one ∧ o + n ≤ cs.length then some (.und, s.put id (.row (setAt cs o x.cells) true)) else none
    | _ => none
  | _ => none
variable {call : Nat → List AV → St → Option (AV × St)} {env : Env} {s t : St}
theorem ar_loadn (n : Nat) (a : AO) : aread call env s (.loadn n a) = lod s n (aev env a) := nrfl rfl
theorem ar_load1 (a : AO) : aread call env s (.load1 a) = lod1 s (aev env a) := nrfl rfl
theorem ae_store (n : Nat) (a x : AO) : aeff call env s (.store n a x) = sto s n (aev env a) (aev env x) := nrfl rfl
def iadV (sz : Nat) (x i : AV) : Option AV := match x, i with
  | .sl id off len _ z, .int _ n => if z = sz ∧ 0 ≤ n ∧ n < len then some (.ptr id (off + n.toNat * sz)) else none
  | _, _ => none
theorem ap_iad (sz : Nat) (x i : AO) : apure env (.iad sz x i) = iadV sz (aev env x) (aev env i) := nrfl rfl
theorem iadV_nat {sz id off len : Nat} {cap : Option Nat} {k : IntKind} {i : Nat} (h : i < len) : iadV sz (.sl id off len cap sz) (.int k (i : Int)) = some (.ptr id (off + i * sz)) := by
  simp [iadV, h]
def fadV (o : Nat) : AV → Option AV
  | .ptr id p => some (.ptr id (p + o))
  | _ => none
theorem ap_fad (o : Nat) (x : AO) : apure env (.fad o x) = fadV o (aev env x) := nrfl rfl
theorem fadV_ptr (o id p : Nat) : fadV o (.ptr id p) = some (.ptr id (p + o)) := nrfl rfl
def lenV : AV → Option AV
  | .sl _ _ n _ _ => some (.int .i64 (n : Int))
  | .nils => some (.int .i64 0)
  | _ => none
theorem ap_len (x : AO) : apure env (.len .sl x) = lenV (aev env x) := nrfl rfl
theorem lenV_sl (a b n : Nat) (c : Option Nat) (z : Nat) : lenV (.sl a b n c z) = some (.int .i64 (n : Int)) := nrfl rfl
theorem lenV_nils : lenV .nils = some (.int .i64 0) := nrfl rfl
theorem lenV_read {α : Type} {C : Cod α} {v : AV} {l : List α} (h : read C s v = some l) : lenV v = some (.int .i64 (l.length : Int)) := by
  cases v with
  | nils => simp [read] at h; subst h; rfl
  | sl id off n cap z =>
    obtain ⟨_, rfl, _⟩ := read_sl h
    rfl
  | _ => simp [read] at h
def pickV (c a b : AV) : Option AV := match c with
  | .bool t => some (if t then a else b)
  | _ => none
theorem ap_pick (c a b : AO) : apure env (.pick c a b) = pickV (aev env c) (aev env a) (aev env b) := nrfl rfl
theorem pickV_t (a b : AV) : pickV (.bool true) a b = some a := nrfl rfl
theorem pickV_f (a b : AV) : pickV (.bool false) a b = some b := nrfl rfl
def notV : AV → Option AV
  | .bool b => some (.bool !b)
  | _ => none
theorem ap_not (x : AO) : apure env (.un .not x) = notV (aev env x) := by
  simp only [apure, notV]
  cases aev env x <;> rfl
theorem notV_bool (b : Bool) : notV (.bool b) = some (.bool !b) := nrfl rfl
def extV (i : Nat) : AV → Option AV
  | .tup vs => vs[i]?
  | _ => none
theorem ap_ext (x : AO) (i : Nat) : apure env (.ext x i) = extV i (aev env x) := nrfl rfl
theorem extV_0 (v : AV) (l : List AV) : extV 0 (.tup (v :: l)) = some v := nrfl rfl
theorem extV_1 (v w : AV) (l : List AV) : extV 1 (.tup (v :: w :: l)) = some w := nrfl rfl
def fstep (cs : List AV) (off n : Nat) (v : AV) (K : List AV → Option (List AV)) : Option (List AV) :=
  if v.cells.length = n ∧ v.cells.all AV.one ∧ off + n ≤ cs.length then K (setAt cs off v.cells) else none
theorem fillP_nil (cs : List AV) : fillP env cs [] = some cs := nrfl rfl
theorem fillP_cons (cs : List AV) (off n : Nat) (x : AO) (r : List (Nat × Nat × AO)) : fillP env cs ((off, n, x) :: r) = fstep cs off n (aev env x) fun cs => fillP env cs r := nrfl rfl
theorem fstep_nd (x : Nd) (K : List AV → Option (List AV)) : fstep [.int .i64 0, .int .i64 0, .int .i64 0, .int .i64 0, .int .i64 0, .int .i32 0] 0 6 (.agg (Nd.av x)) K = K (Nd.av x) := nrfl rfl
theorem fstep_dot (x : Dot) (K : List AV → Option (List AV)) : fstep [.int .i64 0, .int .i64 0] 0 2 (.agg (Dot.av x)) K = K (Dot.av x) := nrfl rfl
theorem aa_bsl1 (z : List AV) (sz : Nat) (x : AO) : aalloc env (.bsl z 1 sz [(0, x)]) = (fstep z 0 sz (aev env x) some).map fun cs => (fun id => .sl id 0 1 (some 1) sz, .row cs true) := by
  simp only [aalloc, List.map_cons, List.map_nil, Nat.zero_mul, fillP_cons]
  rfl

/-! ### A box for one value -/
theorem push_put (s : St) (b c : AB) : (s.push b).put s.next c = s.lowed.push c := by
  simp [St.push, St.put, St.lowed]
theorem reserve0 (s : St) : s.reserve 0 = s := nrfl rfl
theorem reserve1_get (s : St) : (s.reserve 1).get (s.next + 0) = some .unborn := by simp [St.get_reserve]
theorem reserve1_get' (s : St) : (s.reserve 1).get s.next = some .unborn := by simp [St.get_reserve]
theorem reserve1_born (s : St) (b : AB) : (s.reserve 1).born (s.next + 0) b = s.push b := by simp [St.reserve, St.push, St.born]
theorem reserve1_born' (s : St) (b : AB) : (s.reserve 1).born s.next b = s.push b := by simp [St.reserve, St.push, St.born]
theorem sto_nd {n : Nat} {s : St} (h : sameN n s) (x : Nd) : sto (s.push (.row [.int .i64 0, .int .i64 0, .int .i64 0, .int .i64 0, .int .i64 0, .int .i32 0] true)) 6 (.ptr n 0) (.agg (Nd.av x)) = some (.und, s.lowed.push (.row (Nd.av x) true)) := by
  unfold sameN at h
  subst h
  simp only [sto, St.get_push_new, push_put]
  rfl
theorem lod_row {s : St} {id : Nat} {cs : List AV} {own : Bool} (h : s.get id = some (.row cs own)) (n o : Nat) : lod s n (.ptr id o) = if o + n ≤ cs.length then some (.agg ((cs.drop o).take n)) else none := by
  simp [lod, h]
theorem lod_nd {n : Nat} {s : St} (h : sameN n s) (x : Nd) (own : Bool) : lod (s.push (.row (Nd.av x) own)) 6 (.ptr n 0) = some (.agg (Nd.av x)) := by
  unfold sameN at h
  subst h
  simp only [lod, St.get_push_new]
  rfl
theorem lod_nd_dot {n : Nat} {s : St} (h : sameN n s) (x : Nd) (own : Bool) : lod (s.push (.row (Nd.av x) own)) 2 (.ptr n 0) = some (.agg (Dot.av x.d)) := by
  unfold sameN at h
  subst h
  simp only [lod, St.get_push_new]
  rfl
theorem Keep.lowed {s t : St} (h : Keep s t) : Keep s t.lowed := h.trans (keep_lowed t)
theorem Own.lowed {α : Type} {C : Cod α} {s t : St} {v : AV} {l : List α} (h : Own C s t v l) : Own C s t.lowed v l := h.mono fun _ _ k => k

/-- The loads of an element of a list of nodes. -/
theorem nd_loads {s : St} {id off n z : Nat} {cap : Option Nat} {l : List Nd} (h : read ndC s (.sl id off n cap z) = some l) {i : Nat} {x : Nd} (hi : l[i]? = some x) : ∀ t : St, (∀ b, s.get id = some b → t.get id = some b) →
    lod t 6 (.ptr id (off + i * 6)) = some (.agg (Nd.av x)) ∧ lod t 2 (.ptr id (off + i * 6)) = some (.agg (Dot.av x.d)) ∧ lod t 2 (.ptr id (off + i * 6 + 2)) = some (.agg (Dot.av x.p)) ∧
    lod1 t (.ptr id (off + i * 6 + 4)) = some (.int .i64 x.t) ∧ lod1 t (.ptr id (off + i * 6 + 5)) = some (.int .i32 x.x) := by
  intro t ht
  obtain ⟨rfl, hn, cs, own, hg, h1, h2, h3⟩ := read_sl h
  have hg' := ht _ hg
  have e : ∀ k m, k + m ≤ 6 → off + i * 6 + k + m ≤ cs.length ∧ (cs.drop (off + i * 6 + k)).take m = ((Nd.av x).drop k).take m := fun k m hk => h3 i x hi k m hk
  have e1 : ∀ k, k < 6 → cs[off + i * 6 + k]? = (Nd.av x)[k]? := by
    intro k hk
    have := (e k 1 (by omega)).2
    have := congrArg (fun l => l[0]?) this
    simpa using this
  refine ⟨?_, ?_, ?_, ?_, ?_⟩
  · rw [lod_row hg', if_pos (by have := (e 0 6 (by omega)).1; omega)]
    have := (e 0 6 (by omega)).2
    rw [Nat.add_zero] at this
    rw [this]
    rfl
  · rw [lod_row hg', if_pos (by have := (e 0 2 (by omega)).1; omega)]
    have := (e 0 2 (by omega)).2
    rw [Nat.add_zero] at this
    rw [this]
    rfl
  · rw [lod_row hg', if_pos (by have := (e 2 2 (by omega)).1; omega), (e 2 2 (by omega)).2]
    rfl
  · simp only [lod1, hg']
    rw [e1 4 (by omega)]
    rfl
  · simp only [lod1, hg']
    rw [e1 5 (by omega)]
    rfl
theorem dot_loads {s : St} {id off n z : Nat} {cap : Option Nat} {l : List Dot} (h : read dotC s (.sl id off n cap z) = some l) {i : Nat} {x : Dot} (hi : l[i]? = some x) : ∀ t : St, (∀ b, s.get id = some b → t.get id = some b) →
    lod t 2 (.ptr id (off + i * 2)) = some (.agg (Dot.av x)) ∧ lod1 t (.ptr id (off + i * 2)) = some (.int .i64 x.r) ∧ lod1 t (.ptr id (off + i * 2 + 1)) = some (.int .i64 x.c) := by
  intro t ht
  obtain ⟨rfl, hn, cs, own, hg, h1, h2, h3⟩ := read_sl h
  have hg' := ht _ hg
  have e : ∀ k m, k + m ≤ 2 → off + i * 2 + k + m ≤ cs.length ∧ (cs.drop (off + i * 2 + k)).take m = ((Dot.av x).drop k).take m := fun k m hk => h3 i x hi k m hk
  have e1 : ∀ k, k < 2 → cs[off + i * 2 + k]? = (Dot.av x)[k]? := by
    intro k hk
    have := (e k 1 (by omega)).2
    have := congrArg (fun l => l[0]?) this
    simpa using this
  refine ⟨?_, ?_, ?_⟩
  · rw [lod_row hg', if_pos (by have := (e 0 2 (by omega)).1; omega)]
    have := (e 0 2 (by omega)).2
    rw [Nat.add_zero] at this
    rw [this]
    rfl
  · simp only [lod1, hg']
    have := e1 0 (by omega)
    rw [Nat.add_zero] at this
    rw [this]
    rfl
  · simp only [lod1, hg']
    rw [e1 1 (by omega)]
    rfl

theorem cstep_bool (b : Bool) (A B : Prop) : cstep (.bool b) A B = ((b = true → A) ∧ (b = false → B)) := by cases b <;> simp [cstep]
theorem kt_refl (s : St) : Keep s s = True := eq_true (.refl s)
theorem kt_push (h : Keep s t) (b : AB) : Keep s (t.push b) = True := eq_true (h.push b)
theorem kt_lowed (h : Keep s t) : Keep s t.lowed = True := eq_true (h.trans (keep_lowed t))
/-! ### Operators -/
theorem bin_lss (e : EK) (k : IntKind) (a b : Int) : binOp .lss e (.int k a) (.int k b) = some (.bool (decide (a < b))) := by simp [binOp, intOp]
theorem bin_leq (e : EK) (k : IntKind) (a b : Int) : binOp .leq e (.int k a) (.int k b) = some (.bool (decide (a ≤ b))) := by simp [binOp, intOp]
theorem bin_gtr (e : EK) (k : IntKind) (a b : Int) : binOp .gtr e (.int k a) (.int k b) = some (.bool (decide (b < a))) := by simp [binOp, intOp]
theorem bin_geq (e : EK) (k : IntKind) (a b : Int) : binOp .geq e (.int k a) (.int k b) = some (.bool (decide (b ≤ a))) := by simp [binOp, intOp]
theorem bin_eql (e : EK) (k : IntKind) (a b : Int) : binOp .eql e (.int k a) (.int k b) = some (.bool (decide (a = b))) := by simp [binOp, intOp, beq_dec]
theorem bin_neq (e : EK) (k : IntKind) (a b : Int) : binOp .neq e (.int k a) (.int k b) = some (.bool (!decide (a = b))) := by simp [binOp, intOp, bne_dec]
theorem bin_add (e : EK) (k : IntKind) (a b : Int) : binOp .add e (.int k a) (.int k b) = some (.int k (k.wrap (a + b))) := by simp [binOp, intOp]
theorem bin_sub (e : EK) (k : IntKind) (a b : Int) : binOp .sub e (.int k a) (.int k b) = some (.int k (k.wrap (a - b))) := by simp [binOp, intOp]
theorem bin_eqb (a b : Bool) : binOp .eql .bo (.bool a) (.bool b) = some (.bool (a == b)) := nrfl rfl
theorem bin_neb (a b : Bool) : binOp .neq .bo (.bool a) (.bool b) = some (.bool (!(a == b))) := nrfl rfl
theorem bin_eqd (a b : Dot) : binOp .eql (.fl [.i, .i]) (.agg (Dot.av a)) (.agg (Dot.av b)) = some (.bool (decide (a = b))) := by
  obtain ⟨a1, a2⟩ := a
  obtain ⟨b1, b2⟩ := b
  simp [binOp, eqV, eqL, eqF, Dot.av, beq_dec]
theorem bin_neqd (a b : Dot) : binOp .neq (.fl [.i, .i]) (.agg (Dot.av a)) (.agg (Dot.av b)) = some (.bool (!decide (a = b))) := by
  obtain ⟨a1, a2⟩ := a
  obtain ⟨b1, b2⟩ := b
  simp [binOp, eqV, eqL, eqF, Dot.av, beq_dec]
theorem bin_eqd0 (a : Dot) : binOp .eql (.fl [.i, .i]) (.agg (Dot.av a)) (.agg [.int .i64 0, .int .i64 0]) = some (.bool (decide (a = ⟨0, 0⟩))) := bin_eqd a ⟨0, 0⟩
theorem bin_neqd0 (a : Dot) : binOp .neq (.fl [.i, .i]) (.agg (Dot.av a)) (.agg [.int .i64 0, .int .i64 0]) = some (.bool (!decide (a = ⟨0, 0⟩))) := bin_neqd a ⟨0, 0⟩
theorem bin_eqn (a b : Nd) : binOp .eql (.fl [.i, .i, .i, .i, .i, .i]) (.agg (Nd.av a)) (.agg (Nd.av b)) = some (.bool (decide (a = b))) := by
  obtain ⟨⟨a1, a2⟩, ⟨a3, a4⟩, a5, a6⟩ := a
  obtain ⟨⟨b1, b2⟩, ⟨b3, b4⟩, b5, b6⟩ := b
  simp [binOp, eqV, eqL, eqF, Nd.av, beq_dec, Bool.and_assoc, Bool.decide_and, and_assoc]
theorem bin_neqn (a b : Nd) : binOp .neq (.fl [.i, .i, .i, .i, .i, .i]) (.agg (Nd.av a)) (.agg (Nd.av b)) = some (.bool (!decide (a = b))) := by
  have := bin_eqn a b
  simp only [binOp, Option.map_eq_some_iff] at this ⊢
  obtain ⟨x, h1, h2⟩ := this
  injection h2 with h2
  exact ⟨x, h1, by rw [h2]⟩
theorem pickV_or (c y : Bool) : pickV (.bool c) (.bool true) (.bool y) = some (.bool (c || y)) := by cases c <;> rfl
theorem pickV_ors (c y : Bool) : pickV (.bool c) (.bool true) (sel (!c) (.bool y)) = some (.bool (c || y)) := by cases c <;> rfl
theorem pickV_and (c y : Bool) : pickV (.bool c) (.bool y) (.bool false) = some (.bool (c && y)) := by cases c <;> rfl
theorem pickV_ands (c y : Bool) : pickV (.bool c) (sel c (.bool y)) (.bool false) = some (.bool (c && y)) := by cases c <;> rfl
theorem pickV_orn (c y : Bool) : pickV (.bool (!c)) (.bool true) (sel c (.bool y)) = some (.bool (!c || y)) := by cases c <;> rfl
theorem ar_call (f : Nat) (l : List AO) : aread call env s (.call f true l) = (acall (call f) true (l.map (aev env)) s).map (·.1) := nrfl rfl
theorem ae_callv (x : AO) (l : List AO) : aeff call env s (.callv x false l) = match aev env x with
    | .fn g caps => acall (call g) false (l.map (aev env) ++ caps) s
    | _ => none := nrfl rfl
def boxV (n : Nat) (v : AV) : Option ((Nat → AV) × AB) := if v.cells.length = n ∧ v.cells.all AV.one then some (fun id => .ptr id 0, .row v.cells true) else none
theorem aa_box (n : Nat) (x : AO) : aalloc env (.box n x) = boxV n (aev env x) := nrfl rfl
theorem boxV_dot (d : Dot) : boxV 2 (.agg (Dot.av d)) = some (fun id => .ptr id 0, .row (Dot.av d) true) := nrfl rfl
theorem boxV_nd (d : Nd) : boxV 6 (.agg (Nd.av d)) = some (fun id => .ptr id 0, .row (Nd.av d) true) := nrfl rfl
theorem lod_push_lt {id : Nat} (h : ltN id s) (b : AB) (n o : Nat) : lod (s.push b) n (.ptr id o) = lod s n (.ptr id o) := by
  simp only [lod, St.get_push_old _ _ h]
theorem lod1_push_lt {id : Nat} (h : ltN id s) (b : AB) (o : Nat) : lod1 (s.push b) (.ptr id o) = lod1 s (.ptr id o) := by
  simp only [lod1, St.get_push_old _ _ h]
theorem lod_lowed (n : Nat) (v : AV) : lod s.lowed n v = lod s n v := by cases v <;> rfl
theorem lod1_lowed (v : AV) : lod1 s.lowed v = lod1 s v := by cases v <;> rfl
theorem lod_lowd (n m : Nat) (v : AV) : lod { heap := s.heap, next := s.next, low := m } n v = lod s n v := by cases v <;> rfl
theorem lod1_lowd (m : Nat) (v : AV) : lod1 { heap := s.heap, next := s.next, low := m } v = lod1 s v := by cases v <;> rfl
theorem lod_nd_par {n : Nat} {s : St} (h : sameN n s) (x : Nd) (own : Bool) : lod (s.push (.row (Nd.av x) own)) 2 (.ptr n 2) = some (.agg (Dot.av x.p)) := by
  unfold sameN at h
  subst h
  simp only [lod, St.get_push_new]
  rfl
theorem lod1_nd_t {n : Nat} {s : St} (h : sameN n s) (x : Nd) (own : Bool) : lod1 (s.push (.row (Nd.av x) own)) (.ptr n 4) = some (.int .i64 x.t) := by
  unfold sameN at h
  subst h
  simp only [lod1, St.get_push_new]
  rfl
theorem lod1_nd_x {n : Nat} {s : St} (h : sameN n s) (x : Nd) (own : Bool) : lod1 (s.push (.row (Nd.av x) own)) (.ptr n 5) = some (.int .i32 x.x) := by
  unfold sameN at h
  subst h
  simp only [lod1, St.get_push_new]
  rfl
theorem lod_dot {n : Nat} {s : St} (h : sameN n s) (x : Dot) (own : Bool) : lod (s.push (.row (Dot.av x) own)) 2 (.ptr n 0) = some (.agg (Dot.av x)) := by
  unfold sameN at h
  subst h
  simp only [lod, St.get_push_new]
  rfl
theorem lod1_dot_r {n : Nat} {s : St} (h : sameN n s) (x : Dot) (own : Bool) : lod1 (s.push (.row (Dot.av x) own)) (.ptr n 0) = some (.int .i64 x.r) := by
  unfold sameN at h
  subst h
  simp only [lod1, St.get_push_new]
  rfl
theorem lod1_dot_c {n : Nat} {s : St} (h : sameN n s) (x : Dot) (own : Bool) : lod1 (s.push (.row (Dot.av x) own)) (.ptr n 1) = some (.int .i64 x.c) := by
  unfold sameN at h
  subst h
  simp only [lod1, St.get_push_new]
  rfl
theorem sto_nd0 {n : Nat} {s : St} (h : sameN n s) : sto (s.push (.row [.int .i64 0, .int .i64 0, .int .i64 0, .int .i64 0, .int .i64 0, .int .i32 0] true)) 6 (.ptr n 0) (.agg [.int .i64 0, .int .i64 0, .int .i64 0, .int .i64 0, .int .i64 0, .int .i32 0]) = some (.und, s.lowed.push (.row (Nd.av ⟨⟨0, 0⟩, ⟨0, 0⟩, 0, 0⟩) true)) := sto_nd h ⟨⟨0, 0⟩, ⟨0, 0⟩, 0, 0⟩
theorem sto_push_lt {id : Nat} (h : ltN id s) (b : AB) (n o : Nat) (x : AV) : sto (s.push b) n (.ptr id o) x = (sto s n (.ptr id o) x).map fun r => (r.1, r.2.push b) := by
  unfold ltN at h
  have e : ∀ c, (s.push b).put id c = (s.put id c).push b := by
    intro c
    have : s.next + 1 - 1 - id = s.next - 1 - id + 1 := by omega
    simp only [St.push, St.put, this, List.set_cons_succ]
  simp only [sto, St.get_push_old _ _ h, e]
  split
  · split <;> rfl
  · rfl
theorem sto_nd_x {n : Nat} {s : St} (h : sameN n s) (x : Nd) (k : Int) : sto (s.push (.row (Nd.av x) true)) 1 (.ptr n 5) (.int .i32 k) = some (.und, s.lowed.push (.row (Nd.av { x with x := k }) true)) := by
  unfold sameN at h
  subst h
  simp only [sto, St.get_push_new, push_put]
  rfl
theorem sto_nd_t {n : Nat} {s : St} (h : sameN n s) (x : Nd) (k : Int) : sto (s.push (.row (Nd.av x) true)) 1 (.ptr n 4) (.int .i64 k) = some (.und, s.lowed.push (.row (Nd.av { x with t := k }) true)) := by
  unfold sameN at h
  subst h
  simp only [sto, St.get_push_new, push_put]
  rfl
theorem ap_build (z : List AV) (ps : List (Nat × Nat × AO)) : apure env (.build z ps) = (fillP env z ps).map .agg := nrfl rfl
theorem rc1 (env : Env) (s : St) (a n : Nat) : aresults env s [.celln a n] = lod s n (E env a) := by
  have h1 : aresult env s (.celln a n) = lod s n (E env a) := resc env s a n
  simp only [aresults, List.mapM_cons, List.mapM_nil, h1]
  cases lod s n (E env a) <;> rfl
theorem rc2 (env : Env) (s : St) (a n b : Nat) : aresults env s [.celln a n, .t b] = (lod s n (E env a)).map fun v => .tup [v, E env b] := by
  have h1 : aresult env s (.celln a n) = lod s n (E env a) := resc env s a n
  have h2 : aresult env s (.t b) = some (E env b) := rest_t env s b
  simp only [aresults, List.mapM_cons, List.mapM_nil, h1, h2]
  cases lod s n (E env a) <;> rfl

/-! ### Calls -/
theorem acall_ro {c : Con} {cl : Bool} {args : List AV} {r : AV} (h : c args { heap := s.heap, next := s.next, low := s.next } = some (r, { heap := s.heap, next := s.next, low := s.next })) (hg : r.ground = true) : acall c cl args s = some (r, s) := by
  simp [acall, h, hg]
theorem acall_rol {c : Con} {cl : Bool} {args : List AV} {r : AV} (h : c args { heap := s.heap, next := s.next, low := s.next } = some (r, St.lowed { heap := s.heap, next := s.next, low := s.next })) (hg : r.ground = true) : acall c cl args s = some (r, s) := by
  simp [acall, h, hg, St.lowed]
theorem SoundAt.lowed {P : Program} {g : Nat} {c c' : Con} (h : SoundAt P g c) (k : ∀ xs s r s', c' xs s = some (r, s') → s' = s.lowed ∧ c xs s = some (r, s)) : SoundAt P g c' := by
  intro xs s r s' hc
  obtain ⟨rfl, h1⟩ := k xs s r s' hc
  obtain ⟨a1, a2, a3⟩ := h xs s r s h1
  refine ⟨a1, gk_lowed s, fun ρ w cargs hf hR hargs => (a3 ρ w cargs hf hR hargs).mono fun e w' hp => ?_⟩
  obtain ⟨ρ', v, h2, h3, h4, h5⟩ := hp
  refine ⟨ρ', v, h2, h3, ⟨Nat.le_refl _, Nat.min_le_left _ _, h4.ren, h4.size, h4.os, h4.tape, h4.output, h4.drawn, fun b hb H => h4.frame b hb fun id L blk e1 => H id L blk (Nat.le_trans (Nat.min_le_left _ _) e1), h4.old, fun id L blk e1 e2 e3 e4 => ?_, fun _ _ _ => rfl⟩, ⟨h5.bound, h5.blk, h5.inj⟩⟩
  exact absurd (St.get_lt e3) (by rw [lowed_next]; omega)
theorem plains_ren (f : Nat → Nat) {v : AV} (h : v.plains = true) : v.ren f = v := by
  cases v
  case agg cs => simp only [AV.plains] at h; simp [AV.ren, plains_rens f h]
  all_goals exact plain_ren f (by simpa [AV.plains] using h)
theorem ground_ren (f : Nat → Nat) {v : AV} (h : v.ground = true) : v.ren f = v := by
  cases v
  case agg cs => simp only [AV.ground] at h; simp [AV.ren, plains_rens f h]
  case tup vs =>
    simp only [AV.ground] at h
    simp only [AV.ren, rens_map]
    congr 1
    refine map_same fun v hv => plains_ren f ?_
    rw [List.all_eq_true] at h
    exact h v hv
  all_goals exact plain_ren f (by simpa [AV.ground] using h)
theorem con_keep {P : Program} {call : Nat → List AV → St → Option (AV × St)} (hS : Sound P call) (hm : P.follows .mixedOrders = true) {g : Nat} {fn : Func} {afn : AFn} (hf : P.funcs[g]? = some fn) (hcal : callable P g = true) (hc : cfn P fn = some afn)
    {c : Con} (h : ∀ args s r s', c args s = some (r, s') → s' = s.lowed ∧ r.ground = true ∧ args.length ≤ afn.ntmps ∧ ∀ env : Env, elen env = afn.ntmps → (∀ i v, args[i]? = some v → E env i = v) →
      awp call afn.body (fun x env t => (∀ i, x ≠ .exit i) ∧ aresults env t afn.results = some r ∧ Keep s t) env s) : SoundAt P g c := by
  refine con_sound hS hm hf hcal hc fun args s r s' hh => ?_
  obtain ⟨rfl, hg, hl, k⟩ := h args s r s' hh
  refine ⟨gk_lowed s, start_env hl fun env h1 h2 => awp_mono _ (fun x e t q => ?_) (k env h1 h2)⟩
  obtain ⟨q1, q2, q3⟩ := q
  obtain ⟨f, _, hf⟩ := emb_keep q3
  exact ⟨q1, f, by rw [q2, ground_ren f hg], hf⟩
end Go.AM
end
/-
  Loops; elements of lists that an argument shows; contracts of functions of lists. Own work of this project.
-/
section
namespace Go.AM
open Go

variable {call : Nat → List AV → St → Option (AV × St)} {env : Env} {s t : St}

/-! ### A loop, its continuation held back from rewriting -/
class HQ where
  q : AEx → Env → St → Prop
def lwp (call : Nat → List AV → St → Option (AV × St)) (c : AC) (env : Env) (s : St) [h : HQ] : Prop := awp call (.loop c) h.q env s
theorem wp_loop (c : AC) (Q : AEx → Env → St → Prop) : awp call (.loop c) Q env s = @lwp call c env s ⟨Q⟩ := nrfl rfl
theorem lwp_inv {c : AC} {Q : AEx → Env → St → Prop} (I : Nat → Env → St → Prop) {n : Nat} (h : I n env s)
    (step : ∀ n e t, I n e t → awp call c (fun x e' t' => match x with
      | .nor => ∃ m, m < n ∧ I m e' t'
      | x => Q x e' t') e t) : @lwp call c env s ⟨Q⟩ := awp_loop I step h

/-! ### Numbers -/
theorem wrap_nat {n : Nat} (h : n < 4611686018427387904) : IntKind.i64.wrap (n : Int) = (n : Int) := by
  simp only [IntKind.wrap, IntKind.signed, IntKind.bits]
  simp
  omega
theorem wrap_add1 {n : Nat} (h : n < 4611686018427387903) : IntKind.i64.wrap ((n : Int) + 1) = ((n + 1 : Nat) : Int) := wrap_nat (n := n + 1) (by omega)
theorem wrap_sub1 {n : Nat} (h : n < 4611686018427387903) : IntKind.i64.wrap (((n + 1 : Nat) : Int) - 1) = (n : Int) := by
  have := wrap_nat (n := n) (by omega)
  have e : ((n + 1 : Nat) : Int) - 1 = (n : Int) := by omega
  rw [e, this]

/-! ### Elements -/
def bid : AV → Nat
  | .sl id _ _ _ _ => id
  | _ => 0
def boff : AV → Nat
  | .sl _ off _ _ _ => off
  | _ => 0
theorem read_idx {α : Type} {C : Cod α} {v : AV} {l : List α} (h : read C s v = some l) {i : Nat} {x : α} (hi : l[i]? = some x) (k : IntKind) : iadV C.sz v (.int k (i : Int)) = some (.ptr (bid v) (boff v + i * C.sz)) := by
  have hlt := (List.getElem?_eq_some_iff.1 hi).1
  cases v with
  | nils => simp [read] at h; subst h; simp at hlt
  | sl id off n cap z =>
    obtain ⟨rfl, rfl, _⟩ := read_sl h
    exact iadV_nat hlt
  | _ => simp [read] at h
theorem read_lt {α : Type} {C : Cod α} {v : AV} {l : List α} (h : read C s v = some l) (hK : Keep s t) {i : Nat} {x : α} (hi : l[i]? = some x) : ltN (bid v) t := by
  have hlt := (List.getElem?_eq_some_iff.1 hi).1
  cases v with
  | nils => simp [read] at h; subst h; simp at hlt
  | sl id off n cap z =>
    obtain ⟨rfl, rfl, cs, own, hg, _⟩ := read_sl h
    exact St.get_lt (hK.blk hg)
  | _ => simp [read] at h
theorem nd_idx {v : AV} {l : List Nd} (h : read ndC s v = some l) {i : Nat} {x : Nd} (hi : l[i]? = some x) (k : IntKind) : iadV 6 v (.int k (i : Int)) = some (.ptr (bid v) (boff v + i * 6)) := read_idx h hi k
theorem dot_idx {v : AV} {l : List Dot} (h : read dotC s v = some l) {i : Nat} {x : Dot} (hi : l[i]? = some x) (k : IntKind) : iadV 2 v (.int k (i : Int)) = some (.ptr (bid v) (boff v + i * 2)) := read_idx h hi k
theorem nd_lods {v : AV} {l : List Nd} (h : read ndC s v = some l) (hK : Keep s t) {i : Nat} {x : Nd} (hi : l[i]? = some x) :
    lod t 6 (.ptr (bid v) (boff v + i * 6)) = some (.agg (Nd.av x)) ∧ lod t 2 (.ptr (bid v) (boff v + i * 6)) = some (.agg (Dot.av x.d)) ∧ lod t 2 (.ptr (bid v) (boff v + i * 6 + 2)) = some (.agg (Dot.av x.p)) ∧
    lod1 t (.ptr (bid v) (boff v + i * 6 + 4)) = some (.int .i64 x.t) ∧ lod1 t (.ptr (bid v) (boff v + i * 6 + 5)) = some (.int .i32 x.x) ∧ ltN (bid v) t := by
  have hl := read_lt h hK hi
  cases v with
  | nils => simp [read] at h; subst h; simp at hi
  | sl id off n cap z =>
    obtain ⟨a1, a2, a3, a4, a5⟩ := nd_loads h hi t fun b hb => hK.blk hb
    exact ⟨a1, a2, a3, a4, a5, hl⟩
  | _ => simp [read] at h
theorem dot_lods {v : AV} {l : List Dot} (h : read dotC s v = some l) (hK : Keep s t) {i : Nat} {x : Dot} (hi : l[i]? = some x) :
    lod t 2 (.ptr (bid v) (boff v + i * 2)) = some (.agg (Dot.av x)) ∧ lod1 t (.ptr (bid v) (boff v + i * 2)) = some (.int .i64 x.r) ∧ lod1 t (.ptr (bid v) (boff v + i * 2 + 1)) = some (.int .i64 x.c) ∧ ltN (bid v) t := by
  have hl := read_lt h hK hi
  cases v with
  | nils => simp [read] at h; subst h; simp at hi
  | sl id off n cap z =>
    obtain ⟨a1, a2, a3⟩ := dot_loads h hi t fun b hb => hK.blk hb
    exact ⟨a1, a2, a3, hl⟩
  | _ => simp [read] at h

theorem lod_reserve {id : Nat} (h : ltN id s) (k n o : Nat) : lod (s.reserve k) n (.ptr id o) = lod s n (.ptr id o) := by
  unfold ltN at h
  simp only [lod, St.get_reserve, if_pos h]
theorem lod1_reserve {id : Nat} (h : ltN id s) (k o : Nat) : lod1 (s.reserve k) (.ptr id o) = lod1 s (.ptr id o) := by
  unfold ltN at h
  simp only [lod1, St.get_reserve, if_pos h]
/-! ### Contracts of functions of lists -/
def lim : Nat := 1000000
def conL {α : Type} (C : Cod α) (f : List α → AV) : Con := fun xs s => match xs with
  | [v] => match read C s v with
    | some l => if l.length ≤ lim then some (f l, s.lowed) else none
    | none => none
  | _ => none
def conLL {α β : Type} (C : Cod α) (D : Cod β) (f : List α → List β → AV) : Con := fun xs s => match xs with
  | [v, w] => match read C s v, read D s w with
    | some l, some m => if l.length ≤ lim ∧ m.length ≤ lim then some (f l m, s.lowed) else none
    | _, _ => none
  | _ => none
theorem conL_some {α : Type} {C : Cod α} {f : List α → AV} {xs : List AV} {s : St} {r : AV} {s' : St} (h : conL C f xs s = some (r, s')) : ∃ v l, xs = [v] ∧ read C s v = some l ∧ l.length ≤ lim ∧ r = f l ∧ s' = s.lowed := by
  unfold conL at h
  split at h
  · split at h
    · split at h
      · rename_i v _ l hr hl
        injection h with h
        obtain ⟨rfl, rfl⟩ := Prod.mk.inj h
        exact ⟨v, l, rfl, hr, hl, rfl, rfl⟩
      · cases h
    · cases h
  · cases h
theorem conLL_some {α β : Type} {C : Cod α} {D : Cod β} {f : List α → List β → AV} {xs : List AV} {s : St} {r : AV} {s' : St} (h : conLL C D f xs s = some (r, s')) :
    ∃ v w l m, xs = [v, w] ∧ read C s v = some l ∧ read D s w = some m ∧ l.length ≤ lim ∧ m.length ≤ lim ∧ r = f l m ∧ s' = s.lowed := by
  unfold conLL at h
  split at h
  · split at h
    · split at h
      · rename_i v w _ _ l m hr hw hl
        injection h with h
        obtain ⟨rfl, rfl⟩ := Prod.mk.inj h
        exact ⟨v, w, l, m, rfl, hr, hw, hl.1, hl.2, rfl, rfl⟩
      · cases h
    · cases h
  · cases h
theorem conL_call {α : Type} {C : Cod α} {f : List α → AV} (hf : ∀ l, (f l).ground = true) {v : AV} {l : List α} (h : read C s v = some l) (hl : l.length ≤ lim) (cl : Bool) : acall (conL C f) cl [v] s = some (f l, s) :=
  acall_rol (by simp only [conL, read_low, h, hl, if_true]) (hf l)
theorem conLL_call {α β : Type} {C : Cod α} {D : Cod β} {f : List α → List β → AV} (hf : ∀ l m, (f l m).ground = true) {v w : AV} {l : List α} {m : List β} (h : read C s v = some l) (k : read D s w = some m) (hl : l.length ≤ lim) (hm : m.length ≤ lim) (cl : Bool) :
    acall (conLL C D f) cl [v, w] s = some (f l m, s) :=
  acall_rol (by simp only [conLL, read_low, h, k, hl, hm, and_self, if_true]) (hf l m)
end Go.AM
end
/-
  The rules for stepping, in bundles (simp takes a conjunction apart). Own work of this project; printed by a program of it.
-/
section
namespace Go.AM
open Go

theorem bD0 : type_of% (And.intro @st_nil <|
  And.intro @st_mv <|
  And.intro @sg_mv <|
  And.intro @st_pick <|
  And.intro @sg_pick <|
  And.intro @st_build <|
  And.intro @sg_build <|
  And.intro @st_bin <|
  And.intro @sg_bin <|
  And.intro @st_un <|
  And.intro @sg_un <|
  @st_conv) :=
  And.intro @st_nil <|
  And.intro @st_mv <|
  And.intro @sg_mv <|
  And.intro @st_pick <|
  And.intro @sg_pick <|
  And.intro @st_build <|
  And.intro @sg_build <|
  And.intro @st_bin <|
  And.intro @sg_bin <|
  And.intro @st_un <|
  And.intro @sg_un <|
  @st_conv
theorem bD1 : type_of% (And.intro @sg_conv <|
  And.intro @st_mkfn <|
  And.intro @sg_mkfn <|
  And.intro @st_slc <|
  And.intro @sg_slc <|
  And.intro @st_slcs <|
  And.intro @sg_slcs <|
  And.intro @st_fad <|
  And.intro @sg_fad <|
  And.intro @st_fld <|
  And.intro @sg_fld <|
  @st_iad) :=
  And.intro @sg_conv <|
  And.intro @st_mkfn <|
  And.intro @sg_mkfn <|
  And.intro @st_slc <|
  And.intro @sg_slc <|
  And.intro @st_slcs <|
  And.intro @sg_slcs <|
  And.intro @st_fad <|
  And.intro @sg_fad <|
  And.intro @st_fld <|
  And.intro @sg_fld <|
  @st_iad
theorem bD2 : type_of% (And.intro @sg_iad <|
  And.intro @st_idxs <|
  And.intro @sg_idxs <|
  And.intro @st_ext <|
  And.intro @sg_ext <|
  And.intro @st_len <|
  And.intro @sg_len <|
  And.intro @st_lens <|
  And.intro @sg_lens <|
  And.intro @st_cap <|
  And.intro @sg_cap <|
  @st_mm) :=
  And.intro @sg_iad <|
  And.intro @st_idxs <|
  And.intro @sg_idxs <|
  And.intro @st_ext <|
  And.intro @sg_ext <|
  And.intro @st_len <|
  And.intro @sg_len <|
  And.intro @st_lens <|
  And.intro @sg_lens <|
  And.intro @st_cap <|
  And.intro @sg_cap <|
  @st_mm
theorem bD3 : type_of% (And.intro @sg_mm <|
  And.intro @st_nchk <|
  And.intro @sg_nchk <|
  And.intro @st_load1 <|
  And.intro @sg_load1 <|
  And.intro @st_loadn <|
  And.intro @sg_loadn <|
  And.intro @st_b2s <|
  And.intro @sg_b2s <|
  And.intro @st_look <|
  And.intro @sg_look <|
  @st_lenm) :=
  And.intro @sg_mm <|
  And.intro @st_nchk <|
  And.intro @sg_nchk <|
  And.intro @st_load1 <|
  And.intro @sg_load1 <|
  And.intro @st_loadn <|
  And.intro @sg_loadn <|
  And.intro @st_b2s <|
  And.intro @sg_b2s <|
  And.intro @st_look <|
  And.intro @sg_look <|
  @st_lenm
theorem bD4 : type_of% (And.intro @sg_lenm <|
  And.intro @st_ent <|
  And.intro @sg_ent <|
  And.intro @st_calld <|
  And.intro @sg_calld <|
  And.intro @st_callvd <|
  And.intro @sg_callvd <|
  And.intro @st_call <|
  And.intro @sg_call <|
  And.intro @st_callv <|
  And.intro @sg_callv <|
  @st_store) :=
  And.intro @sg_lenm <|
  And.intro @st_ent <|
  And.intro @sg_ent <|
  And.intro @st_calld <|
  And.intro @sg_calld <|
  And.intro @st_callvd <|
  And.intro @sg_callvd <|
  And.intro @st_call <|
  And.intro @sg_call <|
  And.intro @st_callv <|
  And.intro @sg_callv <|
  @st_store
theorem bD5 : type_of% (And.intro @st_storef <|
  And.intro @st_app <|
  And.intro @st_appz <|
  And.intro @st_copy <|
  And.intro @st_clr <|
  And.intro @st_mkmap <|
  And.intro @st_mset <|
  And.intro @st_mdel <|
  And.intro @st_rng <|
  And.intro @st_allo <|
  And.intro @st_allor <|
  @st_box) :=
  And.intro @st_storef <|
  And.intro @st_app <|
  And.intro @st_appz <|
  And.intro @st_copy <|
  And.intro @st_clr <|
  And.intro @st_mkmap <|
  And.intro @st_mset <|
  And.intro @st_mdel <|
  And.intro @st_rng <|
  And.intro @st_allo <|
  And.intro @st_allor <|
  @st_box
theorem bD6 : type_of% (And.intro @st_boxr <|
  And.intro @st_bsl <|
  And.intro @st_bslr <|
  And.intro @st_mksl <|
  And.intro @st_mkslr <|
  And.intro @wp_regd <|
  And.intro @wp_reg <|
  And.intro @wp_skip <|
  And.intro @wp_exit <|
  And.intro @wp_ret <|
  And.intro @wp_seq <|
  @wp_block) :=
  And.intro @st_boxr <|
  And.intro @st_bsl <|
  And.intro @st_bslr <|
  And.intro @st_mksl <|
  And.intro @st_mkslr <|
  And.intro @wp_regd <|
  And.intro @wp_reg <|
  And.intro @wp_skip <|
  And.intro @wp_exit <|
  And.intro @wp_ret <|
  And.intro @wp_seq <|
  @wp_block
theorem bU0 : type_of% (And.intro @E_pne <|
  And.intro @E_psame <|
  And.intro @elen_put <|
  And.intro @aev_t <|
  And.intro @aev_c <|
  And.intro @aev_f <|
  And.intro @pE_none <|
  And.intro @pstep_some <|
  And.intro @estep_some <|
  And.intro @gstep_tt <|
  And.intro @gstep_ff <|
  @gstep_tf) :=
  And.intro @E_pne <|
  And.intro @E_psame <|
  And.intro @elen_put <|
  And.intro @aev_t <|
  And.intro @aev_c <|
  And.intro @aev_f <|
  And.intro @pE_none <|
  And.intro @pstep_some <|
  And.intro @estep_some <|
  And.intro @gstep_tt <|
  And.intro @gstep_ff <|
  @gstep_tf
theorem bU1 : type_of% (And.intro @gstep_ft <|
  And.intro @gstep_und <|
  And.intro @astep_some <|
  And.intro @bstep_some <|
  And.intro @cstep_true <|
  And.intro @cstep_false <|
  And.intro @rstep_true <|
  And.intro @noNxt_nil <|
  And.intro @noNxt_cons <|
  And.intro @Bool.and_true <|
  And.intro @Bool.true_and <|
  @Bool.and_false) :=
  And.intro @gstep_ft <|
  And.intro @gstep_und <|
  And.intro @astep_some <|
  And.intro @bstep_some <|
  And.intro @cstep_true <|
  And.intro @cstep_false <|
  And.intro @rstep_true <|
  And.intro @noNxt_nil <|
  And.intro @noNxt_cons <|
  And.intro @Bool.and_true <|
  And.intro @Bool.true_and <|
  @Bool.and_false
theorem bU2 : type_of% (And.intro @Bool.false_and <|
  And.intro @Bool.or_true <|
  And.intro @Bool.true_or <|
  And.intro @Bool.or_false <|
  And.intro @Bool.false_or <|
  And.intro @Bool.and_eq_true <|
  And.intro @sel_true <|
  And.intro @sel_false <|
  And.intro @gP_bt <|
  And.intro @gP_bf <|
  And.intro @gP_st <|
  @gP_sf) :=
  And.intro @Bool.false_and <|
  And.intro @Bool.or_true <|
  And.intro @Bool.true_or <|
  And.intro @Bool.or_false <|
  And.intro @Bool.false_or <|
  And.intro @Bool.and_eq_true <|
  And.intro @sel_true <|
  And.intro @sel_false <|
  And.intro @gP_bt <|
  And.intro @gP_bf <|
  And.intro @gP_st <|
  @gP_sf
theorem bU3 : type_of% (And.intro @gP_und <|
  And.intro @gpure_bt <|
  And.intro @gpure_bf <|
  And.intro @gpure_st <|
  And.intro @gpure_sf <|
  And.intro @gpure_und <|
  And.intro @gpure_sft <|
  And.intro @gpure_stf <|
  And.intro @gcall_sft <|
  And.intro @gcall_stf <|
  And.intro @gpure_tf <|
  @gpure_ft) :=
  And.intro @gP_und <|
  And.intro @gpure_bt <|
  And.intro @gpure_bf <|
  And.intro @gpure_st <|
  And.intro @gpure_sf <|
  And.intro @gpure_und <|
  And.intro @gpure_sft <|
  And.intro @gpure_stf <|
  And.intro @gcall_sft <|
  And.intro @gcall_stf <|
  And.intro @gpure_tf <|
  @gpure_ft
theorem bU4 : type_of% (And.intro @gcall_bt <|
  And.intro @gcall_bf <|
  And.intro @gcall_st <|
  And.intro @gcall_sf <|
  And.intro @gcall_und <|
  And.intro @gcall_tf <|
  And.intro @gcall_ft <|
  And.intro @gcall_tt <|
  And.intro @gcall_ff <|
  And.intro @res1 <|
  And.intro @res2 <|
  @res0) :=
  And.intro @gcall_bt <|
  And.intro @gcall_bf <|
  And.intro @gcall_st <|
  And.intro @gcall_sf <|
  And.intro @gcall_und <|
  And.intro @gcall_tf <|
  And.intro @gcall_ft <|
  And.intro @gcall_tt <|
  And.intro @gcall_ff <|
  And.intro @res1 <|
  And.intro @res2 <|
  @res0
theorem bU5 : type_of% (And.intro @rc1 <|
  And.intro @rc2 <|
  And.intro @ar_loadn <|
  And.intro @ar_load1 <|
  And.intro @ae_store <|
  And.intro @ap_iad <|
  And.intro @ap_fad <|
  And.intro @fadV_ptr <|
  And.intro @ap_len <|
  And.intro @lenV_sl <|
  And.intro @lenV_nils <|
  @ap_pick) :=
  And.intro @rc1 <|
  And.intro @rc2 <|
  And.intro @ar_loadn <|
  And.intro @ar_load1 <|
  And.intro @ae_store <|
  And.intro @ap_iad <|
  And.intro @ap_fad <|
  And.intro @fadV_ptr <|
  And.intro @ap_len <|
  And.intro @lenV_sl <|
  And.intro @lenV_nils <|
  @ap_pick
theorem bU6 : type_of% (And.intro @pickV_t <|
  And.intro @pickV_f <|
  And.intro @pickV_or <|
  And.intro @pickV_ors <|
  And.intro @pickV_orn <|
  And.intro @ar_call <|
  And.intro @pickV_and <|
  And.intro @pickV_ands <|
  And.intro @ap_not <|
  And.intro @notV_bool <|
  And.intro @ap_ext <|
  @extV_0) :=
  And.intro @pickV_t <|
  And.intro @pickV_f <|
  And.intro @pickV_or <|
  And.intro @pickV_ors <|
  And.intro @pickV_orn <|
  And.intro @ar_call <|
  And.intro @pickV_and <|
  And.intro @pickV_ands <|
  And.intro @ap_not <|
  And.intro @notV_bool <|
  And.intro @ap_ext <|
  @extV_0
theorem bU7 : type_of% (And.intro @extV_1 <|
  And.intro @ap_build <|
  And.intro @fillP_nil <|
  And.intro @fillP_cons <|
  And.intro @aa_bsl1 <|
  And.intro @aa_box <|
  And.intro @boxV_dot <|
  And.intro @boxV_nd <|
  And.intro @fstep_nd <|
  And.intro @fstep_dot <|
  And.intro @push_put <|
  @reserve0) :=
  And.intro @extV_1 <|
  And.intro @ap_build <|
  And.intro @fillP_nil <|
  And.intro @fillP_cons <|
  And.intro @aa_bsl1 <|
  And.intro @aa_box <|
  And.intro @boxV_dot <|
  And.intro @boxV_nd <|
  And.intro @fstep_nd <|
  And.intro @fstep_dot <|
  And.intro @push_put <|
  @reserve0
theorem bU8 : type_of% (And.intro @reserve1_get <|
  And.intro @reserve1_get' <|
  And.intro @reserve1_born <|
  And.intro @reserve1_born' <|
  And.intro @sto_nd <|
  And.intro @sto_nd0 <|
  And.intro @lod_nd <|
  And.intro @lod_nd_dot <|
  And.intro @lod_nd_par <|
  And.intro @lod1_nd_t <|
  And.intro @lod1_nd_x <|
  @lod_dot) :=
  And.intro @reserve1_get <|
  And.intro @reserve1_get' <|
  And.intro @reserve1_born <|
  And.intro @reserve1_born' <|
  And.intro @sto_nd <|
  And.intro @sto_nd0 <|
  And.intro @lod_nd <|
  And.intro @lod_nd_dot <|
  And.intro @lod_nd_par <|
  And.intro @lod1_nd_t <|
  And.intro @lod1_nd_x <|
  @lod_dot
theorem bU9 : type_of% (And.intro @lod1_dot_r <|
  And.intro @lod1_dot_c <|
  And.intro @sto_push_lt <|
  And.intro @lod_reserve <|
  And.intro @lod1_reserve <|
  And.intro @sto_nd_x <|
  And.intro @sto_nd_t <|
  And.intro @lt_lowed <|
  And.intro @kt_refl <|
  And.intro @kt_push <|
  And.intro @kt_lowed <|
  @lod_push_lt) :=
  And.intro @lod1_dot_r <|
  And.intro @lod1_dot_c <|
  And.intro @sto_push_lt <|
  And.intro @lod_reserve <|
  And.intro @lod1_reserve <|
  And.intro @sto_nd_x <|
  And.intro @sto_nd_t <|
  And.intro @lt_lowed <|
  And.intro @kt_refl <|
  And.intro @kt_push <|
  And.intro @kt_lowed <|
  @lod_push_lt
theorem bU10 : type_of% (And.intro @lod1_push_lt <|
  And.intro @lod_lowed <|
  And.intro @lod1_lowed <|
  And.intro @lod_lowd <|
  And.intro @lod1_lowd <|
  And.intro @bin_lss <|
  And.intro @bin_leq <|
  And.intro @bin_gtr <|
  And.intro @bin_geq <|
  And.intro @bin_eql <|
  And.intro @bin_neq <|
  @bin_add) :=
  And.intro @lod1_push_lt <|
  And.intro @lod_lowed <|
  And.intro @lod1_lowed <|
  And.intro @lod_lowd <|
  And.intro @lod1_lowd <|
  And.intro @bin_lss <|
  And.intro @bin_leq <|
  And.intro @bin_gtr <|
  And.intro @bin_geq <|
  And.intro @bin_eql <|
  And.intro @bin_neq <|
  @bin_add
theorem bU11 : type_of% (And.intro @bin_sub <|
  And.intro @bin_eqb <|
  And.intro @bin_neb <|
  And.intro @bin_eqd <|
  And.intro @bin_neqd <|
  And.intro @bin_eqd0 <|
  And.intro @bin_neqd0 <|
  And.intro @bin_eqn <|
  And.intro @bin_neqn <|
  And.intro @Nat.add_zero <|
  And.intro @Nat.zero_add <|
  @Bool.not_true) :=
  And.intro @bin_sub <|
  And.intro @bin_eqb <|
  And.intro @bin_neb <|
  And.intro @bin_eqd <|
  And.intro @bin_neqd <|
  And.intro @bin_eqd0 <|
  And.intro @bin_neqd0 <|
  And.intro @bin_eqn <|
  And.intro @bin_neqn <|
  And.intro @Nat.add_zero <|
  And.intro @Nat.zero_add <|
  @Bool.not_true
theorem bU12 : type_of% (And.intro @Bool.not_eq_true' <|
  And.intro @Bool.not_eq_false' <|
  And.intro @Bool.not_false <|
  And.intro @Bool.not_not <|
  And.intro @not_false_eq_true <|
  And.intro @true_and <|
  And.intro @and_true <|
  And.intro @Nat.one_ne_zero <|
  And.intro @Nat.zero_ne_one <|
  And.intro @Nat.zero_mul <|
  And.intro @Nat.one_mul <|
  @lowed_next) :=
  And.intro @Bool.not_eq_true' <|
  And.intro @Bool.not_eq_false' <|
  And.intro @Bool.not_false <|
  And.intro @Bool.not_not <|
  And.intro @not_false_eq_true <|
  And.intro @true_and <|
  And.intro @and_true <|
  And.intro @Nat.one_ne_zero <|
  And.intro @Nat.zero_ne_one <|
  And.intro @Nat.zero_mul <|
  And.intro @Nat.one_mul <|
  @lowed_next
theorem bU13 : type_of% (And.intro @lt_push <|
  And.intro @lt_push_same <|
  And.intro @same_self <|
  And.intro @same_push <|
  And.intro @same_lowed <|
  And.intro @same_lowed' <|
  And.intro @decide_true <|
  @decide_false) :=
  And.intro @lt_push <|
  And.intro @lt_push_same <|
  And.intro @same_self <|
  And.intro @same_push <|
  And.intro @same_lowed <|
  And.intro @same_lowed' <|
  And.intro @decide_true <|
  @decide_false
theorem bD : type_of% (And.intro @bD0 <|
  And.intro @bD1 <|
  And.intro @bD2 <|
  And.intro @bD3 <|
  And.intro @bD4 <|
  And.intro @bD5 <|
  @bD6) :=
  And.intro @bD0 <|
  And.intro @bD1 <|
  And.intro @bD2 <|
  And.intro @bD3 <|
  And.intro @bD4 <|
  And.intro @bD5 <|
  @bD6
theorem bU : type_of% (And.intro @bU0 <|
  And.intro @bU1 <|
  And.intro @bU2 <|
  And.intro @bU3 <|
  And.intro @bU4 <|
  And.intro @bU5 <|
  And.intro @bU6 <|
  And.intro @bU7 <|
  And.intro @bU8 <|
  And.intro @bU9 <|
  And.intro @bU10 <|
  And.intro @bU11 <|
  And.intro @bU12 <|
  @bU13) :=
  And.intro @bU0 <|
  And.intro @bU1 <|
  And.intro @bU2 <|
  And.intro @bU3 <|
  And.intro @bU4 <|
  And.intro @bU5 <|
  And.intro @bU6 <|
  And.intro @bU7 <|
  And.intro @bU8 <|
  And.intro @bU9 <|
  And.intro @bU10 <|
  And.intro @bU11 <|
  And.intro @bU12 <|
  @bU13

theorem bS : type_of% (And.intro @List.all_cons.{0} <| And.intro @List.all_nil.{0} <| And.intro @Option.map_some.{0,0} <| And.intro @List.map_cons.{0,0} <| And.intro @List.map_nil.{0,0} <| @ne_eq.{1}) :=
  And.intro @List.all_cons.{0} <| And.intro @List.all_nil.{0} <| And.intro @Option.map_some.{0,0} <| And.intro @List.map_cons.{0,0} <| And.intro @List.map_nil.{0,0} <| @ne_eq.{1}
theorem bT : type_of% (And.intro @Int.ofNat_lt <| And.intro @Int.ofNat_le <| And.intro @exists_const.{1} <| And.intro @Option.map_none.{0,0} <| And.intro @beq_self_eq_true.{0} <| @decide_true) :=
  And.intro @Int.ofNat_lt <| And.intro @Int.ofNat_le <| And.intro @exists_const.{1} <| And.intro @Option.map_none.{0,0} <| And.intro @beq_self_eq_true.{0} <| @decide_true
theorem bN : type_of% (And.intro @ne_eq.{1} <| not_false_eq_true) :=
  And.intro @ne_eq.{1} <| not_false_eq_true
end Go.AM
end
/-
  The functions of this seat as the abstract machine runs them. Printed by a program of this project.
-/
section
set_option maxRecDepth 100000
namespace Go.AM
open Go

/- redpencil/redpencillaw16.DigestOf -/
def a3 : AFn := ⟨28, [.t 2],
  .seq (.reg [oO 2 (.mv (.c (.bool false)))])
 (.seq (.seq (.reg [oO 3 (.mv (.t 0)),
 oO 4 (.len .sl (.t 3)),
 oO 5 (.bin .gtr .no (.t 4) (.c (.int .i64 60)))])
 (.cond (.t 5) (.seq (.reg [oO 6 (.call 8 false []),
 oO 2 (.mv (.t 6))])
 (.ret))
 (.skip)))
 (.seq (.seq (.reg [oO 7 (.mv (.t 0)),
 oO 8 (.call 9 false [(.t 7)]),
 oO 9 (.un .not (.t 8))])
 (.cond (.t 9) (.seq (.reg [oO 10 (.mv (.t 0)),
 oO 11 (.build [.nils, .nils, .nils, .nils] []),
 oO 12 (.call 10 false [(.t 10), (.t 11), (.c (.int .i64 2))]),
 oO 13 (.mv (.t 12)),
 oG 14 (.call 8 false []) 13 true,
 oO 15 (.pick (.t 13) (.t 14) (.c (.bool false))),
 oO 2 (.mv (.t 15))])
 (.ret))
 (.skip)))
 (.seq (.reg [oO 16 (.mv (.t 0)),
 oO 17 (.mv (.t 0)),
 oO 18 (.call 11 false [(.t 17)]),
 oO 19 (.call 10 false [(.t 16), (.t 18), (.c (.int .i64 0))]),
 oO 20 (.mv (.t 19)),
 oG 21 (.mv (.t 0)) 20 true,
 oG 22 (.call 11 false [(.t 21)]) 20 true,
 oG 23 (.call 12 false [(.t 22)]) 20 true,
 oO 24 (.pick (.t 20) (.t 23) (.c (.bool false))),
 oO 25 (.mv (.t 24)),
 oG 26 (.call 8 false []) 25 true,
 oO 27 (.pick (.t 25) (.t 26) (.c (.bool false))),
 oO 2 (.mv (.t 27))])
 (.ret))))⟩

/- redpencil/redpencillaw16.DigestDiffs -/
def a4 : AFn := ⟨54, [.t 4],
  .seq (.reg [oO 3 (.box 4 (.t 1)),
 oO 4 (.mv (.c (.bool false)))])
 (.seq (.seq (.reg [oO 8 (.mv (.t 0)),
 oO 9 (.len .sl (.t 8)),
 oO 10 (.bin .gtr .no (.t 9) (.c (.int .i64 60))),
 oO 11 (.mv (.t 10)),
 oG 12 (.loadn 4 (.t 3)) 11 false,
 oG 13 (.call 13 false [(.t 12)]) 11 false,
 oG 14 (.un .not (.t 13)) 11 false,
 oO 15 (.pick (.t 11) (.c (.bool true)) (.t 14))])
 (.cond (.t 15) (.seq (.reg [oO 16 (.call 8 false []),
 oO 4 (.mv (.t 16))])
 (.ret))
 (.skip)))
 (.seq (.seq (.reg [oO 17 (.mv (.t 0)),
 oO 18 (.call 9 false [(.t 17)]),
 oO 19 (.un .not (.t 18)),
 oO 20 (.mv (.t 19)),
 oG 21 (.loadn 4 (.t 3)) 20 false,
 oG 22 (.call 14 false [(.t 21)]) 20 false,
 oG 23 (.un .not (.t 22)) 20 false,
 oO 24 (.pick (.t 20) (.c (.bool true)) (.t 23))])
 (.cond (.t 24) (.seq (.reg [oO 25 (.mv (.t 0)),
 oO 26 (.loadn 4 (.t 3)),
 oO 27 (.call 15 false [(.t 25), (.t 26), (.c .nils), (.c (.int .i64 2))]),
 oO 28 (.mv (.t 27)),
 oG 29 (.call 8 false []) 28 true,
 oO 30 (.pick (.t 28) (.t 29) (.c (.bool false))),
 oO 4 (.mv (.t 30))])
 (.ret))
 (.skip)))
 (.seq (.reg [oO 31 (.mv (.t 0)),
 oO 32 (.call 16 false [(.t 31)]),
 oO 5 (.mv (.t 32))])
 (.seq (.seq (.regd 0 [oO 33 (.mv (.t 0)),
 oO 34 (.loadn 4 (.t 3)),
 oO 35 (.mv (.t 0)),
 oO 36 (.loadn 4 (.t 3)),
 ⟨(some 37), .call 17 false [(.t 35), (.t 36)], none, none, true⟩,
 oO 38 (.call 15 false [(.t 33), (.t 34), (.t 37), (.c (.int .i64 0))]),
 oO 39 (.un .not (.t 38))])
 (.cond (.t 39) (.seq (.reg [oO 4 (.mv (.c (.bool false)))])
 (.ret))
 (.skip)))
 (.seq (.reg [oO 41 (.mv (.t 0)),
 oO 42 (.loadn 4 (.t 3)),
 oO 43 (.call 18 false [(.t 41), (.t 42)]),
 oO 40 (.mv (.t 43)),
 oO 44 (.ext (.t 40) 0),
 oO 45 (.ext (.t 40) 1),
 oO 6 (.mv (.t 44)),
 oO 7 (.mv (.t 45))])
 (.seq (.reg [oO 46 (.mv (.t 6)),
 oO 47 (.call 19 false [(.t 46)])])
 (.seq (.reg [oO 48 (.mv (.t 0)),
 oO 49 (.mv (.t 5)),
 oO 50 (.call 20 false [(.t 48), (.t 49)]),
 oO 51 (.mv (.t 50)),
 oG 52 (.call 8 false []) 51 true,
 oO 53 (.pick (.t 51) (.t 52) (.c (.bool false))),
 oO 4 (.mv (.t 53))])
 (.ret))))))))⟩

/- redpencil/redpencillaw16.DigestStates -/
def a5 : AFn := ⟨63, [.t 4],
  .seq (.reg [oO 4 (.mv (.c (.bool false)))])
 (.seq (.seq (.reg [oO 7 (.mv (.t 0)),
 oO 8 (.len .sl (.t 7)),
 oO 9 (.bin .gtr .no (.t 8) (.c (.int .i64 40))),
 oO 10 (.mv (.t 9)),
 oG 11 (.mv (.t 1)) 10 false,
 oG 12 (.len .sl (.t 11)) 10 false,
 oG 13 (.bin .gtr .no (.t 12) (.c (.int .i64 40))) 10 false,
 oO 14 (.pick (.t 10) (.c (.bool true)) (.t 13)),
 oO 15 (.mv (.t 14)),
 oG 16 (.mv (.t 0)) 15 false,
 oG 17 (.call 9 false [(.t 16)]) 15 false,
 oG 18 (.un .not (.t 17)) 15 false,
 oO 19 (.pick (.t 15) (.c (.bool true)) (.t 18)),
 oO 20 (.mv (.t 19)),
 oG 21 (.mv (.t 1)) 20 false,
 oG 22 (.call 9 false [(.t 21)]) 20 false,
 oG 23 (.un .not (.t 22)) 20 false,
 oO 24 (.pick (.t 20) (.c (.bool true)) (.t 23))])
 (.cond (.t 24) (.seq (.reg [oO 25 (.call 8 false []),
 oO 4 (.mv (.t 25))])
 (.ret))
 (.skip)))
 (.seq (.reg [oO 26 (.mv (.t 0)),
 oO 27 (.call 11 false [(.t 26)]),
 oO 28 (.mv (.t 1)),
 oO 29 (.call 11 false [(.t 28)]),
 oO 5 (.alloc [.nils, .nils, .nils, .nils]),
 oO 6 (.alloc [.nils, .nils, .nils, .nils]),
 ⟨none, .store 4 (.t 5) (.t 27), none, none, false⟩,
 ⟨none, .store 4 (.t 6) (.t 29), none, none, false⟩])
 (.seq (.regd 0 [oO 30 (.mv (.t 0)),
 oO 31 (.loadn 4 (.t 6)),
 oO 32 (.mv (.t 0)),
 oO 33 (.loadn 4 (.t 6)),
 ⟨(some 34), .call 17 false [(.t 32), (.t 33)], none, none, true⟩,
 oO 35 (.call 15 false [(.t 30), (.t 31), (.t 34), (.c (.int .i64 0))]),
 oO 36 (.mv (.t 35)),
 oG 37 (.mv (.t 1)) 36 true,
 oG 38 (.loadn 4 (.t 5)) 36 true,
 oG 39 (.mv (.t 1)) 36 true,
 oG 40 (.loadn 4 (.t 5)) 36 true,
 ⟨(some 41), .call 17 false [(.t 39), (.t 40)], (some (36, true)), none, true⟩,
 oG 42 (.call 15 false [(.t 37), (.t 38), (.t 41), (.c (.int .i64 0))]) 36 true,
 oO 43 (.pick (.t 36) (.t 42) (.c (.bool false))),
 oO 44 (.mv (.t 43)),
 oG 45 (.loadn 4 (.t 5)) 44 true,
 oG 46 (.loadn 4 (.t 6)) 44 true,
 oG 47 (.loadn 4 (.t 5)) 44 true,
 oG 48 (.loadn 4 (.t 6)) 44 true,
 oG 49 (.call 22 true [(.t 47), (.t 48)]) 44 true,
 oG 50 (.call 21 false [(.t 45), (.t 46), (.t 49), (.c (.int .i64 0))]) 44 true,
 oO 51 (.pick (.t 44) (.t 50) (.c (.bool false))),
 oO 52 (.mv (.t 51)),
 oG 53 (.loadn 4 (.t 5)) 52 true,
 oG 54 (.loadn 4 (.t 6)) 52 true,
 oG 55 (.loadn 4 (.t 5)) 52 true,
 oG 56 (.loadn 4 (.t 6)) 52 true,
 ⟨(some 57), .call 24 false [(.t 55), (.t 56)], (some (52, true)), none, true⟩,
 oG 58 (.call 23 false [(.t 53), (.t 54), (.t 57), (.c (.int .i64 0))]) 52 true,
 oO 59 (.pick (.t 52) (.t 58) (.c (.bool false))),
 oO 60 (.mv (.t 59)),
 oG 61 (.call 8 false []) 60 true,
 oO 62 (.pick (.t 60) (.t 61) (.c (.bool false))),
 oO 4 (.mv (.t 62))])
 (.ret))))⟩

/- redpencil/redpencillaw16.DigestLooks -/
def a6 : AFn := ⟨71, [.t 4],
  .seq (.reg [oO 2 (.box 4 (.t 0)),
 oO 3 (.box 4 (.t 1)),
 oO 4 (.mv (.c (.bool false)))])
 (.seq (.seq (.reg [oO 5 (.loadn 4 (.t 2)),
 oO 6 (.call 13 false [(.t 5)]),
 oO 7 (.un .not (.t 6)),
 oO 8 (.mv (.t 7)),
 oG 9 (.loadn 4 (.t 3)) 8 false,
 oG 10 (.call 13 false [(.t 9)]) 8 false,
 oG 11 (.un .not (.t 10)) 8 false,
 oO 12 (.pick (.t 8) (.c (.bool true)) (.t 11))])
 (.cond (.t 12) (.seq (.reg [oO 13 (.call 8 false []),
 oO 4 (.mv (.t 13))])
 (.ret))
 (.skip)))
 (.seq (.seq (.regd 0 [oO 14 (.loadn 4 (.t 2)),
 oO 15 (.call 12 true [(.t 14)]),
 oO 16 (.loadn 4 (.t 2)),
 oO 17 (.call 14 false [(.t 16)]),
 oO 18 (.bin .neq .bo (.t 15) (.t 17)),
 oO 19 (.mv (.t 18)),
 oG 20 (.loadn 4 (.t 2)) 19 false,
 oG 21 (.loadn 4 (.t 3)) 19 false,
 oG 22 (.call 25 true [(.t 20), (.t 21)]) 19 false,
 oG 23 (.loadn 4 (.t 2)) 19 false,
 oG 24 (.loadn 4 (.t 3)) 19 false,
 oG 25 (.call 26 false [(.t 23), (.t 24)]) 19 false,
 oG 26 (.bin .neq .bo (.t 22) (.t 25)) 19 false,
 oO 27 (.pick (.t 19) (.c (.bool true)) (.t 26)),
 oO 28 (.mv (.t 27)),
 oG 29 (.loadn 4 (.t 2)) 28 false,
 oG 30 (.loadn 4 (.t 2)) 28 false,
 oG 31 (.call 25 false [(.t 29), (.t 30)]) 28 false,
 oG 32 (.un .not (.t 31)) 28 false,
 oO 33 (.pick (.t 28) (.c (.bool true)) (.t 32))])
 (.cond (.t 33) (.seq (.reg [oO 4 (.mv (.c (.bool false)))])
 (.ret))
 (.skip)))
 (.seq (.seq (.reg [oO 34 (.loadn 4 (.t 2)),
 oO 35 (.call 14 false [(.t 34)]),
 oO 36 (.un .not (.t 35)),
 oO 37 (.mv (.t 36)),
 oG 38 (.loadn 4 (.t 3)) 37 false,
 oG 39 (.call 14 false [(.t 38)]) 37 false,
 oG 40 (.un .not (.t 39)) 37 false,
 oO 41 (.pick (.t 37) (.c (.bool true)) (.t 40))])
 (.cond (.t 41) (.seq (.reg [oO 42 (.loadn 4 (.t 2)),
 oO 43 (.loadn 4 (.t 3)),
 oO 44 (.build [.nils, .nils, .nils, .nils] []),
 oO 45 (.call 23 false [(.t 42), (.t 43), (.t 44), (.c (.int .i64 2))]),
 oO 46 (.mv (.t 45)),
 oG 47 (.loadn 4 (.t 2)) 46 true,
 oG 48 (.loadn 4 (.t 3)) 46 true,
 oG 49 (.call 21 false [(.t 47), (.t 48), (.c (.bool false)), (.c (.int .i64 2))]) 46 true,
 oO 50 (.pick (.t 46) (.t 49) (.c (.bool false))),
 oO 51 (.mv (.t 50)),
 oG 52 (.call 8 false []) 51 true,
 oO 53 (.pick (.t 51) (.t 52) (.c (.bool false))),
 oO 4 (.mv (.t 53))])
 (.ret))
 (.skip)))
 (.seq (.regd 0 [oO 54 (.loadn 4 (.t 2)),
 oO 55 (.loadn 4 (.t 3)),
 oO 56 (.loadn 4 (.t 2)),
 oO 57 (.loadn 4 (.t 3)),
 ⟨(some 58), .call 24 false [(.t 56), (.t 57)], none, none, true⟩,
 oO 59 (.call 23 false [(.t 54), (.t 55), (.t 58), (.c (.int .i64 0))]),
 oO 60 (.mv (.t 59)),
 oG 61 (.loadn 4 (.t 2)) 60 true,
 oG 62 (.loadn 4 (.t 3)) 60 true,
 oG 63 (.loadn 4 (.t 2)) 60 true,
 oG 64 (.loadn 4 (.t 3)) 60 true,
 oG 65 (.call 22 true [(.t 63), (.t 64)]) 60 true,
 oG 66 (.call 21 false [(.t 61), (.t 62), (.t 65), (.c (.int .i64 0))]) 60 true,
 oO 67 (.pick (.t 60) (.t 66) (.c (.bool false))),
 oO 68 (.mv (.t 67)),
 oG 69 (.call 8 false []) 68 true,
 oO 70 (.pick (.t 68) (.t 69) (.c (.bool false))),
 oO 4 (.mv (.t 70))])
 (.ret)))))⟩

/- redpencil/redpencillaw16.DigestHolds -/
def a7 : AFn := ⟨142, [.t 4],
  .seq (.reg [oO 4 (.mv (.c (.bool false)))])
 (.seq (.seq (.reg [oO 18 (.mv (.t 0)),
 oO 19 (.len .sl (.t 18)),
 oO 20 (.bin .gtr .no (.t 19) (.c (.int .i64 40))),
 oO 21 (.mv (.t 20)),
 oG 22 (.mv (.t 1)) 21 false,
 oG 23 (.len .sl (.t 22)) 21 false,
 oG 24 (.bin .gtr .no (.t 23) (.c (.int .i64 40))) 21 false,
 oO 25 (.pick (.t 21) (.c (.bool true)) (.t 24))])
 (.cond (.t 25) (.seq (.reg [oO 26 (.call 8 false []),
 oO 4 (.mv (.t 26))])
 (.ret))
 (.skip)))
 (.seq (.seq (.reg [oO 28 (.mv (.t 0)),
 oO 29 (.mv (.t 1)),
 oO 30 (.call 27 false [(.t 28), (.t 29)]),
 oO 27 (.mv (.t 30)),
 oO 31 (.ext (.t 27) 0),
 oO 32 (.ext (.t 27) 1),
 oO 5 (.mv (.t 31)),
 oO 6 (.mv (.t 32))])
 (.seq (.reg [oO 33 (.mv (.t 5)),
 oO 34 (.un .not (.t 33)),
 oO 35 (.mv (.t 34)),
 oG 36 (.mv (.t 6)) 35 false,
 oG 37 (.bin .neq .no (.t 36) (.c (.int .i64 0))) 35 false,
 oO 38 (.pick (.t 35) (.c (.bool true)) (.t 37))])
 (.cond (.t 38) (.seq (.reg [oO 39 (.call 8 false []),
 oO 4 (.mv (.t 39))])
 (.ret))
 (.skip))))
 (.seq (.reg [oO 41 (.mv (.t 0)),
 oO 42 (.call 28 false [(.t 41)]),
 oO 40 (.mv (.t 42)),
 oO 43 (.ext (.t 40) 0),
 oO 44 (.ext (.t 40) 1),
 oO 7 (.alloc [.nils, .nils, .nils, .nils]),
 ⟨none, .store 4 (.t 7) (.t 43), none, none, false⟩,
 oO 8 (.mv (.t 44))])
 (.seq (.reg [oO 46 (.mv (.t 1)),
 oO 47 (.call 28 false [(.t 46)]),
 oO 45 (.mv (.t 47)),
 oO 48 (.ext (.t 45) 0),
 oO 49 (.ext (.t 45) 1),
 oO 9 (.alloc [.nils, .nils, .nils, .nils]),
 ⟨none, .store 4 (.t 9) (.t 48), none, none, false⟩,
 oO 10 (.mv (.t 49))])
 (.seq (.reg [oO 51 (.mv (.t 0)),
 oO 52 (.loadn 4 (.t 9)),
 oO 53 (.call 18 false [(.t 51), (.t 52)]),
 oO 50 (.mv (.t 53)),
 oO 54 (.ext (.t 50) 0),
 oO 55 (.ext (.t 50) 1),
 oO 11 (.mv (.t 54)),
 oO 12 (.mv (.t 55))])
 (.seq (.seq (.reg [oO 56 (.mv (.t 8)),
 oO 57 (.bin .neq .no (.t 56) (.c (.int .i64 0))),
 oO 58 (.mv (.t 57)),
 oG 59 (.mv (.t 10)) 58 false,
 oG 60 (.bin .neq .no (.t 59) (.c (.int .i64 0))) 58 false,
 oO 61 (.pick (.t 58) (.c (.bool true)) (.t 60)),
 oO 62 (.mv (.t 61)),
 oG 63 (.mv (.t 12)) 62 false,
 oG 64 (.bin .neq .no (.t 63) (.c (.int .i64 0))) 62 false,
 oO 65 (.pick (.t 62) (.c (.bool true)) (.t 64)),
 oO 66 (.mv (.t 65)),
 oG 67 (.mv (.t 0)) 66 false,
 oG 68 (.loadn 4 (.t 7)) 66 false,
 oG 69 (.call 15 false [(.t 67), (.t 68), (.c .nils), (.c (.int .i64 0))]) 66 false,
 oG 70 (.un .not (.t 69)) 66 false,
 oO 71 (.pick (.t 66) (.c (.bool true)) (.t 70))])
 (.cond (.t 71) (.seq (.reg [oO 4 (.mv (.c (.bool false)))])
 (.ret))
 (.skip)))
 (.seq (.reg [oO 73 (.mv (.t 0)),
 oO 74 (.mv (.t 1)),
 oO 75 (.call 29 false [(.t 73), (.t 74)]),
 oO 72 (.mv (.t 75)),
 oO 76 (.ext (.t 72) 0),
 oO 77 (.ext (.t 72) 1),
 oO 13 (.mv (.t 76)),
 oO 8 (.mv (.t 77))])
 (.seq (.reg [oO 79 (.mv (.t 1)),
 oO 80 (.mv (.t 11)),
 oO 81 (.call 29 false [(.t 79), (.t 80)]),
 oO 78 (.mv (.t 81)),
 oO 82 (.ext (.t 78) 0),
 oO 83 (.ext (.t 78) 1),
 oO 14 (.mv (.t 82)),
 oO 10 (.mv (.t 83))])
 (.seq (.reg [oO 85 (.mv (.t 11)),
 oO 86 (.mv (.t 0)),
 oO 87 (.call 30 false [(.t 85), (.t 86)]),
 oO 84 (.mv (.t 87)),
 oO 88 (.ext (.t 84) 0),
 oO 89 (.ext (.t 84) 1),
 oO 15 (.mv (.t 88)),
 oO 12 (.mv (.t 89))])
 (.seq (.seq (.reg [oO 90 (.mv (.t 8)),
 oO 91 (.bin .neq .no (.t 90) (.c (.int .i64 0))),
 oO 92 (.mv (.t 91)),
 oG 93 (.mv (.t 10)) 92 false,
 oG 94 (.bin .neq .no (.t 93) (.c (.int .i64 0))) 92 false,
 oO 95 (.pick (.t 92) (.c (.bool true)) (.t 94)),
 oO 96 (.mv (.t 95)),
 oG 97 (.mv (.t 12)) 96 false,
 oG 98 (.bin .neq .no (.t 97) (.c (.int .i64 0))) 96 false,
 oO 99 (.pick (.t 96) (.c (.bool true)) (.t 98)),
 oO 100 (.mv (.t 99)),
 oG 101 (.mv (.t 13)) 100 false,
 oG 102 (.mv (.t 14)) 100 false,
 oG 103 (.call 20 false [(.t 101), (.t 102)]) 100 false,
 oG 104 (.un .not (.t 103)) 100 false,
 oO 105 (.pick (.t 100) (.c (.bool true)) (.t 104)),
 oO 106 (.mv (.t 105)),
 oG 107 (.mv (.t 15)) 106 false,
 oG 108 (.un .not (.t 107)) 106 false,
 oO 109 (.pick (.t 106) (.c (.bool true)) (.t 108))])
 (.cond (.t 109) (.seq (.reg [oO 4 (.mv (.c (.bool false)))])
 (.ret))
 (.skip)))
 (.seq (.reg [oO 111 (.mv (.t 13)),
 oO 112 (.call 28 false [(.t 111)]),
 oO 110 (.mv (.t 112)),
 oO 113 (.ext (.t 110) 0),
 oO 114 (.ext (.t 110) 1),
 oO 16 (.alloc [.nils, .nils, .nils, .nils]),
 ⟨none, .store 4 (.t 16) (.t 113), none, none, false⟩,
 oO 8 (.mv (.t 114))])
 (.seq (.reg [oO 116 (.mv (.t 0)),
 oO 117 (.mv (.t 1)),
 oO 118 (.call 30 false [(.t 116), (.t 117)]),
 oO 115 (.mv (.t 118)),
 oO 119 (.ext (.t 115) 0),
 oO 120 (.ext (.t 115) 1),
 oO 17 (.mv (.t 119)),
 oO 10 (.mv (.t 120))])
 (.seq (.reg [oO 121 (.mv (.t 8)),
 oO 122 (.bin .eql .no (.t 121) (.c (.int .i64 0))),
 oO 123 (.mv (.t 122)),
 oG 124 (.mv (.t 10)) 123 true,
 oG 125 (.bin .eql .no (.t 124) (.c (.int .i64 0))) 123 true,
 oO 126 (.pick (.t 123) (.t 125) (.c (.bool false))),
 oO 127 (.mv (.t 126)),
 oG 128 (.loadn 4 (.t 7)) 127 true,
 oG 129 (.loadn 4 (.t 9)) 127 true,
 oG 130 (.loadn 4 (.t 16)) 127 true,
 oG 131 (.call 23 false [(.t 128), (.t 129), (.t 130), (.c (.int .i64 0))]) 127 true,
 oO 132 (.pick (.t 127) (.t 131) (.c (.bool false))),
 oO 133 (.mv (.t 132)),
 oG 134 (.loadn 4 (.t 7)) 133 true,
 oG 135 (.loadn 4 (.t 9)) 133 true,
 oG 136 (.mv (.t 17)) 133 true,
 oG 137 (.call 21 false [(.t 134), (.t 135), (.t 136), (.c (.int .i64 0))]) 133 true,
 oO 138 (.pick (.t 133) (.t 137) (.c (.bool false))),
 oO 139 (.mv (.t 138)),
 oG 140 (.call 8 false []) 139 true,
 oO 141 (.pick (.t 139) (.t 140) (.c (.bool false))),
 oO 4 (.mv (.t 141))])
 (.ret))))))))))))))⟩

/- redpencil/redpencillaw16.known -/
def a8 : AFn := ⟨133, [.t 0],
  .seq (.reg [oO 0 (.mv (.c (.bool false)))])
 (.seq (.reg [oO 11 (.call 31 false [(.c (.int .i64 1)), (.c (.int .i64 1))]),
 oO 12 (.build [(.int .i64 0), (.int .i64 0), (.int .i64 0), (.int .i64 0), (.int .i64 0), (.int .i32 0)] [(0, 2, (.t 11)), (4, 1, (.c (.int .i64 1))), (5, 1, (.c (.int .i32 97)))]),
 oO 1 (.alloc [(.int .i64 0), (.int .i64 0), (.int .i64 0), (.int .i64 0), (.int .i64 0), (.int .i32 0)]),
 ⟨none, .store 6 (.t 1) (.t 12), none, none, false⟩])
 (.seq (.reg [oO 13 (.call 31 false [(.c (.int .i64 2)), (.c (.int .i64 1))]),
 oO 14 (.call 31 false [(.c (.int .i64 1)), (.c (.int .i64 1))]),
 oO 15 (.build [(.int .i64 0), (.int .i64 0), (.int .i64 0), (.int .i64 0), (.int .i64 0), (.int .i32 0)] [(0, 2, (.t 13)), (2, 2, (.t 14)), (4, 1, (.c (.int .i64 2)))]),
 oO 2 (.alloc [(.int .i64 0), (.int .i64 0), (.int .i64 0), (.int .i64 0), (.int .i64 0), (.int .i32 0)]),
 ⟨none, .store 6 (.t 2) (.t 15), none, none, false⟩])
 (.seq (.reg [oO 16 (.call 31 false [(.c (.int .i64 1)), (.c (.int .i64 3))]),
 oO 17 (.call 31 false [(.c (.int .i64 1)), (.c (.int .i64 1))]),
 oO 18 (.build [(.int .i64 0), (.int .i64 0), (.int .i64 0), (.int .i64 0), (.int .i64 0), (.int .i32 0)] [(0, 2, (.t 16)), (2, 2, (.t 17)), (4, 1, (.c (.int .i64 3))), (5, 1, (.c (.int .i32 99)))]),
 oO 3 (.alloc [(.int .i64 0), (.int .i64 0), (.int .i64 0), (.int .i64 0), (.int .i64 0), (.int .i32 0)]),
 ⟨none, .store 6 (.t 3) (.t 18), none, none, false⟩])
 (.seq (.reg [oO 19 (.loadn 6 (.t 1)),
 oO 20 (.loadn 6 (.t 2)),
 oO 21 (.loadn 6 (.t 3)),
 oO 22 (.bsl [(.int .i64 0), (.int .i64 0), (.int .i64 0), (.int .i64 0), (.int .i64 0), (.int .i32 0), (.int .i64 0), (.int .i64 0), (.int .i64 0), (.int .i64 0), (.int .i64 0), (.int .i32 0), (.int .i64 0), (.int .i64 0), (.int .i64 0), (.int .i64 0), (.int .i64 0), (.int .i32 0)] 3 6 [(0, (.t 19)), (1, (.t 20)), (2, (.t 21))]),
 oO 4 (.mv (.t 22))])
 (.seq (.reg [oO 23 (.call 31 false [(.c (.int .i64 1)), (.c (.int .i64 1))]),
 oO 24 (.call 31 false [(.c (.int .i64 2)), (.c (.int .i64 1))]),
 oO 25 (.bsl [(.int .i64 0), (.int .i64 0), (.int .i64 0), (.int .i64 0)] 2 2 [(0, (.t 23)), (1, (.t 24))]),
 oO 26 (.call 31 false [(.c (.int .i64 1)), (.c (.int .i64 3))]),
 oO 27 (.bsl [(.int .i64 0), (.int .i64 0)] 1 2 [(0, (.t 26))]),
 oO 28 (.build [.nils, .nils] [(0, 1, (.t 25)), (1, 1, (.t 27))]),
 oO 29 (.call 31 false [(.c (.int .i64 2)), (.c (.int .i64 1))]),
 oO 30 (.bsl [(.int .i64 0), (.int .i64 0)] 1 2 [(0, (.t 29))]),
 oO 31 (.build [.nils, .nils] [(0, 1, (.t 30))]),
 oO 32 (.build [.nils, .nils, .nils, .nils] [(0, 2, (.t 28)), (2, 2, (.t 31))]),
 oO 5 (.alloc [.nils, .nils, .nils, .nils]),
 ⟨none, .store 4 (.t 5) (.t 32), none, none, false⟩])
 (.seq (.seq (.reg [oO 33 (.mv (.t 4)),
 oO 34 (.loadn 4 (.t 5)),
 oO 35 (.call 10 false [(.t 33), (.t 34), (.c (.int .i64 0))]),
 oO 36 (.un .not (.t 35)),
 oO 37 (.mv (.t 36)),
 oG 38 (.mv (.t 4)) 37 false,
 oG 39 (.loadn 4 (.t 5)) 37 false,
 oG 40 (.call 15 false [(.t 38), (.t 39), (.c .nils), (.c (.int .i64 0))]) 37 false,
 oG 41 (.un .not (.t 40)) 37 false,
 oO 42 (.pick (.t 37) (.c (.bool true)) (.t 41)),
 oO 43 (.mv (.t 42)),
 oG 44 (.mv (.t 4)) 43 false,
 oG 45 (.build [.nils, .nils, .nils, .nils] []) 43 false,
 oG 46 (.mv (.t 4)) 43 false,
 oG 47 (.call 15 false [(.t 44), (.t 45), (.t 46), (.c (.int .i64 0))]) 43 false,
 oG 48 (.un .not (.t 47)) 43 false,
 oO 49 (.pick (.t 43) (.c (.bool true)) (.t 48))])
 (.cond (.t 49) (.seq (.reg [oO 0 (.mv (.c (.bool false)))])
 (.ret))
 (.skip)))
 (.seq (.reg [oO 50 (.call 31 false [(.c (.int .i64 1)), (.c (.int .i64 1))]),
 oO 51 (.bsl [(.int .i64 0), (.int .i64 0)] 1 2 [(0, (.t 50))]),
 oO 52 (.build [.nils, .nils] [(0, 1, (.t 51))]),
 oO 6 (.alloc [.nils, .nils]),
 ⟨none, .store 2 (.t 6) (.t 52), none, none, false⟩])
 (.seq (.reg [oO 53 (.call 31 false [(.c (.int .i64 1)), (.c (.int .i64 1))]),
 oO 54 (.call 31 false [(.c (.int .i64 2)), (.c (.int .i64 1))]),
 oO 55 (.bsl [(.int .i64 0), (.int .i64 0), (.int .i64 0), (.int .i64 0)] 2 2 [(0, (.t 53)), (1, (.t 54))]),
 oO 56 (.build [.nils, .nils] [(0, 1, (.t 55))]),
 oO 57 (.build [.nils, .nils, .nils, .nils] [(0, 2, (.t 56))]),
 oO 7 (.alloc [.nils, .nils, .nils, .nils]),
 ⟨none, .store 4 (.t 7) (.t 57), none, none, false⟩])
 (.seq (.reg [oO 58 (.call 31 false [(.c (.int .i64 1)), (.c (.int .i64 1))]),
 oO 59 (.bsl [(.int .i64 0), (.int .i64 0)] 1 2 [(0, (.t 58))]),
 oO 60 (.call 31 false [(.c (.int .i64 1)), (.c (.int .i64 3))]),
 oO 61 (.bsl [(.int .i64 0), (.int .i64 0)] 1 2 [(0, (.t 60))]),
 oO 62 (.build [.nils, .nils] [(0, 1, (.t 59)), (1, 1, (.t 61))]),
 oO 63 (.build [.nils, .nils, .nils, .nils] [(0, 2, (.t 62))]),
 oO 8 (.alloc [.nils, .nils, .nils, .nils]),
 ⟨none, .store 4 (.t 8) (.t 63), none, none, false⟩])
 (.seq (.reg [oO 64 (.call 31 false [(.c (.int .i64 1)), (.c (.int .i64 3))]),
 oO 65 (.call 31 false [(.c (.int .i64 2)), (.c (.int .i64 1))]),
 oO 66 (.bsl [(.int .i64 0), (.int .i64 0), (.int .i64 0), (.int .i64 0)] 2 2 [(0, (.t 64)), (1, (.t 65))]),
 oO 67 (.build [.nils, .nils] [(0, 1, (.t 66))]),
 oO 68 (.call 31 false [(.c (.int .i64 1)), (.c (.int .i64 3))]),
 oO 69 (.bsl [(.int .i64 0), (.int .i64 0)] 1 2 [(0, (.t 68))]),
 oO 70 (.build [.nils, .nils] [(0, 1, (.t 69))]),
 oO 71 (.build [.nils, .nils, .nils, .nils] [(0, 2, (.t 67)), (2, 2, (.t 70))]),
 oO 9 (.alloc [.nils, .nils, .nils, .nils]),
 ⟨none, .store 4 (.t 9) (.t 71), none, none, false⟩])
 (.seq (.seq (.reg [oO 72 (.mv (.t 4)),
 oO 73 (.loadn 4 (.t 7)),
 oO 74 (.loadn 6 (.t 2)),
 oO 75 (.loadn 6 (.t 3)),
 oO 76 (.bsl [(.int .i64 0), (.int .i64 0), (.int .i64 0), (.int .i64 0), (.int .i64 0), (.int .i32 0), (.int .i64 0), (.int .i64 0), (.int .i64 0), (.int .i64 0), (.int .i64 0), (.int .i32 0)] 2 6 [(0, (.t 74)), (1, (.t 75))]),
 oO 77 (.call 15 false [(.t 72), (.t 73), (.t 76), (.c (.int .i64 0))]),
 oO 78 (.un .not (.t 77)),
 oO 79 (.mv (.t 78)),
 oG 80 (.mv (.t 4)) 79 false,
 oG 81 (.loadn 4 (.t 8)) 79 false,
 oG 82 (.loadn 6 (.t 2)) 79 false,
 oG 83 (.bsl [(.int .i64 0), (.int .i64 0), (.int .i64 0), (.int .i64 0), (.int .i64 0), (.int .i32 0)] 1 6 [(0, (.t 82))]) 79 false,
 oG 84 (.call 15 false [(.t 80), (.t 81), (.t 83), (.c (.int .i64 0))]) 79 false,
 oG 85 (.un .not (.t 84)) 79 false,
 oO 86 (.pick (.t 79) (.c (.bool true)) (.t 85)),
 oO 87 (.mv (.t 86)),
 oG 88 (.mv (.t 4)) 87 false,
 oG 89 (.loadn 4 (.t 9)) 87 false,
 oG 90 (.loadn 6 (.t 2)) 87 false,
 oG 91 (.bsl [(.int .i64 0), (.int .i64 0), (.int .i64 0), (.int .i64 0), (.int .i64 0), (.int .i32 0)] 1 6 [(0, (.t 90))]) 87 false,
 oG 92 (.call 15 false [(.t 88), (.t 89), (.t 91), (.c (.int .i64 0))]) 87 false,
 oG 93 (.un .not (.t 92)) 87 false,
 oO 94 (.pick (.t 87) (.c (.bool true)) (.t 93))])
 (.cond (.t 94) (.seq (.reg [oO 0 (.mv (.c (.bool false)))])
 (.ret))
 (.skip)))
 (.seq (.reg [oO 95 (.call 31 false [(.c (.int .i64 1)), (.c (.int .i64 2))]),
 oO 96 (.bsl [(.int .i64 0), (.int .i64 0)] 1 2 [(0, (.t 95))]),
 oO 97 (.build [.nils, .nils] [(1, 1, (.t 96))]),
 oO 10 (.alloc [.nils, .nils]),
 ⟨none, .store 2 (.t 10) (.t 97), none, none, false⟩])
 (.seq (.regd 4 [oO 98 (.call 31 false [(.c (.int .i64 1)), (.c (.int .i64 1))]),
 ⟨(some 99), .bsl [(.int .i64 0), (.int .i64 0)] 1 2 [(0, (.t 98))], none, (some 0), false⟩,
 oO 100 (.call 31 false [(.c (.int .i64 1)), (.c (.int .i64 2))]),
 ⟨(some 101), .bsl [(.int .i64 0), (.int .i64 0)] 1 2 [(0, (.t 100))], none, (some 1), false⟩,
 oO 102 (.build [.nils, .nils] [(0, 1, (.t 99)), (1, 1, (.t 101))]),
 oO 103 (.build [.nils, .nils, .nils, .nils] [(0, 2, (.t 102))]),
 oO 104 (.call 12 false [(.t 103)]),
 oO 105 (.un .not (.t 104)),
 oO 106 (.mv (.t 105)),
 oG 107 (.loadn 2 (.t 6)) 106 true,
 oG 108 (.call 31 true [(.c (.int .i64 2)), (.c (.int .i64 1))]) 106 true,
 ⟨(some 109), .bsl [(.int .i64 0), (.int .i64 0)] 1 2 [(0, (.t 108))], (some (106, true)), (some 2), false⟩,
 oG 110 (.build [.nils, .nils] [(0, 1, (.t 109))]) 106 true,
 oG 111 (.build [.nils, .nils, .nils, .nils] [(0, 2, (.t 107)), (2, 2, (.t 110))]) 106 true,
 oG 112 (.call 12 false [(.t 111)]) 106 true,
 oG 113 (.un .not (.t 112)) 106 true,
 oO 114 (.pick (.t 106) (.t 113) (.c (.bool false))),
 oO 115 (.mv (.t 114)),
 oG 116 (.build [.nils, .nils, .nils, .nils] []) 115 true,
 oG 117 (.loadn 4 (.t 5)) 115 true,
 oG 118 (.call 21 false [(.t 116), (.t 117), (.c (.bool true)), (.c (.int .i64 0))]) 115 true,
 oO 119 (.pick (.t 115) (.t 118) (.c (.bool false))),
 oO 120 (.mv (.t 119)),
 oG 121 (.loadn 2 (.t 6)) 120 true,
 oG 122 (.build [.nils, .nils, .nils, .nils] [(0, 2, (.t 121))]) 120 true,
 oG 123 (.loadn 2 (.t 10)) 120 true,
 oG 124 (.loadn 2 (.t 10)) 120 true,
 oG 125 (.build [.nils, .nils, .nils, .nils] [(0, 2, (.t 123)), (2, 2, (.t 124))]) 120 true,
 oG 126 (.call 31 true [(.c (.int .i64 1)), (.c (.int .i64 2))]) 120 true,
 ⟨(some 127), .bsl [(.int .i64 0), (.int .i64 0)] 1 2 [(0, (.t 126))], (some (120, true)), (some 3), false⟩,
 oG 128 (.build [.nils, .nils] [(0, 1, (.t 127))]) 120 true,
 oG 129 (.loadn 2 (.t 10)) 120 true,
 oG 130 (.build [.nils, .nils, .nils, .nils] [(0, 2, (.t 128)), (2, 2, (.t 129))]) 120 true,
 oG 131 (.call 23 false [(.t 122), (.t 125), (.t 130), (.c (.int .i64 0))]) 120 true,
 oO 132 (.pick (.t 120) (.t 131) (.c (.bool false))),
 oO 0 (.mv (.t 132))])
 (.ret))))))))))))))⟩

/- redpencil/redpencilref14.Store -/
def a9 : AFn := ⟨35, [.t 2],
  .seq (.reg [oO 2 (.mv (.c (.bool false)))])
 (.seq (.seq (.reg [oO 3 (.mv (.c (.int .i64 0)))])
 (.block 0 (.loop (.seq (.seq (.reg [oO 4 (.mv (.t 3)),
 oO 5 (.mv (.t 0)),
 oO 6 (.len .sl (.t 5)),
 oO 7 (.bin .lss .no (.t 4) (.t 6))])
 (.cond (.t 7) (.skip)
 (.exit 0)))
 (.seq (.block 1 (.seq (.regd 0 [oO 10 (.mv (.t 0)),
 oO 11 (.mv (.t 3)),
 oO 12 (.iad 6 (.t 10) (.t 11)),
 oO 13 (.loadn 6 (.t 12)),
 oO 14 (.call 32 false [(.t 13)]),
 oO 15 (.un .not (.t 14)),
 oO 16 (.mv (.t 15)),
 oG 17 (.mv (.t 3)) 16 false,
 oG 18 (.bin .gtr .no (.t 17) (.c (.int .i64 0))) 16 false,
 oG 19 (.mv (.t 18)) 16 false,
 oG 20 (.mv (.t 0)) 19 true,
 oG 21 (.mv (.t 3)) 19 true,
 oG 22 (.bin .sub .no (.t 21) (.c (.int .i64 1))) 19 true,
 oG 23 (.iad 6 (.t 20) (.t 22)) 19 true,
 oG 24 (.fad 0 (.t 23)) 19 true,
 oG 25 (.loadn 2 (.t 24)) 19 true,
 oG 26 (.mv (.t 0)) 19 true,
 oG 27 (.mv (.t 3)) 19 true,
 oG 28 (.iad 6 (.t 26) (.t 27)) 19 true,
 oG 29 (.fad 0 (.t 28)) 19 true,
 oG 30 (.loadn 2 (.t 29)) 19 true,
 oG 31 (.call 33 false [(.t 25), (.t 30)]) 19 true,
 oG 32 (.un .not (.t 31)) 19 true,
 oG 33 (.pick (.t 19) (.t 32) (.c (.bool false))) 16 false,
 oO 34 (.pick (.t 16) (.c (.bool true)) (.t 33))])
 (.cond (.t 34) (.seq (.reg [oO 2 (.mv (.c (.bool false)))])
 (.ret))
 (.skip))))
 (.reg [oO 8 (.mv (.t 3)),
 oO 9 (.bin .add .no (.t 8) (.c (.int .i64 1))),
 oO 3 (.mv (.t 9))]))))))
 (.seq (.reg [oO 2 (.mv (.c (.bool true)))])
 (.ret)))⟩

/- redpencil/redpencillaw16.ofs -/
def a10 : AFn := ⟨22, [.t 6],
  .seq (.reg [oO 4 (.box 4 (.t 1)),
 oO 6 (.mv (.c (.bool false)))])
 (.seq (.reg [oO 10 (.mv (.t 0)),
 oO 11 (.call 28 false [(.t 10)]),
 oO 9 (.mv (.t 11)),
 oO 12 (.ext (.t 9) 0),
 oO 13 (.ext (.t 9) 1),
 oO 7 (.alloc [.nils, .nils, .nils, .nils]),
 ⟨none, .store 4 (.t 7) (.t 12), none, none, false⟩,
 oO 8 (.mv (.t 13))])
 (.seq (.reg [oO 14 (.loadn 4 (.t 7)),
 oO 15 (.loadn 4 (.t 4)),
 oO 16 (.call 26 false [(.t 14), (.t 15)]),
 oO 17 (.mv (.t 16)),
 oG 18 (.mv (.t 8)) 17 true,
 oG 19 (.mv (.t 2)) 17 true,
 oG 20 (.bin .eql .no (.t 18) (.t 19)) 17 true,
 oO 21 (.pick (.t 17) (.t 20) (.c (.bool false))),
 oO 6 (.mv (.t 21))])
 (.ret)))⟩

/- redpencil/redpencilref16.Of -/
def a11 : AFn := ⟨10, [.celln 2 4],
  .seq (.reg [oO 2 (.alloc [.nils, .nils, .nils, .nils])])
 (.seq (.reg [oO 3 (.mv (.t 0)),
 oO 4 (.call 35 false [(.t 3), (.c (.bool false))]),
 oO 5 (.call 34 false [(.t 4)]),
 oO 6 (.mv (.t 0)),
 oO 7 (.call 35 false [(.t 6), (.c (.bool true))]),
 oO 8 (.call 34 false [(.t 7)]),
 oO 9 (.build [.nils, .nils, .nils, .nils] [(0, 2, (.t 5)), (2, 2, (.t 8))]),
 ⟨none, .store 4 (.t 2) (.t 9), none, none, false⟩])
 (.ret))⟩

/- redpencil/digest.Valid -/
def a12 : AFn := ⟨28, [.t 2],
  .seq (.reg [oO 1 (.box 4 (.t 0)),
 oO 2 (.mv (.c (.bool false)))])
 (.seq (.reg [oO 6 (.fad 2 (.t 1)),
 oO 7 (.loadn 2 (.t 6)),
 oO 8 (.fad 0 (.t 1)),
 oO 9 (.loadn 2 (.t 8)),
 oO 10 (.call 36 false [(.t 7), (.t 9)]),
 oO 5 (.mv (.t 10)),
 oO 11 (.ext (.t 5) 0),
 oO 12 (.ext (.t 5) 1),
 oO 3 (.mv (.t 11)),
 oO 4 (.mv (.t 12))])
 (.seq (.reg [oO 13 (.fad 0 (.t 1)),
 oO 14 (.loadn 2 (.t 13)),
 oO 15 (.call 37 false [(.t 14)]),
 oO 16 (.mv (.t 15)),
 oG 17 (.fad 2 (.t 1)) 16 true,
 oG 18 (.loadn 2 (.t 17)) 16 true,
 oG 19 (.call 37 false [(.t 18)]) 16 true,
 oO 20 (.pick (.t 16) (.t 19) (.c (.bool false))),
 oO 21 (.mv (.t 20)),
 oG 22 (.mv (.t 4)) 21 true,
 oG 23 (.bin .eql .no (.t 22) (.c (.int .i64 0))) 21 true,
 oO 24 (.pick (.t 21) (.t 23) (.c (.bool false))),
 oO 25 (.mv (.t 24)),
 oG 26 (.mv (.t 3)) 25 true,
 oO 27 (.pick (.t 25) (.t 26) (.c (.bool false))),
 oO 2 (.mv (.t 27))])
 (.ret)))⟩

/- redpencil/redpencilref16.Small -/
/- redpencil/redpencilref16.Valid -/
/- redpencil/redpencillaw16.diffs -/
def a15 : AFn := ⟨25, [.t 8],
  .seq (.reg [oO 5 (.box 4 (.t 1)),
 oO 8 (.mv (.c (.bool false)))])
 (.seq (.reg [oO 12 (.mv (.t 0)),
 oO 13 (.loadn 4 (.t 5)),
 oO 14 (.call 18 false [(.t 12), (.t 13)]),
 oO 11 (.mv (.t 14)),
 oO 15 (.ext (.t 11) 0),
 oO 16 (.ext (.t 11) 1),
 oO 9 (.mv (.t 15)),
 oO 10 (.mv (.t 16))])
 (.seq (.reg [oO 17 (.mv (.t 9)),
 oO 18 (.mv (.t 2)),
 oO 19 (.call 20 false [(.t 17), (.t 18)]),
 oO 20 (.mv (.t 19)),
 oG 21 (.mv (.t 10)) 20 true,
 oG 22 (.mv (.t 3)) 20 true,
 oG 23 (.bin .eql .no (.t 21) (.t 22)) 20 true,
 oO 24 (.pick (.t 20) (.t 23) (.c (.bool false))),
 oO 8 (.mv (.t 24))])
 (.ret)))⟩

/- redpencil/redpencilref14.Copy -/
/- redpencil/redpencilref16.Diff -/
def a17 : AFn := ⟨49, [.t 4],
  .seq (.reg [oO 3 (.box 4 (.t 1)),
 oO 4 (.mv (.c .nils))])
 (.seq (.reg [oO 5 (.mv (.c .nils))])
 (.seq (.seq (.reg [oO 6 (.mv (.c (.int .i64 0)))])
 (.block 0 (.loop (.seq (.seq (.reg [oO 7 (.mv (.t 6)),
 oO 8 (.mv (.t 0)),
 oO 9 (.len .sl (.t 8)),
 oO 10 (.bin .lss .no (.t 7) (.t 9))])
 (.cond (.t 10) (.skip)
 (.exit 0)))
 (.seq (.block 1 (.seq (.regd 0 [oO 13 (.fad 0 (.t 3)),
 oO 14 (.loadn 2 (.t 13)),
 oO 15 (.mv (.t 0)),
 oO 16 (.mv (.t 6)),
 oO 17 (.iad 6 (.t 15) (.t 16)),
 oO 18 (.fad 0 (.t 17)),
 oO 19 (.loadn 2 (.t 18)),
 oO 20 (.call 40 false [(.t 14), (.t 19)]),
 oO 21 (.un .not (.t 20)),
 oO 22 (.mv (.t 21)),
 oG 23 (.mv (.t 0)) 22 false,
 oG 24 (.mv (.t 6)) 22 false,
 oG 25 (.iad 6 (.t 23) (.t 24)) 22 false,
 oG 26 (.fad 5 (.t 25)) 22 false,
 oG 27 (.load1 (.t 26)) 22 false,
 oG 28 (.bin .eql .no (.t 27) (.c (.int .i32 0))) 22 false,
 oG 29 (.mv (.t 28)) 22 false,
 oG 30 (.fad 2 (.t 3)) 29 true,
 oG 31 (.loadn 2 (.t 30)) 29 true,
 oG 32 (.mv (.t 0)) 29 true,
 oG 33 (.mv (.t 6)) 29 true,
 oG 34 (.iad 6 (.t 32) (.t 33)) 29 true,
 oG 35 (.fad 0 (.t 34)) 29 true,
 oG 36 (.loadn 2 (.t 35)) 29 true,
 oG 37 (.call 40 false [(.t 31), (.t 36)]) 29 true,
 oG 38 (.un .not (.t 37)) 29 true,
 oG 39 (.pick (.t 29) (.t 38) (.c (.bool false))) 22 false,
 oO 40 (.pick (.t 22) (.c (.bool true)) (.t 39))])
 (.cond (.t 40) (.reg [oO 41 (.mv (.t 5)),
 oO 42 (.mv (.t 0)),
 oO 43 (.mv (.t 6)),
 oO 44 (.iad 6 (.t 42) (.t 43)),
 oO 45 (.loadn 6 (.t 44)),
 oO 46 (.bsl [(.int .i64 0), (.int .i64 0), (.int .i64 0), (.int .i64 0), (.int .i64 0), (.int .i32 0)] 1 6 [(0, (.t 45))]),
 oO 47 (.app 6 48 [(.int .i64 0), (.int .i64 0), (.int .i64 0), (.int .i64 0), (.int .i64 0), (.int .i32 0)] (.t 41) (.t 46)),
 oO 5 (.mv (.t 47))])
 (.skip))))
 (.reg [oO 11 (.mv (.t 6)),
 oO 12 (.bin .add .no (.t 11) (.c (.int .i64 1))),
 oO 6 (.mv (.t 12))]))))))
 (.seq (.reg [oO 48 (.mv (.t 5)),
 oO 4 (.mv (.t 48))])
 (.ret))))⟩

/- redpencil/digest.Diff -/
def a18 : AFn := ⟨35, [.t 4, .t 5],
  .seq (.reg [oO 3 (.box 4 (.t 1)),
 oO 4 (.mv (.c .nils)),
 oO 5 (.mv (.c (.int .i64 0)))])
 (.seq (.seq (.reg [oO 10 (.mv (.t 0)),
 oO 11 (.call 41 false [(.t 10)]),
 oO 12 (.un .not (.t 11)),
 oO 13 (.mv (.t 12)),
 oG 14 (.loadn 4 (.t 3)) 13 false,
 oG 15 (.call 12 false [(.t 14)]) 13 false,
 oG 16 (.un .not (.t 15)) 13 false,
 oO 17 (.pick (.t 13) (.c (.bool true)) (.t 16))])
 (.cond (.t 17) (.seq (.reg [oO 4 (.mv (.c .nils)),
 oO 5 (.mv (.c (.int .i64 2)))])
 (.ret))
 (.skip)))
 (.seq (.reg [oO 18 (.loadn 4 (.t 3)),
 oO 19 (.call 42 false [(.t 18)]),
 oO 6 (.mv (.t 19))])
 (.seq (.reg [oO 7 (.mv (.c .nils))])
 (.seq (.seq (.reg [oO 20 (.mv (.t 0)),
 oO 21 (.len .sl (.t 20)),
 oO 22 (.mv (.c (.int .i64 0)))])
 (.block 0 (.loop (.seq (.reg [oO 23 (.bin .lss .no (.t 22) (.t 21))])
 (.seq (.cond (.t 23) (.skip)
 (.exit 0))
 (.seq (.block 1 (.seq (.reg [oO 24 (.iad 6 (.t 20) (.t 22)),
 oO 25 (.loadn 6 (.t 24)),
 oO 9 (.alloc [(.int .i64 0), (.int .i64 0), (.int .i64 0), (.int .i64 0), (.int .i64 0), (.int .i32 0)]),
 ⟨none, .store 6 (.t 9) (.t 25), none, none, false⟩])
 (.seq (.reg [oO 26 (.mv (.t 6)),
 oO 27 (.loadn 6 (.t 9)),
 oO 28 (.callv (.t 26) false [(.t 27)])])
 (.cond (.t 28) (.reg [oO 29 (.mv (.t 7)),
 oO 30 (.loadn 6 (.t 9)),
 oO 31 (.bsl [(.int .i64 0), (.int .i64 0), (.int .i64 0), (.int .i64 0), (.int .i64 0), (.int .i32 0)] 1 6 [(0, (.t 30))]),
 oO 32 (.app 6 48 [(.int .i64 0), (.int .i64 0), (.int .i64 0), (.int .i64 0), (.int .i64 0), (.int .i32 0)] (.t 29) (.t 31)),
 oO 7 (.mv (.t 32))])
 (.skip)))))
 (.reg [oO 33 (.bin .add .no (.t 22) (.c (.int .i64 1))),
 oO 22 (.mv (.t 33))])))))))
 (.seq (.reg [oO 34 (.mv (.t 7)),
 oO 4 (.mv (.t 34)),
 oO 5 (.mv (.c (.int .i64 0)))])
 (.ret))))))⟩

/- redpencil/redpencilref14.Stain -/
/- redpencil/redpencilref14.Same -/
def a20 : AFn := ⟨26, [.t 4],
  .seq (.reg [oO 4 (.mv (.c (.bool false)))])
 (.seq (.seq (.reg [oO 6 (.mv (.t 0)),
 oO 7 (.len .sl (.t 6)),
 oO 8 (.mv (.t 1)),
 oO 9 (.len .sl (.t 8)),
 oO 10 (.bin .neq .no (.t 7) (.t 9))])
 (.cond (.t 10) (.seq (.reg [oO 4 (.mv (.c (.bool false)))])
 (.ret))
 (.skip)))
 (.seq (.seq (.reg [oO 5 (.mv (.c (.int .i64 0)))])
 (.block 0 (.loop (.seq (.seq (.reg [oO 11 (.mv (.t 5)),
 oO 12 (.mv (.t 0)),
 oO 13 (.len .sl (.t 12)),
 oO 14 (.bin .lss .no (.t 11) (.t 13))])
 (.cond (.t 14) (.skip)
 (.exit 0)))
 (.seq (.block 1 (.seq (.regd 0 [oO 17 (.mv (.t 0)),
 oO 18 (.mv (.t 5)),
 oO 19 (.iad 6 (.t 17) (.t 18)),
 oO 20 (.loadn 6 (.t 19)),
 oO 21 (.mv (.t 1)),
 oO 22 (.mv (.t 5)),
 oO 23 (.iad 6 (.t 21) (.t 22)),
 oO 24 (.loadn 6 (.t 23)),
 oO 25 (.bin .neq (.fl [.i, .i, .i, .i, .i, .i]) (.t 20) (.t 24))])
 (.cond (.t 25) (.seq (.reg [oO 4 (.mv (.c (.bool false)))])
 (.ret))
 (.skip))))
 (.reg [oO 15 (.mv (.t 5)),
 oO 16 (.bin .add .no (.t 15) (.c (.int .i64 1))),
 oO 5 (.mv (.t 16))]))))))
 (.seq (.reg [oO 4 (.mv (.c (.bool true)))])
 (.ret))))⟩

/- redpencil/redpencillaw16.within -/
def a21 : AFn := ⟨25, [.t 8],
  .seq (.reg [oO 4 (.box 4 (.t 0)),
 oO 5 (.box 4 (.t 1)),
 oO 8 (.mv (.c (.bool false)))])
 (.seq (.reg [oO 12 (.loadn 4 (.t 4)),
 oO 13 (.loadn 4 (.t 5)),
 oO 14 (.call 43 false [(.t 12), (.t 13)]),
 oO 11 (.mv (.t 14)),
 oO 15 (.ext (.t 11) 0),
 oO 16 (.ext (.t 11) 1),
 oO 9 (.mv (.t 15)),
 oO 10 (.mv (.t 16))])
 (.seq (.reg [oO 17 (.mv (.t 9)),
 oO 18 (.mv (.t 2)),
 oO 19 (.bin .eql .bo (.t 17) (.t 18)),
 oO 20 (.mv (.t 19)),
 oG 21 (.mv (.t 10)) 20 true,
 oG 22 (.mv (.t 3)) 20 true,
 oG 23 (.bin .eql .no (.t 21) (.t 22)) 20 true,
 oO 24 (.pick (.t 20) (.t 23) (.c (.bool false))),
 oO 8 (.mv (.t 24))])
 (.ret)))⟩

/- redpencil/redpencilref16.Within -/
def a22 : AFn := ⟨17, [.t 4],
  .seq (.reg [oO 2 (.box 4 (.t 0)),
 oO 3 (.box 4 (.t 1)),
 oO 4 (.mv (.c (.bool false)))])
 (.seq (.reg [oO 5 (.fad 0 (.t 2)),
 oO 6 (.loadn 2 (.t 5)),
 oO 7 (.fad 0 (.t 3)),
 oO 8 (.loadn 2 (.t 7)),
 oO 9 (.call 39 false [(.t 6), (.t 8)]),
 oO 10 (.mv (.t 9)),
 oG 11 (.fad 2 (.t 2)) 10 true,
 oG 12 (.loadn 2 (.t 11)) 10 true,
 oG 13 (.fad 2 (.t 3)) 10 true,
 oG 14 (.loadn 2 (.t 13)) 10 true,
 oG 15 (.call 39 false [(.t 12), (.t 14)]) 10 true,
 oO 16 (.pick (.t 10) (.t 15) (.c (.bool false))),
 oO 4 (.mv (.t 16))])
 (.ret))⟩

/- redpencil/redpencillaw16.merges -/
def a23 : AFn := ⟨25, [.t 8],
  .seq (.reg [oO 4 (.box 4 (.t 0)),
 oO 5 (.box 4 (.t 1)),
 oO 6 (.box 4 (.t 2)),
 oO 8 (.mv (.c (.bool false)))])
 (.seq (.reg [oO 12 (.loadn 4 (.t 4)),
 oO 13 (.loadn 4 (.t 5)),
 oO 14 (.call 44 false [(.t 12), (.t 13)]),
 oO 11 (.mv (.t 14)),
 oO 15 (.ext (.t 11) 0),
 oO 16 (.ext (.t 11) 1),
 oO 9 (.alloc [.nils, .nils, .nils, .nils]),
 ⟨none, .store 4 (.t 9) (.t 15), none, none, false⟩,
 oO 10 (.mv (.t 16))])
 (.seq (.reg [oO 17 (.loadn 4 (.t 9)),
 oO 18 (.loadn 4 (.t 6)),
 oO 19 (.call 26 false [(.t 17), (.t 18)]),
 oO 20 (.mv (.t 19)),
 oG 21 (.mv (.t 10)) 20 true,
 oG 22 (.mv (.t 3)) 20 true,
 oG 23 (.bin .eql .no (.t 21) (.t 22)) 20 true,
 oO 24 (.pick (.t 20) (.t 23) (.c (.bool false))),
 oO 8 (.mv (.t 24))])
 (.ret)))⟩

/- redpencil/redpencilref16.Merge -/
def a24 : AFn := ⟨16, [.celln 4 4],
  .seq (.reg [oO 2 (.box 4 (.t 0)),
 oO 3 (.box 4 (.t 1)),
 oO 4 (.alloc [.nils, .nils, .nils, .nils])])
 (.seq (.regd 0 [oO 5 (.fad 0 (.t 2)),
 oO 6 (.loadn 2 (.t 5)),
 oO 7 (.fad 0 (.t 3)),
 oO 8 (.loadn 2 (.t 7)),
 ⟨(some 9), .call 45 false [(.t 6), (.t 8)], none, none, true⟩,
 oO 10 (.fad 2 (.t 2)),
 oO 11 (.loadn 2 (.t 10)),
 oO 12 (.fad 2 (.t 3)),
 oO 13 (.loadn 2 (.t 12)),
 oO 14 (.call 45 false [(.t 11), (.t 13)]),
 oO 15 (.build [.nils, .nils, .nils, .nils] [(0, 2, (.t 9)), (2, 2, (.t 14))]),
 ⟨none, .store 4 (.t 4) (.t 15), none, none, false⟩])
 (.ret))⟩

/- redpencil/digest.Equal -/
def a25 : AFn := ⟨17, [.t 4],
  .seq (.reg [oO 2 (.box 4 (.t 0)),
 oO 3 (.box 4 (.t 1)),
 oO 4 (.mv (.c (.bool false)))])
 (.seq (.reg [oO 5 (.fad 0 (.t 2)),
 oO 6 (.loadn 2 (.t 5)),
 oO 7 (.fad 0 (.t 3)),
 oO 8 (.loadn 2 (.t 7)),
 oO 9 (.call 46 false [(.t 6), (.t 8)]),
 oO 10 (.mv (.t 9)),
 oG 11 (.fad 2 (.t 2)) 10 true,
 oG 12 (.loadn 2 (.t 11)) 10 true,
 oG 13 (.fad 2 (.t 3)) 10 true,
 oG 14 (.loadn 2 (.t 13)) 10 true,
 oG 15 (.call 46 false [(.t 12), (.t 14)]) 10 true,
 oO 16 (.pick (.t 10) (.t 15) (.c (.bool false))),
 oO 4 (.mv (.t 16))])
 (.ret))⟩

/- redpencil/redpencilref16.Same -/
def a26 : AFn := ⟨17, [.t 4],
  .seq (.reg [oO 2 (.box 4 (.t 0)),
 oO 3 (.box 4 (.t 1)),
 oO 4 (.mv (.c (.bool false)))])
 (.seq (.reg [oO 5 (.fad 0 (.t 2)),
 oO 6 (.loadn 2 (.t 5)),
 oO 7 (.fad 0 (.t 3)),
 oO 8 (.loadn 2 (.t 7)),
 oO 9 (.call 47 false [(.t 6), (.t 8)]),
 oO 10 (.mv (.t 9)),
 oG 11 (.fad 2 (.t 2)) 10 true,
 oG 12 (.loadn 2 (.t 11)) 10 true,
 oG 13 (.fad 2 (.t 3)) 10 true,
 oG 14 (.loadn 2 (.t 13)) 10 true,
 oG 15 (.call 47 false [(.t 12), (.t 14)]) 10 true,
 oO 16 (.pick (.t 10) (.t 15) (.c (.bool false))),
 oO 4 (.mv (.t 16))])
 (.ret))⟩

/- redpencil/join.Agree -/
/- redpencil/digest.Of -/
def a28 : AFn := ⟨28, [.celln 2 4, .t 3],
  .seq (.reg [oO 2 (.alloc [.nils, .nils, .nils, .nils]),
 oO 3 (.mv (.c (.int .i64 0)))])
 (.seq (.reg [oO 8 (.mv (.t 0)),
 oO 9 (.call 48 false [(.t 8)]),
 oO 7 (.mv (.t 9)),
 oO 10 (.ext (.t 7) 0),
 oO 11 (.ext (.t 7) 1),
 oO 4 (.alloc [.nils, .nils]),
 ⟨none, .store 2 (.t 4) (.t 10), none, none, false⟩,
 oO 5 (.mv (.t 11))])
 (.seq (.seq (.reg [oO 12 (.mv (.t 5)),
 oO 13 (.bin .neq .no (.t 12) (.c (.int .i64 0)))])
 (.cond (.t 13) (.seq (.reg [oO 14 (.build [.nils, .nils, .nils, .nils] []),
 oO 15 (.mv (.t 5)),
 ⟨none, .store 4 (.t 2) (.t 14), none, none, false⟩,
 oO 3 (.mv (.t 15))])
 (.ret))
 (.skip)))
 (.seq (.reg [oO 17 (.mv (.t 0)),
 oO 18 (.call 49 false [(.t 17)]),
 oO 16 (.mv (.t 18)),
 oO 19 (.ext (.t 16) 0),
 oO 20 (.ext (.t 16) 1),
 oO 6 (.alloc [.nils, .nils]),
 ⟨none, .store 2 (.t 6) (.t 19), none, none, false⟩,
 oO 5 (.mv (.t 20))])
 (.seq (.seq (.reg [oO 21 (.mv (.t 5)),
 oO 22 (.bin .neq .no (.t 21) (.c (.int .i64 0)))])
 (.cond (.t 22) (.seq (.reg [oO 23 (.build [.nils, .nils, .nils, .nils] []),
 oO 24 (.mv (.t 5)),
 ⟨none, .store 4 (.t 2) (.t 23), none, none, false⟩,
 oO 3 (.mv (.t 24))])
 (.ret))
 (.skip)))
 (.seq (.reg [oO 25 (.loadn 2 (.t 4)),
 oO 26 (.loadn 2 (.t 6)),
 oO 27 (.build [.nils, .nils, .nils, .nils] [(0, 2, (.t 25)), (2, 2, (.t 26))]),
 ⟨none, .store 4 (.t 2) (.t 27), none, none, false⟩,
 oO 3 (.mv (.c (.int .i64 0)))])
 (.ret))))))⟩

/- redpencil/join.Join -/
/- redpencil/join.Within -/
/- redpencil/redpencillaw16.dot -/
def a31 : AFn := ⟨8, [.celln 4 2],
  .seq (.reg [oO 4 (.alloc [(.int .i64 0), (.int .i64 0)])])
 (.seq (.reg [oO 5 (.mv (.t 0)),
 oO 6 (.mv (.t 1)),
 oO 7 (.build [(.int .i64 0), (.int .i64 0)] [(0, 1, (.t 5)), (1, 1, (.t 6))]),
 ⟨none, .store 2 (.t 4) (.t 7), none, none, false⟩])
 (.ret))⟩

/- redpencil/redpencilref14.IsNode -/
def a32 : AFn := ⟨44, [.t 2],
  .seq (.reg [oO 1 (.box 6 (.t 0)),
 oO 2 (.mv (.c (.bool false)))])
 (.seq (.reg [oO 3 (.fad 0 (.t 1)),
 oO 4 (.loadn 2 (.t 3)),
 oO 5 (.call 53 false [(.t 4)]),
 oO 6 (.mv (.t 5)),
 oG 7 (.fad 2 (.t 1)) 6 true,
 oG 8 (.loadn 2 (.t 7)) 6 true,
 oG 9 (.build [(.int .i64 0), (.int .i64 0)] []) 6 true,
 oG 10 (.bin .eql (.fl [.i, .i]) (.t 8) (.t 9)) 6 true,
 oG 11 (.mv (.t 10)) 6 true,
 oG 12 (.fad 2 (.t 1)) 11 false,
 oG 13 (.loadn 2 (.t 12)) 11 false,
 oG 14 (.call 53 false [(.t 13)]) 11 false,
 oG 15 (.pick (.t 11) (.c (.bool true)) (.t 14)) 6 true,
 oO 16 (.pick (.t 6) (.t 15) (.c (.bool false))),
 oO 17 (.mv (.t 16)),
 oG 18 (.fad 2 (.t 1)) 17 true,
 oG 19 (.loadn 2 (.t 18)) 17 true,
 oG 20 (.fad 0 (.t 1)) 17 true,
 oG 21 (.loadn 2 (.t 20)) 17 true,
 oG 22 (.bin .neq (.fl [.i, .i]) (.t 19) (.t 21)) 17 true,
 oO 23 (.pick (.t 17) (.t 22) (.c (.bool false))),
 oO 24 (.mv (.t 23)),
 oG 25 (.fad 4 (.t 1)) 24 true,
 oG 26 (.load1 (.t 25)) 24 true,
 oG 27 (.bin .geq .no (.t 26) (.c (.int .i64 1))) 24 true,
 oO 28 (.pick (.t 24) (.t 27) (.c (.bool false))),
 oO 29 (.mv (.t 28)),
 oG 30 (.fad 4 (.t 1)) 29 true,
 oG 31 (.load1 (.t 30)) 29 true,
 oG 32 (.bin .leq .no (.t 31) (.c (.int .i64 4611686018427387904))) 29 true,
 oO 33 (.pick (.t 29) (.t 32) (.c (.bool false))),
 oO 34 (.mv (.t 33)),
 oG 35 (.fad 5 (.t 1)) 34 true,
 oG 36 (.load1 (.t 35)) 34 true,
 oG 37 (.bin .eql .no (.t 36) (.c (.int .i32 0))) 34 true,
 oG 38 (.mv (.t 37)) 34 true,
 oG 39 (.fad 5 (.t 1)) 38 false,
 oG 40 (.load1 (.t 39)) 38 false,
 oG 41 (.call 54 false [(.t 40)]) 38 false,
 oG 42 (.pick (.t 38) (.c (.bool true)) (.t 41)) 34 true,
 oO 43 (.pick (.t 34) (.t 42) (.c (.bool false))),
 oO 2 (.mv (.t 43))])
 (.ret))⟩

/- redpencil/redpencilref14.Before -/
def a33 : AFn := ⟨24, [.t 4],
  .seq (.reg [oO 2 (.box 2 (.t 0)),
 oO 3 (.box 2 (.t 1)),
 oO 4 (.mv (.c (.bool false)))])
 (.seq (.reg [oO 5 (.fad 1 (.t 2)),
 oO 6 (.load1 (.t 5)),
 oO 7 (.fad 1 (.t 3)),
 oO 8 (.load1 (.t 7)),
 oO 9 (.bin .lss .no (.t 6) (.t 8)),
 oO 10 (.mv (.t 9)),
 oG 11 (.fad 1 (.t 2)) 10 false,
 oG 12 (.load1 (.t 11)) 10 false,
 oG 13 (.fad 1 (.t 3)) 10 false,
 oG 14 (.load1 (.t 13)) 10 false,
 oG 15 (.bin .eql .no (.t 12) (.t 14)) 10 false,
 oG 16 (.mv (.t 15)) 10 false,
 oG 17 (.fad 0 (.t 2)) 16 true,
 oG 18 (.load1 (.t 17)) 16 true,
 oG 19 (.fad 0 (.t 3)) 16 true,
 oG 20 (.load1 (.t 19)) 16 true,
 oG 21 (.bin .lss .no (.t 18) (.t 20)) 16 true,
 oG 22 (.pick (.t 16) (.t 21) (.c (.bool false))) 10 false,
 oO 23 (.pick (.t 10) (.c (.bool true)) (.t 22)),
 oO 4 (.mv (.t 23))])
 (.ret))⟩

/- redpencil/redpencilref14.Context -/
def a34 : AFn := ⟨77, [.celln 2 2],
  .seq (.reg [oO 2 (.alloc [.nils, .nils])])
 (.seq (.reg [oO 3 (.alloc [.nils, .nils])])
 (.seq (.seq (.reg [oO 4 (.mv (.c (.int .i64 1)))])
 (.block 0 (.loop (.seq (.seq (.reg [oO 8 (.mv (.t 4)),
 oO 9 (.bin .leq .no (.t 8) (.c (.int .i64 64)))])
 (.cond (.t 9) (.skip)
 (.exit 0)))
 (.seq (.block 1 (.seq (.reg [oO 5 (.mv (.c (.int .i64 0)))])
 (.seq (.seq (.reg [oO 6 (.mv (.c (.int .i64 0)))])
 (.block 2 (.loop (.seq (.seq (.reg [oO 12 (.mv (.t 6)),
 oO 13 (.mv (.t 0)),
 oO 14 (.len .sl (.t 13)),
 oO 15 (.bin .lss .no (.t 12) (.t 14))])
 (.cond (.t 15) (.skip)
 (.exit 2)))
 (.seq (.block 3 (.seq (.reg [oO 18 (.mv (.t 0)),
 oO 19 (.mv (.t 6)),
 oO 20 (.iad 2 (.t 18) (.t 19)),
 oO 21 (.fad 0 (.t 20)),
 oO 22 (.load1 (.t 21)),
 oO 23 (.mv (.t 4)),
 oO 24 (.bin .eql .no (.t 22) (.t 23)),
 oO 25 (.mv (.t 24)),
 oG 26 (.mv (.t 0)) 25 true,
 oG 27 (.mv (.t 6)) 25 true,
 oG 28 (.iad 2 (.t 26) (.t 27)) 25 true,
 oG 29 (.fad 1 (.t 28)) 25 true,
 oG 30 (.load1 (.t 29)) 25 true,
 oG 31 (.mv (.t 5)) 25 true,
 oG 32 (.bin .add .no (.t 31) (.c (.int .i64 1))) 25 true,
 oG 33 (.bin .eql .no (.t 30) (.t 32)) 25 true,
 oO 34 (.pick (.t 25) (.t 33) (.c (.bool false)))])
 (.cond (.t 34) (.reg [oO 35 (.mv (.t 5)),
 oO 36 (.bin .add .no (.t 35) (.c (.int .i64 1))),
 oO 5 (.mv (.t 36))])
 (.skip))))
 (.reg [oO 16 (.mv (.t 6)),
 oO 17 (.bin .add .no (.t 16) (.c (.int .i64 1))),
 oO 6 (.mv (.t 17))]))))))
 (.seq (.reg [oO 37 (.mv (.t 5)),
 oO 38 (.bin .gtr .no (.t 37) (.c (.int .i64 0)))])
 (.cond (.t 38) (.reg [oO 39 (.fad 0 (.t 3)),
 oO 40 (.load1 (.t 39)),
 oO 41 (.mv (.t 4)),
 oO 42 (.mv (.t 5)),
 oO 43 (.build [(.int .i64 0), (.int .i64 0)] [(0, 1, (.t 41)), (1, 1, (.t 42))]),
 oO 44 (.bsl [(.int .i64 0), (.int .i64 0)] 1 2 [(0, (.t 43))]),
 oO 45 (.app 2 16 [(.int .i64 0), (.int .i64 0)] (.t 40) (.t 44)),
 oO 46 (.fad 0 (.t 3)),
 ⟨none, .store 1 (.t 46) (.t 45), none, none, false⟩])
 (.skip))))))
 (.reg [oO 10 (.mv (.t 4)),
 oO 11 (.bin .add .no (.t 10) (.c (.int .i64 1))),
 oO 4 (.mv (.t 11))]))))))
 (.seq (.seq (.reg [oO 7 (.mv (.c (.int .i64 0)))])
 (.block 4 (.loop (.seq (.seq (.reg [oO 47 (.mv (.t 7)),
 oO 48 (.mv (.t 0)),
 oO 49 (.len .sl (.t 48)),
 oO 50 (.bin .lss .no (.t 47) (.t 49))])
 (.cond (.t 50) (.skip)
 (.exit 4)))
 (.seq (.block 5 (.seq (.regd 0 [oO 53 (.mv (.t 0)),
 oO 54 (.mv (.t 7)),
 oO 55 (.iad 2 (.t 53) (.t 54)),
 oO 56 (.fad 1 (.t 55)),
 oO 57 (.load1 (.t 56)),
 oO 58 (.fad 0 (.t 3)),
 oO 59 (.load1 (.t 58)),
 oO 60 (.mv (.t 0)),
 oO 61 (.mv (.t 7)),
 oO 62 (.iad 2 (.t 60) (.t 61)),
 oO 63 (.fad 0 (.t 62)),
 oO 64 (.load1 (.t 63)),
 oO 65 (.call 55 true [(.t 59), (.t 64)]),
 oO 66 (.bin .gtr .no (.t 57) (.t 65))])
 (.cond (.t 66) (.regd 1 [oO 67 (.fad 1 (.t 3)),
 oO 68 (.load1 (.t 67)),
 oO 69 (.mv (.t 0)),
 oO 70 (.mv (.t 7)),
 oO 71 (.iad 2 (.t 69) (.t 70)),
 oO 72 (.loadn 2 (.t 71)),
 ⟨(some 73), .bsl [(.int .i64 0), (.int .i64 0)] 1 2 [(0, (.t 72))], none, (some 0), false⟩,
 oO 74 (.app 2 16 [(.int .i64 0), (.int .i64 0)] (.t 68) (.t 73)),
 oO 75 (.fad 1 (.t 3)),
 ⟨none, .store 1 (.t 75) (.t 74), none, none, false⟩])
 (.skip))))
 (.reg [oO 51 (.mv (.t 7)),
 oO 52 (.bin .add .no (.t 51) (.c (.int .i64 1))),
 oO 7 (.mv (.t 52))]))))))
 (.seq (.reg [oO 76 (.loadn 2 (.t 3)),
 ⟨none, .store 2 (.t 2) (.t 76), none, none, false⟩])
 (.ret)))))⟩

/- redpencil/redpencilref14.Dots -/
def a35 : AFn := ⟨32, [.t 4],
  .seq (.reg [oO 4 (.mv (.c .nils))])
 (.seq (.reg [oO 5 (.mv (.c .nils))])
 (.seq (.seq (.reg [oO 6 (.mv (.c (.int .i64 0)))])
 (.block 0 (.loop (.seq (.seq (.reg [oO 7 (.mv (.t 6)),
 oO 8 (.mv (.t 0)),
 oO 9 (.len .sl (.t 8)),
 oO 10 (.bin .lss .no (.t 7) (.t 9))])
 (.cond (.t 10) (.skip)
 (.exit 0)))
 (.seq (.block 1 (.seq (.reg [oO 13 (.mv (.t 1)),
 oO 14 (.un .not (.t 13)),
 oO 15 (.mv (.t 14)),
 oG 16 (.mv (.t 0)) 15 false,
 oG 17 (.mv (.t 6)) 15 false,
 oG 18 (.iad 6 (.t 16) (.t 17)) 15 false,
 oG 19 (.fad 5 (.t 18)) 15 false,
 oG 20 (.load1 (.t 19)) 15 false,
 oG 21 (.bin .eql .no (.t 20) (.c (.int .i32 0))) 15 false,
 oO 22 (.pick (.t 15) (.c (.bool true)) (.t 21))])
 (.cond (.t 22) (.reg [oO 23 (.mv (.t 5)),
 oO 24 (.mv (.t 0)),
 oO 25 (.mv (.t 6)),
 oO 26 (.iad 6 (.t 24) (.t 25)),
 oO 27 (.fad 0 (.t 26)),
 oO 28 (.loadn 2 (.t 27)),
 oO 29 (.bsl [(.int .i64 0), (.int .i64 0)] 1 2 [(0, (.t 28))]),
 oO 30 (.app 2 16 [(.int .i64 0), (.int .i64 0)] (.t 23) (.t 29)),
 oO 5 (.mv (.t 30))])
 (.skip))))
 (.reg [oO 11 (.mv (.t 6)),
 oO 12 (.bin .add .no (.t 11) (.c (.int .i64 1))),
 oO 6 (.mv (.t 12))]))))))
 (.seq (.reg [oO 31 (.mv (.t 5)),
 oO 4 (.mv (.t 31))])
 (.ret))))⟩

/- redpencil/context.Within -/
def a36 : AFn := ⟨27, [.t 4, .t 5],
  .seq (.reg [oO 2 (.box 2 (.t 0)),
 oO 3 (.box 2 (.t 1)),
 oO 4 (.mv (.c (.bool false))),
 oO 5 (.mv (.c (.int .i64 0)))])
 (.seq (.reg [oO 11 (.loadn 2 (.t 2)),
 oO 12 (.loadn 2 (.t 3)),
 oO 13 (.call 56 false [(.t 11), (.t 12)]),
 oO 10 (.mv (.t 13)),
 oO 14 (.ext (.t 10) 0),
 oO 15 (.ext (.t 10) 1),
 oO 6 (.alloc [.nils, .nils]),
 ⟨none, .store 2 (.t 6) (.t 14), none, none, false⟩,
 oO 7 (.mv (.t 15))])
 (.seq (.seq (.reg [oO 16 (.mv (.t 7)),
 oO 17 (.bin .neq .no (.t 16) (.c (.int .i64 0)))])
 (.cond (.t 17) (.seq (.reg [oO 18 (.mv (.t 7)),
 oO 4 (.mv (.c (.bool false))),
 oO 5 (.mv (.t 18))])
 (.ret))
 (.skip)))
 (.seq (.reg [oO 20 (.loadn 2 (.t 3)),
 oO 21 (.call 57 false [(.t 20)]),
 oO 19 (.mv (.t 21)),
 oO 22 (.ext (.t 19) 0),
 oO 23 (.ext (.t 19) 1),
 oO 8 (.alloc [.nils, .nils]),
 ⟨none, .store 2 (.t 8) (.t 22), none, none, false⟩,
 oO 9 (.mv (.t 23))])
 (.seq (.reg [oO 24 (.loadn 2 (.t 6)),
 oO 25 (.loadn 2 (.t 8)),
 oO 26 (.call 46 false [(.t 24), (.t 25)]),
 oO 4 (.mv (.t 26)),
 oO 5 (.mv (.c (.int .i64 0)))])
 (.ret)))))⟩

/- redpencil/context.IsCompact -/
def a37 : AFn := ⟨14, [.t 2],
  .seq (.reg [oO 1 (.box 2 (.t 0)),
 oO 2 (.mv (.c (.bool false)))])
 (.seq (.reg [oO 4 (.mkfn 58 [(.t 1)]),
 oO 3 (.mv (.t 4))])
 (.seq (.reg [oO 5 (.loadn 2 (.t 1)),
 oO 6 (.call 60 false [(.t 5)]),
 oO 7 (.mv (.t 6)),
 oG 8 (.fad 1 (.t 1)) 7 true,
 oG 9 (.load1 (.t 8)) 7 true,
 oG 10 (.mv (.t 3)) 7 true,
 oG 11 (.call 61 false [(.t 9), (.t 10)]) 7 true,
 oG 12 (.un .not (.t 11)) 7 true,
 oO 13 (.pick (.t 7) (.t 12) (.c (.bool false))),
 oO 2 (.mv (.t 13))])
 (.ret)))⟩

/- redpencil/redpencilref14.Compact -/
/- redpencil/redpencilref16.within -/
def a39 : AFn := ⟨83, [.t 4],
  .seq (.reg [oO 2 (.box 2 (.t 0)),
 oO 3 (.box 2 (.t 1)),
 oO 4 (.mv (.c (.bool false)))])
 (.seq (.seq (.reg [oO 5 (.mv (.c (.int .i64 0)))])
 (.block 0 (.loop (.seq (.seq (.reg [oO 9 (.mv (.t 5)),
 oO 10 (.fad 0 (.t 2)),
 oO 11 (.load1 (.t 10)),
 oO 12 (.len .sl (.t 11)),
 oO 13 (.bin .lss .no (.t 9) (.t 12))])
 (.cond (.t 13) (.skip)
 (.exit 0)))
 (.seq (.block 1 (.seq (.regd 0 [oO 16 (.fad 0 (.t 3)),
 oO 17 (.load1 (.t 16)),
 oO 18 (.fad 0 (.t 2)),
 oO 19 (.load1 (.t 18)),
 oO 20 (.mv (.t 5)),
 oO 21 (.iad 2 (.t 19) (.t 20)),
 oO 22 (.fad 0 (.t 21)),
 oO 23 (.load1 (.t 22)),
 oO 24 (.call 55 false [(.t 17), (.t 23)]),
 oO 6 (.mv (.t 24))])
 (.seq (.seq (.reg [oO 25 (.fad 0 (.t 2)),
 oO 26 (.load1 (.t 25)),
 oO 27 (.mv (.t 5)),
 oO 28 (.iad 2 (.t 26) (.t 27)),
 oO 29 (.fad 1 (.t 28)),
 oO 30 (.load1 (.t 29)),
 oO 31 (.mv (.t 6)),
 oO 32 (.bin .leq .no (.t 30) (.t 31))])
 (.cond (.t 32) (.exit 1)
 (.skip)))
 (.seq (.seq (.regd 0 [oO 33 (.fad 0 (.t 2)),
 oO 34 (.load1 (.t 33)),
 oO 35 (.mv (.t 5)),
 oO 36 (.iad 2 (.t 34) (.t 35)),
 oO 37 (.fad 1 (.t 36)),
 oO 38 (.load1 (.t 37)),
 oO 39 (.mv (.t 6)),
 oO 40 (.bin .sub .no (.t 38) (.t 39)),
 oO 41 (.fad 1 (.t 3)),
 oO 42 (.load1 (.t 41)),
 oO 43 (.len .sl (.t 42)),
 oO 44 (.bin .gtr .no (.t 40) (.t 43))])
 (.cond (.t 44) (.seq (.reg [oO 4 (.mv (.c (.bool false)))])
 (.ret))
 (.skip)))
 (.seq (.reg [oO 45 (.mv (.t 6)),
 oO 46 (.bin .add .no (.t 45) (.c (.int .i64 1))),
 oO 7 (.mv (.t 46))])
 (.block 2 (.loop (.seq (.seq (.reg [oO 47 (.mv (.t 7)),
 oO 48 (.fad 0 (.t 2)),
 oO 49 (.load1 (.t 48)),
 oO 50 (.mv (.t 5)),
 oO 51 (.iad 2 (.t 49) (.t 50)),
 oO 52 (.fad 1 (.t 51)),
 oO 53 (.load1 (.t 52)),
 oO 54 (.bin .leq .no (.t 47) (.t 53))])
 (.cond (.t 54) (.skip)
 (.exit 2)))
 (.seq (.block 3 (.seq (.regd 0 [oO 57 (.loadn 2 (.t 3)),
 oO 58 (.fad 0 (.t 2)),
 oO 59 (.load1 (.t 58)),
 oO 60 (.mv (.t 5)),
 oO 61 (.iad 2 (.t 59) (.t 60)),
 oO 62 (.fad 0 (.t 61)),
 oO 63 (.load1 (.t 62)),
 oO 64 (.mv (.t 7)),
 oO 65 (.build [(.int .i64 0), (.int .i64 0)] [(0, 1, (.t 63)), (1, 1, (.t 64))]),
 oO 66 (.call 40 false [(.t 57), (.t 65)]),
 oO 67 (.un .not (.t 66))])
 (.cond (.t 67) (.seq (.reg [oO 4 (.mv (.c (.bool false)))])
 (.ret))
 (.skip))))
 (.reg [oO 55 (.mv (.t 7)),
 oO 56 (.bin .add .no (.t 55) (.c (.int .i64 1))),
 oO 7 (.mv (.t 56))]))))))))))
 (.reg [oO 14 (.mv (.t 5)),
 oO 15 (.bin .add .no (.t 14) (.c (.int .i64 1))),
 oO 5 (.mv (.t 15))]))))))
 (.seq (.seq (.reg [oO 8 (.mv (.c (.int .i64 0)))])
 (.block 4 (.loop (.seq (.seq (.reg [oO 68 (.mv (.t 8)),
 oO 69 (.fad 1 (.t 2)),
 oO 70 (.load1 (.t 69)),
 oO 71 (.len .sl (.t 70)),
 oO 72 (.bin .lss .no (.t 68) (.t 71))])
 (.cond (.t 72) (.skip)
 (.exit 4)))
 (.seq (.block 5 (.seq (.regd 0 [oO 75 (.loadn 2 (.t 3)),
 oO 76 (.fad 1 (.t 2)),
 oO 77 (.load1 (.t 76)),
 oO 78 (.mv (.t 8)),
 oO 79 (.iad 2 (.t 77) (.t 78)),
 oO 80 (.loadn 2 (.t 79)),
 oO 81 (.call 40 false [(.t 75), (.t 80)]),
 oO 82 (.un .not (.t 81))])
 (.cond (.t 82) (.seq (.reg [oO 4 (.mv (.c (.bool false)))])
 (.ret))
 (.skip))))
 (.reg [oO 73 (.mv (.t 8)),
 oO 74 (.bin .add .no (.t 73) (.c (.int .i64 1))),
 oO 8 (.mv (.t 74))]))))))
 (.seq (.reg [oO 4 (.mv (.c (.bool true)))])
 (.ret))))⟩

/- redpencil/redpencilref14.Has -/
def a40 : AFn := ⟨28, [.t 4],
  .seq (.reg [oO 2 (.box 2 (.t 0)),
 oO 3 (.box 2 (.t 1)),
 oO 4 (.mv (.c (.bool false)))])
 (.seq (.seq (.regd 0 [oO 6 (.fad 1 (.t 3)),
 oO 7 (.load1 (.t 6)),
 oO 8 (.fad 0 (.t 2)),
 oO 9 (.load1 (.t 8)),
 oO 10 (.fad 0 (.t 3)),
 oO 11 (.load1 (.t 10)),
 oO 12 (.call 55 true [(.t 9), (.t 11)]),
 oO 13 (.bin .leq .no (.t 7) (.t 12))])
 (.cond (.t 13) (.seq (.reg [oO 4 (.mv (.c (.bool true)))])
 (.ret))
 (.skip)))
 (.seq (.seq (.reg [oO 5 (.mv (.c (.int .i64 0)))])
 (.block 0 (.loop (.seq (.seq (.reg [oO 14 (.mv (.t 5)),
 oO 15 (.fad 1 (.t 2)),
 oO 16 (.load1 (.t 15)),
 oO 17 (.len .sl (.t 16)),
 oO 18 (.bin .lss .no (.t 14) (.t 17))])
 (.cond (.t 18) (.skip)
 (.exit 0)))
 (.seq (.block 1 (.seq (.regd 0 [oO 21 (.fad 1 (.t 2)),
 oO 22 (.load1 (.t 21)),
 oO 23 (.mv (.t 5)),
 oO 24 (.iad 2 (.t 22) (.t 23)),
 oO 25 (.loadn 2 (.t 24)),
 oO 26 (.loadn 2 (.t 3)),
 oO 27 (.bin .eql (.fl [.i, .i]) (.t 25) (.t 26))])
 (.cond (.t 27) (.seq (.reg [oO 4 (.mv (.c (.bool true)))])
 (.ret))
 (.skip))))
 (.reg [oO 19 (.mv (.t 5)),
 oO 20 (.bin .add .no (.t 19) (.c (.int .i64 1))),
 oO 5 (.mv (.t 20))]))))))
 (.seq (.reg [oO 4 (.mv (.c (.bool false)))])
 (.ret))))⟩

end Go.AM
end
/-
  They are what the compiler makes of the loaded program. Printed by a program of this project.
-/
section
namespace Go.AM
open Go Go.Proofs

theorem c3 : cfn Tryz.prog Tryz.f3 = some a3 := by kernel_rfl
theorem k3 : callable Tryz.prog 3 = true := by kernel_rfl
theorem c4 : cfn Tryz.prog Tryz.f4 = some a4 := by kernel_rfl
theorem k4 : callable Tryz.prog 4 = true := by kernel_rfl
theorem c5 : cfn Tryz.prog Tryz.f5 = some a5 := by kernel_rfl
theorem k5 : callable Tryz.prog 5 = true := by kernel_rfl
theorem c6 : cfn Tryz.prog Tryz.f6 = some a6 := by kernel_rfl
theorem k6 : callable Tryz.prog 6 = true := by kernel_rfl
theorem c7 : cfn Tryz.prog Tryz.f7 = some a7 := by kernel_rfl
theorem k7 : callable Tryz.prog 7 = true := by kernel_rfl
theorem c8 : cfn Tryz.prog Tryz.f8 = some a8 := by kernel_rfl
theorem k8 : callable Tryz.prog 8 = true := by kernel_rfl
theorem c9 : cfn Tryz.prog Tryz.f9 = some a9 := by kernel_rfl
theorem k9 : callable Tryz.prog 9 = true := by kernel_rfl
theorem c10 : cfn Tryz.prog Tryz.f10 = some a10 := by kernel_rfl
theorem k10 : callable Tryz.prog 10 = true := by kernel_rfl
theorem c11 : cfn Tryz.prog Tryz.f11 = some a11 := by kernel_rfl
theorem k11 : callable Tryz.prog 11 = true := by kernel_rfl
theorem c12 : cfn Tryz.prog Tryz.f12 = some a12 := by kernel_rfl
theorem k12 : callable Tryz.prog 12 = true := by kernel_rfl
theorem c15 : cfn Tryz.prog Tryz.f15 = some a15 := by kernel_rfl
theorem k15 : callable Tryz.prog 15 = true := by kernel_rfl
theorem c17 : cfn Tryz.prog Tryz.f17 = some a17 := by kernel_rfl
theorem k17 : callable Tryz.prog 17 = true := by kernel_rfl
theorem c18 : cfn Tryz.prog Tryz.f18 = some a18 := by kernel_rfl
theorem k18 : callable Tryz.prog 18 = true := by kernel_rfl
theorem c20 : cfn Tryz.prog Tryz.f20 = some a20 := by kernel_rfl
theorem k20 : callable Tryz.prog 20 = true := by kernel_rfl
theorem c21 : cfn Tryz.prog Tryz.f21 = some a21 := by kernel_rfl
theorem k21 : callable Tryz.prog 21 = true := by kernel_rfl
theorem c22 : cfn Tryz.prog Tryz.f22 = some a22 := by kernel_rfl
theorem k22 : callable Tryz.prog 22 = true := by kernel_rfl
theorem c23 : cfn Tryz.prog Tryz.f23 = some a23 := by kernel_rfl
theorem k23 : callable Tryz.prog 23 = true := by kernel_rfl
theorem c24 : cfn Tryz.prog Tryz.f24 = some a24 := by kernel_rfl
theorem k24 : callable Tryz.prog 24 = true := by kernel_rfl
theorem c26 : cfn Tryz.prog Tryz.f26 = some a26 := by kernel_rfl
theorem k26 : callable Tryz.prog 26 = true := by kernel_rfl
theorem c28 : cfn Tryz.prog Tryz.f28 = some a28 := by kernel_rfl
theorem k28 : callable Tryz.prog 28 = true := by kernel_rfl
theorem c31 : cfn Tryz.prog Tryz.f31 = some a31 := by kernel_rfl
theorem k31 : callable Tryz.prog 31 = true := by kernel_rfl
theorem c32 : cfn Tryz.prog Tryz.f32 = some a32 := by kernel_rfl
theorem k32 : callable Tryz.prog 32 = true := by kernel_rfl
theorem c33 : cfn Tryz.prog Tryz.f33 = some a33 := by kernel_rfl
theorem k33 : callable Tryz.prog 33 = true := by kernel_rfl
theorem c34 : cfn Tryz.prog Tryz.f34 = some a34 := by kernel_rfl
theorem k34 : callable Tryz.prog 34 = true := by kernel_rfl
theorem c35 : cfn Tryz.prog Tryz.f35 = some a35 := by kernel_rfl
theorem k35 : callable Tryz.prog 35 = true := by kernel_rfl
theorem c36 : cfn Tryz.prog Tryz.f36 = some a36 := by kernel_rfl
theorem k36 : callable Tryz.prog 36 = true := by kernel_rfl
theorem c37 : cfn Tryz.prog Tryz.f37 = some a37 := by kernel_rfl
theorem k37 : callable Tryz.prog 37 = true := by kernel_rfl
theorem c39 : cfn Tryz.prog Tryz.f39 = some a39 := by kernel_rfl
theorem k39 : callable Tryz.prog 39 = true := by kernel_rfl
theorem c40 : cfn Tryz.prog Tryz.f40 = some a40 := by kernel_rfl
theorem k40 : callable Tryz.prog 40 = true := by kernel_rfl
theorem k110 : callable Tryz.prog 110 = true := by kernel_rfl
theorem k119 : callable Tryz.prog 119 = true := by kernel_rfl

end Go.AM
end
/-
  The functions of this seat as the abstract machine runs them. Printed by a program of this project.
-/
section
set_option maxRecDepth 100000
namespace Go.AM
open Go

/- redpencil/join.Valid -/
def a41 : AFn := ⟨5, [.t 2],
  .seq (.reg [oO 2 (.mv (.c (.bool false)))])
 (.seq (.reg [oO 3 (.mv (.t 0)),
 oO 4 (.call 62 false [(.t 3)]),
 oO 2 (.mv (.t 4))])
 (.ret))⟩

/- redpencil/digest.lacks -/
def a42 : AFn := ⟨4, [.t 2],
  .seq (.reg [oO 1 (.box 4 (.t 0)),
 oO 2 (.mv (.c .nilf))])
 (.seq (.reg [oO 3 (.mkfn 63 [(.t 1)]),
 oO 2 (.mv (.t 3))])
 (.ret))⟩

/- redpencil/digest.Within -/
def a43 : AFn := ⟨38, [.t 4, .t 5],
  .seq (.reg [oO 2 (.box 4 (.t 0)),
 oO 3 (.box 4 (.t 1)),
 oO 4 (.mv (.c (.bool false))),
 oO 5 (.mv (.c (.int .i64 0)))])
 (.seq (.seq (.reg [oO 8 (.loadn 4 (.t 2)),
 oO 9 (.call 12 false [(.t 8)]),
 oO 10 (.un .not (.t 9)),
 oO 11 (.mv (.t 10)),
 oG 12 (.loadn 4 (.t 3)) 11 false,
 oG 13 (.call 12 false [(.t 12)]) 11 false,
 oG 14 (.un .not (.t 13)) 11 false,
 oO 15 (.pick (.t 11) (.c (.bool true)) (.t 14))])
 (.cond (.t 15) (.seq (.reg [oO 4 (.mv (.c (.bool false))),
 oO 5 (.mv (.c (.int .i64 2)))])
 (.ret))
 (.skip)))
 (.seq (.reg [oO 17 (.fad 0 (.t 2)),
 oO 18 (.loadn 2 (.t 17)),
 oO 19 (.fad 0 (.t 3)),
 oO 20 (.loadn 2 (.t 19)),
 oO 21 (.call 36 false [(.t 18), (.t 20)]),
 oO 16 (.mv (.t 21)),
 oO 22 (.ext (.t 16) 0),
 oO 23 (.ext (.t 16) 1),
 oO 6 (.mv (.t 22)),
 oO 7 (.mv (.t 23))])
 (.seq (.seq (.reg [oO 24 (.mv (.t 7)),
 oO 25 (.bin .neq .no (.t 24) (.c (.int .i64 0))),
 oO 26 (.mv (.t 25)),
 oG 27 (.mv (.t 6)) 26 false,
 oG 28 (.un .not (.t 27)) 26 false,
 oO 29 (.pick (.t 26) (.c (.bool true)) (.t 28))])
 (.cond (.t 29) (.seq (.reg [oO 30 (.mv (.t 7)),
 oO 4 (.mv (.c (.bool false))),
 oO 5 (.mv (.t 30))])
 (.ret))
 (.skip)))
 (.seq (.reg [oO 31 (.fad 2 (.t 2)),
 oO 32 (.loadn 2 (.t 31)),
 oO 33 (.fad 2 (.t 3)),
 oO 34 (.loadn 2 (.t 33)),
 oO 35 (.call 36 false [(.t 32), (.t 34)]),
 oO 36 (.ext (.t 35) 0),
 oO 37 (.ext (.t 35) 1),
 oO 4 (.mv (.t 36)),
 oO 5 (.mv (.t 37))])
 (.ret)))))⟩

/- redpencil/digest.Merge -/
def a44 : AFn := ⟨45, [.celln 4 4, .t 5],
  .seq (.reg [oO 2 (.box 4 (.t 0)),
 oO 3 (.box 4 (.t 1)),
 oO 4 (.alloc [.nils, .nils, .nils, .nils]),
 oO 5 (.mv (.c (.int .i64 0)))])
 (.seq (.seq (.reg [oO 9 (.loadn 4 (.t 2)),
 oO 10 (.call 12 false [(.t 9)]),
 oO 11 (.un .not (.t 10)),
 oO 12 (.mv (.t 11)),
 oG 13 (.loadn 4 (.t 3)) 12 false,
 oG 14 (.call 12 false [(.t 13)]) 12 false,
 oG 15 (.un .not (.t 14)) 12 false,
 oO 16 (.pick (.t 12) (.c (.bool true)) (.t 15))])
 (.cond (.t 16) (.seq (.reg [oO 17 (.build [.nils, .nils, .nils, .nils] []),
 ⟨none, .store 4 (.t 4) (.t 17), none, none, false⟩,
 oO 5 (.mv (.c (.int .i64 2)))])
 (.ret))
 (.skip)))
 (.seq (.reg [oO 19 (.fad 0 (.t 2)),
 oO 20 (.loadn 2 (.t 19)),
 oO 21 (.fad 0 (.t 3)),
 oO 22 (.loadn 2 (.t 21)),
 oO 23 (.call 56 false [(.t 20), (.t 22)]),
 oO 18 (.mv (.t 23)),
 oO 24 (.ext (.t 18) 0),
 oO 25 (.ext (.t 18) 1),
 oO 6 (.alloc [.nils, .nils]),
 ⟨none, .store 2 (.t 6) (.t 24), none, none, false⟩,
 oO 7 (.mv (.t 25))])
 (.seq (.seq (.reg [oO 26 (.mv (.t 7)),
 oO 27 (.bin .neq .no (.t 26) (.c (.int .i64 0)))])
 (.cond (.t 27) (.seq (.reg [oO 28 (.build [.nils, .nils, .nils, .nils] []),
 oO 29 (.mv (.t 7)),
 ⟨none, .store 4 (.t 4) (.t 28), none, none, false⟩,
 oO 5 (.mv (.t 29))])
 (.ret))
 (.skip)))
 (.seq (.reg [oO 31 (.fad 2 (.t 2)),
 oO 32 (.loadn 2 (.t 31)),
 oO 33 (.fad 2 (.t 3)),
 oO 34 (.loadn 2 (.t 33)),
 oO 35 (.call 56 false [(.t 32), (.t 34)]),
 oO 30 (.mv (.t 35)),
 oO 36 (.ext (.t 30) 0),
 oO 37 (.ext (.t 30) 1),
 oO 8 (.alloc [.nils, .nils]),
 ⟨none, .store 2 (.t 8) (.t 36), none, none, false⟩,
 oO 7 (.mv (.t 37))])
 (.seq (.seq (.reg [oO 38 (.mv (.t 7)),
 oO 39 (.bin .neq .no (.t 38) (.c (.int .i64 0)))])
 (.cond (.t 39) (.seq (.reg [oO 40 (.build [.nils, .nils, .nils, .nils] []),
 oO 41 (.mv (.t 7)),
 ⟨none, .store 4 (.t 4) (.t 40), none, none, false⟩,
 oO 5 (.mv (.t 41))])
 (.ret))
 (.skip)))
 (.seq (.reg [oO 42 (.loadn 2 (.t 6)),
 oO 43 (.loadn 2 (.t 8)),
 oO 44 (.build [.nils, .nils, .nils, .nils] [(0, 2, (.t 42)), (2, 2, (.t 43))]),
 ⟨none, .store 4 (.t 4) (.t 44), none, none, false⟩,
 oO 5 (.mv (.c (.int .i64 0)))])
 (.ret)))))))⟩

/- redpencil/redpencilref16.union -/
def a45 : AFn := ⟨113, [.celln 4 2],
  .seq (.reg [oO 2 (.box 2 (.t 0)),
 oO 3 (.box 2 (.t 1)),
 oO 4 (.alloc [.nils, .nils])])
 (.seq (.reg [oO 5 (.alloc [.nils, .nils])])
 (.seq (.seq (.reg [oO 6 (.mv (.c (.int .i64 1)))])
 (.block 0 (.loop (.seq (.seq (.reg [oO 13 (.mv (.t 6)),
 oO 14 (.bin .leq .no (.t 13) (.c (.int .i64 64)))])
 (.cond (.t 14) (.skip)
 (.exit 0)))
 (.seq (.block 1 (.seq (.regd 0 [oO 17 (.fad 0 (.t 2)),
 oO 18 (.load1 (.t 17)),
 oO 19 (.mv (.t 6)),
 oO 20 (.call 55 true [(.t 18), (.t 19)]),
 oO 21 (.fad 0 (.t 3)),
 oO 22 (.load1 (.t 21)),
 oO 23 (.mv (.t 6)),
 oO 24 (.call 55 false [(.t 22), (.t 23)]),
 oO 25 (.mm true [(.t 20), (.t 24)]),
 oO 7 (.mv (.t 25))])
 (.seq (.block 2 (.loop (.seq (.seq (.reg [oO 26 (.loadn 2 (.t 2)),
 oO 27 (.mv (.t 6)),
 oO 28 (.mv (.t 7)),
 oO 29 (.bin .add .no (.t 28) (.c (.int .i64 1))),
 oO 30 (.build [(.int .i64 0), (.int .i64 0)] [(0, 1, (.t 27)), (1, 1, (.t 29))]),
 oO 31 (.call 40 false [(.t 26), (.t 30)]),
 oO 32 (.mv (.t 31)),
 oG 33 (.loadn 2 (.t 3)) 32 false,
 oG 34 (.mv (.t 6)) 32 false,
 oG 35 (.mv (.t 7)) 32 false,
 oG 36 (.bin .add .no (.t 35) (.c (.int .i64 1))) 32 false,
 oG 37 (.build [(.int .i64 0), (.int .i64 0)] [(0, 1, (.t 34)), (1, 1, (.t 36))]) 32 false,
 oG 38 (.call 40 false [(.t 33), (.t 37)]) 32 false,
 oO 39 (.pick (.t 32) (.c (.bool true)) (.t 38))])
 (.cond (.t 39) (.skip)
 (.exit 2)))
 (.block 3 (.reg [oO 40 (.mv (.t 7)),
 oO 41 (.bin .add .no (.t 40) (.c (.int .i64 1))),
 oO 7 (.mv (.t 41))])))))
 (.seq (.reg [oO 42 (.mv (.t 7)),
 oO 43 (.bin .gtr .no (.t 42) (.c (.int .i64 0)))])
 (.cond (.t 43) (.reg [oO 44 (.fad 0 (.t 5)),
 oO 45 (.load1 (.t 44)),
 oO 46 (.mv (.t 6)),
 oO 47 (.mv (.t 7)),
 oO 48 (.build [(.int .i64 0), (.int .i64 0)] [(0, 1, (.t 46)), (1, 1, (.t 47))]),
 oO 49 (.bsl [(.int .i64 0), (.int .i64 0)] 1 2 [(0, (.t 48))]),
 oO 50 (.app 2 16 [(.int .i64 0), (.int .i64 0)] (.t 45) (.t 49)),
 oO 51 (.fad 0 (.t 5)),
 ⟨none, .store 1 (.t 51) (.t 50), none, none, false⟩])
 (.skip))))))
 (.reg [oO 15 (.mv (.t 6)),
 oO 16 (.bin .add .no (.t 15) (.c (.int .i64 1))),
 oO 6 (.mv (.t 16))]))))))
 (.seq (.seq (.reg [oO 52 (.fad 1 (.t 2)),
 oO 53 (.load1 (.t 52)),
 oO 54 (.fad 1 (.t 3)),
 oO 55 (.load1 (.t 54)),
 oO 56 (.bsl [.nils, .nils] 2 1 [(0, (.t 53)), (1, (.t 55))]),
 oO 57 (.len .sl (.t 56)),
 oO 58 (.mv (.c (.int .i64 0)))])
 (.block 4 (.loop (.seq (.reg [oO 59 (.bin .lss .no (.t 58) (.t 57))])
 (.seq (.cond (.t 59) (.skip)
 (.exit 4))
 (.seq (.block 5 (.seq (.reg [oO 60 (.iad 1 (.t 56) (.t 58)),
 oO 61 (.load1 (.t 60)),
 oO 9 (.mv (.t 61))])
 (.seq (.reg [oO 10 (.mv (.c (.int .i64 0)))])
 (.block 6 (.loop (.seq (.seq (.reg [oO 62 (.mv (.t 10)),
 oO 63 (.mv (.t 9)),
 oO 64 (.len .sl (.t 63)),
 oO 65 (.bin .lss .no (.t 62) (.t 64))])
 (.cond (.t 65) (.skip)
 (.exit 6)))
 (.seq (.block 7 (.seq (.seq (.regd 0 [oO 68 (.loadn 2 (.t 5)),
 oO 69 (.mv (.t 9)),
 oO 70 (.mv (.t 10)),
 oO 71 (.iad 2 (.t 69) (.t 70)),
 oO 72 (.loadn 2 (.t 71)),
 oO 73 (.call 40 false [(.t 68), (.t 72)])])
 (.cond (.t 73) (.exit 7)
 (.skip)))
 (.seq (.reg [oO 11 (.mv (.c (.int .i64 0)))])
 (.seq (.block 8 (.loop (.seq (.seq (.regd 0 [oO 74 (.mv (.t 11)),
 oO 75 (.fad 1 (.t 5)),
 oO 76 (.load1 (.t 75)),
 oO 77 (.len .sl (.t 76)),
 oO 78 (.bin .lss .no (.t 74) (.t 77)),
 oO 79 (.mv (.t 78)),
 oG 80 (.fad 1 (.t 5)) 79 true,
 oG 81 (.load1 (.t 80)) 79 true,
 oG 82 (.mv (.t 11)) 79 true,
 oG 83 (.iad 2 (.t 81) (.t 82)) 79 true,
 oG 84 (.loadn 2 (.t 83)) 79 true,
 oG 85 (.mv (.t 9)) 79 true,
 oG 86 (.mv (.t 10)) 79 true,
 oG 87 (.iad 2 (.t 85) (.t 86)) 79 true,
 oG 88 (.loadn 2 (.t 87)) 79 true,
 oG 89 (.call 33 false [(.t 84), (.t 88)]) 79 true,
 oO 90 (.pick (.t 79) (.t 89) (.c (.bool false)))])
 (.cond (.t 90) (.skip)
 (.exit 8)))
 (.block 9 (.reg [oO 91 (.mv (.t 11)),
 oO 92 (.bin .add .no (.t 91) (.c (.int .i64 1))),
 oO 11 (.mv (.t 92))])))))
 (.seq (.regd 1 [oO 93 (.mv (.t 9)),
 oO 94 (.mv (.t 10)),
 oO 95 (.iad 2 (.t 93) (.t 94)),
 oO 96 (.loadn 2 (.t 95)),
 ⟨(some 97), .bsl [(.int .i64 0), (.int .i64 0)] 1 2 [(0, (.t 96))], none, (some 0), false⟩,
 oO 98 (.fad 1 (.t 5)),
 oO 99 (.load1 (.t 98)),
 oO 100 (.mv (.t 11)),
 oO 101 (.slc 2 (.t 99) (some (.t 100)) none none),
 oO 102 (.app 2 16 [(.int .i64 0), (.int .i64 0)] (.t 97) (.t 101)),
 oO 12 (.mv (.t 102))])
 (.reg [oO 103 (.fad 1 (.t 5)),
 oO 104 (.load1 (.t 103)),
 oO 105 (.mv (.t 11)),
 oO 106 (.slc 2 (.t 104) none (some (.t 105)) none),
 oO 107 (.app 2 16 [(.int .i64 0), (.int .i64 0)] (.c .nils) (.t 106)),
 oO 108 (.mv (.t 12)),
 oO 109 (.app 2 16 [(.int .i64 0), (.int .i64 0)] (.t 107) (.t 108)),
 oO 110 (.fad 1 (.t 5)),
 ⟨none, .store 1 (.t 110) (.t 109), none, none, false⟩]))))))
 (.reg [oO 66 (.mv (.t 10)),
 oO 67 (.bin .add .no (.t 66) (.c (.int .i64 1))),
 oO 10 (.mv (.t 67))]))))))))
 (.reg [oO 111 (.bin .add .no (.t 58) (.c (.int .i64 1))),
 oO 58 (.mv (.t 111))])))))))
 (.seq (.reg [oO 112 (.loadn 2 (.t 5)),
 ⟨none, .store 2 (.t 4) (.t 112), none, none, false⟩])
 (.ret)))))⟩

/- redpencil/context.Equal -/
def a46 : AFn := ⟨17, [.t 4],
  .seq (.reg [oO 2 (.box 2 (.t 0)),
 oO 3 (.box 2 (.t 1)),
 oO 4 (.mv (.c (.bool false)))])
 (.seq (.reg [oO 5 (.fad 0 (.t 2)),
 oO 6 (.load1 (.t 5)),
 oO 7 (.fad 0 (.t 3)),
 oO 8 (.load1 (.t 7)),
 oO 9 (.call 65 false [(.t 6), (.t 8)]),
 oO 10 (.mv (.t 9)),
 oG 11 (.fad 1 (.t 2)) 10 true,
 oG 12 (.load1 (.t 11)) 10 true,
 oG 13 (.fad 1 (.t 3)) 10 true,
 oG 14 (.load1 (.t 13)) 10 true,
 oG 15 (.call 66 false [(.t 12), (.t 14)]) 10 true,
 oO 16 (.pick (.t 10) (.t 15) (.c (.bool false))),
 oO 4 (.mv (.t 16))])
 (.ret))⟩

/- redpencil/redpencilref14.SameContext -/
def a47 : AFn := ⟨17, [.t 4],
  .seq (.reg [oO 2 (.box 2 (.t 0)),
 oO 3 (.box 2 (.t 1)),
 oO 4 (.mv (.c (.bool false)))])
 (.seq (.reg [oO 5 (.fad 0 (.t 2)),
 oO 6 (.load1 (.t 5)),
 oO 7 (.fad 0 (.t 3)),
 oO 8 (.load1 (.t 7)),
 oO 9 (.call 67 false [(.t 6), (.t 8)]),
 oO 10 (.mv (.t 9)),
 oG 11 (.fad 1 (.t 2)) 10 true,
 oG 12 (.load1 (.t 11)) 10 true,
 oG 13 (.fad 1 (.t 3)) 10 true,
 oG 14 (.load1 (.t 13)) 10 true,
 oG 15 (.call 67 false [(.t 12), (.t 14)]) 10 true,
 oO 16 (.pick (.t 10) (.t 15) (.c (.bool false))),
 oO 4 (.mv (.t 16))])
 (.ret))⟩

/- redpencil/store.Context -/
def a48 : AFn := ⟨13, [.celln 2 2, .t 3],
  .seq (.reg [oO 2 (.alloc [.nils, .nils]),
 oO 3 (.mv (.c (.int .i64 0)))])
 (.seq (.seq (.reg [oO 4 (.mv (.t 0)),
 oO 5 (.call 62 false [(.t 4)]),
 oO 6 (.un .not (.t 5))])
 (.cond (.t 6) (.seq (.reg [oO 7 (.build [.nils, .nils] []),
 ⟨none, .store 2 (.t 2) (.t 7), none, none, false⟩,
 oO 3 (.mv (.c (.int .i64 2)))])
 (.ret))
 (.skip)))
 (.seq (.reg [oO 8 (.mv (.t 0)),
 oO 9 (.call 69 false [(.t 8)]),
 oO 10 (.call 68 false [(.t 9)]),
 oO 11 (.ext (.t 10) 0),
 oO 12 (.ext (.t 10) 1),
 ⟨none, .store 2 (.t 2) (.t 11), none, none, false⟩,
 oO 3 (.mv (.t 12))])
 (.ret)))⟩

/- redpencil/store.Dead -/
def a49 : AFn := ⟨15, [.celln 2 2, .t 3],
  .seq (.reg [oO 2 (.alloc [.nils, .nils]),
 oO 3 (.mv (.c (.int .i64 0)))])
 (.seq (.seq (.reg [oO 4 (.mv (.t 0)),
 oO 5 (.call 62 false [(.t 4)]),
 oO 6 (.un .not (.t 5))])
 (.cond (.t 6) (.seq (.reg [oO 7 (.build [.nils, .nils] []),
 ⟨none, .store 2 (.t 2) (.t 7), none, none, false⟩,
 oO 3 (.mv (.c (.int .i64 2)))])
 (.ret))
 (.skip)))
 (.seq (.reg [oO 8 (.mv (.t 0)),
 oO 9 (.call 71 false [(.t 8)]),
 oO 10 (.call 70 false [(.t 9), (.f 72)]),
 oO 11 (.call 69 false [(.t 10)]),
 oO 12 (.call 68 false [(.t 11)]),
 oO 13 (.ext (.t 12) 0),
 oO 14 (.ext (.t 12) 1),
 ⟨none, .store 2 (.t 2) (.t 13), none, none, false⟩,
 oO 3 (.mv (.t 14))])
 (.ret)))⟩

/- redpencil/dot.Compare -/
def a50 : AFn := ⟨17, [.t 4],
  .seq (.reg [oO 2 (.box 2 (.t 0)),
 oO 3 (.box 2 (.t 1)),
 oO 4 (.mv (.c (.int .i64 0)))])
 (.seq (.regd 1 [oO 5 (.fad 1 (.t 2)),
 oO 6 (.load1 (.t 5)),
 oO 7 (.fad 1 (.t 3)),
 oO 8 (.load1 (.t 7)),
 oO 9 (.call 75 true [(.t 6), (.t 8)]),
 oO 10 (.fad 0 (.t 2)),
 oO 11 (.load1 (.t 10)),
 oO 12 (.fad 0 (.t 3)),
 oO 13 (.load1 (.t 12)),
 oO 14 (.call 75 false [(.t 11), (.t 13)]),
 ⟨(some 15), .bsl [(.int .i64 0), (.int .i64 0)] 2 1 [(0, (.t 9)), (1, (.t 14))], none, (some 0), false⟩,
 oO 16 (.call 74 false [(.t 15)]),
 oO 4 (.mv (.t 16))])
 (.ret))⟩

/- redpencil/node.Merge -/
/- redpencil/join.Equal -/
/- redpencil/redpencilref14.IsDot -/
def a53 : AFn := ⟨21, [.t 2],
  .seq (.reg [oO 1 (.box 2 (.t 0)),
 oO 2 (.mv (.c (.bool false)))])
 (.seq (.reg [oO 3 (.fad 0 (.t 1)),
 oO 4 (.load1 (.t 3)),
 oO 5 (.bin .geq .no (.t 4) (.c (.int .i64 1))),
 oO 6 (.mv (.t 5)),
 oG 7 (.fad 0 (.t 1)) 6 true,
 oG 8 (.load1 (.t 7)) 6 true,
 oG 9 (.bin .leq .no (.t 8) (.c (.int .i64 64))) 6 true,
 oO 10 (.pick (.t 6) (.t 9) (.c (.bool false))),
 oO 11 (.mv (.t 10)),
 oG 12 (.fad 1 (.t 1)) 11 true,
 oG 13 (.load1 (.t 12)) 11 true,
 oG 14 (.bin .geq .no (.t 13) (.c (.int .i64 1))) 11 true,
 oO 15 (.pick (.t 11) (.t 14) (.c (.bool false))),
 oO 16 (.mv (.t 15)),
 oG 17 (.fad 1 (.t 1)) 16 true,
 oG 18 (.load1 (.t 17)) 16 true,
 oG 19 (.bin .leq .no (.t 18) (.c (.int .i64 4294967295))) 16 true,
 oO 20 (.pick (.t 16) (.t 19) (.c (.bool false))),
 oO 2 (.mv (.t 20))])
 (.ret))⟩

/- redpencil/redpencilref14.IsRune -/
def a54 : AFn := ⟨17, [.t 2],
  .seq (.reg [oO 2 (.mv (.c (.bool false)))])
 (.seq (.reg [oO 3 (.mv (.t 0)),
 oO 4 (.bin .geq .no (.t 3) (.c (.int .i32 1))),
 oO 5 (.mv (.t 4)),
 oG 6 (.mv (.t 0)) 5 true,
 oG 7 (.bin .leq .no (.t 6) (.c (.int .i32 1114111))) 5 true,
 oO 8 (.pick (.t 5) (.t 7) (.c (.bool false))),
 oO 9 (.mv (.t 8)),
 oG 10 (.mv (.t 0)) 9 true,
 oG 11 (.bin .lss .no (.t 10) (.c (.int .i32 55296))) 9 true,
 oG 12 (.mv (.t 11)) 9 true,
 oG 13 (.mv (.t 0)) 12 false,
 oG 14 (.bin .gtr .no (.t 13) (.c (.int .i32 57343))) 12 false,
 oG 15 (.pick (.t 12) (.c (.bool true)) (.t 14)) 9 true,
 oO 16 (.pick (.t 9) (.t 15) (.c (.bool false))),
 oO 2 (.mv (.t 16))])
 (.ret))⟩

/- redpencil/redpencilref14.Last -/
def a55 : AFn := ⟨24, [.t 4],
  .seq (.reg [oO 4 (.mv (.c (.int .i64 0)))])
 (.seq (.seq (.reg [oO 5 (.mv (.c (.int .i64 0)))])
 (.block 0 (.loop (.seq (.seq (.reg [oO 6 (.mv (.t 5)),
 oO 7 (.mv (.t 0)),
 oO 8 (.len .sl (.t 7)),
 oO 9 (.bin .lss .no (.t 6) (.t 8))])
 (.cond (.t 9) (.skip)
 (.exit 0)))
 (.seq (.block 1 (.seq (.reg [oO 12 (.mv (.t 0)),
 oO 13 (.mv (.t 5)),
 oO 14 (.iad 2 (.t 12) (.t 13)),
 oO 15 (.fad 0 (.t 14)),
 oO 16 (.load1 (.t 15)),
 oO 17 (.mv (.t 1)),
 oO 18 (.bin .eql .no (.t 16) (.t 17))])
 (.cond (.t 18) (.seq (.reg [oO 19 (.mv (.t 0)),
 oO 20 (.mv (.t 5)),
 oO 21 (.iad 2 (.t 19) (.t 20)),
 oO 22 (.fad 1 (.t 21)),
 oO 23 (.load1 (.t 22)),
 oO 4 (.mv (.t 23))])
 (.ret))
 (.skip))))
 (.reg [oO 10 (.mv (.t 5)),
 oO 11 (.bin .add .no (.t 10) (.c (.int .i64 1))),
 oO 5 (.mv (.t 11))]))))))
 (.seq (.reg [oO 4 (.mv (.c (.int .i64 0)))])
 (.ret)))⟩

/- redpencil/context.Union -/
def a56 : AFn := ⟨35, [.celln 4 2, .t 5],
  .seq (.reg [oO 2 (.box 2 (.t 0)),
 oO 3 (.box 2 (.t 1)),
 oO 4 (.alloc [.nils, .nils]),
 oO 5 (.mv (.c (.int .i64 0)))])
 (.seq (.seq (.reg [oO 8 (.loadn 2 (.t 2)),
 oO 9 (.call 60 false [(.t 8)]),
 oO 10 (.un .not (.t 9)),
 oO 11 (.mv (.t 10)),
 oG 12 (.loadn 2 (.t 3)) 11 false,
 oG 13 (.call 60 false [(.t 12)]) 11 false,
 oG 14 (.un .not (.t 13)) 11 false,
 oO 15 (.pick (.t 11) (.c (.bool true)) (.t 14))])
 (.cond (.t 15) (.seq (.reg [oO 16 (.build [.nils, .nils] []),
 ⟨none, .store 2 (.t 4) (.t 16), none, none, false⟩,
 oO 5 (.mv (.c (.int .i64 2)))])
 (.ret))
 (.skip)))
 (.seq (.reg [oO 18 (.fad 0 (.t 2)),
 oO 19 (.load1 (.t 18)),
 oO 20 (.fad 0 (.t 3)),
 oO 21 (.load1 (.t 20)),
 oO 22 (.call 79 false [(.t 19), (.t 21)]),
 oO 17 (.mv (.t 22)),
 oO 23 (.ext (.t 17) 0),
 oO 24 (.ext (.t 17) 1),
 oO 6 (.mv (.t 23)),
 oO 7 (.mv (.t 24))])
 (.seq (.reg [oO 25 (.mv (.t 6)),
 oO 26 (.fad 1 (.t 2)),
 oO 27 (.load1 (.t 26)),
 oO 28 (.fad 1 (.t 3)),
 oO 29 (.load1 (.t 28)),
 oO 30 (.call 80 false [(.t 27), (.t 29)]),
 oO 31 (.build [.nils, .nils] [(0, 1, (.t 25)), (1, 1, (.t 30))]),
 oO 32 (.call 57 false [(.t 31)]),
 oO 33 (.ext (.t 32) 0),
 oO 34 (.ext (.t 32) 1),
 ⟨none, .store 2 (.t 4) (.t 33), none, none, false⟩,
 oO 5 (.mv (.t 34))])
 (.ret))))⟩

/- redpencil/context.Compact -/
def a57 : AFn := ⟨56, [.celln 2 2, .t 3],
  .seq (.reg [oO 1 (.box 2 (.t 0)),
 oO 2 (.alloc [.nils, .nils]),
 oO 3 (.mv (.c (.int .i64 0)))])
 (.seq (.seq (.reg [oO 8 (.loadn 2 (.t 1)),
 oO 9 (.call 60 false [(.t 8)]),
 oO 10 (.un .not (.t 9))])
 (.cond (.t 10) (.seq (.reg [oO 11 (.build [.nils, .nils] []),
 ⟨none, .store 2 (.t 2) (.t 11), none, none, false⟩,
 oO 3 (.mv (.c (.int .i64 2)))])
 (.ret))
 (.skip)))
 (.seq (.reg [oO 12 (.fad 0 (.t 1)),
 oO 13 (.load1 (.t 12)),
 oO 14 (.call 81 false [(.t 13)]),
 oO 15 (.build [.nils, .nils] [(0, 1, (.t 14))]),
 oO 4 (.alloc [.nils, .nils]),
 ⟨none, .store 2 (.t 4) (.t 15), none, none, false⟩])
 (.seq (.seq (.reg [oO 16 (.fad 1 (.t 1)),
 oO 17 (.load1 (.t 16)),
 oO 18 (.len .sl (.t 17)),
 oO 19 (.mv (.c (.int .i64 0)))])
 (.block 0 (.loop (.seq (.reg [oO 20 (.bin .lss .no (.t 19) (.t 18))])
 (.seq (.cond (.t 20) (.skip)
 (.exit 0))
 (.seq (.block 1 (.seq (.reg [oO 21 (.iad 2 (.t 17) (.t 19)),
 oO 22 (.loadn 2 (.t 21)),
 oO 6 (.alloc [(.int .i64 0), (.int .i64 0)]),
 ⟨none, .store 2 (.t 6) (.t 22), none, none, false⟩])
 (.seq (.reg [oO 23 (.fad 0 (.t 4)),
 oO 24 (.load1 (.t 23)),
 oO 25 (.fad 0 (.t 6)),
 oO 26 (.load1 (.t 25)),
 oO 27 (.call 59 false [(.t 24), (.t 26)]),
 oO 7 (.mv (.t 27))])
 (.block 2 (.seq (.reg [oO 29 (.fad 1 (.t 6)),
 oO 30 (.load1 (.t 29)),
 oO 31 (.mv (.t 7)),
 oO 32 (.bin .add .no (.t 31) (.c (.int .i64 1))),
 oO 33 (.bin .gtr .no (.t 30) (.t 32)),
 oO 28 (.mv (.t 33))])
 (.cond (.t 28) (.reg [oO 34 (.fad 1 (.t 4)),
 oO 35 (.load1 (.t 34)),
 oO 36 (.loadn 2 (.t 6)),
 oO 37 (.bsl [(.int .i64 0), (.int .i64 0)] 1 2 [(0, (.t 36))]),
 oO 38 (.app 2 16 [(.int .i64 0), (.int .i64 0)] (.t 35) (.t 37)),
 oO 39 (.fad 1 (.t 4)),
 ⟨none, .store 1 (.t 39) (.t 38), none, none, false⟩])
 (.seq (.reg [oO 41 (.fad 1 (.t 6)),
 oO 42 (.load1 (.t 41)),
 oO 43 (.mv (.t 7)),
 oO 44 (.bin .add .no (.t 43) (.c (.int .i64 1))),
 oO 45 (.bin .eql .no (.t 42) (.t 44)),
 oO 40 (.mv (.t 45))])
 (.cond (.t 40) (.reg [oO 47 (.fad 0 (.t 4)),
 oO 48 (.load1 (.t 47)),
 oO 49 (.loadn 2 (.t 6)),
 oO 50 (.call 82 false [(.t 48), (.t 49)]),
 oO 46 (.mv (.t 50)),
 oO 51 (.ext (.t 46) 0),
 oO 52 (.ext (.t 46) 1),
 oO 53 (.fad 0 (.t 4)),
 ⟨none, .store 1 (.t 53) (.t 51), none, none, false⟩])
 (.skip)))))))))
 (.reg [oO 54 (.bin .add .no (.t 19) (.c (.int .i64 1))),
 oO 19 (.mv (.t 54))])))))))
 (.seq (.reg [oO 55 (.loadn 2 (.t 4)),
 ⟨none, .store 2 (.t 2) (.t 55), none, none, false⟩,
 oO 3 (.mv (.c (.int .i64 0)))])
 (.ret)))))⟩

/- redpencil/context.IsCompact$1 -/
def a58 : AFn := ⟨13, [.t 3],
  .seq (.reg [oO 2 (.box 2 (.t 0)),
 oO 3 (.mv (.c (.bool false)))])
 (.seq (.regd 0 [oO 4 (.fad 1 (.t 2)),
 oO 5 (.load1 (.t 4)),
 oO 6 (.fad 0 (.t 1)),
 oO 7 (.load1 (.t 6)),
 oO 8 (.fad 0 (.t 2)),
 oO 9 (.load1 (.t 8)),
 oO 10 (.call 59 true [(.t 7), (.t 9)]),
 oO 11 (.bin .add .no (.t 10) (.c (.int .i64 1))),
 oO 12 (.bin .leq .no (.t 5) (.t 11)),
 oO 3 (.mv (.t 12))])
 (.ret))⟩

/- redpencil/vector.Get -/
def a59 : AFn := ⟨16, [.t 4],
  .seq (.reg [oO 3 (.box 1 (.t 1)),
 oO 4 (.mv (.c (.int .i64 0)))])
 (.seq (.reg [oO 6 (.mv (.t 0)),
 oO 7 (.mkfn 84 [(.t 3)]),
 oO 8 (.call 83 false [(.t 6), (.t 7)]),
 oO 5 (.mv (.t 8))])
 (.seq (.seq (.reg [oO 9 (.mv (.t 5)),
 oO 10 (.bin .lss .no (.t 9) (.c (.int .i64 0)))])
 (.cond (.t 10) (.seq (.reg [oO 4 (.mv (.c (.int .i64 0)))])
 (.ret))
 (.skip)))
 (.seq (.reg [oO 11 (.mv (.t 0)),
 oO 12 (.mv (.t 5)),
 oO 13 (.iad 2 (.t 11) (.t 12)),
 oO 14 (.fad 1 (.t 13)),
 oO 15 (.load1 (.t 14)),
 oO 4 (.mv (.t 15))])
 (.ret))))⟩

/- redpencil/context.Valid -/
def a60 : AFn := ⟨16, [.t 2],
  .seq (.reg [oO 1 (.box 2 (.t 0)),
 oO 2 (.mv (.c (.bool false)))])
 (.seq (.reg [oO 3 (.fad 0 (.t 1)),
 oO 4 (.load1 (.t 3)),
 oO 5 (.call 85 false [(.t 4)]),
 oO 6 (.mv (.t 5)),
 oG 7 (.fad 1 (.t 1)) 6 true,
 oG 8 (.load1 (.t 7)) 6 true,
 oG 9 (.call 86 false [(.t 8)]) 6 true,
 oO 10 (.pick (.t 6) (.t 9) (.c (.bool false))),
 oO 11 (.mv (.t 10)),
 oG 12 (.fad 1 (.t 1)) 11 true,
 oG 13 (.load1 (.t 12)) 11 true,
 oG 14 (.call 87 false [(.t 13)]) 11 true,
 oO 15 (.pick (.t 11) (.t 14) (.c (.bool false))),
 oO 2 (.mv (.t 15))])
 (.ret))⟩

/- slices.ContainsFunc[[]redpencil/api.Dot,redpencil/api.Dot] -/
def a61 : AFn := ⟨9, [.t 4],
  .seq (.reg [oO 4 (.mv (.c (.bool false)))])
 (.seq (.reg [oO 5 (.mv (.t 0)),
 oO 6 (.mv (.t 1)),
 oO 7 (.call 88 false [(.t 5), (.t 6)]),
 oO 8 (.bin .geq .no (.t 7) (.c (.int .i64 0))),
 oO 4 (.mv (.t 8))])
 (.ret))⟩

/- redpencil/store.Valid -/
def a62 : AFn := ⟨11, [.t 2],
  .seq (.reg [oO 2 (.mv (.c (.bool false)))])
 (.seq (.reg [oO 3 (.mv (.t 0)),
 oO 4 (.call 89 false [(.t 3), (.f 90)]),
 oO 5 (.un .not (.t 4)),
 oO 6 (.mv (.t 5)),
 oG 7 (.mv (.t 0)) 6 true,
 oG 8 (.call 69 false [(.t 7)]) 6 true,
 oG 9 (.call 86 false [(.t 8)]) 6 true,
 oO 10 (.pick (.t 6) (.t 9) (.c (.bool false))),
 oO 2 (.mv (.t 10))])
 (.ret))⟩

/- redpencil/digest.lacks$1 -/
def a63 : AFn := ⟨23, [.t 3],
  .seq (.reg [oO 2 (.box 6 (.t 0)),
 oO 3 (.mv (.c (.bool false)))])
 (.seq (.reg [oO 4 (.fad 0 (.t 1)),
 oO 5 (.loadn 2 (.t 4)),
 oO 6 (.fad 0 (.t 2)),
 oO 7 (.loadn 2 (.t 6)),
 oO 8 (.call 64 false [(.t 5), (.t 7)]),
 oO 9 (.un .not (.t 8)),
 oO 10 (.mv (.t 9)),
 oG 11 (.fad 5 (.t 2)) 10 false,
 oG 12 (.load1 (.t 11)) 10 false,
 oG 13 (.bin .eql .no (.t 12) (.c (.int .i32 0))) 10 false,
 oG 14 (.mv (.t 13)) 10 false,
 oG 15 (.fad 2 (.t 1)) 14 true,
 oG 16 (.loadn 2 (.t 15)) 14 true,
 oG 17 (.fad 0 (.t 2)) 14 true,
 oG 18 (.loadn 2 (.t 17)) 14 true,
 oG 19 (.call 64 false [(.t 16), (.t 18)]) 14 true,
 oG 20 (.un .not (.t 19)) 14 true,
 oG 21 (.pick (.t 14) (.t 20) (.c (.bool false))) 10 false,
 oO 22 (.pick (.t 10) (.c (.bool true)) (.t 21)),
 oO 3 (.mv (.t 22))])
 (.ret))⟩

/- redpencil/context.Has -/
def a64 : AFn := ⟨19, [.t 4],
  .seq (.reg [oO 2 (.box 2 (.t 0)),
 oO 3 (.box 2 (.t 1)),
 oO 4 (.mv (.c (.bool false)))])
 (.seq (.reg [oO 5 (.fad 0 (.t 2)),
 oO 6 (.load1 (.t 5)),
 oO 7 (.loadn 2 (.t 3)),
 oO 8 (.call 91 false [(.t 6), (.t 7)]),
 oO 9 (.mv (.t 8)),
 oG 10 (.loadn 2 (.t 3)) 9 false,
 oG 11 (.call 92 false [(.t 10)]) 9 false,
 oG 12 (.mv (.t 11)) 9 false,
 oG 13 (.fad 1 (.t 2)) 12 true,
 oG 14 (.load1 (.t 13)) 12 true,
 oG 15 (.loadn 2 (.t 3)) 12 true,
 oG 16 (.call 93 false [(.t 14), (.t 15)]) 12 true,
 oG 17 (.pick (.t 12) (.t 16) (.c (.bool false))) 9 false,
 oO 18 (.pick (.t 9) (.c (.bool true)) (.t 17)),
 oO 4 (.mv (.t 18))])
 (.ret))⟩

/- slices.Equal[redpencil/api.Vector,redpencil/api.Dot] -/
def a65 : AFn := ⟨26, [.t 4],
  .seq (.reg [oO 4 (.mv (.c (.bool false)))])
 (.seq (.seq (.reg [oO 6 (.mv (.t 0)),
 oO 7 (.len .sl (.t 6)),
 oO 8 (.mv (.t 1)),
 oO 9 (.len .sl (.t 8)),
 oO 10 (.bin .neq .no (.t 7) (.t 9))])
 (.cond (.t 10) (.seq (.reg [oO 4 (.mv (.c (.bool false)))])
 (.ret))
 (.skip)))
 (.seq (.seq (.reg [oO 11 (.mv (.t 0)),
 oO 12 (.len .sl (.t 11)),
 oO 13 (.mv (.c (.int .i64 0)))])
 (.block 0 (.loop (.seq (.reg [oO 14 (.bin .lss .no (.t 13) (.t 12))])
 (.seq (.cond (.t 14) (.skip)
 (.exit 0))
 (.seq (.block 1 (.seq (.reg [oO 15 (.mv (.t 13)),
 oO 5 (.mv (.t 15))])
 (.seq (.regd 0 [oO 16 (.mv (.t 0)),
 oO 17 (.mv (.t 5)),
 oO 18 (.iad 2 (.t 16) (.t 17)),
 oO 19 (.loadn 2 (.t 18)),
 oO 20 (.mv (.t 1)),
 oO 21 (.mv (.t 5)),
 oO 22 (.iad 2 (.t 20) (.t 21)),
 oO 23 (.loadn 2 (.t 22)),
 oO 24 (.bin .neq (.fl [.i, .i]) (.t 19) (.t 23))])
 (.cond (.t 24) (.seq (.reg [oO 4 (.mv (.c (.bool false)))])
 (.ret))
 (.skip)))))
 (.reg [oO 25 (.bin .add .no (.t 13) (.c (.int .i64 1))),
 oO 13 (.mv (.t 25))])))))))
 (.seq (.reg [oO 4 (.mv (.c (.bool true)))])
 (.ret))))⟩

/- slices.Equal[[]redpencil/api.Dot,redpencil/api.Dot] -/
def a66 : AFn := ⟨26, [.t 4],
  .seq (.reg [oO 4 (.mv (.c (.bool false)))])
 (.seq (.seq (.reg [oO 6 (.mv (.t 0)),
 oO 7 (.len .sl (.t 6)),
 oO 8 (.mv (.t 1)),
 oO 9 (.len .sl (.t 8)),
 oO 10 (.bin .neq .no (.t 7) (.t 9))])
 (.cond (.t 10) (.seq (.reg [oO 4 (.mv (.c (.bool false)))])
 (.ret))
 (.skip)))
 (.seq (.seq (.reg [oO 11 (.mv (.t 0)),
 oO 12 (.len .sl (.t 11)),
 oO 13 (.mv (.c (.int .i64 0)))])
 (.block 0 (.loop (.seq (.reg [oO 14 (.bin .lss .no (.t 13) (.t 12))])
 (.seq (.cond (.t 14) (.skip)
 (.exit 0))
 (.seq (.block 1 (.seq (.reg [oO 15 (.mv (.t 13)),
 oO 5 (.mv (.t 15))])
 (.seq (.regd 0 [oO 16 (.mv (.t 0)),
 oO 17 (.mv (.t 5)),
 oO 18 (.iad 2 (.t 16) (.t 17)),
 oO 19 (.loadn 2 (.t 18)),
 oO 20 (.mv (.t 1)),
 oO 21 (.mv (.t 5)),
 oO 22 (.iad 2 (.t 20) (.t 21)),
 oO 23 (.loadn 2 (.t 22)),
 oO 24 (.bin .neq (.fl [.i, .i]) (.t 19) (.t 23))])
 (.cond (.t 24) (.seq (.reg [oO 4 (.mv (.c (.bool false)))])
 (.ret))
 (.skip)))))
 (.reg [oO 25 (.bin .add .no (.t 13) (.c (.int .i64 1))),
 oO 13 (.mv (.t 25))])))))))
 (.seq (.reg [oO 4 (.mv (.c (.bool true)))])
 (.ret))))⟩

/- redpencil/redpencilref14.sameDots -/
def a67 : AFn := ⟨26, [.t 4],
  .seq (.reg [oO 4 (.mv (.c (.bool false)))])
 (.seq (.seq (.reg [oO 6 (.mv (.t 0)),
 oO 7 (.len .sl (.t 6)),
 oO 8 (.mv (.t 1)),
 oO 9 (.len .sl (.t 8)),
 oO 10 (.bin .neq .no (.t 7) (.t 9))])
 (.cond (.t 10) (.seq (.reg [oO 4 (.mv (.c (.bool false)))])
 (.ret))
 (.skip)))
 (.seq (.seq (.reg [oO 5 (.mv (.c (.int .i64 0)))])
 (.block 0 (.loop (.seq (.seq (.reg [oO 11 (.mv (.t 5)),
 oO 12 (.mv (.t 0)),
 oO 13 (.len .sl (.t 12)),
 oO 14 (.bin .lss .no (.t 11) (.t 13))])
 (.cond (.t 14) (.skip)
 (.exit 0)))
 (.seq (.block 1 (.seq (.regd 0 [oO 17 (.mv (.t 0)),
 oO 18 (.mv (.t 5)),
 oO 19 (.iad 2 (.t 17) (.t 18)),
 oO 20 (.loadn 2 (.t 19)),
 oO 21 (.mv (.t 1)),
 oO 22 (.mv (.t 5)),
 oO 23 (.iad 2 (.t 21) (.t 22)),
 oO 24 (.loadn 2 (.t 23)),
 oO 25 (.bin .neq (.fl [.i, .i]) (.t 20) (.t 24))])
 (.cond (.t 25) (.seq (.reg [oO 4 (.mv (.c (.bool false)))])
 (.ret))
 (.skip))))
 (.reg [oO 15 (.mv (.t 5)),
 oO 16 (.bin .add .no (.t 15) (.c (.int .i64 1))),
 oO 5 (.mv (.t 16))]))))))
 (.seq (.reg [oO 4 (.mv (.c (.bool true)))])
 (.ret))))⟩

/- redpencil/context.Of -/
def a68 : AFn := ⟨9, [.celln 2 2, .t 3],
  .seq (.reg [oO 2 (.alloc [.nils, .nils]),
 oO 3 (.mv (.c (.int .i64 0)))])
 (.seq (.reg [oO 4 (.build [.nils, .nils] []),
 oO 5 (.mv (.t 0)),
 oO 6 (.call 94 false [(.t 4), (.t 5)]),
 oO 7 (.ext (.t 6) 0),
 oO 8 (.ext (.t 6) 1),
 ⟨none, .store 2 (.t 2) (.t 7), none, none, false⟩,
 oO 3 (.mv (.t 8))])
 (.ret))⟩

/- redpencil/store.dots -/
def a69 : AFn := ⟨19, [.t 2],
  .seq (.reg [oO 2 (.mv (.c .nils))])
 (.seq (.reg [oO 3 (.mv (.c .nils))])
 (.seq (.seq (.reg [oO 6 (.mv (.t 0)),
 oO 7 (.len .sl (.t 6)),
 oO 8 (.mv (.c (.int .i64 0)))])
 (.block 0 (.loop (.seq (.reg [oO 9 (.bin .lss .no (.t 8) (.t 7))])
 (.seq (.cond (.t 9) (.skip)
 (.exit 0))
 (.seq (.block 1 (.seq (.reg [oO 10 (.iad 6 (.t 6) (.t 8)),
 oO 11 (.loadn 6 (.t 10)),
 oO 5 (.alloc [(.int .i64 0), (.int .i64 0), (.int .i64 0), (.int .i64 0), (.int .i64 0), (.int .i32 0)]),
 ⟨none, .store 6 (.t 5) (.t 11), none, none, false⟩])
 (.reg [oO 12 (.mv (.t 3)),
 oO 13 (.fad 0 (.t 5)),
 oO 14 (.loadn 2 (.t 13)),
 oO 15 (.bsl [(.int .i64 0), (.int .i64 0)] 1 2 [(0, (.t 14))]),
 oO 16 (.app 2 16 [(.int .i64 0), (.int .i64 0)] (.t 12) (.t 15)),
 oO 3 (.mv (.t 16))])))
 (.reg [oO 17 (.bin .add .no (.t 8) (.c (.int .i64 1))),
 oO 8 (.mv (.t 17))])))))))
 (.seq (.reg [oO 18 (.mv (.t 3)),
 oO 2 (.mv (.t 18))])
 (.ret))))⟩

/- slices.DeleteFunc[[]redpencil/api.Node,redpencil/api.Node] -/
def a70 : AFn := ⟨42, [.t 4],
  .seq (.reg [oO 4 (.mv (.c .nils))])
 (.seq (.reg [oO 8 (.mv (.t 0)),
 oO 9 (.mv (.t 1)),
 oO 10 (.call 95 false [(.t 8), (.t 9)]),
 oO 5 (.mv (.t 10))])
 (.seq (.seq (.reg [oO 11 (.mv (.t 5)),
 oO 12 (.bin .eql .no (.t 11) (.c (.int .i64 (-1))))])
 (.cond (.t 12) (.seq (.reg [oO 13 (.mv (.t 0)),
 oO 4 (.mv (.t 13))])
 (.ret))
 (.skip)))
 (.seq (.seq (.reg [oO 14 (.mv (.t 5)),
 oO 15 (.bin .add .no (.t 14) (.c (.int .i64 1))),
 oO 6 (.mv (.t 15))])
 (.block 0 (.loop (.seq (.seq (.reg [oO 16 (.mv (.t 6)),
 oO 17 (.mv (.t 0)),
 oO 18 (.len .sl (.t 17)),
 oO 19 (.bin .lss .no (.t 16) (.t 18))])
 (.cond (.t 19) (.skip)
 (.exit 0)))
 (.seq (.block 1 (.seq (.reg [oO 22 (.mv (.t 0)),
 oO 23 (.mv (.t 6)),
 oO 24 (.iad 6 (.t 22) (.t 23)),
 oO 25 (.loadn 6 (.t 24)),
 oO 7 (.alloc [(.int .i64 0), (.int .i64 0), (.int .i64 0), (.int .i64 0), (.int .i64 0), (.int .i32 0)]),
 ⟨none, .store 6 (.t 7) (.t 25), none, none, false⟩])
 (.seq (.reg [oO 26 (.mv (.t 1)),
 oO 27 (.loadn 6 (.t 7)),
 oO 28 (.callv (.t 26) false [(.t 27)]),
 oO 29 (.un .not (.t 28))])
 (.cond (.t 29) (.seq (.reg [oO 30 (.mv (.t 0)),
 oO 31 (.mv (.t 5)),
 oO 32 (.loadn 6 (.t 7)),
 oO 33 (.iad 6 (.t 30) (.t 31)),
 ⟨none, .store 6 (.t 33) (.t 32), none, none, false⟩])
 (.reg [oO 34 (.mv (.t 5)),
 oO 35 (.bin .add .no (.t 34) (.c (.int .i64 1))),
 oO 5 (.mv (.t 35))]))
 (.skip)))))
 (.reg [oO 20 (.mv (.t 6)),
 oO 21 (.bin .add .no (.t 20) (.c (.int .i64 1))),
 oO 6 (.mv (.t 21))]))))))
 (.seq (.reg [oO 36 (.mv (.t 0)),
 oO 37 (.mv (.t 5)),
 oO 38 (.slc 6 (.t 36) (some (.t 37)) none none),
 ⟨none, .clr [(.int .i64 0), (.int .i64 0), (.int .i64 0), (.int .i64 0), (.int .i64 0), (.int .i32 0)] (.t 38), none, none, false⟩])
 (.seq (.reg [oO 39 (.mv (.t 0)),
 oO 40 (.mv (.t 5)),
 oO 41 (.slc 6 (.t 39) none (some (.t 40)) none),
 oO 4 (.mv (.t 41))])
 (.ret))))))⟩

/- slices.Clone[[]redpencil/api.Node,redpencil/api.Node] -/
def a71 : AFn := ⟨8, [.t 2],
  .seq (.reg [oO 2 (.mv (.c .nils))])
 (.seq (.seq (.reg [oO 3 (.mv (.t 0)),
 oO 4 (.bin .eql .ns (.t 3) (.c .nils))])
 (.cond (.t 4) (.seq (.reg [oO 2 (.mv (.c .nils))])
 (.ret))
 (.skip)))
 (.seq (.reg [oO 5 (.bsl [] 0 6 []),
 oO 6 (.mv (.t 0)),
 oO 7 (.app 6 48 [(.int .i64 0), (.int .i64 0), (.int .i64 0), (.int .i64 0), (.int .i64 0), (.int .i32 0)] (.t 5) (.t 6)),
 oO 2 (.mv (.t 7))])
 (.ret)))⟩

/- redpencil/store.Dead$1 -/
def a72 : AFn := ⟨6, [.t 2],
  .seq (.reg [oO 1 (.box 6 (.t 0)),
 oO 2 (.mv (.c (.bool false)))])
 (.seq (.reg [oO 3 (.loadn 6 (.t 1)),
 oO 4 (.call 73 false [(.t 3)]),
 oO 5 (.un .not (.t 4)),
 oO 2 (.mv (.t 5))])
 (.ret))⟩

/- redpencil/node.Dead -/
def a73 : AFn := ⟨6, [.t 2],
  .seq (.reg [oO 1 (.box 6 (.t 0)),
 oO 2 (.mv (.c (.bool false)))])
 (.seq (.reg [oO 3 (.fad 5 (.t 1)),
 oO 4 (.load1 (.t 3)),
 oO 5 (.bin .eql .no (.t 4) (.c (.int .i32 0))),
 oO 2 (.mv (.t 5))])
 (.ret))⟩

/- cmp.Or[int] -/
def a74 : AFn := ⟨18, [.t 2],
  .seq (.reg [oO 2 (.mv (.c (.int .i64 0)))])
 (.seq (.reg [oO 3 (.mv (.c (.int .i64 0)))])
 (.seq (.seq (.reg [oO 6 (.mv (.t 0)),
 oO 7 (.len .sl (.t 6)),
 oO 8 (.mv (.c (.int .i64 0)))])
 (.block 0 (.loop (.seq (.reg [oO 9 (.bin .lss .no (.t 8) (.t 7))])
 (.seq (.cond (.t 9) (.skip)
 (.exit 0))
 (.seq (.block 1 (.seq (.reg [oO 10 (.iad 1 (.t 6) (.t 8)),
 oO 11 (.load1 (.t 10)),
 oO 5 (.mv (.t 11))])
 (.seq (.reg [oO 12 (.mv (.t 5)),
 oO 13 (.mv (.t 3)),
 oO 14 (.bin .neq .no (.t 12) (.t 13))])
 (.cond (.t 14) (.seq (.reg [oO 15 (.mv (.t 5)),
 oO 2 (.mv (.t 15))])
 (.ret))
 (.skip)))))
 (.reg [oO 16 (.bin .add .no (.t 8) (.c (.int .i64 1))),
 oO 8 (.mv (.t 16))])))))))
 (.seq (.reg [oO 17 (.mv (.t 3)),
 oO 2 (.mv (.t 17))])
 (.ret))))⟩

/- cmp.Compare[int] -/
def a75 : AFn := ⟨20, [.t 4],
  .seq (.reg [oO 4 (.mv (.c (.int .i64 0)))])
 (.seq (.reg [oO 7 (.mv (.t 0)),
 oO 8 (.call 96 false [(.t 7)]),
 oO 5 (.mv (.t 8))])
 (.seq (.reg [oO 9 (.mv (.t 1)),
 oO 10 (.call 96 false [(.t 9)]),
 oO 6 (.mv (.t 10))])
 (.seq (.seq (.reg [oO 11 (.mv (.t 5))])
 (.cond (.t 11) (.seq (.seq (.reg [oO 12 (.mv (.t 6))])
 (.cond (.t 12) (.seq (.reg [oO 4 (.mv (.c (.int .i64 0)))])
 (.ret))
 (.skip)))
 (.seq (.reg [oO 4 (.mv (.c (.int .i64 (-1))))])
 (.ret)))
 (.skip)))
 (.seq (.seq (.reg [oO 13 (.mv (.t 6))])
 (.cond (.t 13) (.seq (.reg [oO 4 (.mv (.c (.int .i64 1)))])
 (.ret))
 (.skip)))
 (.seq (.seq (.reg [oO 14 (.mv (.t 0)),
 oO 15 (.mv (.t 1)),
 oO 16 (.bin .lss .no (.t 14) (.t 15))])
 (.cond (.t 16) (.seq (.reg [oO 4 (.mv (.c (.int .i64 (-1))))])
 (.ret))
 (.skip)))
 (.seq (.seq (.reg [oO 17 (.mv (.t 0)),
 oO 18 (.mv (.t 1)),
 oO 19 (.bin .gtr .no (.t 17) (.t 18))])
 (.cond (.t 19) (.seq (.reg [oO 4 (.mv (.c (.int .i64 1)))])
 (.ret))
 (.skip)))
 (.seq (.reg [oO 4 (.mv (.c (.int .i64 0)))])
 (.ret))))))))⟩

/- redpencil/node.Valid -/
def a76 : AFn := ⟨42, [.t 2],
  .seq (.reg [oO 1 (.box 6 (.t 0)),
 oO 2 (.mv (.c (.bool false)))])
 (.seq (.reg [oO 3 (.fad 0 (.t 1)),
 oO 4 (.loadn 2 (.t 3)),
 oO 5 (.call 92 false [(.t 4)]),
 oO 6 (.mv (.t 5)),
 oG 7 (.fad 2 (.t 1)) 6 true,
 oG 8 (.loadn 2 (.t 7)) 6 true,
 oG 9 (.call 97 false [(.t 8)]) 6 true,
 oG 10 (.mv (.t 9)) 6 true,
 oG 11 (.fad 2 (.t 1)) 10 false,
 oG 12 (.loadn 2 (.t 11)) 10 false,
 oG 13 (.call 92 false [(.t 12)]) 10 false,
 oG 14 (.pick (.t 10) (.c (.bool true)) (.t 13)) 6 true,
 oO 15 (.pick (.t 6) (.t 14) (.c (.bool false))),
 oO 16 (.mv (.t 15)),
 oG 17 (.fad 2 (.t 1)) 16 true,
 oG 18 (.loadn 2 (.t 17)) 16 true,
 oG 19 (.fad 0 (.t 1)) 16 true,
 oG 20 (.loadn 2 (.t 19)) 16 true,
 oG 21 (.bin .neq (.fl [.i, .i]) (.t 18) (.t 20)) 16 true,
 oO 22 (.pick (.t 16) (.t 21) (.c (.bool false))),
 oO 23 (.mv (.t 22)),
 oG 24 (.fad 4 (.t 1)) 23 true,
 oG 25 (.load1 (.t 24)) 23 true,
 oG 26 (.bin .geq .no (.t 25) (.c (.int .i64 1))) 23 true,
 oO 27 (.pick (.t 23) (.t 26) (.c (.bool false))),
 oO 28 (.mv (.t 27)),
 oG 29 (.fad 4 (.t 1)) 28 true,
 oG 30 (.load1 (.t 29)) 28 true,
 oG 31 (.bin .leq .no (.t 30) (.c (.int .i64 4611686018427387904))) 28 true,
 oO 32 (.pick (.t 28) (.t 31) (.c (.bool false))),
 oO 33 (.mv (.t 32)),
 oG 34 (.loadn 6 (.t 1)) 33 true,
 oG 35 (.call 73 false [(.t 34)]) 33 true,
 oG 36 (.mv (.t 35)) 33 true,
 oG 37 (.fad 5 (.t 1)) 36 false,
 oG 38 (.load1 (.t 37)) 36 false,
 oG 39 (.call 98 false [(.t 38)]) 36 false,
 oG 40 (.pick (.t 36) (.c (.bool true)) (.t 39)) 33 true,
 oO 41 (.pick (.t 33) (.t 40) (.c (.bool false))),
 oO 2 (.mv (.t 41))])
 (.ret))⟩

/- redpencil/node.Kill -/
def a77 : AFn := ⟨5, [.celln 2 6],
  .seq (.reg [oO 1 (.box 6 (.t 0)),
 oO 2 (.alloc [(.int .i64 0), (.int .i64 0), (.int .i64 0), (.int .i64 0), (.int .i64 0), (.int .i32 0)])])
 (.seq (.reg [oO 3 (.fad 5 (.t 1)),
 ⟨none, .store 1 (.t 3) (.c (.int .i32 0)), none, none, false⟩])
 (.seq (.reg [oO 4 (.loadn 6 (.t 1)),
 ⟨none, .store 6 (.t 2) (.t 4), none, none, false⟩])
 (.ret)))⟩

/- redpencil/store.Equal -/
/- redpencil/vector.Merge -/
def a79 : AFn := ⟨19, [.t 4, .t 5],
  .seq (.reg [oO 4 (.mv (.c .nils)),
 oO 5 (.mv (.c (.int .i64 0)))])
 (.seq (.seq (.reg [oO 6 (.mv (.t 0)),
 oO 7 (.call 85 false [(.t 6)]),
 oO 8 (.un .not (.t 7)),
 oO 9 (.mv (.t 8)),
 oG 10 (.mv (.t 1)) 9 false,
 oG 11 (.call 85 false [(.t 10)]) 9 false,
 oG 12 (.un .not (.t 11)) 9 false,
 oO 13 (.pick (.t 9) (.c (.bool true)) (.t 12))])
 (.cond (.t 13) (.seq (.reg [oO 4 (.mv (.c .nils)),
 oO 5 (.mv (.c (.int .i64 2)))])
 (.ret))
 (.skip)))
 (.seq (.reg [oO 14 (.mv (.t 0)),
 oO 15 (.mv (.t 1)),
 oO 16 (.bsl [.nils, .nils] 2 1 [(0, (.t 14)), (1, (.t 15))]),
 oO 17 (.call 101 false [(.t 16)]),
 oO 18 (.call 100 false [(.t 17)]),
 oO 4 (.mv (.t 18)),
 oO 5 (.mv (.c (.int .i64 0)))])
 (.ret)))⟩

/- redpencil/dot.Union -/
def a80 : AFn := ⟨11, [.t 4],
  .seq (.reg [oO 4 (.mv (.c .nils))])
 (.seq (.reg [oO 5 (.build [.nilf] [(0, 1, (.f 102))]),
 oO 6 (.mv (.t 0)),
 oO 7 (.mv (.t 1)),
 oO 8 (.bsl [.nils, .nils] 2 1 [(0, (.t 6)), (1, (.t 7))]),
 oO 9 (.call 104 false [(.t 8)]),
 oO 10 (.call 103 false [(.t 5), (.t 9)]),
 oO 4 (.mv (.t 10))])
 (.ret))⟩

/- slices.Clone[redpencil/api.Vector,redpencil/api.Dot] -/
def a81 : AFn := ⟨8, [.t 2],
  .seq (.reg [oO 2 (.mv (.c .nils))])
 (.seq (.seq (.reg [oO 3 (.mv (.t 0)),
 oO 4 (.bin .eql .ns (.t 3) (.c .nils))])
 (.cond (.t 4) (.seq (.reg [oO 2 (.mv (.c .nils))])
 (.ret))
 (.skip)))
 (.seq (.reg [oO 5 (.bsl [] 0 2 []),
 oO 6 (.mv (.t 0)),
 oO 7 (.app 2 16 [(.int .i64 0), (.int .i64 0)] (.t 5) (.t 6)),
 oO 2 (.mv (.t 7))])
 (.ret)))⟩

/- redpencil/vector.Raise -/
def a82 : AFn := ⟨12, [.t 4, .t 5],
  .seq (.reg [oO 3 (.box 2 (.t 1)),
 oO 4 (.mv (.c .nils)),
 oO 5 (.mv (.c (.int .i64 0)))])
 (.seq (.reg [oO 6 (.mv (.t 0)),
 oO 7 (.loadn 2 (.t 3)),
 oO 8 (.bsl [(.int .i64 0), (.int .i64 0)] 1 2 [(0, (.t 7))]),
 oO 9 (.call 79 false [(.t 6), (.t 8)]),
 oO 10 (.ext (.t 9) 0),
 oO 11 (.ext (.t 9) 1),
 oO 4 (.mv (.t 10)),
 oO 5 (.mv (.t 11))])
 (.ret))⟩

/- slices.IndexFunc[redpencil/api.Vector,redpencil/api.Dot] -/
def a83 : AFn := ⟨19, [.t 4],
  .seq (.reg [oO 4 (.mv (.c (.int .i64 0)))])
 (.seq (.seq (.reg [oO 6 (.mv (.t 0)),
 oO 7 (.len .sl (.t 6)),
 oO 8 (.mv (.c (.int .i64 0)))])
 (.block 0 (.loop (.seq (.reg [oO 9 (.bin .lss .no (.t 8) (.t 7))])
 (.seq (.cond (.t 9) (.skip)
 (.exit 0))
 (.seq (.block 1 (.seq (.reg [oO 10 (.mv (.t 8)),
 oO 5 (.mv (.t 10))])
 (.seq (.reg [oO 11 (.mv (.t 1)),
 oO 12 (.mv (.t 0)),
 oO 13 (.mv (.t 5)),
 oO 14 (.iad 2 (.t 12) (.t 13)),
 oO 15 (.loadn 2 (.t 14)),
 oO 16 (.callv (.t 11) false [(.t 15)])])
 (.cond (.t 16) (.seq (.reg [oO 17 (.mv (.t 5)),
 oO 4 (.mv (.t 17))])
 (.ret))
 (.skip)))))
 (.reg [oO 18 (.bin .add .no (.t 8) (.c (.int .i64 1))),
 oO 8 (.mv (.t 18))])))))))
 (.seq (.reg [oO 4 (.mv (.c (.int .i64 (-1))))])
 (.ret)))⟩

/- redpencil/vector.Get$1 -/
def a84 : AFn := ⟨8, [.t 3],
  .seq (.reg [oO 2 (.box 2 (.t 0)),
 oO 3 (.mv (.c (.bool false)))])
 (.seq (.reg [oO 4 (.fad 0 (.t 2)),
 oO 5 (.load1 (.t 4)),
 oO 6 (.load1 (.t 1)),
 oO 7 (.bin .eql .no (.t 5) (.t 6)),
 oO 3 (.mv (.t 7))])
 (.ret))⟩

/- redpencil/vector.Valid -/
def a85 : AFn := ⟨25, [.t 2],
  .seq (.reg [oO 2 (.mv (.c (.bool false)))])
 (.seq (.seq (.reg [oO 3 (.mv (.c (.int .i64 1)))])
 (.block 0 (.loop (.seq (.seq (.reg [oO 4 (.mv (.t 3)),
 oO 5 (.mv (.t 0)),
 oO 6 (.len .sl (.t 5)),
 oO 7 (.bin .lss .no (.t 4) (.t 6))])
 (.cond (.t 7) (.skip)
 (.exit 0)))
 (.seq (.block 1 (.seq (.regd 0 [oO 10 (.mv (.t 0)),
 oO 11 (.mv (.t 3)),
 oO 12 (.bin .sub .no (.t 11) (.c (.int .i64 1))),
 oO 13 (.iad 2 (.t 10) (.t 12)),
 oO 14 (.fad 0 (.t 13)),
 oO 15 (.load1 (.t 14)),
 oO 16 (.mv (.t 0)),
 oO 17 (.mv (.t 3)),
 oO 18 (.iad 2 (.t 16) (.t 17)),
 oO 19 (.fad 0 (.t 18)),
 oO 20 (.load1 (.t 19)),
 oO 21 (.bin .geq .no (.t 15) (.t 20))])
 (.cond (.t 21) (.seq (.reg [oO 2 (.mv (.c (.bool false)))])
 (.ret))
 (.skip))))
 (.reg [oO 8 (.mv (.t 3)),
 oO 9 (.bin .add .no (.t 8) (.c (.int .i64 1))),
 oO 3 (.mv (.t 9))]))))))
 (.seq (.reg [oO 22 (.mv (.t 0)),
 oO 23 (.call 105 false [(.t 22), (.f 106)]),
 oO 24 (.un .not (.t 23)),
 oO 2 (.mv (.t 24))])
 (.ret)))⟩

/- redpencil/dot.IsSet -/
def a86 : AFn := ⟨21, [.t 2],
  .seq (.reg [oO 2 (.mv (.c (.bool false)))])
 (.seq (.seq (.reg [oO 3 (.mv (.c (.int .i64 1)))])
 (.block 0 (.loop (.seq (.seq (.reg [oO 4 (.mv (.t 3)),
 oO 5 (.mv (.t 0)),
 oO 6 (.len .sl (.t 5)),
 oO 7 (.bin .lss .no (.t 4) (.t 6))])
 (.cond (.t 7) (.skip)
 (.exit 0)))
 (.seq (.block 1 (.seq (.regd 0 [oO 10 (.mv (.t 0)),
 oO 11 (.mv (.t 3)),
 oO 12 (.bin .sub .no (.t 11) (.c (.int .i64 1))),
 oO 13 (.iad 2 (.t 10) (.t 12)),
 oO 14 (.loadn 2 (.t 13)),
 oO 15 (.mv (.t 0)),
 oO 16 (.mv (.t 3)),
 oO 17 (.iad 2 (.t 15) (.t 16)),
 oO 18 (.loadn 2 (.t 17)),
 oO 19 (.call 50 false [(.t 14), (.t 18)]),
 oO 20 (.bin .geq .no (.t 19) (.c (.int .i64 0)))])
 (.cond (.t 20) (.seq (.reg [oO 2 (.mv (.c (.bool false)))])
 (.ret))
 (.skip))))
 (.reg [oO 8 (.mv (.t 3)),
 oO 9 (.bin .add .no (.t 8) (.c (.int .i64 1))),
 oO 3 (.mv (.t 9))]))))))
 (.seq (.reg [oO 2 (.mv (.c (.bool true)))])
 (.ret)))⟩

/- redpencil/context.valid -/
def a87 : AFn := ⟨6, [.t 2],
  .seq (.reg [oO 2 (.mv (.c (.bool false)))])
 (.seq (.reg [oO 3 (.mv (.t 0)),
 oO 4 (.call 61 false [(.t 3), (.f 107)]),
 oO 5 (.un .not (.t 4)),
 oO 2 (.mv (.t 5))])
 (.ret))⟩

/- slices.IndexFunc[[]redpencil/api.Dot,redpencil/api.Dot] -/
def a88 : AFn := ⟨19, [.t 4],
  .seq (.reg [oO 4 (.mv (.c (.int .i64 0)))])
 (.seq (.seq (.reg [oO 6 (.mv (.t 0)),
 oO 7 (.len .sl (.t 6)),
 oO 8 (.mv (.c (.int .i64 0)))])
 (.block 0 (.loop (.seq (.reg [oO 9 (.bin .lss .no (.t 8) (.t 7))])
 (.seq (.cond (.t 9) (.skip)
 (.exit 0))
 (.seq (.block 1 (.seq (.reg [oO 10 (.mv (.t 8)),
 oO 5 (.mv (.t 10))])
 (.seq (.reg [oO 11 (.mv (.t 1)),
 oO 12 (.mv (.t 0)),
 oO 13 (.mv (.t 5)),
 oO 14 (.iad 2 (.t 12) (.t 13)),
 oO 15 (.loadn 2 (.t 14)),
 oO 16 (.callv (.t 11) false [(.t 15)])])
 (.cond (.t 16) (.seq (.reg [oO 17 (.mv (.t 5)),
 oO 4 (.mv (.t 17))])
 (.ret))
 (.skip)))))
 (.reg [oO 18 (.bin .add .no (.t 8) (.c (.int .i64 1))),
 oO 8 (.mv (.t 18))])))))))
 (.seq (.reg [oO 4 (.mv (.c (.int .i64 (-1))))])
 (.ret)))⟩

/- slices.ContainsFunc[[]redpencil/api.Node,redpencil/api.Node] -/
def a89 : AFn := ⟨9, [.t 4],
  .seq (.reg [oO 4 (.mv (.c (.bool false)))])
 (.seq (.reg [oO 5 (.mv (.t 0)),
 oO 6 (.mv (.t 1)),
 oO 7 (.call 95 false [(.t 5), (.t 6)]),
 oO 8 (.bin .geq .no (.t 7) (.c (.int .i64 0))),
 oO 4 (.mv (.t 8))])
 (.ret))⟩

/- redpencil/store.invalid -/
def a90 : AFn := ⟨6, [.t 2],
  .seq (.reg [oO 1 (.box 6 (.t 0)),
 oO 2 (.mv (.c (.bool false)))])
 (.seq (.reg [oO 3 (.loadn 6 (.t 1)),
 oO 4 (.call 76 false [(.t 3)]),
 oO 5 (.un .not (.t 4)),
 oO 2 (.mv (.t 5))])
 (.ret))⟩

/- redpencil/vector.Has -/
def a91 : AFn := ⟨16, [.t 4],
  .seq (.reg [oO 3 (.box 2 (.t 1)),
 oO 4 (.mv (.c (.bool false)))])
 (.seq (.regd 0 [oO 5 (.loadn 2 (.t 3)),
 oO 6 (.call 92 false [(.t 5)]),
 oO 7 (.mv (.t 6)),
 oG 8 (.fad 1 (.t 3)) 7 true,
 oG 9 (.load1 (.t 8)) 7 true,
 oG 10 (.mv (.t 0)) 7 true,
 oG 11 (.fad 0 (.t 3)) 7 true,
 oG 12 (.load1 (.t 11)) 7 true,
 oG 13 (.call 59 true [(.t 10), (.t 12)]) 7 true,
 oG 14 (.bin .leq .no (.t 9) (.t 13)) 7 true,
 oO 15 (.pick (.t 7) (.t 14) (.c (.bool false))),
 oO 4 (.mv (.t 15))])
 (.ret))⟩

/- redpencil/dot.Valid -/
def a92 : AFn := ⟨21, [.t 2],
  .seq (.reg [oO 1 (.box 2 (.t 0)),
 oO 2 (.mv (.c (.bool false)))])
 (.seq (.reg [oO 3 (.fad 0 (.t 1)),
 oO 4 (.load1 (.t 3)),
 oO 5 (.bin .geq .no (.t 4) (.c (.int .i64 1))),
 oO 6 (.mv (.t 5)),
 oG 7 (.fad 0 (.t 1)) 6 true,
 oG 8 (.load1 (.t 7)) 6 true,
 oG 9 (.bin .leq .no (.t 8) (.c (.int .i64 64))) 6 true,
 oO 10 (.pick (.t 6) (.t 9) (.c (.bool false))),
 oO 11 (.mv (.t 10)),
 oG 12 (.fad 1 (.t 1)) 11 true,
 oG 13 (.load1 (.t 12)) 11 true,
 oG 14 (.bin .geq .no (.t 13) (.c (.int .i64 1))) 11 true,
 oO 15 (.pick (.t 11) (.t 14) (.c (.bool false))),
 oO 16 (.mv (.t 15)),
 oG 17 (.fad 1 (.t 1)) 16 true,
 oG 18 (.load1 (.t 17)) 16 true,
 oG 19 (.bin .leq .no (.t 18) (.c (.int .i64 4294967295))) 16 true,
 oO 20 (.pick (.t 16) (.t 19) (.c (.bool false))),
 oO 2 (.mv (.t 20))])
 (.ret))⟩

/- redpencil/dot.Has -/
def a93 : AFn := ⟨8, [.t 4],
  .seq (.reg [oO 3 (.box 2 (.t 1)),
 oO 4 (.mv (.c (.bool false)))])
 (.seq (.reg [oO 5 (.mv (.t 0)),
 oO 6 (.loadn 2 (.t 3)),
 oO 7 (.call 108 false [(.t 5), (.t 6)]),
 oO 4 (.mv (.t 7))])
 (.ret))⟩

/- redpencil/context.Add -/
def a94 : AFn := ⟨25, [.celln 4 2, .t 5],
  .seq (.reg [oO 2 (.box 2 (.t 0)),
 oO 4 (.alloc [.nils, .nils]),
 oO 5 (.mv (.c (.int .i64 0)))])
 (.seq (.seq (.reg [oO 6 (.loadn 2 (.t 2)),
 oO 7 (.call 60 false [(.t 6)]),
 oO 8 (.un .not (.t 7)),
 oO 9 (.mv (.t 8)),
 oG 10 (.mv (.t 1)) 9 false,
 oG 11 (.call 87 false [(.t 10)]) 9 false,
 oG 12 (.un .not (.t 11)) 9 false,
 oO 13 (.pick (.t 9) (.c (.bool true)) (.t 12))])
 (.cond (.t 13) (.seq (.reg [oO 14 (.build [.nils, .nils] []),
 ⟨none, .store 2 (.t 4) (.t 14), none, none, false⟩,
 oO 5 (.mv (.c (.int .i64 2)))])
 (.ret))
 (.skip)))
 (.seq (.regd 0 [oO 15 (.fad 0 (.t 2)),
 oO 16 (.load1 (.t 15)),
 oO 17 (.fad 1 (.t 2)),
 oO 18 (.load1 (.t 17)),
 oO 19 (.mv (.t 1)),
 ⟨(some 20), .call 80 false [(.t 18), (.t 19)], none, none, true⟩,
 oO 21 (.build [.nils, .nils] [(0, 1, (.t 16)), (1, 1, (.t 20))]),
 oO 22 (.call 57 false [(.t 21)]),
 oO 23 (.ext (.t 22) 0),
 oO 24 (.ext (.t 22) 1),
 ⟨none, .store 2 (.t 4) (.t 23), none, none, false⟩,
 oO 5 (.mv (.t 24))])
 (.ret)))⟩

/- slices.IndexFunc[[]redpencil/api.Node,redpencil/api.Node] -/
def a95 : AFn := ⟨19, [.t 4],
  .seq (.reg [oO 4 (.mv (.c (.int .i64 0)))])
 (.seq (.seq (.reg [oO 6 (.mv (.t 0)),
 oO 7 (.len .sl (.t 6)),
 oO 8 (.mv (.c (.int .i64 0)))])
 (.block 0 (.loop (.seq (.reg [oO 9 (.bin .lss .no (.t 8) (.t 7))])
 (.seq (.cond (.t 9) (.skip)
 (.exit 0))
 (.seq (.block 1 (.seq (.reg [oO 10 (.mv (.t 8)),
 oO 5 (.mv (.t 10))])
 (.seq (.reg [oO 11 (.mv (.t 1)),
 oO 12 (.mv (.t 0)),
 oO 13 (.mv (.t 5)),
 oO 14 (.iad 6 (.t 12) (.t 13)),
 oO 15 (.loadn 6 (.t 14)),
 oO 16 (.callv (.t 11) false [(.t 15)])])
 (.cond (.t 16) (.seq (.reg [oO 17 (.mv (.t 5)),
 oO 4 (.mv (.t 17))])
 (.ret))
 (.skip)))))
 (.reg [oO 18 (.bin .add .no (.t 8) (.c (.int .i64 1))),
 oO 8 (.mv (.t 18))])))))))
 (.seq (.reg [oO 4 (.mv (.c (.int .i64 (-1))))])
 (.ret)))⟩

/- cmp.isNaN[int] -/
def a96 : AFn := ⟨6, [.t 2],
  .seq (.reg [oO 2 (.mv (.c (.bool false)))])
 (.seq (.reg [oO 3 (.mv (.t 0)),
 oO 4 (.mv (.t 0)),
 oO 5 (.bin .neq .no (.t 3) (.t 4)),
 oO 2 (.mv (.t 5))])
 (.ret))⟩

/- redpencil/dot.Root -/
def a97 : AFn := ⟨6, [.t 2],
  .seq (.reg [oO 1 (.box 2 (.t 0)),
 oO 2 (.mv (.c (.bool false)))])
 (.seq (.reg [oO 3 (.loadn 2 (.t 1)),
 oO 4 (.build [(.int .i64 0), (.int .i64 0)] []),
 oO 5 (.bin .eql (.fl [.i, .i]) (.t 3) (.t 4)),
 oO 2 (.mv (.t 5))])
 (.ret))⟩

/- redpencil/runes.Valid -/
def a98 : AFn := ⟨9, [.t 2],
  .seq (.reg [oO 2 (.mv (.c (.bool false)))])
 (.seq (.reg [oO 3 (.mv (.t 0)),
 oO 4 (.bin .neq .no (.t 3) (.c (.int .i32 0))),
 oO 5 (.mv (.t 4)),
 oG 6 (.mv (.t 0)) 5 true,
 oG 7 (.call 109 false [(.t 6)]) 5 true,
 oO 8 (.pick (.t 5) (.t 7) (.c (.bool false))),
 oO 2 (.mv (.t 8))])
 (.ret))⟩

/- slices.Equal[[]redpencil/api.Node,redpencil/api.Node] -/
/- redpencil/vector.made -/
def a100 : AFn := ⟨43, [.t 2],
  .seq (.reg [oO 2 (.mv (.c .nils))])
 (.seq (.reg [oO 9 (.mkmap none),
 oO 3 (.mv (.t 9))])
 (.seq (.seq (.reg [oO 10 (.mv (.t 0)),
 oO 11 (.len .sl (.t 10)),
 oO 12 (.mv (.c (.int .i64 0)))])
 (.block 0 (.loop (.seq (.reg [oO 13 (.bin .lss .no (.t 12) (.t 11))])
 (.seq (.cond (.t 13) (.skip)
 (.exit 0))
 (.seq (.block 1 (.seq (.reg [oO 14 (.iad 2 (.t 10) (.t 12)),
 oO 15 (.loadn 2 (.t 14)),
 oO 5 (.alloc [(.int .i64 0), (.int .i64 0)]),
 ⟨none, .store 2 (.t 5) (.t 15), none, none, false⟩])
 (.reg [oO 16 (.mv (.t 3)),
 oO 17 (.fad 0 (.t 5)),
 oO 18 (.load1 (.t 17)),
 oO 19 (.mv (.t 3)),
 oO 20 (.fad 0 (.t 5)),
 oO 21 (.load1 (.t 20)),
 oO 22 (.look (.int .i64 0) (.ky .i) false (.t 19) (.t 21)),
 oO 23 (.fad 1 (.t 5)),
 oO 24 (.load1 (.t 23)),
 oO 25 (.mm true [(.t 22), (.t 24)]),
 ⟨none, .mset (.ky .i) (.t 16) (.t 18) (.t 25), none, none, false⟩])))
 (.reg [oO 26 (.bin .add .no (.t 12) (.c (.int .i64 1))),
 oO 12 (.mv (.t 26))])))))))
 (.seq (.reg [oO 6 (.mv (.c .nils))])
 (.seq (.seq (.reg [oO 27 (.mv (.t 3)),
 oO 28 (.rng (.t 27))])
 (.block 2 (.loop (.seq (.reg [oO 29 (.nxt (.t 28)),
 oO 30 (.ext (.t 29) 0)])
 (.seq (.cond (.t 30) (.skip)
 (.exit 2))
 (.block 3 (.seq (.reg [oO 31 (.ent (.t 28)),
 oO 32 (.ext (.t 31) 0),
 oO 33 (.ext (.t 31) 1),
 oO 7 (.mv (.t 32)),
 oO 8 (.mv (.t 33))])
 (.reg [oO 34 (.mv (.t 6)),
 oO 35 (.mv (.t 7)),
 oO 36 (.mv (.t 8)),
 oO 37 (.build [(.int .i64 0), (.int .i64 0)] [(0, 1, (.t 35)), (1, 1, (.t 36))]),
 oO 38 (.bsl [(.int .i64 0), (.int .i64 0)] 1 2 [(0, (.t 37))]),
 oO 39 (.app 2 16 [(.int .i64 0), (.int .i64 0)] (.t 34) (.t 38)),
 oO 6 (.mv (.t 39))]))))))))
 (.seq (.reg [oO 40 (.mv (.t 6)),
 oO 41 (.call 110 false [(.t 40), (.f 111)])])
 (.seq (.reg [oO 42 (.mv (.t 6)),
 oO 2 (.mv (.t 42))])
 (.ret)))))))⟩

/- slices.Concat[redpencil/api.Vector,redpencil/api.Dot] -/
def a101 : AFn := ⟨36, [.t 2],
  .seq (.reg [oO 2 (.mv (.c .nils))])
 (.seq (.reg [oO 3 (.mv (.c (.int .i64 0)))])
 (.seq (.seq (.reg [oO 9 (.mv (.t 0)),
 oO 10 (.len .sl (.t 9)),
 oO 11 (.mv (.c (.int .i64 0)))])
 (.block 0 (.loop (.seq (.reg [oO 12 (.bin .lss .no (.t 11) (.t 10))])
 (.seq (.cond (.t 12) (.skip)
 (.exit 0))
 (.seq (.block 1 (.seq (.reg [oO 13 (.iad 1 (.t 9) (.t 11)),
 oO 14 (.load1 (.t 13)),
 oO 5 (.mv (.t 14))])
 (.seq (.reg [oO 15 (.mv (.t 3)),
 oO 16 (.mv (.t 5)),
 oO 17 (.len .sl (.t 16)),
 oO 18 (.bin .add .no (.t 15) (.t 17)),
 oO 3 (.mv (.t 18))])
 (.seq (.reg [oO 19 (.mv (.t 3)),
 oO 20 (.bin .lss .no (.t 19) (.c (.int .i64 0)))])
 (.cond (.t 20) (.reg [oO 21 (.bad),
 ⟨none, .bad, none, none, false⟩])
 (.skip))))))
 (.reg [oO 22 (.bin .add .no (.t 11) (.c (.int .i64 1))),
 oO 11 (.mv (.t 22))])))))))
 (.seq (.reg [oO 23 (.mv (.t 3)),
 oO 24 (.call 112 false [(.c .nils), (.t 23)]),
 oO 6 (.mv (.t 24))])
 (.seq (.seq (.reg [oO 25 (.mv (.t 0)),
 oO 26 (.len .sl (.t 25)),
 oO 27 (.mv (.c (.int .i64 0)))])
 (.block 2 (.loop (.seq (.reg [oO 28 (.bin .lss .no (.t 27) (.t 26))])
 (.seq (.cond (.t 28) (.skip)
 (.exit 2))
 (.seq (.block 3 (.seq (.reg [oO 29 (.iad 1 (.t 25) (.t 27)),
 oO 30 (.load1 (.t 29)),
 oO 8 (.mv (.t 30))])
 (.reg [oO 31 (.mv (.t 6)),
 oO 32 (.mv (.t 8)),
 oO 33 (.app 2 16 [(.int .i64 0), (.int .i64 0)] (.t 31) (.t 32)),
 oO 6 (.mv (.t 33))])))
 (.reg [oO 34 (.bin .add .no (.t 27) (.c (.int .i64 1))),
 oO 27 (.mv (.t 34))])))))))
 (.seq (.reg [oO 35 (.mv (.t 6)),
 oO 2 (.mv (.t 35))])
 (.ret))))))⟩

/- redpencil/dot.Union$1 -/
def a102 : AFn := ⟨3, [.t 2],
  .seq (.reg [oO 1 (.box 2 (.t 0)),
 oO 2 (.mv (.c (.bool false)))])
 (.seq (.reg [oO 2 (.mv (.c (.bool true)))])
 (.ret))⟩

/- (redpencil/dot.choice).of -/
def a103 : AFn := ⟨25, [.t 4],
  .seq (.reg [oO 2 (.box 1 (.t 0)),
 oO 4 (.mv (.c .nils))])
 (.seq (.reg [oO 5 (.mv (.c .nils))])
 (.seq (.seq (.reg [oO 8 (.mv (.t 1)),
 oO 9 (.len .sl (.t 8)),
 oO 10 (.mv (.c (.int .i64 0)))])
 (.block 0 (.loop (.seq (.reg [oO 11 (.bin .lss .no (.t 10) (.t 9))])
 (.seq (.cond (.t 11) (.skip)
 (.exit 0))
 (.seq (.block 1 (.seq (.reg [oO 12 (.iad 2 (.t 8) (.t 10)),
 oO 13 (.loadn 2 (.t 12)),
 oO 7 (.alloc [(.int .i64 0), (.int .i64 0)]),
 ⟨none, .store 2 (.t 7) (.t 13), none, none, false⟩])
 (.seq (.reg [oO 14 (.fad 0 (.t 2)),
 oO 15 (.load1 (.t 14)),
 oO 16 (.loadn 2 (.t 7)),
 oO 17 (.callv (.t 15) false [(.t 16)])])
 (.cond (.t 17) (.reg [oO 18 (.mv (.t 5)),
 oO 19 (.loadn 2 (.t 7)),
 oO 20 (.bsl [(.int .i64 0), (.int .i64 0)] 1 2 [(0, (.t 19))]),
 oO 21 (.app 2 16 [(.int .i64 0), (.int .i64 0)] (.t 18) (.t 20)),
 oO 5 (.mv (.t 21))])
 (.skip)))))
 (.reg [oO 22 (.bin .add .no (.t 10) (.c (.int .i64 1))),
 oO 10 (.mv (.t 22))])))))))
 (.seq (.reg [oO 23 (.mv (.t 5)),
 oO 24 (.call 113 false [(.t 23)]),
 oO 4 (.mv (.t 24))])
 (.ret))))⟩

/- slices.Concat[[]redpencil/api.Dot,redpencil/api.Dot] -/
def a104 : AFn := ⟨36, [.t 2],
  .seq (.reg [oO 2 (.mv (.c .nils))])
 (.seq (.reg [oO 3 (.mv (.c (.int .i64 0)))])
 (.seq (.seq (.reg [oO 9 (.mv (.t 0)),
 oO 10 (.len .sl (.t 9)),
 oO 11 (.mv (.c (.int .i64 0)))])
 (.block 0 (.loop (.seq (.reg [oO 12 (.bin .lss .no (.t 11) (.t 10))])
 (.seq (.cond (.t 12) (.skip)
 (.exit 0))
 (.seq (.block 1 (.seq (.reg [oO 13 (.iad 1 (.t 9) (.t 11)),
 oO 14 (.load1 (.t 13)),
 oO 5 (.mv (.t 14))])
 (.seq (.reg [oO 15 (.mv (.t 3)),
 oO 16 (.mv (.t 5)),
 oO 17 (.len .sl (.t 16)),
 oO 18 (.bin .add .no (.t 15) (.t 17)),
 oO 3 (.mv (.t 18))])
 (.seq (.reg [oO 19 (.mv (.t 3)),
 oO 20 (.bin .lss .no (.t 19) (.c (.int .i64 0)))])
 (.cond (.t 20) (.reg [oO 21 (.bad),
 ⟨none, .bad, none, none, false⟩])
 (.skip))))))
 (.reg [oO 22 (.bin .add .no (.t 11) (.c (.int .i64 1))),
 oO 11 (.mv (.t 22))])))))))
 (.seq (.reg [oO 23 (.mv (.t 3)),
 oO 24 (.call 114 false [(.c .nils), (.t 23)]),
 oO 6 (.mv (.t 24))])
 (.seq (.seq (.reg [oO 25 (.mv (.t 0)),
 oO 26 (.len .sl (.t 25)),
 oO 27 (.mv (.c (.int .i64 0)))])
 (.block 2 (.loop (.seq (.reg [oO 28 (.bin .lss .no (.t 27) (.t 26))])
 (.seq (.cond (.t 28) (.skip)
 (.exit 2))
 (.seq (.block 3 (.seq (.reg [oO 29 (.iad 1 (.t 25) (.t 27)),
 oO 30 (.load1 (.t 29)),
 oO 8 (.mv (.t 30))])
 (.reg [oO 31 (.mv (.t 6)),
 oO 32 (.mv (.t 8)),
 oO 33 (.app 2 16 [(.int .i64 0), (.int .i64 0)] (.t 31) (.t 32)),
 oO 6 (.mv (.t 33))])))
 (.reg [oO 34 (.bin .add .no (.t 27) (.c (.int .i64 1))),
 oO 27 (.mv (.t 34))])))))))
 (.seq (.reg [oO 35 (.mv (.t 6)),
 oO 2 (.mv (.t 35))])
 (.ret))))))⟩

/- slices.ContainsFunc[redpencil/api.Vector,redpencil/api.Dot] -/
def a105 : AFn := ⟨9, [.t 4],
  .seq (.reg [oO 4 (.mv (.c (.bool false)))])
 (.seq (.reg [oO 5 (.mv (.t 0)),
 oO 6 (.mv (.t 1)),
 oO 7 (.call 83 false [(.t 5), (.t 6)]),
 oO 8 (.bin .geq .no (.t 7) (.c (.int .i64 0))),
 oO 4 (.mv (.t 8))])
 (.ret))⟩

/- redpencil/vector.invalid -/
def a106 : AFn := ⟨6, [.t 2],
  .seq (.reg [oO 1 (.box 2 (.t 0)),
 oO 2 (.mv (.c (.bool false)))])
 (.seq (.reg [oO 3 (.loadn 2 (.t 1)),
 oO 4 (.call 92 false [(.t 3)]),
 oO 5 (.un .not (.t 4)),
 oO 2 (.mv (.t 5))])
 (.ret))⟩

/- redpencil/context.valid$1 -/
def a107 : AFn := ⟨6, [.t 2],
  .seq (.reg [oO 1 (.box 2 (.t 0)),
 oO 2 (.mv (.c (.bool false)))])
 (.seq (.reg [oO 3 (.loadn 2 (.t 1)),
 oO 4 (.call 92 false [(.t 3)]),
 oO 5 (.un .not (.t 4)),
 oO 2 (.mv (.t 5))])
 (.ret))⟩

/- slices.Contains[[]redpencil/api.Dot,redpencil/api.Dot] -/
def a108 : AFn := ⟨9, [.t 4],
  .seq (.reg [oO 3 (.box 2 (.t 1)),
 oO 4 (.mv (.c (.bool false)))])
 (.seq (.reg [oO 5 (.mv (.t 0)),
 oO 6 (.loadn 2 (.t 3)),
 oO 7 (.call 115 false [(.t 5), (.t 6)]),
 oO 8 (.bin .geq .no (.t 7) (.c (.int .i64 0))),
 oO 4 (.mv (.t 8))])
 (.ret))⟩

/- unicode/utf8.ValidRune -/
def a109 : AFn := ⟨17, [.t 2],
  .seq (.reg [oO 2 (.mv (.c (.bool false)))])
 (.seq (.block 0 (.seq (.reg [oO 4 (.mv (.t 0)),
 oO 5 (.bin .leq .no (.c (.int .i32 0)) (.t 4)),
 oO 6 (.mv (.t 5)),
 oG 7 (.mv (.t 0)) 6 true,
 oG 8 (.bin .lss .no (.t 7) (.c (.int .i32 55296))) 6 true,
 oO 9 (.pick (.t 6) (.t 8) (.c (.bool false))),
 oO 3 (.mv (.t 9))])
 (.cond (.t 3) (.seq (.reg [oO 2 (.mv (.c (.bool true)))])
 (.ret))
 (.seq (.reg [oO 11 (.mv (.t 0)),
 oO 12 (.bin .lss .no (.c (.int .i32 57343)) (.t 11)),
 oO 13 (.mv (.t 12)),
 oG 14 (.mv (.t 0)) 13 true,
 oG 15 (.bin .leq .no (.t 14) (.c (.int .i32 1114111))) 13 true,
 oO 16 (.pick (.t 13) (.t 15) (.c (.bool false))),
 oO 10 (.mv (.t 16))])
 (.cond (.t 10) (.seq (.reg [oO 2 (.mv (.c (.bool true)))])
 (.ret))
 (.skip))))))
 (.seq (.reg [oO 2 (.mv (.c (.bool false)))])
 (.ret)))⟩

/- redpencil/vector.made$1 -/
def a111 : AFn := ⟨10, [.t 4],
  .seq (.reg [oO 2 (.box 2 (.t 0)),
 oO 3 (.box 2 (.t 1)),
 oO 4 (.mv (.c (.int .i64 0)))])
 (.seq (.reg [oO 5 (.fad 0 (.t 2)),
 oO 6 (.load1 (.t 5)),
 oO 7 (.fad 0 (.t 3)),
 oO 8 (.load1 (.t 7)),
 oO 9 (.call 75 false [(.t 6), (.t 8)]),
 oO 4 (.mv (.t 9))])
 (.ret))⟩

/- slices.Grow[redpencil/api.Vector,redpencil/api.Dot] -/
def a112 : AFn := ⟨27, [.t 4],
  .seq (.reg [oO 4 (.mv (.c .nils))])
 (.seq (.seq (.reg [oO 5 (.mv (.t 1)),
 oO 6 (.bin .lss .no (.t 5) (.c (.int .i64 0)))])
 (.cond (.t 6) (.reg [oO 7 (.bad),
 ⟨none, .bad, none, none, false⟩])
 (.skip)))
 (.seq (.seq (.reg [oO 8 (.mv (.t 1)),
 oO 9 (.mv (.t 0)),
 oO 10 (.cap (.t 9)),
 oO 11 (.mv (.t 0)),
 oO 12 (.len .sl (.t 11)),
 oO 13 (.bin .sub .no (.t 10) (.t 12)),
 oO 14 (.bin .sub .no (.t 8) (.t 13)),
 oO 1 (.mv (.t 14))])
 (.seq (.reg [oO 15 (.mv (.t 1)),
 oO 16 (.bin .gtr .no (.t 15) (.c (.int .i64 0)))])
 (.cond (.t 16) (.reg [oO 17 (.mv (.t 0)),
 oO 18 (.mv (.t 0)),
 oO 19 (.cap (.t 18)),
 oO 20 (.slc 2 (.t 17) none (some (.t 19)) none),
 oO 21 (.mv (.t 1)),
 oO 22 (.appz 2 16 [(.int .i64 0), (.int .i64 0)] (.t 20) (.t 21)),
 oO 23 (.mv (.t 0)),
 oO 24 (.len .sl (.t 23)),
 oO 25 (.slc 2 (.t 22) none (some (.t 24)) none),
 oO 0 (.mv (.t 25))])
 (.skip))))
 (.seq (.reg [oO 26 (.mv (.t 0)),
 oO 4 (.mv (.t 26))])
 (.ret))))⟩

/- redpencil/dot.Set -/
def a113 : AFn := ⟨10, [.t 2],
  .seq (.reg [oO 2 (.mv (.c .nils))])
 (.seq (.reg [oO 4 (.mv (.t 0)),
 oO 5 (.call 118 false [(.t 4)]),
 oO 3 (.mv (.t 5))])
 (.seq (.reg [oO 6 (.mv (.t 3)),
 oO 7 (.call 119 false [(.t 6), (.f 50)])])
 (.seq (.reg [oO 8 (.mv (.t 3)),
 oO 9 (.call 120 false [(.t 8)]),
 oO 2 (.mv (.t 9))])
 (.ret))))⟩

/- slices.Grow[[]redpencil/api.Dot,redpencil/api.Dot] -/
def a114 : AFn := ⟨27, [.t 4],
  .seq (.reg [oO 4 (.mv (.c .nils))])
 (.seq (.seq (.reg [oO 5 (.mv (.t 1)),
 oO 6 (.bin .lss .no (.t 5) (.c (.int .i64 0)))])
 (.cond (.t 6) (.reg [oO 7 (.bad),
 ⟨none, .bad, none, none, false⟩])
 (.skip)))
 (.seq (.seq (.reg [oO 8 (.mv (.t 1)),
 oO 9 (.mv (.t 0)),
 oO 10 (.cap (.t 9)),
 oO 11 (.mv (.t 0)),
 oO 12 (.len .sl (.t 11)),
 oO 13 (.bin .sub .no (.t 10) (.t 12)),
 oO 14 (.bin .sub .no (.t 8) (.t 13)),
 oO 1 (.mv (.t 14))])
 (.seq (.reg [oO 15 (.mv (.t 1)),
 oO 16 (.bin .gtr .no (.t 15) (.c (.int .i64 0)))])
 (.cond (.t 16) (.reg [oO 17 (.mv (.t 0)),
 oO 18 (.mv (.t 0)),
 oO 19 (.cap (.t 18)),
 oO 20 (.slc 2 (.t 17) none (some (.t 19)) none),
 oO 21 (.mv (.t 1)),
 oO 22 (.appz 2 16 [(.int .i64 0), (.int .i64 0)] (.t 20) (.t 21)),
 oO 23 (.mv (.t 0)),
 oO 24 (.len .sl (.t 23)),
 oO 25 (.slc 2 (.t 22) none (some (.t 24)) none),
 oO 0 (.mv (.t 25))])
 (.skip))))
 (.seq (.reg [oO 26 (.mv (.t 0)),
 oO 4 (.mv (.t 26))])
 (.ret))))⟩

/- slices.Index[[]redpencil/api.Dot,redpencil/api.Dot] -/
def a115 : AFn := ⟨19, [.t 4],
  .seq (.reg [oO 3 (.box 2 (.t 1)),
 oO 4 (.mv (.c (.int .i64 0)))])
 (.seq (.seq (.reg [oO 6 (.mv (.t 0)),
 oO 7 (.len .sl (.t 6)),
 oO 8 (.mv (.c (.int .i64 0)))])
 (.block 0 (.loop (.seq (.reg [oO 9 (.bin .lss .no (.t 8) (.t 7))])
 (.seq (.cond (.t 9) (.skip)
 (.exit 0))
 (.seq (.block 1 (.seq (.reg [oO 10 (.mv (.t 8)),
 oO 5 (.mv (.t 10))])
 (.seq (.regd 0 [oO 11 (.loadn 2 (.t 3)),
 oO 12 (.mv (.t 0)),
 oO 13 (.mv (.t 5)),
 oO 14 (.iad 2 (.t 12) (.t 13)),
 oO 15 (.loadn 2 (.t 14)),
 oO 16 (.bin .eql (.fl [.i, .i]) (.t 11) (.t 15))])
 (.cond (.t 16) (.seq (.reg [oO 17 (.mv (.t 5)),
 oO 4 (.mv (.t 17))])
 (.ret))
 (.skip)))))
 (.reg [oO 18 (.bin .add .no (.t 8) (.c (.int .i64 1))),
 oO 8 (.mv (.t 18))])))))))
 (.seq (.reg [oO 4 (.mv (.c (.int .i64 (-1))))])
 (.ret)))⟩

/- slices.Clone[[]redpencil/api.Dot,redpencil/api.Dot] -/
def a118 : AFn := ⟨8, [.t 2],
  .seq (.reg [oO 2 (.mv (.c .nils))])
 (.seq (.seq (.reg [oO 3 (.mv (.t 0)),
 oO 4 (.bin .eql .ns (.t 3) (.c .nils))])
 (.cond (.t 4) (.seq (.reg [oO 2 (.mv (.c .nils))])
 (.ret))
 (.skip)))
 (.seq (.reg [oO 5 (.bsl [] 0 2 []),
 oO 6 (.mv (.t 0)),
 oO 7 (.app 2 16 [(.int .i64 0), (.int .i64 0)] (.t 5) (.t 6)),
 oO 2 (.mv (.t 7))])
 (.ret)))⟩

/- slices.Compact[[]redpencil/api.Dot,redpencil/api.Dot] -/
def a120 : AFn := ⟨61, [.t 2],
  .seq (.reg [oO 2 (.mv (.c .nils))])
 (.seq (.seq (.reg [oO 6 (.mv (.t 0)),
 oO 7 (.len .sl (.t 6)),
 oO 8 (.bin .lss .no (.t 7) (.c (.int .i64 2)))])
 (.cond (.t 8) (.seq (.reg [oO 9 (.mv (.t 0)),
 oO 2 (.mv (.t 9))])
 (.ret))
 (.skip)))
 (.seq (.seq (.reg [oO 3 (.mv (.c (.int .i64 1)))])
 (.block 0 (.loop (.seq (.seq (.reg [oO 10 (.mv (.t 3)),
 oO 11 (.mv (.t 0)),
 oO 12 (.len .sl (.t 11)),
 oO 13 (.bin .lss .no (.t 10) (.t 12))])
 (.cond (.t 13) (.skip)
 (.exit 0)))
 (.seq (.block 1 (.seq (.regd 0 [oO 16 (.mv (.t 0)),
 oO 17 (.mv (.t 3)),
 oO 18 (.iad 2 (.t 16) (.t 17)),
 oO 19 (.loadn 2 (.t 18)),
 oO 20 (.mv (.t 0)),
 oO 21 (.mv (.t 3)),
 oO 22 (.bin .sub .no (.t 21) (.c (.int .i64 1))),
 oO 23 (.iad 2 (.t 20) (.t 22)),
 oO 24 (.loadn 2 (.t 23)),
 oO 25 (.bin .eql (.fl [.i, .i]) (.t 19) (.t 24))])
 (.cond (.t 25) (.seq (.reg [oO 26 (.mv (.t 0)),
 oO 27 (.mv (.t 3)),
 oO 28 (.slc 2 (.t 26) (some (.t 27)) none none),
 oO 4 (.mv (.t 28))])
 (.seq (.seq (.reg [oO 5 (.mv (.c (.int .i64 1)))])
 (.block 2 (.loop (.seq (.seq (.reg [oO 29 (.mv (.t 5)),
 oO 30 (.mv (.t 4)),
 oO 31 (.len .sl (.t 30)),
 oO 32 (.bin .lss .no (.t 29) (.t 31))])
 (.cond (.t 32) (.skip)
 (.exit 2)))
 (.seq (.block 3 (.seq (.regd 0 [oO 35 (.mv (.t 4)),
 oO 36 (.mv (.t 5)),
 oO 37 (.iad 2 (.t 35) (.t 36)),
 oO 38 (.loadn 2 (.t 37)),
 oO 39 (.mv (.t 4)),
 oO 40 (.mv (.t 5)),
 oO 41 (.bin .sub .no (.t 40) (.c (.int .i64 1))),
 oO 42 (.iad 2 (.t 39) (.t 41)),
 oO 43 (.loadn 2 (.t 42)),
 oO 44 (.bin .neq (.fl [.i, .i]) (.t 38) (.t 43))])
 (.cond (.t 44) (.seq (.reg [oO 45 (.mv (.t 0)),
 oO 46 (.mv (.t 3)),
 oO 47 (.mv (.t 4)),
 oO 48 (.mv (.t 5)),
 oO 49 (.iad 2 (.t 47) (.t 48)),
 oO 50 (.loadn 2 (.t 49)),
 oO 51 (.iad 2 (.t 45) (.t 46)),
 ⟨none, .store 2 (.t 51) (.t 50), none, none, false⟩])
 (.reg [oO 52 (.mv (.t 3)),
 oO 53 (.bin .add .no (.t 52) (.c (.int .i64 1))),
 oO 3 (.mv (.t 53))]))
 (.skip))))
 (.reg [oO 33 (.mv (.t 5)),
 oO 34 (.bin .add .no (.t 33) (.c (.int .i64 1))),
 oO 5 (.mv (.t 34))]))))))
 (.seq (.reg [oO 54 (.mv (.t 0)),
 oO 55 (.mv (.t 3)),
 oO 56 (.slc 2 (.t 54) (some (.t 55)) none none),
 ⟨none, .clr [(.int .i64 0), (.int .i64 0)] (.t 56), none, none, false⟩])
 (.seq (.reg [oO 57 (.mv (.t 0)),
 oO 58 (.mv (.t 3)),
 oO 59 (.slc 2 (.t 57) none (some (.t 58)) none),
 oO 2 (.mv (.t 59))])
 (.ret)))))
 (.skip))))
 (.reg [oO 14 (.mv (.t 3)),
 oO 15 (.bin .add .no (.t 14) (.c (.int .i64 1))),
 oO 3 (.mv (.t 15))]))))))
 (.seq (.reg [oO 60 (.mv (.t 0)),
 oO 2 (.mv (.t 60))])
 (.ret))))⟩

end Go.AM
end
/-
  They are what the compiler makes of the loaded program. Printed by a program of this project.
-/
section
namespace Go.AM
open Go Go.Proofs

theorem c41 : cfn Tryz.prog Tryz.f41 = some a41 := by kernel_rfl
theorem k41 : callable Tryz.prog 41 = true := by kernel_rfl
theorem c42 : cfn Tryz.prog Tryz.f42 = some a42 := by kernel_rfl
theorem k42 : callable Tryz.prog 42 = true := by kernel_rfl
theorem c43 : cfn Tryz.prog Tryz.f43 = some a43 := by kernel_rfl
theorem k43 : callable Tryz.prog 43 = true := by kernel_rfl
theorem c44 : cfn Tryz.prog Tryz.f44 = some a44 := by kernel_rfl
theorem k44 : callable Tryz.prog 44 = true := by kernel_rfl
theorem c45 : cfn Tryz.prog Tryz.f45 = some a45 := by kernel_rfl
theorem k45 : callable Tryz.prog 45 = true := by kernel_rfl
theorem c46 : cfn Tryz.prog Tryz.f46 = some a46 := by kernel_rfl
theorem k46 : callable Tryz.prog 46 = true := by kernel_rfl
theorem c47 : cfn Tryz.prog Tryz.f47 = some a47 := by kernel_rfl
theorem k47 : callable Tryz.prog 47 = true := by kernel_rfl
theorem c48 : cfn Tryz.prog Tryz.f48 = some a48 := by kernel_rfl
theorem k48 : callable Tryz.prog 48 = true := by kernel_rfl
theorem c49 : cfn Tryz.prog Tryz.f49 = some a49 := by kernel_rfl
theorem k49 : callable Tryz.prog 49 = true := by kernel_rfl
theorem c50 : cfn Tryz.prog Tryz.f50 = some a50 := by kernel_rfl
theorem k50 : callable Tryz.prog 50 = true := by kernel_rfl
theorem c53 : cfn Tryz.prog Tryz.f53 = some a53 := by kernel_rfl
theorem k53 : callable Tryz.prog 53 = true := by kernel_rfl
theorem c54 : cfn Tryz.prog Tryz.f54 = some a54 := by kernel_rfl
theorem k54 : callable Tryz.prog 54 = true := by kernel_rfl
theorem c55 : cfn Tryz.prog Tryz.f55 = some a55 := by kernel_rfl
theorem k55 : callable Tryz.prog 55 = true := by kernel_rfl
theorem c56 : cfn Tryz.prog Tryz.f56 = some a56 := by kernel_rfl
theorem k56 : callable Tryz.prog 56 = true := by kernel_rfl
theorem c57 : cfn Tryz.prog Tryz.f57 = some a57 := by kernel_rfl
theorem k57 : callable Tryz.prog 57 = true := by kernel_rfl
theorem c58 : cfn Tryz.prog Tryz.f58 = some a58 := by kernel_rfl
theorem k58 : callable Tryz.prog 58 = true := by kernel_rfl
theorem c59 : cfn Tryz.prog Tryz.f59 = some a59 := by kernel_rfl
theorem k59 : callable Tryz.prog 59 = true := by kernel_rfl
theorem c60 : cfn Tryz.prog Tryz.f60 = some a60 := by kernel_rfl
theorem k60 : callable Tryz.prog 60 = true := by kernel_rfl
theorem c61 : cfn Tryz.prog Tryz.f61 = some a61 := by kernel_rfl
theorem k61 : callable Tryz.prog 61 = true := by kernel_rfl
theorem c62 : cfn Tryz.prog Tryz.f62 = some a62 := by kernel_rfl
theorem k62 : callable Tryz.prog 62 = true := by kernel_rfl
theorem c63 : cfn Tryz.prog Tryz.f63 = some a63 := by kernel_rfl
theorem k63 : callable Tryz.prog 63 = true := by kernel_rfl
theorem c64 : cfn Tryz.prog Tryz.f64 = some a64 := by kernel_rfl
theorem k64 : callable Tryz.prog 64 = true := by kernel_rfl
theorem c65 : cfn Tryz.prog Tryz.f65 = some a65 := by kernel_rfl
theorem k65 : callable Tryz.prog 65 = true := by kernel_rfl
theorem c66 : cfn Tryz.prog Tryz.f66 = some a66 := by kernel_rfl
theorem k66 : callable Tryz.prog 66 = true := by kernel_rfl
theorem c67 : cfn Tryz.prog Tryz.f67 = some a67 := by kernel_rfl
theorem k67 : callable Tryz.prog 67 = true := by kernel_rfl
theorem c68 : cfn Tryz.prog Tryz.f68 = some a68 := by kernel_rfl
theorem k68 : callable Tryz.prog 68 = true := by kernel_rfl
theorem c69 : cfn Tryz.prog Tryz.f69 = some a69 := by kernel_rfl
theorem k69 : callable Tryz.prog 69 = true := by kernel_rfl
theorem c70 : cfn Tryz.prog Tryz.f70 = some a70 := by kernel_rfl
theorem k70 : callable Tryz.prog 70 = true := by kernel_rfl
theorem c71 : cfn Tryz.prog Tryz.f71 = some a71 := by kernel_rfl
theorem k71 : callable Tryz.prog 71 = true := by kernel_rfl
theorem c72 : cfn Tryz.prog Tryz.f72 = some a72 := by kernel_rfl
theorem k72 : callable Tryz.prog 72 = true := by kernel_rfl
theorem c73 : cfn Tryz.prog Tryz.f73 = some a73 := by kernel_rfl
theorem k73 : callable Tryz.prog 73 = true := by kernel_rfl
theorem c74 : cfn Tryz.prog Tryz.f74 = some a74 := by kernel_rfl
theorem k74 : callable Tryz.prog 74 = true := by kernel_rfl
theorem c75 : cfn Tryz.prog Tryz.f75 = some a75 := by kernel_rfl
theorem k75 : callable Tryz.prog 75 = true := by kernel_rfl
theorem c76 : cfn Tryz.prog Tryz.f76 = some a76 := by kernel_rfl
theorem k76 : callable Tryz.prog 76 = true := by kernel_rfl
theorem c79 : cfn Tryz.prog Tryz.f79 = some a79 := by kernel_rfl
theorem k79 : callable Tryz.prog 79 = true := by kernel_rfl
theorem c80 : cfn Tryz.prog Tryz.f80 = some a80 := by kernel_rfl
theorem k80 : callable Tryz.prog 80 = true := by kernel_rfl
theorem c81 : cfn Tryz.prog Tryz.f81 = some a81 := by kernel_rfl
theorem k81 : callable Tryz.prog 81 = true := by kernel_rfl
theorem c82 : cfn Tryz.prog Tryz.f82 = some a82 := by kernel_rfl
theorem k82 : callable Tryz.prog 82 = true := by kernel_rfl
theorem c83 : cfn Tryz.prog Tryz.f83 = some a83 := by kernel_rfl
theorem k83 : callable Tryz.prog 83 = true := by kernel_rfl
theorem c84 : cfn Tryz.prog Tryz.f84 = some a84 := by kernel_rfl
theorem k84 : callable Tryz.prog 84 = true := by kernel_rfl
theorem c85 : cfn Tryz.prog Tryz.f85 = some a85 := by kernel_rfl
theorem k85 : callable Tryz.prog 85 = true := by kernel_rfl
theorem c86 : cfn Tryz.prog Tryz.f86 = some a86 := by kernel_rfl
theorem k86 : callable Tryz.prog 86 = true := by kernel_rfl
theorem c87 : cfn Tryz.prog Tryz.f87 = some a87 := by kernel_rfl
theorem k87 : callable Tryz.prog 87 = true := by kernel_rfl
theorem c88 : cfn Tryz.prog Tryz.f88 = some a88 := by kernel_rfl
theorem k88 : callable Tryz.prog 88 = true := by kernel_rfl
theorem c89 : cfn Tryz.prog Tryz.f89 = some a89 := by kernel_rfl
theorem k89 : callable Tryz.prog 89 = true := by kernel_rfl
theorem c90 : cfn Tryz.prog Tryz.f90 = some a90 := by kernel_rfl
theorem k90 : callable Tryz.prog 90 = true := by kernel_rfl
theorem c91 : cfn Tryz.prog Tryz.f91 = some a91 := by kernel_rfl
theorem k91 : callable Tryz.prog 91 = true := by kernel_rfl
theorem c92 : cfn Tryz.prog Tryz.f92 = some a92 := by kernel_rfl
theorem k92 : callable Tryz.prog 92 = true := by kernel_rfl
theorem c93 : cfn Tryz.prog Tryz.f93 = some a93 := by kernel_rfl
theorem k93 : callable Tryz.prog 93 = true := by kernel_rfl
theorem c94 : cfn Tryz.prog Tryz.f94 = some a94 := by kernel_rfl
theorem k94 : callable Tryz.prog 94 = true := by kernel_rfl
theorem c95 : cfn Tryz.prog Tryz.f95 = some a95 := by kernel_rfl
theorem k95 : callable Tryz.prog 95 = true := by kernel_rfl
theorem c96 : cfn Tryz.prog Tryz.f96 = some a96 := by kernel_rfl
theorem k96 : callable Tryz.prog 96 = true := by kernel_rfl
theorem c97 : cfn Tryz.prog Tryz.f97 = some a97 := by kernel_rfl
theorem k97 : callable Tryz.prog 97 = true := by kernel_rfl
theorem c98 : cfn Tryz.prog Tryz.f98 = some a98 := by kernel_rfl
theorem k98 : callable Tryz.prog 98 = true := by kernel_rfl
theorem c100 : cfn Tryz.prog Tryz.f100 = some a100 := by kernel_rfl
theorem k100 : callable Tryz.prog 100 = true := by kernel_rfl
theorem c101 : cfn Tryz.prog Tryz.f101 = some a101 := by kernel_rfl
theorem k101 : callable Tryz.prog 101 = true := by kernel_rfl
theorem c102 : cfn Tryz.prog Tryz.f102 = some a102 := by kernel_rfl
theorem k102 : callable Tryz.prog 102 = true := by kernel_rfl
theorem c103 : cfn Tryz.prog Tryz.f103 = some a103 := by kernel_rfl
theorem k103 : callable Tryz.prog 103 = true := by kernel_rfl
theorem c104 : cfn Tryz.prog Tryz.f104 = some a104 := by kernel_rfl
theorem k104 : callable Tryz.prog 104 = true := by kernel_rfl
theorem c105 : cfn Tryz.prog Tryz.f105 = some a105 := by kernel_rfl
theorem k105 : callable Tryz.prog 105 = true := by kernel_rfl
theorem c106 : cfn Tryz.prog Tryz.f106 = some a106 := by kernel_rfl
theorem k106 : callable Tryz.prog 106 = true := by kernel_rfl
theorem c107 : cfn Tryz.prog Tryz.f107 = some a107 := by kernel_rfl
theorem k107 : callable Tryz.prog 107 = true := by kernel_rfl
theorem c108 : cfn Tryz.prog Tryz.f108 = some a108 := by kernel_rfl
theorem k108 : callable Tryz.prog 108 = true := by kernel_rfl
theorem c109 : cfn Tryz.prog Tryz.f109 = some a109 := by kernel_rfl
theorem k109 : callable Tryz.prog 109 = true := by kernel_rfl
theorem c111 : cfn Tryz.prog Tryz.f111 = some a111 := by kernel_rfl
theorem k111 : callable Tryz.prog 111 = true := by kernel_rfl
theorem c112 : cfn Tryz.prog Tryz.f112 = some a112 := by kernel_rfl
theorem k112 : callable Tryz.prog 112 = true := by kernel_rfl
theorem c113 : cfn Tryz.prog Tryz.f113 = some a113 := by kernel_rfl
theorem k113 : callable Tryz.prog 113 = true := by kernel_rfl
theorem c114 : cfn Tryz.prog Tryz.f114 = some a114 := by kernel_rfl
theorem k114 : callable Tryz.prog 114 = true := by kernel_rfl
theorem c115 : cfn Tryz.prog Tryz.f115 = some a115 := by kernel_rfl
theorem k115 : callable Tryz.prog 115 = true := by kernel_rfl
theorem c118 : cfn Tryz.prog Tryz.f118 = some a118 := by kernel_rfl
theorem k118 : callable Tryz.prog 118 = true := by kernel_rfl
theorem c120 : cfn Tryz.prog Tryz.f120 = some a120 := by kernel_rfl
theorem k120 : callable Tryz.prog 120 = true := by kernel_rfl

end Go.AM
end
/-
  dot.Compare and what it calls. Own work of this project.
-/
section
namespace Go.AM
open Go Go.Proofs

theorem mixed : Tryz.prog.follows .mixedOrders = true := by kernel_rfl

set_option maxHeartbeats 2000000 in
theorem s_isNaN : SoundAt Tryz.prog 96 cIsNaNInt :=
  pure_of (fn_sound (tb_sound (l := []) (by simp)) mixed Tryz.func96 k96 c96 20) fun xs s r s' h => by
    unfold cIsNaNInt at h
    split at h
    · injection h with h
      obtain ⟨rfl, rfl⟩ := Prod.mk.inj h
      refine ⟨rfl, rfl, rfl, ?_⟩
      simp [acallFn, a96, aexec, aops, aop, aalloc, apure, aread, aeff, wanted, putE, aev, acall, binOp, intOp, aresults, aresult]
    · cases h
set_option maxHeartbeats 2000000 in
theorem s_cmpInt : SoundAt Tryz.prog 75 cCmpInt :=
  pure_of (fn_sound (tb_sound (l := [(96, cIsNaNInt)]) (by simpa using s_isNaN)) mixed Tryz.func75 k75 c75 30) fun xs s r s' h => by
    unfold cCmpInt at h
    split at h
    · rename_i a b
      injection h with h
      obtain ⟨rfl, rfl⟩ := Prod.mk.inj h
      refine ⟨rfl, rfl, rfl, ?_⟩
      by_cases h1 : a < b
      · simp [tb, cIsNaNInt, acallFn, a75, aexec, aops, aop, aalloc, apure, aread, aeff, wanted, putE, aev, acall, binOp, intOp, aresults, aresult, AV.ground, AV.plains, AV.plain, cmpI, h1]
      · by_cases h2 : b < a <;> simp [tb, cIsNaNInt, acallFn, a75, aexec, aops, aop, aalloc, apure, aread, aeff, wanted, putE, aev, acall, binOp, intOp, aresults, aresult, AV.ground, AV.plains, AV.plain, cmpI, h1, h2]
    · cases h

set_option maxHeartbeats 4000000 in
theorem s_or2 : SoundAt Tryz.prog 74 cOr2 :=
  (fn_sound (tb_sound (l := []) (by simp)) mixed Tryz.func74 k74 c74 16).weaken fun xs s r s' h => by
    unfold cOr2 at h
    split at h
    · rename_i id off cap
      split at h
      · rename_i cs own hg
        split at h
        · rename_i a b ha hb
          injection h with h
          obtain ⟨rfl, rfl⟩ := Prod.mk.inj h
          by_cases h0 : a = 0
          · subst h0
            by_cases h1 : b = 0
            · subst h1
              simp [tb, acallFn, a74, aexec, aops, aop, aalloc, apure, aread, aeff, wanted, putE, aev, acall, binOp, intOp, aresults, aresult, hg, ha, hb, IntKind.wrap, IntKind.bits, IntKind.signed]
            · have e1 : (b != 0) = true := by simpa using h1
              simp [e1, tb, acallFn, a74, aexec, aops, aop, aalloc, apure, aread, aeff, wanted, putE, aev, acall, binOp, intOp, aresults, aresult, hg, ha, hb, IntKind.wrap, IntKind.bits, IntKind.signed]
          · have e0 : (a != 0) = true := by simpa using h0
            simp [e0, h0, tb, acallFn, a74, aexec, aops, aop, aalloc, apure, aread, aeff, wanted, putE, aev, acall, binOp, intOp, aresults, aresult, hg, ha, hb, IntKind.wrap, IntKind.bits, IntKind.signed]
        · cases h
      · cases h
    · cases h
set_option maxHeartbeats 4000000 in
theorem s_dotCmp : SoundAt Tryz.prog 50 cDotCmp :=
  pure_of (fn_sound (tb_sound (l := [(75, cCmpInt), (74, cOr2)]) (by simpa using ⟨s_cmpInt, s_or2⟩)) mixed Tryz.func50 k50 c50 60) fun xs s r s' h => by
    unfold cDotCmp at h
    split at h
    · rename_i a b c d
      injection h with h
      obtain ⟨rfl, rfl⟩ := Prod.mk.inj h
      refine ⟨rfl, rfl, rfl, ?_⟩
      simp [dcmp, tb, cCmpInt, cOr2, acallFn, a50, aexec, aops, aop, aalloc, apure, aread, aeff, wanted, putE, aev, acall, binOp, intOp, aresults, aresult, AV.ground, AV.plains, AV.plain, St.empty, St.push, St.get, St.reserve, St.born, AV.cells, AV.one, fillP, setAt]
    · cases h
end Go.AM
end
/-
  Runes, dots and nodes: what the program's small functions answer. Own work of this project; in part printed by a program of it.
-/
section
namespace Go.AM
open Go Go.Proofs

def validRune (x : Int) : Bool := decide (0 ≤ x) && decide (x < 55296) || decide (57343 < x) && decide (x ≤ 1114111)
def goodRune (x : Int) : Bool := decide (x ≠ 0) && validRune x
def Dot.valid (d : Dot) : Bool := decide (1 ≤ d.r) && decide (d.r ≤ 64) && decide (1 ≤ d.c) && decide (d.c ≤ 4294967295)
def Dot.root (d : Dot) : Bool := decide (d.r = 0) && decide (d.c = 0)
def cValidRune : Con := fun xs s => match xs with
  | [.int .i32 x] => some (.bool (validRune x), s)
  | _ => none
def cGoodRune : Con := fun xs s => match xs with
  | [.int .i32 x] => some (.bool (goodRune x), s)
  | _ => none
set_option maxHeartbeats 4000000 in
theorem s_validRune : SoundAt Tryz.prog 109 cValidRune :=
  pure_of (fn_sound (tb_sound (l := []) (by simp)) mixed Tryz.func109 k109 c109 40) fun xs s r s' h => by
    unfold cValidRune at h
    split at h
    · rename_i x
      injection h with h
      obtain ⟨rfl, rfl⟩ := Prod.mk.inj h
      refine ⟨rfl, rfl, rfl, ?_⟩
      by_cases h1 : 0 ≤ x <;> by_cases h2 : x < 55296 <;> by_cases h3 : 57343 < x <;> by_cases h4 : x ≤ 1114111 <;> simp [h1, h2, h3, h4, tb, acallFn, a109, aexec, aops, aop, aalloc, apure, aread, aeff, wanted, putE, aev, acall, binOp, intOp, aresults, aresult, AV.ground, AV.plains, AV.plain, St.empty, St.push, St.put, St.get, St.reserve, St.born, AV.cells, AV.one, fillP, setAt, eqV, eqL, eqF, isNil, beq_dec, bne_dec, validRune]
    · cases h
set_option maxHeartbeats 4000000 in
theorem s_goodRune : SoundAt Tryz.prog 98 cGoodRune :=
  pure_of (fn_sound (tb_sound (l := [(109, cValidRune)]) (by simpa using s_validRune)) mixed Tryz.func98 k98 c98 40) fun xs s r s' h => by
    unfold cGoodRune at h
    split at h
    · rename_i x
      injection h with h
      obtain ⟨rfl, rfl⟩ := Prod.mk.inj h
      refine ⟨rfl, rfl, rfl, ?_⟩
      by_cases h1 : x = 0 <;> simp [h1, tb, cValidRune, acallFn, a98, aexec, aops, aop, aalloc, apure, aread, aeff, wanted, putE, aev, acall, binOp, intOp, aresults, aresult, AV.ground, AV.plains, AV.plain, St.empty, St.push, St.put, St.get, St.reserve, St.born, AV.cells, AV.one, fillP, setAt, eqV, eqL, eqF, isNil, beq_dec, bne_dec, goodRune]
    · cases h
end Go.AM
end
