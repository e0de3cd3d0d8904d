/-
  Contracts of functions that return a new list. Own work of this project.
-/
import Derived.Test.YtihjheckdjocoaaAmLoop
set_option linter.unusedVariables false
set_option linter.unusedSimpArgs false
namespace Go.AM
open Go

variable {β : Type}
/-- The new list alone, or with one more result. -/
def mkR (e : Option AV) (v : AV) : AV := match e with
  | none => v
  | some e => .tup [v, e]
def conF (D : Cod β) (p : List AV → St → Option (List β × Option AV)) : Con := fun xs s => match p xs s with
  | some (l, e) => some (mkR e (freshV D s l), freshS D s l)
  | none => none
theorem conF_some {D : Cod β} {p : List AV → St → Option (List β × Option AV)} {xs : List AV} {s : St} {r : AV} {s' : St} (h : conF D p xs s = some (r, s')) : ∃ l e, p xs s = some (l, e) ∧ r = mkR e (freshV D s l) ∧ s' = freshS D s l := by
  unfold conF at h
  split at h
  · rename_i l e hp
    injection h with h
    obtain ⟨rfl, rfl⟩ := Prod.mk.inj h
    exact ⟨l, e, hp, rfl, rfl⟩
  · cases h
theorem mkR_ren {f : Nat → Nat} {e : Option AV} (he : ∀ x, e = some x → x.plain = true) (v : AV) : (mkR e v).ren f = mkR e (v.ren f) := by
  cases e with
  | none => rfl
  | some x => simp [mkR, AV.ren, AV.rens, plain_ren f (he x rfl)]
theorem con_fresh {P : Program} {call : Nat → List AV → St → Option (AV × St)} (hS : Sound P call) (hm : P.follows .mixedOrders = true) {g : Nat} {fn : Func} {afn : AFn} (hf : P.funcs[g]? = some fn) (hcal : callable P g = true) (hc : cfn P fn = some afn)
    {D : Cod β} {p : List AV → St → Option (List β × Option AV)} (h : ∀ args s l e, p args s = some (l, e) → (∀ x, e = some x → x.plain = true) ∧ args.length ≤ afn.ntmps ∧ ∀ env : Env, elen env = afn.ntmps → (∀ i v, args[i]? = some v → E env i = v) →
      awp call afn.body (fun x env t => (∀ i, x ≠ .exit i) ∧ Keep s t ∧ ∃ v, aresults env t afn.results = some (mkR e v) ∧ Own D s t v l) env s) : SoundAt P g (conF D p) := by
  refine con_sound hS hm hf hcal hc fun args s r s' hh => ?_
  obtain ⟨l, e, hp, rfl, rfl⟩ := conF_some hh
  obtain ⟨he, hl, k⟩ := h args s l e hp
  refine ⟨(keep_fresh D s l).grow, start_env hl fun env h1 h2 => awp_mono _ (fun x env' t q => ?_) (k env h1 h2)⟩
  obtain ⟨q1, q2, v, q3, q4⟩ := q
  obtain ⟨f, _, hf, hv⟩ := emb_fresh q2 q4
  exact ⟨q1, f, by rw [q3, mkR_ren he, hv], hf⟩
/-- What a caller has behind such a call. -/
theorem acall_fresh {D : Cod β} {p : List AV → St → Option (List β × Option AV)} {xs : List AV} {s : St} {l : List β} {e : Option AV} (hp : p xs { heap := s.heap, next := s.next, low := s.next } = some (l, e)) (he : ∀ x, e = some x → x.plain = true) :
    ∃ v t, acall (conF D p) false xs s = some (mkR e v, t) ∧ Keep s t ∧ Own D s t v l := by
  have hg : ∀ v : AV, v.plain = true → (mkR e v).ground = true := by
    intro v hv
    cases e with
    | none =>
      cases v <;> simp_all [mkR, AV.plain, AV.ground]
    | some x =>
      have h1 := he x rfl
      have h2 : ∀ y : AV, y.plain = true → y.plains = true := by intro y hy; cases y <;> simp_all [AV.plain, AV.plains]
      simp [mkR, AV.ground, h2 _ h1, h2 _ hv]
  by_cases hl : l = []
  · subst hl
    refine ⟨.nils, s, ?_, .refl s, .nil _ _ _⟩
    simp [acall, conF, hp, freshV, freshS, hg .nils rfl, St.lowed]
  · have hle : l.isEmpty = false := by simpa using hl
    refine ⟨.sl s.next 0 l.length none D.sz, freshS D s l, ?_, keep_fresh D s l, .inr ⟨s.next, rfl, hl, Nat.le_refl _, ?_⟩⟩
    · have hn : (mkR e (.sl s.next 0 l.length none D.sz)).ground = false := by cases e <;> simp [mkR, AV.ground, AV.plain, AV.plains]
      simp only [acall, conF, hp, freshV, freshS, hle, Bool.false_eq_true, if_false, hn, Bool.false_and]
      simp [St.push, St.lowed]
    · simp only [freshS, hle, Bool.false_eq_true, if_false]
      exact St.get_push_new _ _
/-- Made by a function that was called: still the caller's own, seen from where the caller began. -/
theorem Own.from {D : Cod β} {s0 s t : St} {v : AV} {l : List β} (h : Own D s t v l) (hn : s0.next ≤ s.next) : Own D s0 t v l := by
  rcases h with ⟨rfl, rfl⟩ | ⟨j, rfl, h0, h1, h⟩
  · exact .inl ⟨rfl, rfl⟩
  · exact .inr ⟨j, rfl, h0, by omega, h⟩
def pL {α : Type} (C : Cod α) (f : List α → Option (List β × Option AV)) : List AV → St → Option (List β × Option AV) := fun xs s => match xs with
  | [v] => match read C s v with
    | some l => if l.length ≤ lim then f l else none
    | none => none
  | _ => none
def pLL {α γ : Type} (C : Cod α) (D : Cod γ) (f : List α → List γ → Option (List β × Option AV)) : List AV → St → Option (List β × Option AV) := fun xs s => match xs with
  | [v, w] => match read C s v, read D s w with
    | some l, some m => if l.length ≤ lim ∧ m.length ≤ lim then f l m else none
    | _, _ => none
  | _ => none
theorem pL_some {α : Type} {C : Cod α} {f : List α → Option (List β × Option AV)} {xs : List AV} {s : St} {r : List β × Option AV} (h : pL C f xs s = some r) : ∃ v l, xs = [v] ∧ read C s v = some l ∧ l.length ≤ lim ∧ f l = some r := by
  unfold pL at h
  split at h
  · split at h
    · split at h
      · rename_i v _ l hr hl
        exact ⟨v, l, rfl, hr, hl, h⟩
      · cases h
    · cases h
  · cases h
theorem pLL_some {α γ : Type} {C : Cod α} {D : Cod γ} {f : List α → List γ → Option (List β × Option AV)} {xs : List AV} {s : St} {r : List β × Option AV} (h : pLL C D f xs s = some r) :
    ∃ v w l m, xs = [v, w] ∧ read C s v = some l ∧ read D s w = some m ∧ l.length ≤ lim ∧ m.length ≤ lim ∧ f l m = some r := by
  unfold pLL at h
  split at h
  · split at h
    · split at h
      · rename_i v w _ _ l m hr hw hl
        exact ⟨v, w, l, m, rfl, hr, hw, hl.1, hl.2, h⟩
      · cases h
    · cases h
  · cases h
theorem fresh_L {α : Type} {C : Cod α} {D : Cod β} {f : List α → Option (List β × Option AV)} {s : St} {v : AV} {l : List α} (h : read C s v = some l) (hl : l.length ≤ lim) {r : List β} {e : Option AV} (hf : f l = some (r, e)) (he : ∀ x, e = some x → x.plain = true) :
    ∃ w t, acall (conF D (pL C f)) false [v] s = some (mkR e w, t) ∧ Keep s t ∧ Own D s t w r :=
  acall_fresh (by simp only [pL, read_low, h, hl, hf, if_true]) he
theorem fresh_LL {α γ : Type} {C : Cod α} {G : Cod γ} {D : Cod β} {f : List α → List γ → Option (List β × Option AV)} {s : St} {v w : AV} {l : List α} {m : List γ} (h : read C s v = some l) (k : read G s w = some m) (hl : l.length ≤ lim) (hm : m.length ≤ lim) {r : List β} {e : Option AV}
    (hf : f l m = some (r, e)) (he : ∀ x, e = some x → x.plain = true) : ∃ u t, acall (conF D (pLL C G f)) false [v, w] s = some (mkR e u, t) ∧ Keep s t ∧ Own D s t u r :=
  acall_fresh (by simp only [pLL, read_low, h, k, hl, hm, and_self, hf, if_true]) he
theorem mkR_none (v : AV) : mkR none v = v := nrfl rfl
theorem mkR_some (e v : AV) : mkR (some e) v = .tup [v, e] := nrfl rfl

/-! ### Appending by value -/
variable {call : Nat → List AV → St → Option (AV × St)} {env : Env} {s t : St}
def appV (s : St) (sz bytes : Nat) (a x : AV) : Option (AV × St) := match shown s sz x, lenOf x with
  | some new, some k => aappend s sz bytes a new k
  | _, _ => none
theorem ae_app (sz b : Nat) (z : List AV) (a x : AO) : aeff call env s (.app sz b z a x) = appV s sz b (aev env a) (aev env x) := nrfl rfl
theorem appV_list {C : Cod β} {t : St} {v x : AV} {l m : List β} (hK : Keep s t) (hO : Own C s t v l) (hr : read C t x = some m) (bytes : Nat) (hb : (l.length + m.length) * bytes ≤ roomBytes) :
    ∃ v' t', appV t C.sz bytes v x = some (v', t') ∧ Keep s t' ∧ Own C s t' v' (l ++ m) := by
  simp only [appV, read_shown hr, read_len hr]
  exact append_own hK hO m bytes hb
/-- One value, laid into a row of its own before. -/
theorem appV_one {C : Cod β} {t : St} {v : AV} {l : List β} (hK : Keep s t) (hO : Own C s t v l) (x : β) (bytes : Nat) (hb : (l.length + 1) * bytes ≤ roomBytes) :
    ∃ v' t', appV (t.push (.row (C.enc x) true)) C.sz bytes v (.sl t.next 0 1 (some 1) C.sz) = some (v', t') ∧ Keep s t' ∧ Own C s t' v' (l ++ [x]) := by
  have hr : read C (t.push (.row (C.enc x) true)) (.sl t.next 0 1 (some 1) C.sz) = some [x] := by
    refine read_of rfl (St.get_push_new _ _) (by simp [C.len]) ?_
    rw [cells_one, List.drop_zero, Nat.one_mul, ← C.len x]
    simp
  exact appV_list (hK.push _) (hO.push _) hr bytes (by simpa using hb)
def slcV (sz : Nat) (x : AV) (lo hi : Option AV) : Option AV := match x with
  | .sl id off len cap z =>
    if z = sz then
      match cap with
      | some c => match optNat hi c len with
          | some h => match optNat lo h 0 with
            | some l => some (.sl id (off + l * sz) (h - l) (some (c - l)) sz)
            | none => none
          | none => none
      | none => match optNat hi len len with
          | some h => match optNat lo h 0 with
            | some l => some (.sl id (off + l * sz) (h - l) none sz)
            | none => none
          | none => none
    else none
  | .nils => match (some 0 : Option Nat), optNat hi 0 0, optNat lo 0 0 with
      | some _, some _, some _ => some .nils
      | _, _, _ => none
  | _ => none
theorem ap_slc (sz : Nat) (x : AO) (lo hi : Option AO) : apure env (.slc sz x lo hi none) = slcV sz (aev env x) (lo.map (aev env)) (hi.map (aev env)) := by
  simp only [apure, slcV]
  cases hx : aev env x with
  | sl id off len cap z =>
    cases cap <;> simp [optNat] <;> rfl
  | nils =>
    simp only [optNat, Option.map_none, Option.isSome_none, Bool.false_and, Bool.false_eq_true, if_false]
    rfl
  | _ => rfl
theorem asNatIn_nat {k : IntKind} {i : Int} {n m : Nat} (hi : i = (n : Int)) (h : n ≤ m) : asNatIn (.int k i) m = some n := by
  subst hi
  simp [asNatIn, h]
theorem slc_lo {C : Cod β} {s : St} {v : AV} {l : List β} (hr : read C s v = some l) {k : IntKind} {i : Int} {n : Nat} (hi : i = (n : Int)) (hn : n ≤ l.length) :
    ∃ v', slcV C.sz v (some (.int k i)) none = some v' ∧ ∀ t, Keep s t → read C t v' = some (l.drop n) := by
  cases v with
  | nils =>
    simp [read] at hr
    subst hr
    have : n = 0 := by simpa using hn
    subst this
    exact ⟨.nils, by simp [slcV, optNat, asNatIn, hi], fun t _ => by simp [read]⟩
  | sl id off len cap z =>
    obtain ⟨rfl, rfl, _⟩ := read_sl hr
    cases cap with
    | none => exact ⟨.sl id (off + n * C.sz) (l.length - n) none C.sz, by simp [slcV, optNat, asNatIn_nat hi hn], fun t hK => read_drop (hK.read hr) n rfl hn⟩
    | some c =>
      by_cases hc : n ≤ c ∧ l.length ≤ c
      · refine ⟨.sl id (off + n * C.sz) (l.length - n) (some (c - n)) C.sz, ?_, fun t hK => read_drop (hK.read hr) n rfl hn⟩
        simp only [slcV, if_true, optNat, asNatIn_nat hi hn]
      · refine ⟨.sl id (off + n * C.sz) (l.length - n) (some (c - n)) C.sz, ?_, fun t hK => read_drop (hK.read hr) n rfl hn⟩
        simp only [slcV, if_true, optNat, asNatIn_nat hi hn]
  | _ => simp [read] at hr
theorem slc_hi {C : Cod β} {s : St} {v : AV} {l : List β} (hr : read C s v = some l) (hcap : ∀ id off n c z, v = .sl id off n (some c) z → n ≤ c) {k : IntKind} {i : Int} {n : Nat} (hi : i = (n : Int)) (hn : n ≤ l.length) :
    ∃ v', slcV C.sz v none (some (.int k i)) = some v' ∧ ∀ t, Keep s t → read C t v' = some (l.take n) := by
  cases v with
  | nils =>
    simp [read] at hr
    subst hr
    have : n = 0 := by simpa using hn
    subst this
    exact ⟨.nils, by simp [slcV, optNat, asNatIn, hi], fun t _ => by simp [read]⟩
  | sl id off len cap z =>
    obtain ⟨rfl, rfl, _⟩ := read_sl hr
    cases cap with
    | none =>
      refine ⟨.sl id off n none C.sz, ?_, fun t hK => read_take (hK.read hr) n hn⟩
      simp [slcV, optNat, asNatIn_nat hi hn]
    | some c =>
      have := hcap _ _ _ _ _ rfl
      refine ⟨.sl id off n (some c) C.sz, ?_, fun t hK => read_take (hK.read hr) n hn⟩
      simp [slcV, optNat, asNatIn_nat hi (show n ≤ c by omega)]
  | _ => simp [read] at hr
end Go.AM
