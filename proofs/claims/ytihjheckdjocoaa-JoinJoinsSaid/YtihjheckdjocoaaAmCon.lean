/-
  Contracts: what a function leaves for its caller, told with fewer blocks than it made. Own work of this project.
-/
import Derived.Test.YtihjheckdjocoaaAmSnd9
set_option linter.unusedVariables false
set_option linter.unusedSimpArgs false
namespace Go.AM
open Go

variable {P : Program} {ρ : Ren}

mutual
def AV.ren (f : Nat → Nat) : AV → AV
  | .ptr i o => .ptr (f i) o
  | .sl i o l c z => .sl (f i) o l c z
  | .mp i => .mp (f i)
  | .fn g cs => .fn g (AV.rens f cs)
  | .agg cs => .agg (AV.rens f cs)
  | .tup cs => .tup (AV.rens f cs)
  | .bool b => .bool b
  | .int k n => .int k n
  | .str s => .str s
  | .nilp => .nilp
  | .nils => .nils
  | .nilm => .nilm
  | .nilf => .nilf
  | .und => .und
  | .any => .any
def AV.rens (f : Nat → Nat) : List AV → List AV
  | [] => []
  | v :: r => v.ren f :: AV.rens f r
end
theorem rens_map (f : Nat → Nat) : ∀ l, AV.rens f l = l.map (AV.ren f)
  | [] => rfl
  | v :: r => by simp [AV.rens, rens_map f r]
mutual
theorem VR.ren {f : Nat → Nat} : ∀ (v : AV) (c : Value), VR ρ (v.ren f) c → VR (fun i => ρ (f i)) v c
  | .bool b, c, h => by simpa [AV.ren, VR] using h
  | .int k n, c, h => by simpa [AV.ren, VR] using h
  | .str s, c, h => by simpa [AV.ren, VR] using h
  | .nilp, c, h => by simpa [AV.ren, VR] using h
  | .nils, c, h => by simpa [AV.ren, VR] using h
  | .nilm, c, h => by simpa [AV.ren, VR] using h
  | .nilf, c, h => by simpa [AV.ren, VR] using h
  | .und, c, h => by simpa [AV.ren, VR] using h
  | .any, c, h => by simp [VR]
  | .ptr i o, c, h => by simpa [AV.ren, VR] using h
  | .mp i, c, h => by simpa [AV.ren, VR] using h
  | .sl i o l k z, c, h => by
    simp only [AV.ren, VR] at h ⊢
    exact h
  | .fn g cs, c, h => by
    simp only [AV.ren, VR] at h ⊢
    obtain ⟨l, h1, h2⟩ := h
    exact ⟨l, h1, VRs.ren cs l h2⟩
  | .agg cs, c, h => by
    simp only [AV.ren, VR] at h ⊢
    obtain ⟨l, h1, h2⟩ := h
    exact ⟨l, h1, VRs.ren cs l h2⟩
  | .tup cs, c, h => by
    simp only [AV.ren, VR] at h ⊢
    obtain ⟨l, h1, h2⟩ := h
    exact ⟨l, h1, VRs.ren cs l h2⟩
theorem VRs.ren {f : Nat → Nat} : ∀ (v : List AV) (c : List Value), VRs ρ (AV.rens f v) c → VRs (fun i => ρ (f i)) v c
  | [], c, h => by simpa [AV.rens, VRs] using h
  | v :: r, c, h => by
    simp only [AV.rens, VRs] at h ⊢
    obtain ⟨x, l, h1, h2, h3⟩ := h
    exact ⟨x, l, h1, VR.ren v x h2, VRs.ren r l h3⟩
end
theorem AV.one_ren (f : Nat → Nat) (v : AV) : (v.ren f).one = v.one := by cases v <;> simp [AV.ren, AV.one]

def AB.ren (f : Nat → Nat) : AB → AB
  | .row cs own => .row (AV.rens f cs) own
  | .map es ck => .map (es.map fun e => (e.1.ren f, e.2.1.ren f, e.2.2)) ck
  | .iter m a b c => .iter (m.map f) a b c
  | .unborn => .unborn
  | .dead => .dead
theorem AB.live_ren (f : Nat → Nat) (b : AB) : (b.ren f).live = b.live := by cases b <;> rfl
theorem AB.owned_ren (f : Nat → Nat) (b : AB) : (b.ren f).owned = b.owned := by cases b <;> rfl
theorem BlkOk.ren {f : Nat → Nat} {L : Loc} {w : World} {b : AB} (h : BlkOk ρ L w (b.ren f)) : BlkOk (fun i => ρ (f i)) L w b := by
  cases b with
  | row cells own =>
    simp only [AB.ren, BlkOk] at h ⊢
    obtain ⟨cs, e, fr, h1, h2, h3, h4, h5, h6⟩ := h
    rw [rens_map] at h3 h4 h6
    refine ⟨cs, e, fr, h1, h2, by simpa using h3, fun i v hv => ?_, h5, ?_⟩
    · obtain ⟨c, e1, e2⟩ := h4 i (v.ren f) (by simp [hv])
      exact ⟨c, e1, VR.ren v c e2⟩
    · rw [List.all_eq_true] at h6 ⊢
      intro v hv
      have := h6 (v.ren f) (List.mem_map_of_mem hv)
      rwa [AV.one_ren] at this
  | map es ck =>
    simp only [AB.ren, BlkOk] at h ⊢
    obtain ⟨ces, h1, h2, h3⟩ := h
    refine ⟨ces, h1, by simpa using h2, fun i e he => ?_⟩
    obtain ⟨m, e1, e2, e3, e4⟩ := h3 i (e.1.ren f, e.2.1.ren f, e.2.2) (by simp [he])
    exact ⟨m, e1, VR.ren _ _ e2, VR.ren _ _ e3, e4⟩
  | iter m a b c =>
    simp only [AB.ren, BlkOk] at h ⊢
    obtain ⟨m', h1, h2, h3⟩ := h
    refine ⟨m', h1, h2, ?_⟩
    rcases h3 with ⟨e1, e2⟩ | ⟨id, M, e1, e2, e3⟩
    · exact .inl ⟨by simpa using e1, e2⟩
    · obtain ⟨id', rfl, rfl⟩ := Option.map_eq_some_iff.1 e1
      exact .inr ⟨id', M, rfl, e2, e3⟩
  | unborn => trivial
  | dead => trivial

/-- The memory s' behind a call from s is a part of the memory t, its blocks named anew. -/
structure Emb (f : Nat → Nat) (s s' t : St) : Prop where
  next : s.next ≤ s'.next
  low : s'.low ≤ t.low
  old : ∀ id, id < s.next → f id = id
  out : ∀ id, s'.next ≤ id → t.next ≤ f id
  inj : ∀ i j, i < s'.next → j < s'.next → f i = f j → i = j
  get : ∀ id b, s'.get id = some b → b.live = false ∨ t.get (f id) = some (b.ren f) ∨ (id < s.next ∧ s.get id = some b ∧ t.get id = some b)
  unm : ∀ id, id < s.next → t.get id = s.get id → s'.get id = s.get id

mutual
theorem VR.ren_same {f : Nat → Nat} (hf : ∀ i L, ρ i = some L → f i = i) : ∀ (v : AV) (c : Value), VR ρ v c → v.ren f = v
  | .bool _, _, _ | .int _ _, _, _ | .str _, _, _ | .nilp, _, _ | .nils, _, _ | .nilm, _, _ | .nilf, _, _ | .und, _, _ | .any, _, _ => by simp [AV.ren]
  | .ptr i o, c, h => by
    simp only [VR] at h
    obtain ⟨L, hL, _⟩ := h
    simp [AV.ren, hf i L hL]
  | .mp i, c, h => by
    simp only [VR] at h
    obtain ⟨L, hL, _⟩ := h
    simp [AV.ren, hf i L hL]
  | .sl i o l k z, c, h => by
    simp only [VR] at h
    obtain ⟨L, _, _, hL, _⟩ := h
    simp [AV.ren, hf i L hL]
  | .fn g cs, c, h => by
    simp only [VR] at h
    obtain ⟨l, _, h2⟩ := h
    simp [AV.ren, VRs.ren_same hf cs l h2]
  | .agg cs, c, h => by
    simp only [VR] at h
    obtain ⟨l, _, h2⟩ := h
    simp [AV.ren, VRs.ren_same hf cs l h2]
  | .tup cs, c, h => by
    simp only [VR] at h
    obtain ⟨l, _, h2⟩ := h
    simp [AV.ren, VRs.ren_same hf cs l h2]
theorem VRs.ren_same {f : Nat → Nat} (hf : ∀ i L, ρ i = some L → f i = i) : ∀ (v : List AV) (c : List Value), VRs ρ v c → AV.rens f v = v
  | [], _, _ => rfl
  | v :: r, c, h => by
    simp only [VRs] at h
    obtain ⟨x, l, _, h2, h3⟩ := h
    simp [AV.rens, VR.ren_same hf v x h2, VRs.ren_same hf r l h3]
end
theorem map_same {β : Type} {g : β → β} : ∀ {l : List β}, (∀ x ∈ l, g x = x) → l.map g = l
  | [], _ => rfl
  | x :: l, h => by simp [h x (by simp), map_same (l := l) fun y hy => h y (by simp [hy])]
theorem BlkOk.ren_same {f : Nat → Nat} {L : Loc} {w : World} {b : AB} (hf : ∀ i L, ρ i = some L → f i = i) (h : BlkOk ρ L w b) : b.ren f = b := by
  cases b with
  | row cells own =>
    simp only [BlkOk] at h
    obtain ⟨cs, e, fr, _, _, _, h4, _⟩ := h
    simp only [AB.ren, rens_map]
    congr 1
    refine map_same fun v hv => ?_
    obtain ⟨i, hi⟩ := List.getElem?_of_mem hv
    obtain ⟨c, _, hc⟩ := h4 i v hi
    exact VR.ren_same hf v c hc
  | map es ck =>
    simp only [BlkOk] at h
    obtain ⟨ces, _, _, h3⟩ := h
    simp only [AB.ren]
    congr 1
    refine map_same fun e he => ?_
    obtain ⟨i, hi⟩ := List.getElem?_of_mem he
    obtain ⟨m, _, h5, h6, _⟩ := h3 i e hi
    rw [VR.ren_same hf _ _ h5, VR.ren_same hf _ _ h6]
  | iter m a b c =>
    simp only [BlkOk] at h
    obtain ⟨m', _, _, h3⟩ := h
    simp only [AB.ren]
    rcases h3 with ⟨rfl, _⟩ | ⟨id, M, rfl, h5, _⟩
    · rfl
    · simp [hf id M h5]
  | unborn => rfl
  | dead => rfl

theorem Emb.sound {f : Nat → Nat} {s s' t : St} {ρ ρt : Ren} {w w' : World} (h : Emb f s s' t) (hR0 : R s ρ w) (hf : Free s ρ) (hst : Step s t ρ ρt w w') (hR : R t ρt w') :
    Step s s' ρ (fun i => ρt (f i)) w w' ∧ R s' (fun i => ρt (f i)) w' := by
  have hn := h.next
  have hlow := h.low
  have hlt0 : ∀ i M, ρ i = some M → i < s.next := by
    intro i M hM
    by_cases hi : i < s.next
    · exact hi
    · rw [hf i (by omega)] at hM; cases hM
  have hnew : ∀ id, s.next ≤ id → id < s'.next → s.next ≤ f id := by
    intro id h1 h2
    by_cases hlt : f id < s.next
    · have := h.inj (f id) id (by omega) h2 (h.old _ hlt)
      omega
    · omega
  refine ⟨⟨hn, Nat.le_trans h.low hst.low, fun id hid => ?_, hst.size, hst.os, hst.tape, hst.output, hst.drawn, fun b hb H => hst.frame b hb fun id L blk h1 => H id L blk (by omega), fun id blk' h1 h2 h3 => ?_, fun id L blk' h1 h2 h3 h4 => ?_, fun id h1 h2 => h.unm id h1 (hst.unm id h1 h2)⟩,
    ⟨fun id L e => hR.bound (f id) L e, fun id b L h1 h2 => ?_, fun i j L M bi bj hij e1 e2 e3 e4 e5 e6 => ?_⟩⟩
  · rcases hid with hid | hid
    · simp only [h.old id hid]
      exact hst.ren id (.inl hid)
    · have h1 := h.out id hid
      have h2 := hst.next
      show ρt (f id) = ρ id
      rw [hst.ren (f id) (.inr h1), hf (f id) (by omega), hf id (by omega)]
  · rcases h.get id blk' h2 with q | q | ⟨_, q, _⟩
    · rw [h3] at q; cases q
    rotate_left
    · exact ⟨blk', q, h3, fun k => k⟩
    · rw [h.old id h1] at q
      obtain ⟨b0, g1, g2, g3⟩ := hst.old id _ h1 q (by rw [AB.live_ren]; exact h3)
      exact ⟨b0, g1, g2, fun k => g3 (by rw [AB.owned_ren]; exact k)⟩
  · have hlt := St.get_lt h3
    rcases h.get id blk' h3 with q | q | ⟨q, _⟩
    · rw [h4] at q; cases q
    rotate_left
    · omega
    · rcases hst.new (f id) L _ (hnew id h1 hlt) h2 q (by rw [AB.live_ren]; exact h4) with k | ⟨id0, L0, b0, k1, k2⟩
      · exact .inl k
      · exact .inr ⟨id0, L0, b0, by omega, k2⟩
  · rcases h.get id b h1 with q | q | ⟨q0, q1, q2⟩
    · cases b <;> simp [AB.live] at q <;> trivial
    · exact (hR.blk (f id) _ L q h2).ren
    · refine BlkOk.ren ?_
      rw [(hR0.blk id b L q1 (by rw [← hst.ren id (.inl q0), ← h2, h.old id q0])).ren_same fun i M hM => h.old i (hlt0 i M hM)]
      exact hR.blk id b L q2 (by rw [← h2, h.old id q0])
  · have hget : ∀ i b, s'.get i = some b → b.live = true → ∃ b', t.get (f i) = some b' ∧ b'.live = b.live ∧ b'.owned = b.owned := by
      intro i b hb hl
      rcases h.get i b hb with q | q | ⟨q0, _, q2⟩
      · rw [hl] at q; cases q
      · exact ⟨_, q, AB.live_ren _ _, AB.owned_ren _ _⟩
      · exact ⟨b, by rw [h.old i q0]; exact q2, rfl, rfl⟩
    obtain ⟨b1, g1, g2, g3⟩ := hget i bi e3 (AB.live_of_owned e5)
    obtain ⟨b2, g4, g5, g6⟩ := hget j bj e4 e6
    exact hR.inj (f i) (f j) L M _ _ (fun e => hij (h.inj i j (St.get_lt e3) (St.get_lt e4) e)) e1 e2 g1 g4 (by rw [g3]; exact e5) (by rw [g5]; exact e6)

/-- A contract out of the code. -/
theorem con_sound {call : Nat → List AV → St → Option (AV × St)} (hS : Sound P call) (hm : P.follows .mixedOrders = true) {g : Nat} {fn : Func} {afn : AFn} (hf : P.funcs[g]? = some fn) (hcal : callable P g = true) (hc : cfn P fn = some afn)
    {c : List AV → St → Option (AV × St)}
    (h : ∀ args s r s', c args s = some (r, s') → Grow s s' ∧ awp call afn.body (fun x env t => (∀ i, x ≠ .exit i) ∧ ∃ f, aresults env t afn.results = some (r.ren f) ∧ Emb f s s' t) (args ++ List.replicate (afn.ntmps - args.length) .und) s) :
    SoundAt P g c := by
  intro args s r s' hcall
  obtain ⟨hg, ha⟩ := h args s r s' hcall
  unfold cfn at hc
  split at hc
  · rename_i cd rs hb hr
    injection hc with hc; subst hc
    refine ⟨hcal, hg, fun ρ w cargs hfree hR hargs => ?_⟩
    refine calls_of_wp hf hb ?_
    refine awp_wp hS hm cd _ _ s ρ _ w _ ha (env_start hargs fn.ntmps) hR hfree rfl fun x env t ρ' a' w' hq g1 g2 g3 g4 g5 => ?_
    obtain ⟨hx, f, hres, he⟩ := hq
    obtain ⟨cv, h1, h2⟩ := results_run g4 g2 hr hres
    obtain ⟨k1, k2⟩ := he.sound hR hfree g1 g2
    cases x with
    | nor => exact ⟨g5, cv, h2, _, cv, rfl, VR.ren r cv h1, k1, k2⟩
    | ret => exact ⟨g5, cv, h2, _, cv, rfl, VR.ren r cv h1, k1, k2⟩
    | exit i => exact absurd rfl (hx i)
  · cases hc

mutual
theorem AV.ren_id : ∀ v : AV, v.ren id = v
  | .bool b | .int k n | .str s | .nilp | .nils | .nilm | .nilf | .und | .any | .ptr i o | .mp i | .sl i o l k z => by simp [AV.ren]
  | .fn g cs | .agg cs | .tup cs => by simp [AV.ren, AV.rens_id cs]
theorem AV.rens_id : ∀ v : List AV, AV.rens id v = v
  | [] => rfl
  | v :: r => by simp [AV.rens, AV.ren_id v, AV.rens_id r]
end
theorem AB.ren_id (b : AB) : b.ren id = b := by
  cases b <;> simp [AB.ren, AV.rens_id, AV.ren_id]
theorem Emb.refl {s t : St} (h : Grow s t) : Emb id s t t :=
  ⟨h.1, Nat.le_refl _, fun _ _ => rfl, fun id h => h, fun i j _ _ e => e, fun j b hb => .inr (.inl (by rw [AB.ren_id]; exact hb)), fun _ _ h => h⟩

/-! ### A call without arguments: run from the empty memory -/
def St.empty : St := ⟨[], 0, 0⟩
theorem R_empty (w : World) : R St.empty (fun _ => none) w := by
  refine ⟨?_, ?_, ?_⟩
  · intro _ _ e
    cases e
  · intro _ _ _ _ e
    cases e
  · intro _ _ _ _ _ _ _ e
    cases e
def closed (args : List AV) (r : AV) : List AV → St → Option (AV × St) := fun as s => if as = [] ∧ args = [] then some (r, s) else none
theorem closed_sound {g : Nat} {c : List AV → St → Option (AV × St)} (h : SoundAt P g c) {r : AV} {s' : St} (hc : c [] St.empty = some (r, s')) (hg : r.ground = true) : SoundAt P g (closed [] r) := by
  intro as s r' t ht
  unfold closed at ht
  split at ht
  · rename_i has
    injection ht with ht
    obtain ⟨rfl, rfl⟩ := Prod.mk.inj ht
    obtain ⟨h1, h2, h3⟩ := h [] St.empty r s' hc
    refine ⟨h1, .refl _, fun ρ w cargs hfree hR hargs => ?_⟩
    rw [has.1] at hargs
    simp only [VRs] at hargs
    subst hargs
    refine (h3 (fun _ => none) w [] (fun _ _ => rfl) (R_empty w) VRs_nil).mono fun e w' hpost => ?_
    obtain ⟨ρ', v, rfl, hv, hst, hr⟩ := hpost
    have hcl : Clean w w' := hst.clean (by simp [St.empty])
    exact ⟨ρ, v, rfl, VR.ground hg hv, hcl.step s ρ, hR.clean hcl⟩
  · cases ht

theorem SoundAt.weaken {g : Nat} {c c' : List AV → St → Option (AV × St)} (h : SoundAt P g c) (k : ∀ as s r s', c' as s = some (r, s') → c as s = some (r, s')) : SoundAt P g c' :=
  fun as s r s' hc => h as s r s' (k as s r s' hc)
theorem AV.ground_of_plains {v : AV} (h : v.plains = true) : v.ground = true := by
  cases v <;> simp_all [AV.plains, AV.ground, AV.plain]
theorem VRs.plains_any {ρ' : Ren} : ∀ {vs : List AV} {cs : List Value}, vs.all AV.plains = true → VRs ρ vs cs → VRs ρ' vs cs
  | [], cs, _, h => by simp only [VRs] at h ⊢; exact h
  | v :: r, cs, hp, h => by
    simp only [List.all_cons, Bool.and_eq_true] at hp
    simp only [VRs] at h ⊢
    obtain ⟨c, l, rfl, h1, h2⟩ := h
    exact ⟨c, l, rfl, VR.ground (AV.ground_of_plains hp.1) h1, VRs.plains_any hp.2 h2⟩

/-- A call whose arguments and answer name no block: run from the empty memory. -/
def pureC (c : List AV → St → Option (AV × St)) : List AV → St → Option (AV × St) := fun as s =>
  if as.all AV.plains then match c as St.empty with
    | some (r, _) => if r.ground then some (r, s) else none
    | none => none
  else none
theorem pure_sound {g : Nat} {c : List AV → St → Option (AV × St)} (h : SoundAt P g c) : SoundAt P g (pureC c) := by
  intro as s r s' hc
  unfold pureC at hc
  split at hc
  · rename_i hp
    split at hc
    · rename_i r0 t hr
      split at hc
      · rename_i hg
        injection hc with hc
        obtain ⟨rfl, rfl⟩ := Prod.mk.inj hc
        obtain ⟨h1, h2, h3⟩ := h as St.empty r0 t hr
        refine ⟨h1, .refl _, fun ρ w cargs hfree hR hargs => ?_⟩
        refine (h3 (fun _ => none) w cargs (fun _ _ => rfl) (R_empty w) (hargs.plains_any hp)).mono fun e w' hpost => ?_
        obtain ⟨ρ', v, rfl, hv, hst, hr'⟩ := hpost
        have hcl : Clean w w' := hst.clean (by simp [St.empty])
        exact ⟨ρ, v, rfl, VR.ground hg hv, hcl.step s ρ, hR.clean hcl⟩
      · cases hc
    · cases hc
  · cases hc

end Go.AM
