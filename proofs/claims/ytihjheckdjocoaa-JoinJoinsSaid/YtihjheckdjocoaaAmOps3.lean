/-
  Literals, cuts, and all operations that look at no memory together. Own work of this project.
-/
import Derived.Test.YtihjheckdjocoaaAmOps2
set_option linter.unusedVariables false
set_option linter.unusedSimpArgs false
namespace Go.AM
open Go

variable {P : Program} {ρ : Ren}

/-! ### Literals -/
theorem foldl_set (vs : List Value) : ∀ (k off : Nat) (cs : Array Value), off + k + vs.length ≤ cs.size →
    ((vs.zipIdx k).foldl (fun cs (c, j) => cs.setIfInBounds (off + j) c) cs).toList = cs.toList.take (off + k) ++ vs ++ cs.toList.drop (off + k + vs.length) := by
  induction vs with
  | nil => intro k off cs _; simp
  | cons v vs ih =>
    intro k off cs h
    simp only [List.length_cons] at h
    simp only [List.zipIdx_cons, List.foldl_cons]
    rw [ih (k + 1) off _ (by simp; omega)]
    have hk : off + k < cs.toList.length := by simp; omega
    simp only [Array.toList_setIfInBounds, List.length_cons]
    rw [show off + (k + 1) = (off + k) + 1 by omega, show off + k + (vs.length + 1) = (off + k) + 1 + vs.length by omega]
    rw [List.take_succ_eq_append_getElem (by simpa using hk)]
    rw [List.drop_set_of_lt (by omega)]
    simp [List.take_set_of_le]
theorem VRs.setAt {xs vs : List AV} {cs ds : List Value} (h : VRs ρ xs cs) (k : VRs ρ vs ds) (off : Nat) : VRs ρ (setAt xs off vs) (cs.take off ++ ds ++ cs.drop (off + ds.length)) := by
  unfold AM.setAt
  rw [k.len]
  exact ((h.take off).append k).append (h.drop _)
theorem length_setAt (xs vs : List AV) (off : Nat) (h : off + vs.length ≤ xs.length) : (setAt xs off vs).length = xs.length := by
  simp [setAt]; omega

theorem fill_rel {env : Env} {a : Act} (hE : EnvR ρ env a.tmps) (place : Nat → Option (Nat × Nat)) :
    ∀ (l : List (Nat × Operand)) (ps : List (Nat × Nat × AO)) (cs : List AV) (ds : Array Value) (r : List AV), (∀ x ∈ l, (copd x.2).ok = true) →
      l.length = ps.length → (∀ (j i : Nat) (x : Operand) (off n : Nat) (y : AO), l[j]? = some (i, x) → ps[j]? = some (off, n, y) → place i = some (off, n) ∧ y = copd x) →
      VRs ρ cs ds.toList → fillP env cs ps = some r → ∃ es, Instr.fill place ds (l.map fun (i, x) => (i, a.eval x)) = some es ∧ VRs ρ r es.toList
  | [], [], cs, ds, r, _, _, _, hv, h => by
    simp only [fillP] at h; injection h with h; subst h
    exact ⟨ds, rfl, hv⟩
  | [], _ :: _, _, _, _, _, hl, _, _, _ => by simp at hl
  | _ :: _, [], _, _, _, _, hl, _, _, _ => by simp at hl
  | (i, x) :: l, (off, n, y) :: ps, cs, ds, r, hok, hl, hp, hv, h => by
    obtain ⟨hpl, rfl⟩ := hp 0 i x off n y (by simp) (by simp)
    simp only [fillP] at h
    split at h
    · rename_i hc
      obtain ⟨h1, h2, h3⟩ := hc
      have hx := aev_rel hE (hok (i, x) (by simp))
      obtain ⟨es, he, hes⟩ := VR.cells h2 hx
      have hle := hes.len
      have hld := hv.len
      have hsz : (a.eval x).cells.size = n := by rw [he]; simp; omega
      have hset := foldl_set es 0 off ds (by simp at hld; omega)
      have hnew := hv.setAt hes off
      simp only [List.map_cons, Instr.fill, hpl]
      rw [if_neg (by simp at hld; simp [hsz]; omega)]
      have hzip : (a.eval x).cells.zipIdx.foldl (fun cs (c, j) => cs.setIfInBounds (off + j) c) ds = ((es.zipIdx 0).foldl (fun cs (c, j) => cs.setIfInBounds (off + j) c) ds) := by
        rw [he]; simp
      rw [hzip]
      refine fill_rel hE place l ps _ _ r (fun x hx => hok x (by simp [hx])) (by simpa using hl) (fun j i' x' off' n' y' e1 e2 => hp (j + 1) i' x' off' n' y' (by simpa using e1) (by simpa using e2)) ?_ h
      rw [hset]
      simpa using hnew
    · cases h

theorem cparts_spec {fs : Array Field} : ∀ {l : List (Nat × Operand)} {ps : List (Nat × Nat × AO)}, cparts P fs l = some ps → l.length = ps.length ∧
    ∀ (j i : Nat) (x : Operand) (off n : Nat) (y : AO), l[j]? = some (i, x) → ps[j]? = some (off, n, y) → (∃ f, fs[i]? = some f ∧ f.offset = off ∧ csize P f.type = some n) ∧ y = copd x
  | [], ps, h => by simp only [cparts] at h; injection h with h; subst h; exact ⟨rfl, by simp⟩
  | (i, x) :: l, ps, h => by
    simp only [cparts] at h
    split at h
    · rename_i f hf
      split at h
      · rename_i n qs hn hq
        injection h with h; subst h
        obtain ⟨h1, h2⟩ := cparts_spec hq
        refine ⟨by simp [h1], fun j i' x' off' n' y' e1 e2 => ?_⟩
        cases j with
        | zero =>
          simp at e1 e2
          obtain ⟨rfl, rfl⟩ := e1
          obtain ⟨rfl, rfl, rfl⟩ := e2
          exact ⟨⟨f, hf, rfl, hn⟩, rfl⟩
        | succ j => exact h2 j i' x' off' n' y' (by simpa using e1) (by simpa using e2)
      · cases h
    · cases h

theorem run_places : ∀ (fs : List Field) (w : World), (fs.all fun f => (csize P f.type).isSome) = true →
    (fs.mapM (m := Sem) fun (f : Field) => do pure (f.offset, ← sizeOf f.type)).run P w = .ok (fs.map fun f => (f.offset, (csize P f.type).getD 0)) w
  | [], w, _ => by simp
  | f :: fs, w, h => by
    simp only [List.all_cons, Bool.and_eq_true] at h
    obtain ⟨n, hn⟩ := Option.isSome_iff_exists.1 h.1
    have ih := run_places fs w h.2
    simp only [List.mapM_cons, Sem.run_bind, run_size hn, Result.andThen_ok, Sem.run_pure, ih, List.map_cons, hn, Option.getD_some]

theorem run_zero {t : TypeId} {i : TypeInfo} {z : Value} (hi : P.info? t = some i) (hz : i.zero = some z) (w : World) : (zeroValue t).run P w = .ok z w := by simp [zeroValue, run_info hi, hz]

theorem y_build {env : Env} {a : Act} (hE : EnvR ρ env a.tmps) {t : TypeId} {fs : Array Field} {z : List AV} {ps : Array (Nat × Operand)} {l : List (Nat × Nat × AO)} {v : AV} (hu : P.underlying t = some (.struct fs)) (hz : czero P t = some z)
    (hall : (fs.toList.all fun f => (csize P f.type).isSome) = true) (hl : cparts P fs ps.toList = some l) (hok : ∀ x ∈ ps.toList, (copd x.2).ok = true) (h : (fillP env z l).map AV.agg = some v) :
    Yield P ρ (Instr.build t (ps.map fun (i, x) => (i, a.eval x))) v := by
  obtain ⟨r, hr, rfl⟩ := Option.map_eq_some_iff.1 h
  obtain ⟨i, zv, hi, hzv, hzr, _, _⟩ := czero_spec (ρ := ρ) hz
  obtain ⟨h1, h2⟩ := cparts_spec hl
  obtain ⟨es, he, hes⟩ := fill_rel hE (fun i => (fs.map fun f => (f.offset, (csize P f.type).getD 0))[i]?) ps.toList l z zv.cells r hok h1 (fun j i x off n y e1 e2 => by
    obtain ⟨⟨f, hf, rfl, hn⟩, rfl⟩ := h2 j i x off n y e1 e2
    exact ⟨by simp [hf, hn], rfl⟩) hzr hr
  refine ⟨.agg es, by simp only [VR]; exact ⟨es.toList, by simp, hes⟩, fun w => ?_⟩
  have hpl : (fs.mapM (m := Sem) fun (f : Field) => do pure (f.offset, ← sizeOf f.type)).run P w = .ok (fs.map fun f => (f.offset, (csize P f.type).getD 0)) w := by
    rw [Array.mapM_eq_mapM_toList]
    simp only [Sem.run_map, run_places fs.toList w hall, Result.andThen_ok]
    congr 1
    apply Array.ext'
    simp
  simp only [Instr.build, Sem.run_bind, run_zero hi hzv, Result.andThen_ok, run_underlying hu, hpl, Array.toList_map]
  rw [he]
  simp

theorem zeros_length (z : List AV) (n : Nat) : (zeros z n).length = n * z.length := by
  induction n with
  | zero => simp [zeros]
  | succ n ih =>
    simp only [zeros] at ih ⊢
    rw [List.replicate_succ, List.flatten_cons, List.length_append, ih, Nat.succ_mul, Nat.add_comm]
theorem zeros_get (z : List AV) : ∀ (n i : Nat), i < n * z.length → (zeros z n)[i]? = z[i % z.length]?
  | 0, i, h => by simp at h
  | n + 1, i, h => by
    simp only [zeros]
    rw [List.replicate_succ, List.flatten_cons]
    by_cases hi : i < z.length
    · rw [List.getElem?_append_left hi, Nat.mod_eq_of_lt hi]
    · rw [List.getElem?_append_right (by omega)]
      have hn : i - z.length < n * z.length := by
        have : (n + 1) * z.length = n * z.length + z.length := Nat.succ_mul _ _
        omega
      have := zeros_get z n (i - z.length) hn
      simp only [zeros] at this
      rw [this, ← Nat.mod_eq_sub_mod (by omega)]
theorem VRs_zeros {z : List AV} {zv : Array Value} (h : VRs ρ z zv.toList) (n m : Nat) (hm : m = n * z.length) : VRs ρ (zeros z n) ((Array.range m).map (fun i => zv[i % zv.size]!)).toList := by
  have hl := h.len
  refine VRs.of (by simp [zeros_length, hm]) fun i v hv => ?_
  have hi : i < n * z.length := by
    have := (List.getElem?_eq_some_iff.1 hv).1
    rwa [zeros_length] at this
  rw [zeros_get z n i hi] at hv
  obtain ⟨c, hc, hvc⟩ := h.at_ _ hv
  refine ⟨c, ?_, hvc⟩
  simp at hl
  have hlt : i % zv.size < zv.size := Nat.mod_lt _ (by rcases Nat.eq_zero_or_pos zv.size with h0 | h0; · rw [hl, h0] at hi; omega
                                                       · exact h0)
  rw [hl] at hc
  have hc' : zv[i % zv.size]? = some c := by simpa using hc
  simp [hm, hi, getElem!_def, hc']

/-! ### Cuts -/
theorem asNatIn_spec {v : AV} {c : Value} {m n : Nat} (hv : VR ρ v c) (h : asNatIn v m = some n) (code : BoundsCode) : n ≤ m ∧ ∀ w, (Instr.sliceBound c m code).run P w = .ok n w := by
  unfold asNatIn at h
  split at h
  · split at h
    · rename_i k i hi
      injection h with h; subst h
      simp only [VR] at hv; subst hv
      refine ⟨by omega, fun w => ?_⟩
      simp [Instr.sliceBound, asIntOf, hi]
    · cases h
  · cases h
theorem asNatIn_mono {v : AV} {m m' n : Nat} (h : asNatIn v m = some n) (hm : m ≤ m') : asNatIn v m' = some n := by
  unfold asNatIn at h ⊢
  split at h
  · split at h
    · rename_i k i hi
      rw [if_pos ⟨hi.1, by omega⟩]; exact h
    · cases h
  · cases h

theorem run_bounds {env : Env} {a : Act} (hE : EnvR ρ env a.tmps) {isSlice : Bool} {lo hi mx : Option Operand} (hok : ∀ x ∈ lo.toList ++ hi.toList ++ mx.toList, (copd x).ok = true) {len cap m h l : Nat}
    (hm : optNat ((mx.map copd).map (aev env)) cap cap = some m) (hh : optNat ((hi.map copd).map (aev env)) m len = some h) (hl : optNat ((lo.map copd).map (aev env)) h 0 = some l)
    (hx : mx.isSome = true → hi.isSome = true) (hlen : len ≤ cap) :
    l ≤ h ∧ (hi.isSome = true → h ≤ m) ∧ (hi = none → h = len) ∧ m ≤ cap ∧ (mx = none → m = cap) ∧ ∀ w, (Instr.sliceBounds isSlice len cap (lo.map a.eval) (hi.map a.eval) (mx.map a.eval)).run P w = .ok (l, h, m) w := by
  have getM : m ≤ cap ∧ (mx = none → m = cap) ∧ ∀ w, (match mx.map a.eval with | some v => Instr.sliceBound v cap (if isSlice then .slice3Acap else .slice3Alen) | none => pure cap : Sem Nat).run P w = .ok m w := by
    cases mx with
    | none => simp [optNat] at hm; subst hm; exact ⟨Nat.le_refl _, fun _ => rfl, fun w => by simp⟩
    | some x =>
      simp only [Option.map_some, optNat] at hm
      have := asNatIn_spec (P := P) (aev_rel hE (hok x (by simp))) hm (if isSlice then .slice3Acap else .slice3Alen)
      exact ⟨this.1, fun h => (by cases h), fun w => by simpa using this.2 w⟩
  have getH : (hi.isSome = true → h ≤ m) ∧ (hi = none → h = len) ∧ ∀ w, (match hi.map a.eval, mx.map a.eval with
      | some v, some _ => Instr.sliceBound v m .slice3B
      | some v, none => Instr.sliceBound v m (if isSlice then .sliceAcap else .sliceAlen)
      | none, none => pure len
      | none, some _ => stuck "Slice: max without high" : Sem Nat).run P w = .ok h w := by
    cases hi with
    | none =>
      cases mx with
      | none => simp [optNat] at hh; subst hh; exact ⟨fun h => (by cases h), fun _ => rfl, fun w => by simp⟩
      | some y => simp at hx
    | some x =>
      simp only [Option.map_some, optNat] at hh
      have := fun code => asNatIn_spec (P := P) (aev_rel hE (hok x (by simp))) hh code
      refine ⟨fun _ => (this .index).1, fun h => (by cases h), fun w => ?_⟩
      cases mx with
      | none => simpa using (this _).2 w
      | some y => simpa using (this _).2 w
  have getL : l ≤ h ∧ ∀ w, (match lo.map a.eval with | some v => Instr.sliceBound v h (if (mx.map a.eval).isSome then .slice3C else .sliceB) | none => pure 0 : Sem Nat).run P w = .ok l w := by
    cases lo with
    | none => simp [optNat] at hl; subst hl; exact ⟨Nat.zero_le _, fun w => by simp⟩
    | some x =>
      simp only [Option.map_some, optNat] at hl
      have := asNatIn_spec (P := P) (aev_rel hE (hok x (by simp))) hl (if (mx.map a.eval).isSome then .slice3C else .sliceB)
      exact ⟨this.1, fun w => by simpa using this.2 w⟩
  refine ⟨getL.1, getH.1, getH.2.1, getM.1, getM.2.1, fun w => ?_⟩
  have e1 := getM.2.2 w
  have e2 := getH.2.2 w
  have e3 := getL.2 w
  clear getM getH getL hm hh hl hok hE
  cases mx <;> cases hi <;> cases lo <;> simp [Instr.sliceBounds] at e1 e2 e3 hx ⊢ <;> simp [e1, e2, e3]

theorem run_slice_sl {t e : TypeId} {n : Nat} (hu : P.underlying t = some (.slice e)) (hn : csize P e = some n) {A : Option Addr} {len cap l h m : Nat} {lo hi mx : Option Value} {w : World}
    (hb : (Instr.sliceBounds true len cap lo hi mx).run P w = .ok (l, h, m) w) : (Instr.sliceAt t (.slice A len cap) lo hi mx).run P w = .ok (.slice (if m = l then A else A.map (·.add (l * n))) (h - l) (m - l)) w := by
  simp [Instr.sliceAt, Instr.slice, run_underlying hu, hb, run_size hn]

theorem y_slc {env : Env} {a : Act} (hE : EnvR ρ env a.tmps) {t e : TypeId} {n : Nat} {x : Operand} {lo hi mx : Option Operand} {v : AV} (hu : P.underlying t = some (.slice e)) (hn : csize P e = some n)
    (hok : ∀ y ∈ lo.toList ++ hi.toList ++ mx.toList, (copd y).ok = true) (hx : (copd x).ok = true)
    (h : apure env (.slc n (copd x) (lo.map copd) (hi.map copd) (mx.map copd)) = some v) : Yield P ρ (Instr.sliceAt t (a.eval x) (lo.map a.eval) (hi.map a.eval) (mx.map a.eval)) v := by
  have hv := aev_rel hE hx
  simp only [apure] at h
  cases hav : aev env (copd x) with
  | sl id off len cap z =>
    rw [hav] at h hv
    simp only at h
    split at h
    · rename_i hz
      subst hz
      simp only [VR] at hv
      obtain ⟨L, A, c, hL, hval, hlc, hcap, hc⟩ := hv
      rw [hval]
      have fin : ∀ (l h m : Nat) (k : Option Nat), l ≤ h → h ≤ m → m ≤ c → (∀ j, k = some j → m - l = j) → VR ρ (.sl id (off + l * z) (h - l) k z) (.slice (if m = l then some A else (some A).map (·.add (l * z))) (h - l) (m - l)) := by
        intro l h m k h1 h2 h3 h4
        simp only [VR]
        rcases hc with hc | ⟨hA, hc⟩
        · have hm0 : m = l := by omega
          refine ⟨L, A, m - l, hL, by rw [if_pos hm0], by omega, h4, .inl (by omega)⟩
        · by_cases hm0 : m = l
          · refine ⟨L, A, m - l, hL, by rw [if_pos hm0], by omega, h4, .inl (by omega)⟩
          · refine ⟨L, A.add (l * z), m - l, hL, by rw [if_neg hm0]; rfl, by omega, h4, .inr ⟨?_, ?_⟩⟩
            · rw [hA, addr_add, Nat.add_assoc]
            · have : (m - l) * z + l * z ≤ c * z := by rw [← Nat.add_mul]; exact Nat.mul_le_mul_right z (by omega)
              omega
      cases cap with
      | some c0 =>
        obtain rfl := hcap c0 rfl
        simp only at h
        split at h
        · rename_i m hm
          split at h
          · rename_i hh hhh
            split at h
            · rename_i l hl
              split at h
              · cases h
              · rename_i hmx
                injection h with h; subst h
                obtain ⟨b1, b2, b3, b4, b5, b6⟩ := run_bounds hE (P := P) (isSlice := true) hok hm hhh hl (by intro q; cases hi <;> simp_all) hlc
                refine ⟨_, fin l hh m (some (m - l)) b1 ?_ b4 (fun j hj => by injection hj), fun w => run_slice_sl hu hn (b6 w)⟩
                cases hi with
                | none => cases mx <;> simp at hmx; have := b3 rfl; have := b5 rfl; omega
                | some y => exact b2 rfl
            · cases h
          · cases h
        · cases h
      | none =>
        simp only at h
        cases mx with
        | some q =>
          simp only [Option.map_some] at h
          split at h
          · rename_i m hm
            split at h
            · rename_i hh hhh
              split at h
              · rename_i l hl
                split at h
                · cases h
                · rename_i hmx
                  injection h with h; subst h
                  have hm' : optNat ((Option.map copd (some q)).map (aev env)) c c = some m := by simp only [Option.map_some, optNat]; exact asNatIn_mono hm hlc
                  obtain ⟨b1, b2, b3, b4, b5, b6⟩ := run_bounds hE (P := P) (isSlice := true) hok hm' hhh hl (by intro q; cases hi <;> simp_all) hlc
                  refine ⟨_, fin l hh m (some (m - l)) b1 ?_ b4 (fun j hj => by injection hj), fun w => run_slice_sl hu hn (b6 w)⟩
                  cases hi with
                  | none => simp at hmx
                  | some y => exact b2 rfl
              · cases h
            · cases h
          · cases h
        | none =>
          simp only [Option.map_none] at h
          split at h
          · rename_i hh hhh
            split at h
            · rename_i l hl
              injection h with h; subst h
              have hle : hh ≤ len := by
                cases hi with
                | none => simp [optNat] at hhh; omega
                | some y => simp only [Option.map_some, optNat] at hhh; exact (asNatIn_spec (P := P) (aev_rel hE (hok y (by simp))) hhh .index).1
              have hhh' : optNat ((hi.map copd).map (aev env)) c len = some hh := by
                cases hi with
                | none => simpa [optNat] using hhh
                | some y => simp only [Option.map_some, optNat] at hhh ⊢; exact asNatIn_mono hhh hlc
              obtain ⟨b1, b2, b3, b4, b5, b6⟩ := run_bounds hE (P := P) (isSlice := true) (mx := none) hok (m := c) (cap := c) (by simp [optNat]) hhh' hl (by simp) hlc
              exact ⟨_, fin l hh c none b1 (by omega) (Nat.le_refl _) (fun j hj => by cases hj), fun w => run_slice_sl hu hn (b6 w)⟩
            · cases h
          · cases h
    · cases h
  | nils =>
    rw [hav] at h hv
    simp only at h
    split at h
    · rename_i m hh l hm hhh hl
      split at h
      · cases h
      · rename_i hmx
        injection h with h; subst h
        simp only [VR] at hv
        rw [hv]
        have hm0 : m = 0 := by
          cases mx with
          | none => simp [optNat] at hm; omega
          | some y => simp only [Option.map_some, optNat] at hm; have := (asNatIn_spec (P := P) (aev_rel hE (hok y (by simp))) hm .index).1; omega
        subst hm0
        have hh0 : hh = 0 := by
          cases hi with
          | none => simp [optNat] at hhh; omega
          | some y => simp only [Option.map_some, optNat] at hhh; have := (asNatIn_spec (P := P) (aev_rel hE (hok y (by simp))) hhh .index).1; omega
        subst hh0
        obtain ⟨b1, b2, b3, b4, b5, b6⟩ := run_bounds hE (P := P) (isSlice := true) hok hm hhh hl (by intro q; cases hi <;> simp_all) (Nat.le_refl _)
        have : l = 0 := by omega
        subst this
        exact ⟨.slice none 0 0, by simp [VR], fun w => by rw [run_slice_sl hu hn (b6 w)]; simp⟩
    · cases h
  | _ => rw [hav] at h; simp at h

theorem y_slcs {env : Env} {a : Act} (hE : EnvR ρ env a.tmps) {t : TypeId} {x : Operand} {lo hi : Option Operand} {v : AV} (hu : P.underlying t = some .string)
    (hok : ∀ y ∈ lo.toList ++ hi.toList, (copd y).ok = true) (hx : (copd x).ok = true)
    (h : apure env (.slcs (copd x) (lo.map copd) (hi.map copd)) = some v) : Yield P ρ (Instr.sliceAt t (a.eval x) (lo.map a.eval) (hi.map a.eval) none) v := by
  have hv := aev_rel hE hx
  simp only [apure] at h
  cases hav : aev env (copd x) with
  | str b =>
    rw [hav] at h hv
    simp only at h
    split at h
    · rename_i hh hhh
      split at h
      · rename_i l hl
        injection h with h; subst h
        simp only [VR] at hv
        rw [hv]
        obtain ⟨b1, b2, b3, b4, b5, b6⟩ := run_bounds hE (P := P) (isSlice := false) (mx := none) (by simpa using hok) (m := b.size) (cap := b.size) (by simp [optNat]) hhh hl (by simp) (Nat.le_refl _)
        refine ⟨.string (b.extract l hh), by simp [VR], fun w => ?_⟩
        have := b6 w
        simp only [Option.map_none] at this
        simp [Instr.sliceAt, Instr.slice, run_underlying hu, this]
      · cases h
    · cases h
  | _ => rw [hav] at h; simp at h

end Go.AM
