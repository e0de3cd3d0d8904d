/-
  Operations that read memory and leave it alone. Own work of this project.
-/
import Derived.Test.YtihjheckdjocoaaAmOps4
import Derived.MapKept
set_option linter.unusedVariables false
set_option linter.unusedSimpArgs false
namespace Go.AM
open Go

variable {P : Program} {ρ : Ren}

/-! ### Keys -/
theorem isK_val {f : FK} {v : AV} {c : Value} (h : v.isK f = true) (k : VR ρ v c) : (f = .b ∧ ∃ b, v = .bool b ∧ c = .bool b) ∨ (f = .i ∧ ∃ q n, v = .int q n ∧ c = .int q n) ∨ (f = .s ∧ ∃ s, v = .str s ∧ c = .string s) := by
  cases f <;> cases v <;> simp [AV.isK] at h <;> simp only [VR] at k <;> subst k <;> simp
theorem run_checkKey1 {t : TypeId} {f : FK} (hk : fkOf P t = some f) {v : AV} {c : Value} (h : v.isK f = true) (k : VR ρ v c) (e : Bool) (d : Nat) (w : World) : (Instr.checkKey e (d + 1) t c).run P w = .ok () w := by
  unfold fkOf at hk
  cases hu : P.underlying t with
  | none => simp [hu] at hk
  | some u =>
    simp only [hu] at hk
    rcases isK_val h k with ⟨rfl, b, rfl, rfl⟩ | ⟨rfl, q, n, rfl, rfl⟩ | ⟨rfl, s, rfl, rfl⟩ <;> cases u <;> simp at hk <;> simp [Instr.checkKey, run_underlying hu]

theorem areK_len : ∀ {ks : List FK} {xs : List AV}, AV.areK ks xs = true → xs.length = ks.length
  | [], [], _ => rfl
  | [], _ :: _, h => by simp [AV.areK] at h
  | _ :: _, [], h => by simp [AV.areK] at h
  | k :: ks, x :: xs, h => by
    simp only [AV.areK, Bool.and_eq_true] at h
    simp [areK_len h.2]
theorem areK_append : ∀ {ks ks' : List FK} {xs : List AV}, AV.areK (ks ++ ks') xs = true → AV.areK ks (xs.take ks.length) = true ∧ AV.areK ks' (xs.drop ks.length) = true
  | [], ks', xs, h => ⟨by simp [AV.areK], by simpa using h⟩
  | k :: ks, ks', [], h => by simp [AV.areK] at h
  | k :: ks, ks', x :: xs, h => by
    simp only [List.cons_append, AV.areK, Bool.and_eq_true] at h
    have := areK_append h.2
    exact ⟨by simp [AV.areK, h.1, this.1], by simpa using this.2⟩

def FlatKey (P : Program) (t : TypeId) (ks : List FK) (dd : Nat) : Prop :=
  ∀ (ρ : Ren) (xs : List AV) (cs : List Value) (e : Bool) (w : World), VRs ρ xs cs → AV.areK ks xs = true →
    ∀ a, (if cone P t then cs = [a] else a = .agg cs.toArray) → (Instr.checkKey e dd t a).run P w = .ok () w

def checkFields (e : Bool) (d : Nat) (xs : Array Value) : List Field → Sem Unit
  | [] => pure ()
  | f :: fs => do
    if f.name ≠ "_" then Instr.checkKey e d f.type (← part f.type xs f.offset)
    checkFields e d xs fs
theorem run_checkKey_struct {t : TypeId} {fs : Array Field} (hu : P.underlying t = some (.struct fs)) (e : Bool) (d : Nat) (xs : Array Value) (w : World) :
    (Instr.checkKey e (d + 1) t (.agg xs)).run P w = (checkFields e d xs fs.toList).run P w := by
  simp only [Instr.checkKey, Sem.run_bind, run_underlying hu, Result.andThen_ok]
  rw [← Array.forIn_toList]
  generalize fs.toList = l
  clear hu
  induction l generalizing w with
  | nil => simp [checkFields]
  | cons f l ih =>
    simp only [List.forIn_cons, checkFields, Sem.run_bind]
    split
    · simp only [Sem.run_bind]
      generalize (part f.type xs f.offset).run P w = r1
      cases r1 with
      | ok a w1 =>
        simp only [Result.andThen_ok]
        generalize (Instr.checkKey e d f.type a).run P w1 = r2
        cases r2 with
        | ok b w2 => simpa using ih w2
        | halt x w2 => simp [Result.andThen]
      | halt x w1 => simp [Result.andThen]
    · simpa using ih w

theorem ckey_fields {dd : Nat} {ok : TypeId → Option (List FK)} (IH : ∀ t ks, ok t = some ks → FlatKey P t ks dd) (hcone : ∀ t ks, ok t = some ks → (cone P t = true ∧ ks.length = 1) ∨ ∃ fs, P.underlying t = some (.struct fs)) {ρ : Ren} :
    ∀ (fs : List Field) (at_ n : Nat) (ks : List FK) (xs : List AV) (cs : List Value) (e : Bool) (w : World), cflat.cfields P ok fs at_ (some n) = some ks → VRs ρ xs cs → AV.areK ks (xs.drop at_) = true →
      (checkFields e dd cs.toArray fs).run P w = .ok () w
  | [], at_, n, ks, xs, cs, e, w, hc, hxs, he => by simp [checkFields]
  | f :: fs, at_, n, ks, xs, cs, e, w, hc, hxs, he => by
    simp only [cflat.cfields] at hc
    split at hc
    · rename_i hno
      simp only [Bool.and_eq_true, bne_iff_ne, ne_eq, beq_iff_eq] at hno
      obtain ⟨hname, hoff⟩ := hno
      split at hc
      · rename_i k1 m hok hm
        split at hc
        · rename_i hmk
          simp only [Bool.and_eq_true, bne_iff_ne, ne_eq, beq_iff_eq] at hmk
          obtain ⟨hm0, hkm⟩ := hmk
          obtain ⟨ks', hc', rfl⟩ := Option.map_eq_some_iff.1 hc
          have hlx := areK_len he
          simp only [List.length_drop, List.length_append] at hlx
          obtain ⟨e1, e2⟩ := areK_append he
          rw [hkm] at e1 e2
          simp only [List.drop_drop] at e2
          have hlc := hxs.len
          have hxp := (hxs.drop at_).take m
          have key : ∃ a, (part f.type cs.toArray f.offset).run P w = .ok a w ∧ (Instr.checkKey e dd f.type a).run P w = .ok () w := by
            rcases hcone f.type k1 hok with ⟨h1, hl1⟩ | ⟨gs, h1⟩
            · have hm1 : m = 1 := by omega
              subst hm1
              have hcl : at_ < cs.length := by omega
              refine ⟨cs[at_], ?_, ?_⟩
              · rw [hoff]; exact run_part_one h1 (List.getElem?_eq_getElem hcl) w
              · refine IH f.type k1 hok ρ _ _ e w hxp e1 _ ?_
                rw [if_pos h1]
                exact one_of_take hcl
            · refine ⟨_, by rw [hoff]; exact run_part_struct h1 hm cs at_ w, ?_⟩
              refine IH f.type k1 hok ρ _ _ e w hxp e1 _ ?_
              rw [if_neg (by simp [cone, h1])]
          obtain ⟨a, p1, p3⟩ := key
          have hn2 := ckey_fields IH hcone fs (at_ + m) n ks' xs cs e w hc' hxs (by simpa [Nat.add_comm] using e2)
          simp only [checkFields, hname, ne_eq, not_false_eq_true, if_true, Sem.run_bind, p1, p3, Result.andThen_ok]
          exact hn2
        · cases hc
      · cases hc
    · cases hc

theorem cflat_size {d : Nat} {t : TypeId} {fs : Array Field} {ks : List FK} (hu : P.underlying t = some (.struct fs)) (h : cflat P (d + 1) t = some ks) : ∃ n, csize P t = some n ∧ cflat.cfields P (cflat P d) fs.toList 0 (some n) = some ks := by
  unfold cflat at h
  simp only [hu] at h
  split at h
  · cases hs : csize P t with
    | some n => rw [hs] at h; exact ⟨n, rfl, h⟩
    | none =>
      exfalso
      rw [hs] at h
      have : ∀ (gs : List Field) (a : Nat) (ks : List FK), cflat.cfields P (cflat P d) gs a none = some ks → False := by
        intro gs
        induction gs with
        | nil => intro a ks h; simp [cflat.cfields] at h
        | cons g gs ih =>
          intro a ks h
          simp only [cflat.cfields] at h
          split at h
          · split at h
            · split at h
              · obtain ⟨_, h2, _⟩ := Option.map_eq_some_iff.1 h
                exact ih _ _ h2
              · cases h
            · cases h
          · cases h
      exact this _ _ _ h
  · cases h

theorem flat_key : ∀ (d : Nat) (t : TypeId) (ks : List FK), cflat P d t = some ks → ∀ dd, d ≤ dd → FlatKey P t ks dd
  | 0, t, ks, h, _, _ => by simp [cflat] at h
  | d + 1, t, ks, h, dd, hd => by
    intro ρ xs cs e w hxs he a hab
    obtain ⟨dd, rfl⟩ : ∃ k, dd = k + 1 := ⟨dd - 1, by omega⟩
    rcases cflat_cone h with ⟨hc, k, rfl, hk⟩ | ⟨fs, hu⟩
    · rw [if_pos hc] at hab
      subst hab
      have hl := areK_len he
      match xs, hl with
      | [x], _ =>
        simp only [VRs_cons] at hxs
        simp only [AV.areK, Bool.and_true] at he
        exact run_checkKey1 hk he hxs.1 e dd w
    · rw [if_neg (by simp [cone, hu])] at hab
      subst hab
      obtain ⟨n, _, hf⟩ := cflat_size hu h
      rw [run_checkKey_struct hu]
      refine ckey_fields (fun t ks ht => flat_key d t ks ht dd (by omega)) (fun t ks ht => ?_) fs.toList 0 n ks xs cs e w hf hxs (by simpa using he)
      rcases cflat_cone ht with ⟨h1, k, rfl, _⟩ | h1
      · exact .inl ⟨h1, rfl⟩
      · exact .inr h1

theorem ckk_cases {t : TypeId} {k : EK} (h : ckk P t = some k) : (∃ f, k = .ky f ∧ fkOf P t = some f) ∨ (∃ ks fs, k = .fl ks ∧ P.underlying t = some (.struct fs) ∧ cflat P 8 t = some ks) := by
  unfold ckk at h
  unfold fkOf
  split at h
  · rename_i hu; injection h with h; subst h; exact .inl ⟨_, rfl, by simp [hu]⟩
  · rename_i hu; injection h with h; subst h; exact .inl ⟨_, rfl, by simp [hu]⟩
  · rename_i hu; injection h with h; subst h; exact .inl ⟨_, rfl, by simp [hu]⟩
  · rename_i fs hu
    obtain ⟨ks, hks, rfl⟩ := Option.map_eq_some_iff.1 h
    exact .inr ⟨ks, fs, rfl, hu, hks⟩
  · cases h
theorem key_agg {ks : List FK} {v : AV} (h : v.key (.fl ks) = true) : ∃ xs, v = .agg xs ∧ AV.areK ks xs = true := by
  cases v <;> simp [AV.key] at h
  exact ⟨_, rfl, h⟩
theorem key_ky {f : FK} {v : AV} (h : v.key (.ky f) = true) : v.isK f = true := by
  cases v <;> simpa [AV.key] using h
theorem run_checkKey_ok {t : TypeId} {k : EK} (hk : ckk P t = some k) {v : AV} {c : Value} (h : v.key k = true) (hv : VR ρ v c) (e : Bool) (w : World) : (Instr.checkKey e 10000 t c).run P w = .ok () w := by
  rcases ckk_cases hk with ⟨f, rfl, hf⟩ | ⟨ks, fs, rfl, hu, hks⟩
  · exact run_checkKey1 hf (key_ky h) hv e 9999 w
  · obtain ⟨xs, rfl, hx⟩ := key_agg h
    simp only [VR] at hv
    obtain ⟨cs, rfl, hv⟩ := hv
    exact flat_key 8 t ks hks 10000 (by omega) ρ xs cs e w hv hx _ (by rw [if_neg (by simp [cone, hu])])

/-! ### Looking up -/
theorem run_eqK {t : TypeId} {k : EK} (hk : ckk P t = some k) {x y : AV} {cx cy : Value} {r : Bool} (hx : VR ρ x cx) (hy : VR ρ y cy) (h : eqK k x y = some r) (w : World) : (Op.equal t cx cy).run P w = .ok r w := by
  show (Op.equalIn 10000 t cx cy).run P w = _
  rcases ckk_cases hk with ⟨f, rfl, hf⟩ | ⟨ks, fs, rfl, hu, hks⟩
  · exact run_eqF hf hx hy (by simpa [eqK] using h) 9999 w
  · simp only [eqK] at h
    cases x <;> cases y <;> simp at h
    simp only [VR] at hx hy
    obtain ⟨cs, rfl, hx⟩ := hx
    obtain ⟨ds, rfl, hy⟩ := hy
    exact flat_eq 8 t ks hks 10000 (by omega) ρ _ _ cs ds r w hx hy h _ _ (by rw [if_neg (by simp [cone, hu])]; exact ⟨rfl, rfl⟩)

def ERs (ρ : Ren) (es : List (AV × AV × Nat)) (ms : List MapEntry) : Prop := es.length = ms.length ∧ ∀ (i : Nat) (e : AV × AV × Nat), es[i]? = some e → ∃ m, ms[i]? = some m ∧ ER ρ e m
theorem ERs.cons {e : AV × AV × Nat} {es : List (AV × AV × Nat)} {m : MapEntry} {ms : List MapEntry} (h : ERs ρ (e :: es) (m :: ms)) : ER ρ e m ∧ ERs ρ es ms := by
  obtain ⟨h1, h2⟩ := h
  refine ⟨?_, by simpa using h1, fun i e' he => ?_⟩
  · obtain ⟨m', hm, he⟩ := h2 0 e (by simp)
    simp at hm; subst hm; exact he
  · obtain ⟨m', hm, he⟩ := h2 (i + 1) e' (by simpa using he)
    exact ⟨m', by simpa using hm, he⟩
/-- What is found: the place, and the value. -/
def Found (ρ : Ren) (r : Option (Nat × AV)) (q : Option (Nat × Value)) : Prop :=
  match r, q with
  | none, none => True
  | some (j, v), some (j', c) => j = j' ∧ VR ρ v c
  | _, _ => False
theorem run_findAsking {t : TypeId} {k : EK} (hk : ckk P t = some k) {x : AV} {cx : Value} (hx : VR ρ x cx) : ∀ {es : List (AV × AV × Nat)} {ms : List MapEntry} (i : Nat) {r : Option (Nat × AV)} (w : World), ERs ρ es ms → findE k x es i = some r →
    ∃ q, (Instr.findAsking t cx ms i).run P w = .ok q w ∧ Found ρ r q
  | [], [], i, r, w, _, h => by
    simp only [findE] at h; injection h with h; subst h
    exact ⟨none, by simp [Instr.findAsking], trivial⟩
  | [], _ :: _, _, _, _, hE, _ => by simp [ERs] at hE
  | _ :: _, [], _, _, _, hE, _ => by simp [ERs] at hE
  | (y, v, b) :: es, m :: ms, i, r, w, hE, h => by
    obtain ⟨⟨h1, h2, h3⟩, hr⟩ := hE.cons
    simp only [findE] at h
    cases he : eqK k x y with
    | none => simp [he] at h
    | some q =>
      have hrun := run_eqK hk hx h1 he w
      cases q with
      | true =>
        simp only [he] at h
        injection h with h; subst h
        exact ⟨some (i, m.val), by simp [Instr.findAsking, hrun], rfl, h2⟩
      | false =>
        simp only [he] at h
        obtain ⟨q, hq, hm⟩ := run_findAsking hk hx (i + 1) w hr h
        exact ⟨q, by simp [Instr.findAsking, hrun, hq], hm⟩
theorem findNow_of {d : TypeDesc} {f : FK} (hd : (match d with | .bool => some FK.b | .int _ => some .i | .string => some .s | _ => none) = some f) {x : AV} {cx : Value} (hx : VR ρ x cx) : ∀ {es : List (AV × AV × Nat)} {ms : List MapEntry} (i : Nat) {r : Option (Nat × AV)},
    ERs ρ es ms → findE (.ky f) x es i = some r → ∃ q, Instr.findNow d cx ms i = some q ∧ Found ρ r q
  | [], [], i, r, _, h => by
    simp only [findE] at h; injection h with h; subst h
    exact ⟨none, by simp [Instr.findNow], trivial⟩
  | [], _ :: _, _, _, hE, _ => by simp [ERs] at hE
  | _ :: _, [], _, _, hE, _ => by simp [ERs] at hE
  | (y, v, b) :: es, m :: ms, i, r, hE, h => by
    obtain ⟨⟨h1, h2, h3⟩, hr⟩ := hE.cons
    simp only [findE, eqK] at h
    have hsame : ∀ q, eqF f x y = some q → Instr.sameNow d cx m.key = some q := by
      intro q hq
      cases d <;> simp at hd <;> subst hd
      · obtain ⟨a, b, rfl, rfl, rfl⟩ := eqF_bo hq
        simp only [VR] at hx h1; subst hx; rw [h1]; rfl
      · obtain ⟨k, a, b, rfl, rfl, rfl⟩ := eqF_i hq
        simp only [VR] at hx h1; subst hx; rw [h1]; simp [Instr.sameNow]
      · obtain ⟨a, b, rfl, rfl, rfl⟩ := eqF_s hq
        simp only [VR] at hx h1; subst hx; rw [h1]; rfl
    cases he : eqF f x y with
    | none => simp [he] at h
    | some q =>
      have hs := hsame q he
      cases q with
      | true =>
        simp only [he] at h
        injection h with h; subst h
        exact ⟨some (i, m.val), by simp [Instr.findNow, hs], rfl, h2⟩
      | false =>
        simp only [he] at h
        obtain ⟨q, hq, hm⟩ := findNow_of hd hx (i + 1) hr h
        exact ⟨q, by simp [Instr.findNow, hs, hq], hm⟩
theorem findNow_struct {fs : Array Field} {cx : Value} : ∀ (ms : List MapEntry) (i : Nat) (q : Option (Nat × Value)), Instr.findNow (.struct fs) cx ms i = some q → ms = [] ∧ q = none
  | [], i, q, h => by simp [Instr.findNow] at h; exact ⟨rfl, h.symm⟩
  | m :: ms, i, q, h => by simp [Instr.findNow, Instr.sameNow] at h
theorem run_findKey {t : TypeId} {k : EK} (hk : ckk P t = some k) {x : AV} {cx : Value} (hx : VR ρ x cx) {es : List (AV × AV × Nat)} {ms : List MapEntry} {r : Option (Nat × AV)} (w : World) (hE : ERs ρ es ms) (h : findE k x es 0 = some r) :
    ∃ q, (Instr.findKey t cx ms).run P w = .ok q w ∧ Found ρ r q := by
  rcases ckk_cases hk with ⟨f, rfl, hf⟩ | ⟨ks, fs, rfl, hu, hks⟩
  · unfold fkOf at hf
    cases hu : P.underlying t with
    | none => simp [hu] at hf
    | some d =>
      rw [hu] at hf
      obtain ⟨q, hq, hm⟩ := findNow_of (d := d) (f := f) (by cases d <;> first | (simp at hf; done) | simpa using hf) hx 0 hE h
      exact ⟨q, by simp [Instr.findKey, run_underlying hu, hq], hm⟩
  · obtain ⟨q, hq, hm⟩ := run_findAsking hk hx 0 w hE h
    cases hn : Instr.findNow (.struct fs) cx ms 0 with
    | none => exact ⟨q, by simp [Instr.findKey, run_underlying hu, hn, hq], hm⟩
    | some z =>
      obtain ⟨rfl, rfl⟩ := findNow_struct ms 0 z hn
      simp [Instr.findAsking] at hq
      subst hq
      exact ⟨none, by simp [Instr.findKey, run_underlying hu, hn], hm⟩

/-! ### Cells -/
theorem row_cells {s : St} {w : World} (hR : R s ρ w) {id : Nat} {cells : List AV} {own : Bool} {L : Loc} (hg : s.get id = some (.row cells own)) (hL : ρ id = some L) :
    ∃ (cs : Array Value) (e : TypeId) (fr : Nat × Nat), w.heap[L.b]? = some (.cells cs e fr) ∧ cs.size = L.n ∧ L.o + cells.length ≤ L.n ∧ VRs ρ cells ((cs.toList.drop L.o).take cells.length) ∧ (own = true → ∀ i, i < L.n → (fr.1 ≤ i && i < fr.2) = false) ∧ cells.all AV.one = true := by
  have := hR.blk id _ L hg hL
  simp only [BlkOk] at this
  obtain ⟨cs, e, fr, h1, h2, h3, h4, h5⟩ := this
  refine ⟨cs, e, fr, h1, h2, h3, VRs.of (by simp; omega) fun i v hv => ?_, h5⟩
  obtain ⟨c, hc, hvc⟩ := h4 i v hv
  have hi := (List.getElem?_eq_some_iff.1 hv).1
  refine ⟨c, ?_, hvc⟩
  rw [List.getElem?_take_of_lt hi, List.getElem?_drop]
  simpa using hc
theorem cell_at {w : World} {b : Nat} {cs : Array Value} {e : TypeId} {fr : Nat × Nat} (h : w.heap[b]? = some (.cells cs e fr)) (o : Nat) : w.cell? ⟨b, o, none⟩ = cs[o]? := by simp [World.cell?, h]

theorem run_loadCells_at {w : World} {b o : Nat} {cs : Array Value} {e : TypeId} {fr : Nat × Nat} (h : w.heap[b]? = some (.cells cs e fr)) (n : Nat) (hn : o + n ≤ cs.size) :
    (loadCells ⟨b, o, none⟩ n).run P w = .ok ((cs.toList.drop o).take n).toArray w := by
  have hl : ((cs.toList.drop o).take n).length = n := by simp; omega
  have := run_loadCells_list (P := P) w ⟨b, o, none⟩ ((cs.toList.drop o).take n) (fun j v hv => by
    have hj : j < n := by have := (List.getElem?_eq_some_iff.1 hv).1; omega
    rw [addr_add, cell_at h]
    rw [List.getElem?_take_of_lt hj, List.getElem?_drop] at hv
    simpa using hv)
  rwa [hl] at this

/-- The cells that a slice or a string shows, as the model reads them. -/
theorem run_shown {s : St} {w : World} (hR : R s ρ w) {sz : Nat} {x : AV} {c : Value} {xs : List AV} {k : Nat} (hx : VR ρ x c) (h : shown s sz x = some xs) (hk : lenOf x = some k) (m : Nat) (hm : m ≤ k) :
    xs.all AV.one = true ∧ xs.length = k * sz ∧ (∀ w, (Builtin.lenOf c).run P w = .ok k w) ∧ ∃ cs : List Value, (∀ w2 : World, w2.heap = w.heap → (Builtin.firstCells sz m c).run P w2 = .ok cs.toArray w2) ∧ VRs ρ (xs.take (m * sz)) cs := by
  cases x <;> simp [shown] at h <;> simp [lenOf] at hk
  · subst hk
    obtain ⟨rfl, h⟩ := h
    subst h
    rename_i b
    simp only [VR] at hx; subst hx
    refine ⟨bytesAV_one b, by simp [bytesAV], by simp [Builtin.lenOf], ((b.data.toList.take m).map fun u => Value.int .u8 (u.toNat : Int)), fun w2 _ => ?_, ?_⟩
    · simp only [Builtin.firstCells, Sem.run_pure]
      congr 1
      apply Array.ext'
      simp
    · have : (bytesAV b).take (m * 1) = (b.data.toList.take m).map fun u => AV.int .u8 (u.toNat : Int) := by simp [bytesAV, List.map_take]
      rw [this]
      refine VRs.of (by simp) fun i v hv => ?_
      rw [List.getElem?_map] at hv ⊢
      obtain ⟨u, hu, rfl⟩ := Option.map_eq_some_iff.1 hv
      exact ⟨.int .u8 (u.toNat : Int), by simp [hu], by simp [VR]⟩
  · subst hk
    rename_i id off len cap z
    obtain ⟨rfl, h⟩ := h
    split at h
    · rename_i cells own hg
      split at h
      · rename_i hlen
        injection h with h; subst h
        simp only [VR] at hx
        obtain ⟨L, A, cc, hL, rfl, hlc, _, hc⟩ := hx
        obtain ⟨cs, e, fr, h1, h2, h3, h4, _, h6⟩ := row_cells hR hg hL
        refine ⟨?_, by simp; omega, by simp [Builtin.lenOf], ?_⟩
        · rw [List.all_eq_true] at h6 ⊢
          intro x hx
          exact h6 x (List.mem_of_mem_drop (List.mem_of_mem_take hx))
        rcases hc with hc | ⟨rfl, hc⟩
        · have hm0 : m = 0 := by omega
          subst hm0
          exact ⟨[], fun _ _ => by simp [Builtin.firstCells, loadCells, loadCellsFrom], by simpa using VRs_nil⟩
        · have hmz : m * z ≤ len * z := Nat.mul_le_mul_right z hm
          refine ⟨(cs.toList.drop (L.o + off)).take (m * z), fun w2 hw2 => ?_, ?_⟩
          · simp only [Builtin.firstCells]
            exact run_loadCells_at (w := w2) (by rw [hw2]; exact h1) (m * z) (by omega)
          · have := ((h4.drop off).take (len * z)).take (m * z)
            rw [List.drop_take, List.drop_drop, List.take_take, List.take_take, List.take_take] at this
            rw [show min (m * z) (len * z) = m * z by omega, show min (m * z) (cells.length - off) = m * z by omega] at this
            rw [List.take_take, show min (m * z) (len * z) = m * z by omega]
            exact this
      · cases h
    · cases h
  · subst h; subst hk
    simp only [VR] at hx; subst hx
    exact ⟨rfl, by simp, by simp [Builtin.lenOf], [], fun _ _ => by simp [Builtin.firstCells], by simpa using VRs_nil⟩

/-! ### Reading -/
theorem unbytes_spec : ∀ {xs : List AV} {cs : List Value} {l : List UInt8}, VRs ρ xs cs → unbytes xs = some l → ∃ ns : List Int, cs = ns.map (fun n => Value.int .u8 n) ∧ l = ns.map fun n => UInt8.ofNat n.toNat
  | [], cs, l, h, hu => by
    simp only [VRs] at h; subst h
    simp only [unbytes] at hu; injection hu with hu; subst hu
    exact ⟨[], rfl, rfl⟩
  | x :: xs, cs, l, h, hu => by
    simp only [VRs] at h
    obtain ⟨c, r, rfl, h1, h2⟩ := h
    cases x <;> try (simp [unbytes] at hu; done)
    rename_i k n
    cases k <;> simp only [unbytes] at hu <;> try (cases hu; done)
    obtain ⟨l', hl', rfl⟩ := Option.map_eq_some_iff.1 hu
    obtain ⟨ns, rfl, rfl⟩ := unbytes_spec h2 hl'
    simp only [VR] at h1; subst h1
    exact ⟨n :: ns, rfl, rfl⟩
theorem run_b2s_loop : ∀ (ns : List Int) (s : ByteArray) (w : World), (forIn (m := Sem) (ns.map fun n => Value.int .u8 n) s fun c s => (do
      let .int .u8 n := c | stuck "bytesToString: byte expected"
      pure (ForInStep.yield (s.push (UInt8.ofNat n.toNat))) : Sem (ForInStep ByteArray))).run P w = .ok ⟨s.data ++ (ns.map fun n => UInt8.ofNat n.toNat).toArray⟩ w
  | [], s, w => by simp
  | n :: ns, s, w => by
    simp only [List.map_cons, List.forIn_cons, Sem.run_bind, Sem.run_pure, Result.andThen_ok]
    rw [run_b2s_loop ns]
    congr 2
    apply Array.ext'
    simp [ByteArray.push]
theorem y_b2s {s : St} {w : World} (hR : R s ρ w) {x : AV} {c : Value} {xs : List AV} {l : List UInt8} (hx : VR ρ x c) (hs : ∀ b, x ≠ .str b) (h : shown s 1 x = some xs) (hu : unbytes xs = some l) :
    (Conv.bytesToString c).run P w = .ok (.string ⟨l.toArray⟩) w := by
  cases x <;> simp [shown] at h
  · exact absurd rfl (hs _)
  · rename_i id off len cap z
    obtain ⟨rfl, h⟩ := h
    split at h
    · rename_i cells own hg
      split at h
      · rename_i hlen
        injection h with h; subst h
        simp only [VR] at hx
        obtain ⟨L, A, cc, hL, rfl, hlc, _, hc⟩ := hx
        obtain ⟨cs, e, fr, h1, h2, h3, h4, _⟩ := row_cells hR hg hL
        rcases hc with hc | ⟨rfl, hc⟩
        · have hm0 : len = 0 := by omega
          subst hm0
          simp [unbytes] at hu
          subst hu
          simp [Conv.bytesToString, loadCells, loadCellsFrom]
          rfl
        · have hv := (h4.drop off).take len
          rw [List.drop_take, List.drop_drop, List.take_take] at hv
          rw [show min len (cells.length - off) = len by omega] at hv
          obtain ⟨ns, hns, rfl⟩ := unbytes_spec hv hu
          have hld := run_loadCells_at (P := P) h1 (o := L.o + off) len (by omega)
          simp only [Conv.bytesToString, Sem.run_bind, hld, Result.andThen_ok]
          rw [hns]
          have hlp := run_b2s_loop (P := P) ns ByteArray.empty w
          rw [← List.forIn_toArray] at hlp
          refine Eq.trans (congrArg (fun r => Result.andThen r fun a w' => Sem.run P (pure (Value.string a)) w') hlp) ?_
          simp
      · cases h
    · cases h
  · subst h
    simp [unbytes] at hu
    subst hu
    simp only [VR] at hx; subst hx
    simp [Conv.bytesToString]
    rfl

theorem map_entries {s : St} {w : World} (hR : R s ρ w) {id : Nat} {es : List (AV × AV × Nat)} {ck : Nat} {L : Loc} (hg : s.get id = some (.map es ck)) (hL : ρ id = some L) :
    ∃ ces : Array MapEntry, w.heap[L.b]? = some (.map ces ck) ∧ ERs ρ es ces.toList := by
  have := hR.blk id _ L hg hL
  simp only [BlkOk] at this
  obtain ⟨ces, h1, h2, h3⟩ := this
  exact ⟨ces, h1, by simpa using h2, fun i e he => by obtain ⟨m, hm, hr⟩ := h3 i e he; exact ⟨m, by simpa using hm, hr⟩⟩

theorem y_look {s : St} {w : World} (hR : R s ρ w) {t kt e : TypeId} {k : EK} {zv : Value} {z m i : AV} {cm ci : Value} {ok : Bool} {inf : TypeInfo} {v : AV} (hu : P.underlying t = some (.map kt e)) (hk : ckk P kt = some k) (hi : P.info? e = some inf) (hz : inf.zero = some zv)
    (hzr : VR ρ z zv) (hm : VR ρ m cm) (hiv : VR ρ i ci) (hkey : i.key k = true)
    (h : (match (generalizing := false) m with
      | .nilm => some (if ok then AV.tup [z, .bool false] else z)
      | .mp id => match s.get id with
        | some (.map es _) => match findE k i es 0 with
          | some (some (_, v)) => some (if ok then .tup [v, .bool true] else v)
          | some none => some (if ok then .tup [z, .bool false] else z)
          | none => none
        | _ => none
      | _ => none) = some v) : ∃ c, VR ρ v c ∧ (Instr.lookup t cm ci ok).run P w = .ok c w := by
  have hck := fun em w => run_checkKey_ok (P := P) hk hkey hiv em w
  cases m <;> simp at h
  · rename_i id
    simp only [VR] at hm
    obtain ⟨L, hL, rfl⟩ := hm
    split at h
    · rename_i es ck hg
      obtain ⟨ces, hh, hE⟩ := map_entries hR hg hL
      have hget : (getObj L.b).run P w = .ok (.map ces ck) w := by simp [getObj, Sem.run, hh]
      split at h
      · rename_i j v' hf
        injection h with h; subst h
        obtain ⟨q, hq, hfd⟩ := run_findKey (P := P) hk hiv w hE hf
        cases q with
        | none => exact absurd hfd (by simp [Found])
        | some jc =>
          obtain ⟨j', c⟩ := jc
          simp only [Found] at hfd
          cases ok
          · exact ⟨c, by simpa using hfd.2, by simp [Instr.lookup, run_underlying hu, hget, hck, hq]⟩
          · refine ⟨.tuple #[c, .bool true], ?_, by simp [Instr.lookup, run_underlying hu, hget, hck, hq]⟩
            simp only [if_true, VR]
            exact ⟨[c, .bool true], rfl, VRs_cons.2 ⟨hfd.2, VRs_cons.2 ⟨by simp [VR], VRs_nil⟩⟩⟩
      · rename_i hf
        injection h with h; subst h
        obtain ⟨q, hq, hfd⟩ := run_findKey (P := P) hk hiv w hE hf
        cases q with
        | some jc => exact absurd hfd (by simp [Found])
        | none =>
          cases ok
          · exact ⟨zv, by simpa using hzr, by simp [Instr.lookup, run_underlying hu, hget, hck, hq, run_zero hi hz]⟩
          · refine ⟨.tuple #[zv, .bool false], ?_, by simp [Instr.lookup, run_underlying hu, hget, hck, hq, run_zero hi hz]⟩
            simp only [if_true, VR]
            exact ⟨[zv, .bool false], rfl, VRs_cons.2 ⟨hzr, VRs_cons.2 ⟨by simp [VR], VRs_nil⟩⟩⟩
      · cases h
    · cases h
  · subst h
    simp only [VR] at hm; subst hm
    obtain ⟨q, hq, hfd⟩ := run_findKey (P := P) (ρ := ρ) hk hiv (es := []) (ms := []) (r := none) w ⟨rfl, by simp⟩ rfl
    cases q with
    | some jc => exact absurd hfd (by simp [Found])
    | none =>
      cases ok
      · exact ⟨zv, by simpa using hzr, by simp [Instr.lookup, run_underlying hu, hck, hq, run_zero hi hz]⟩
      · refine ⟨.tuple #[zv, .bool false], ?_, by simp [Instr.lookup, run_underlying hu, hck, hq, run_zero hi hz]⟩
        simp only [if_true, VR]
        exact ⟨[zv, .bool false], rfl, VRs_cons.2 ⟨hzr, VRs_cons.2 ⟨by simp [VR], VRs_nil⟩⟩⟩

/-- Reads that are no calls. -/
theorem ERs.find {st : Nat} : ∀ {es : List (AV × AV × Nat)} {ms : List MapEntry} {e : AV × AV × Nat}, ERs ρ es ms → (es.find? fun e => e.2.2 == st) = some e → ∃ m, (ms.find? (·.born == st)) = some m ∧ ER ρ e m
  | [], ms, e, _, h => by simp at h
  | x :: es, [], e, hE, h => by have := hE.1; simp at this
  | x :: es, m :: ms, e, hE, h => by
    obtain ⟨h1, h2⟩ := hE.cons
    by_cases hb : x.2.2 = st
    · have : x = e := by simpa [List.find?_cons, hb] using h
      subst this
      exact ⟨m, by simp [List.find?_cons, h1.2.2, hb], h1⟩
    · have hx : (x.2.2 == st) = false := by simpa using hb
      rw [List.find?_cons, hx] at h
      obtain ⟨m', e1, e2⟩ := ERs.find h2 h
      exact ⟨m', by rw [List.find?_cons, h1.2.2, hx]; exact e1, e2⟩
theorem y_entry {s : St} {w : World} (hR : R s ρ w) {x v : AV} {c : Value} (hx : VR ρ x c)
    (h : (match (generalizing := false) x with
      | .ptr id 0 => match s.get id with
        | some (.iter (some m) _ seen last) => match seen.getLast?, s.get m with
          | some stamp, some (.map es ck) => if ck = last then (es.find? fun e => e.2.2 == stamp).map fun e => AV.tup [e.1, e.2.1] else none
          | _, _ => none
        | _ => none
      | _ => none) = some v) : ∃ cv, VR ρ v cv ∧ (Instr.entry c).run P w = .ok cv w := by
  cases x <;> try (simp at h; done)
  rename_i id off
  cases off with
  | succ off => simp at h
  | zero =>
    simp only [VR] at hx
    obtain ⟨L, hL, rfl⟩ := hx
    simp only at h
    cases hg : s.get id with
    | none => rw [hg] at h; simp at h
    | some b =>
      rw [hg] at h
      cases b <;> try (simp at h; done)
      rename_i m since seen last
      cases m with
      | none => simp at h
      | some m =>
        simp only at h
        cases hsl : seen.getLast? with
        | none => rw [hsl] at h; simp at h
        | some stamp =>
          rw [hsl] at h
          cases hgm : s.get m with
          | none => rw [hgm] at h; simp at h
          | some bm =>
            rw [hgm] at h
            cases bm <;> try (simp at h; done)
            rename_i es ck
            simp only at h
            split at h
            · rename_i hck
              obtain ⟨e, he, rfl⟩ := Option.map_eq_some_iff.1 h
              have hb := hR.blk id _ L hg hL
              simp only [BlkOk] at hb
              obtain ⟨m', k1, k2, k3⟩ := hb
              rcases k3 with ⟨k3, _⟩ | ⟨id', M, k4, k5, k6⟩
              · cases k3
              · injection k4 with k4; subst k4; subst k6
                obtain ⟨ces, hh, hEr⟩ := map_entries hR hgm k5
                obtain ⟨me, hme, hke, hve, hbe⟩ := hEr.find he
                refine ⟨.tuple #[me.key, me.val], by simp only [VR]; exact ⟨[me.key, me.val], rfl, VRs_cons.2 ⟨hke, VRs_cons.2 ⟨hve, VRs_nil⟩⟩⟩, ?_⟩
                have hbk : seen.toArray.back? = some stamp := by simpa using hsl
                have hf : ces.find? (·.born == stamp) = some me := by rw [← Array.find?_toList]; exact hme
                subst hck
                simp [Instr.entry, k2, getObj, Sem.run, Sem.run_bind, k1, hh, hbk, hf]
            · cases h

theorem read_run {call : Nat → List AV → St → Option (AV × St)} {o : Oper} {a : Act} {env : Env} {s : St} {w : World} {cl : Bool} {v : AV} (hE : EnvR ρ env a.tmps) (hR : R s ρ w) (hn : (cop P cl o.op).isCall = false)
    (h : aread call env s (cop P cl o.op) = some v) : ∃ c, VR ρ v c ∧ (execOp a.eval o).run P w = .ok (.value c) w := by
  obtain ⟨hok, hc⟩ := cop_ok (P := P) (cl := cl) (op := o.op) (by intro e; rw [e] at h; simp [aread] at h)
  rw [hc] at h hn
  clear hc
  cases hop : o.op with
  | load t x =>
    rw [hop] at h hok
    simp only [cop0] at h
    have hx := aev_rel hE (hok x (by simp [Op.operands]))
    split at h
    · rename_i n hn'
      split at h
      · rename_i h1
        split at h
        · rename_i hn1
          simp only [aread] at h
          split at h
          · rename_i id o' hav
            rw [hav] at hx
            simp only [VR] at hx
            obtain ⟨L, hL, hval⟩ := hx
            split at h
            · rename_i cells own hg
              obtain ⟨cs, e, fr, g1, g2, g3, g4, _⟩ := row_cells hR hg hL
              obtain ⟨c, hc, hvc⟩ := g4.at_ _ h
              have hlt := (List.getElem?_eq_some_iff.1 h).1
              rw [List.getElem?_take_of_lt hlt, List.getElem?_drop] at hc
              refine ⟨c, hvc, ?_⟩
              have hcell := cell_at g1 (L.o + o')
              simp only [execOp, hop, Instr.loadAt, hval, Instr.sureAddr, Sem.run_bind, Sem.run_pure, Result.andThen_ok, loadVar, run_isAgg_one h1, Bool.false_eq_true, if_false, run_load, hcell]
              simp at hc
              simp [hc]
            · cases h
          · cases h
        · simp [aread] at h
      · split at h
        · rename_i fs hu
          simp only [aread] at h
          split at h
          · rename_i id o' hav
            rw [hav] at hx
            simp only [VR] at hx
            obtain ⟨L, hL, hval⟩ := hx
            split at h
            · rename_i cells own hg
              split at h
              · rename_i hlen
                injection h with h; subst h
                obtain ⟨cs, e, fr, g1, g2, g3, g4, _⟩ := row_cells hR hg hL
                have hv := (g4.drop o').take n
                rw [List.drop_take, List.drop_drop, List.take_take] at hv
                rw [show min n (cells.length - o') = n by omega] at hv
                refine ⟨.agg ((cs.toList.drop (L.o + o')).take n).toArray, by simp only [VR]; exact ⟨_, rfl, hv⟩, ?_⟩
                have hld := run_loadCells_at (P := P) g1 (o := L.o + o') n (by omega)
                simp [execOp, hop, Instr.loadAt, hval, Instr.sureAddr, loadVar, run_isAgg_struct hu, run_size hn', hld]
              · cases h
            · cases h
          · cases h
        · rename_i len e' hu
          simp only [aread] at h
          split at h
          · rename_i id o' hav
            rw [hav] at hx
            simp only [VR] at hx
            obtain ⟨L, hL, hval⟩ := hx
            split at h
            · rename_i cells own hg
              split at h
              · rename_i hlen
                injection h with h; subst h
                obtain ⟨cs, e, fr, g1, g2, g3, g4, _⟩ := row_cells hR hg hL
                have hv := (g4.drop o').take n
                rw [List.drop_take, List.drop_drop, List.take_take] at hv
                rw [show min n (cells.length - o') = n by omega] at hv
                refine ⟨.agg ((cs.toList.drop (L.o + o')).take n).toArray, by simp only [VR]; exact ⟨_, rfl, hv⟩, ?_⟩
                have hld := run_loadCells_at (P := P) g1 (o := L.o + o') n (by omega)
                simp [execOp, hop, Instr.loadAt, hval, Instr.sureAddr, loadVar, run_isAgg_array hu, run_size hn', hld]
              · cases h
            · cases h
          · cases h
        · simp [aread] at h
    · simp [aread] at h
  | convert src dst x =>
    rw [hop] at h hok
    simp only [cop0] at h
    have hx := aev_rel hE (hok x (by simp [Op.operands]))
    split at h
    · simp [aread] at h
    · rename_i e hu1 hu2
      split at h
      · rename_i hu3
        simp only [aread] at h
        split at h
        · cases h
        · rename_i hns
          split at h
          · rename_i xs hxs
            obtain ⟨l, hl, rfl⟩ := Option.map_eq_some_iff.1 h
            refine ⟨.string ⟨l.toArray⟩, by simp [VR], ?_⟩
            have hrun := y_b2s (P := P) hR hx (fun b hb => hns b hb) hxs hl
            have : (convert src dst (a.eval x)).run P w = .ok (.string ⟨l.toArray⟩) w := by
              have hshape : ∃ p q r, a.eval x = .slice p q r := by
                cases hav : aev env (copd x) <;> rw [hav] at hx hxs hns <;> simp [shown] at hxs
                · exact absurd rfl (hns _)
                · simp only [VR] at hx; obtain ⟨L, A, cc, _, hv, _⟩ := hx; exact ⟨_, _, _, hv⟩
                · simp only [VR] at hx; exact ⟨_, _, _, hx⟩
              obtain ⟨p, q, r, hsl⟩ := hshape
              rw [hsl] at hrun ⊢
              simp only [convert, Sem.run_bind, run_underlying hu1, run_underlying hu2, Result.andThen_ok, run_underlying hu3]
              exact hrun
            simp [execOp, hop, this]
          · cases h
      · simp [aread] at h
    · split at h <;> simp [aread] at h
    · simp [aread] at h
  | lookup t m k ok =>
    rw [hop] at h hok
    simp only [cop0] at h
    split at h
    · rename_i kt e hu
      split at h
      · rename_i k' inf hk hi
        split at h
        · rename_i zv hz
          split at h
          · rename_i z hzc
            simp only [aread] at h
            split at h
            · rename_i hkey
              obtain ⟨c, hc, hrun⟩ := y_look hR hu hk hi hz (cval_rel hzc) (aev_rel hE (hok m (by simp [Op.operands]))) (aev_rel hE (hok k (by simp [Op.operands]))) hkey h
              exact ⟨c, hc, by simp [execOp, hop, hrun]⟩
            · cases h
          · simp [aread] at h
        · simp [aread] at h
      · simp [aread] at h
    · simp [aread] at h
  | call c =>
    rw [hop] at h hok hn
    simp only [cop0] at h hn
    cases hcal : c.callee with
    | value f =>
      unfold ccall at h hn
      rw [hcal] at h hn
      cases f <;> simp only at h hn
      · simp [AOp.isCall] at hn
      · simp [AOp.isCall] at hn
      · simp [AOp.isCall] at hn
      · split at hn
        · simp [AOp.isCall] at hn
        · rename_i hcb; rw [if_neg hcb] at h; simp [aread] at h
    | invoke r m => unfold ccall at h; rw [hcal] at h; simp [aread] at h
    | builtin b =>
      have hex := exec_builtin (a := a) hop hcal
      unfold ccall at h
      rw [hcal] at h
      simp only at h
      split at h
      · rename_i x t hA hT
        have hA' : c.args = #[x] := by apply Array.ext'; simpa using hA
        have hT' : c.argTypes = #[t] := by apply Array.ext'; simpa using hT
        have hx := aev_rel hE (hok x (by simp [Op.operands, Call.operands, hA']))
        split at h
        · simp [aread] at h
        · simp [aread] at h
        · rename_i kt e hu
          simp only [aread] at h
          split at h
          · rename_i hav
            rw [hav] at hx
            injection h with h; subst h
            simp only [VR] at hx
            exact ⟨.int .i64 0, by simp [VR], by rw [hex]; simp [builtin, hA', hT', Builtin.len_, run_underlying hu, hx, goInt]⟩
          · rename_i id hav
            rw [hav] at hx
            simp only [VR] at hx
            obtain ⟨L, hL, hval⟩ := hx
            split at h
            · rename_i es ck hg
              injection h with h; subst h
              obtain ⟨ces, hh, hE'⟩ := map_entries hR hg hL
              have hget : (getObj L.b).run P w = .ok (.map ces ck) w := by simp [getObj, Sem.run, hh]
              have hl := hE'.1
              exact ⟨.int .i64 (ces.size : Int), by simp [VR] at hl ⊢; omega, by rw [hex]; simp [builtin, hA', hT', Builtin.len_, run_underlying hu, hval, hget, goInt]⟩
            · cases h
          · cases h
        · simp [aread] at h
      all_goals
        repeat' split at h
        all_goals simp [aread] at h
  | makeFunc fn first caps =>
    rw [hop] at h
    cases fn <;> simp only [cop0] at h <;> (try split at h) <;> simp [aread] at h
  | entry it =>
    rw [hop] at h hok
    simp only [cop0, aread] at h
    have hx := aev_rel hE (hok it (by simp [Op.operands]))
    obtain ⟨cv, h1, h2⟩ := y_entry (P := P) hR hx h
    exact ⟨cv, h1, by simp [execOp, hop, h2]⟩
  | _ =>
    rw [hop] at h
    simp only [cop0] at h
    repeat' split at h
    all_goals simp [aread] at h

end Go.AM
