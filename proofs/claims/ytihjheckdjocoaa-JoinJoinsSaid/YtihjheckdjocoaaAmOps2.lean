/-
  Binary operations, cuts of slices and strings, literals: the model yields what the abstract machine yields. Own work of this project.
-/
import Derived.Test.YtihjheckdjocoaaAmOps1
set_option linter.unusedVariables false
set_option linter.unusedSimpArgs false
namespace Go.AM
open Go

variable {P : Program} {ρ : Ren}

theorem y_int {op : BinOp} {k : IntKind} {a b : Int} {t : TypeId} {v : AV} (h : intOp op k a b = some v) (hs : op ≠ .shl) (hs' : op ≠ .shr) : Yield P ρ (Go.binOp op t (.int k a) (.int k b)) v := by
  cases op <;> simp only [intOp] at h <;> (try cases h) <;> (try exact absurd rfl hs) <;> (try exact absurd rfl hs')
  case quo =>
    split at h
    · cases h
    · rename_i h0
      injection h with h; subst h
      exact ⟨_, rfl, fun w => by simp [Go.binOp, Op.intDiv, h0]⟩
  case rem =>
    split at h
    · cases h
    · rename_i h0
      injection h with h; subst h
      exact ⟨_, rfl, fun w => by simp [Go.binOp, Op.intDiv, h0]⟩
  all_goals exact ⟨_, rfl, fun w => by simp [Go.binOp, Op.intArith, Op.intBits, Op.intCmp]⟩
theorem y_sh {op : BinOp} {k k' : IntKind} {a b : Int} {t : TypeId} {v : AV} (h : shOp op k a b = some v) : Yield P ρ (Go.binOp op t (.int k a) (.int k' b)) v := by
  unfold shOp at h
  split at h
  · cases h
  · rename_i h0
    cases op <;> simp at h
    all_goals
      subst h
      exact ⟨_, rfl, fun w => by simp [Go.binOp, Op.shift, h0]⟩
theorem y_str {op : BinOp} {a b : ByteArray} {t : TypeId} {v : AV} (h : strOp op a b = some v) : Yield P ρ (Go.binOp op t (.string a) (.string b)) v := by
  cases op <;> simp only [strOp] at h <;> (try cases h)
  case add =>
    split at h
    · cases h
    · rename_i h0
      injection h with h; subst h
      exact ⟨_, rfl, fun w => by simp only [Go.binOp, Op.stringOp]; rw [if_neg h0]; simp⟩
  all_goals exact ⟨_, rfl, fun w => by simp [Go.binOp, Op.stringOp]⟩

/-! ### == and != -/
theorem eqF_bo {x y : AV} {r : Bool} (h : eqF .b x y = some r) : ∃ a b, x = .bool a ∧ y = .bool b ∧ r = (a == b) := by
  cases x <;> cases y <;> simp [eqF] at h
  exact ⟨_, _, rfl, rfl, h.symm⟩
theorem eqF_i {x y : AV} {r : Bool} (h : eqF .i x y = some r) : ∃ k a b, x = .int k a ∧ y = .int k b ∧ r = (a == b) := by
  cases x <;> cases y <;> simp [eqF] at h
  obtain ⟨rfl, h⟩ := h
  exact ⟨_, _, _, rfl, rfl, h.symm⟩
theorem eqF_s {x y : AV} {r : Bool} (h : eqF .s x y = some r) : ∃ a b, x = .str a ∧ y = .str b ∧ r = (a == b) := by
  cases x <;> cases y <;> simp [eqF] at h
  exact ⟨_, _, rfl, rfl, h.symm⟩
def fkOf (P : Program) (t : TypeId) : Option FK :=
  match P.underlying t with
  | some .bool => some .b
  | some (.int _) => some .i
  | some .string => some .s
  | _ => none
theorem run_eqF {t : TypeId} {k : FK} (hk : fkOf P t = some k) {x y : AV} {cx cy : Value} {r : Bool} (hx : VR ρ x cx) (hy : VR ρ y cy) (h : eqF k x y = some r) (d : Nat) (w : World) :
    (Op.equalIn (d + 1) t cx cy).run P w = .ok r w := by
  unfold fkOf at hk
  cases hu : P.underlying t with
  | none => simp [hu] at hk
  | some u =>
    simp only [hu] at hk
    cases u <;> simp at hk
    · subst hk
      obtain ⟨a, b, rfl, rfl, rfl⟩ := eqF_bo h
      simp only [VR] at hx hy; subst hx; subst hy
      simp [Op.equalIn, run_underlying hu]
    · subst hk
      obtain ⟨k, a, b, rfl, rfl, rfl⟩ := eqF_i h
      simp only [VR] at hx hy; subst hx; subst hy
      simp [Op.equalIn, run_underlying hu]
    · subst hk
      obtain ⟨a, b, rfl, rfl, rfl⟩ := eqF_s h
      simp only [VR] at hx hy; subst hx; subst hy
      simp [Op.equalIn, run_underlying hu]

theorem isNil_np {x : AV} {r : Bool} {c : Value} (h : isNil .np x = some r) (k : VR ρ x c) : ∃ a, c = .pointer a ∧ r = a.isNone := by
  cases x <;> simp [isNil] at h <;> subst h <;> simp only [VR] at k
  · obtain ⟨L, _, rfl⟩ := k; exact ⟨_, rfl, rfl⟩
  · exact ⟨_, k, rfl⟩
theorem isNil_ns {x : AV} {r : Bool} {c : Value} (h : isNil .ns x = some r) (k : VR ρ x c) : ∃ a n m, c = .slice a n m ∧ r = a.isNone ∧ (r = true → c = .slice none 0 0) := by
  cases x <;> simp [isNil] at h <;> subst h <;> simp only [VR] at k
  · obtain ⟨L, a, n, _, rfl, _⟩ := k; exact ⟨_, _, _, rfl, rfl, by simp⟩
  · exact ⟨_, _, _, k, rfl, fun _ => k⟩
theorem isNil_nm {x : AV} {r : Bool} {c : Value} (h : isNil .nm x = some r) (k : VR ρ x c) : ∃ a, c = .map a ∧ r = a.isNone := by
  cases x <;> simp [isNil] at h <;> subst h <;> simp only [VR] at k
  · obtain ⟨L, _, rfl⟩ := k; exact ⟨_, rfl, rfl⟩
  · exact ⟨_, k, rfl⟩
theorem isNil_nf {x : AV} {r : Bool} {c : Value} (h : isNil .nf x = some r) (k : VR ρ x c) : (r = true ∧ c = .nilFunc) ∨ (r = false ∧ ∃ f a b, c = .func f a b) := by
  cases x <;> simp [isNil] at h <;> subst h <;> simp only [VR] at k
  · obtain ⟨cs, rfl, _⟩ := k; exact .inr ⟨rfl, _, _, _, rfl⟩
  · exact .inl ⟨rfl, k⟩

def nilEq (a b : Option Bool) : Option Bool :=
  match a, b with
  | some a, some b => if a || b then some (a && b) else none
  | _, _ => none
theorem nilEq_spec {p q : Option Bool} {r : Bool} (h : nilEq p q = some r) : ∃ a b, p = some a ∧ q = some b ∧ (a = true ∨ b = true) ∧ r = (a && b) := by
  cases p with
  | none => simp [nilEq] at h
  | some a =>
    cases q with
    | none => simp [nilEq] at h
    | some b =>
      simp only [nilEq] at h
      split at h
      · rename_i hab
        injection h with h
        exact ⟨a, b, rfl, rfl, by simpa using hab, h.symm⟩
      · cases h
theorem eqV_np (x y : AV) : eqV .np x y = nilEq (isNil .np x) (isNil .np y) := rfl
theorem eqV_ns (x y : AV) : eqV .ns x y = nilEq (isNil .ns x) (isNil .ns y) := rfl
theorem eqV_nm (x y : AV) : eqV .nm x y = nilEq (isNil .nm x) (isNil .nm y) := rfl
theorem eqV_nf (x y : AV) : eqV .nf x y = nilEq (isNil .nf x) (isNil .nf y) := rfl
theorem eqV_no {x y : AV} : eqV .no x y = none := by cases x <;> rfl
theorem eqV_ky {k : FK} {x y : AV} : eqV (.ky k) x y = none := by cases x <;> cases k <;> rfl
theorem eqV_fl {ks : List FK} {x y : AV} {r : Bool} (h : eqV (.fl ks) x y = some r) : ∃ a b, x = .agg a ∧ y = .agg b ∧ eqL ks a b = some r := by
  simp only [eqV] at h
  split at h
  · exact ⟨_, _, rfl, rfl, h⟩
  · cases h

theorem cek_bo {t : TypeId} (h : cek P t = .bo) : P.underlying t = some .bool := by
  unfold cek at h
  split at h <;> first | assumption | cases h | (split at h <;> cases h)
theorem cek_np {t : TypeId} (h : cek P t = .np) : ∃ e, P.underlying t = some (.pointer e) := by
  unfold cek at h
  split at h <;> first | exact ⟨_, ‹_›⟩ | cases h | (split at h <;> cases h)
theorem cek_ns {t : TypeId} (h : cek P t = .ns) : ∃ e, P.underlying t = some (.slice e) := by
  unfold cek at h
  split at h <;> first | exact ⟨_, ‹_›⟩ | cases h | (split at h <;> cases h)
theorem cek_nm {t : TypeId} (h : cek P t = .nm) : ∃ e f, P.underlying t = some (.map e f) := by
  unfold cek at h
  split at h <;> first | exact ⟨_, _, ‹_›⟩ | cases h | (split at h <;> cases h)
theorem cek_nf {t : TypeId} (h : cek P t = .nf) : ∃ e f g, P.underlying t = some (.func e f g) := by
  unfold cek at h
  split at h <;> first | exact ⟨_, _, _, ‹_›⟩ | cases h | (split at h <;> cases h)
theorem cek_fl {t : TypeId} {ks : List FK} (h : cek P t = .fl ks) : ∃ fs, P.underlying t = some (.struct fs) ∧ cflat P 8 t = some ks := by
  unfold cek at h
  split at h <;> first | cases h | (split at h <;> first | (injection h with h; subst h; exact ⟨_, ‹_›, ‹_›⟩) | cases h)

theorem run_eq_np {t e : TypeId} (hu : P.underlying t = some (.pointer e)) (d : Nat) (p q : Option Addr) (h : p.isNone = true ∨ q.isNone = true) (w : World) :
    (Op.equalIn (d + 1) t (.pointer p) (.pointer q)).run P w = .ok (p.isNone && q.isNone) w := by
  cases p <;> cases q <;> simp at h <;> simp [Op.equalIn, run_underlying hu]
theorem run_eq_ns {t e : TypeId} (hu : P.underlying t = some (.slice e)) (d : Nat) (p q : Option Addr) (n m n' m' : Nat) (h : p = none ∧ n = 0 ∧ m = 0 ∨ q = none ∧ n' = 0 ∧ m' = 0) (w : World) :
    (Op.equalIn (d + 1) t (.slice p n m) (.slice q n' m')).run P w = .ok (p.isNone && q.isNone) w := by
  rcases h with ⟨rfl, rfl, rfl⟩ | ⟨rfl, rfl, rfl⟩
  · cases q <;> simp [Op.equalIn, run_underlying hu]
  · cases p <;> simp [Op.equalIn, run_underlying hu]
theorem run_eq_nm {t e f : TypeId} (hu : P.underlying t = some (.map e f)) (d : Nat) (p q : Option Nat) (h : p.isNone = true ∨ q.isNone = true) (w : World) :
    (Op.equalIn (d + 1) t (.map p) (.map q)).run P w = .ok (p.isNone && q.isNone) w := by
  cases p <;> cases q <;> simp at h <;> simp [Op.equalIn, run_underlying hu]
theorem run_eq_nf1 {t : TypeId} {e f g} (hu : P.underlying t = some (.func e f g)) (d : Nat) (w : World) : (Op.equalIn (d + 1) t .nilFunc .nilFunc).run P w = .ok true w := by simp [Op.equalIn, run_underlying hu]
theorem run_eq_nf2 {t : TypeId} {e f g} (hu : P.underlying t = some (.func e f g)) (d : Nat) (x : Fn) (y z : Array Value) (w : World) : (Op.equalIn (d + 1) t .nilFunc (.func x y z)).run P w = .ok false w := by simp [Op.equalIn, run_underlying hu]
theorem run_eq_nf3 {t : TypeId} {e f g} (hu : P.underlying t = some (.func e f g)) (d : Nat) (x : Fn) (y z : Array Value) (w : World) : (Op.equalIn (d + 1) t (.func x y z) .nilFunc).run P w = .ok false w := by simp [Op.equalIn, run_underlying hu]

/-- A flat type's cells are equal just if they are equal one by one. -/
def FlatEq (P : Program) (t : TypeId) (ks : List FK) (dd : Nat) : Prop :=
  ∀ (ρ : Ren) (xs ys : List AV) (cs ds : List Value) (r : Bool) (w : World), VRs ρ xs cs → VRs ρ ys ds → eqL ks xs ys = some r →
    ∀ a b, (if cone P t then cs = [a] ∧ ds = [b] else a = .agg cs.toArray ∧ b = .agg ds.toArray) → (Op.equalIn dd t a b).run P w = .ok r w

theorem eqL_len : ∀ {ks : List FK} {xs ys : List AV} {r : Bool}, eqL ks xs ys = some r → xs.length = ks.length ∧ ys.length = ks.length
  | [], [], [], _, _ => ⟨rfl, rfl⟩
  | [], [], _ :: _, _, h => by simp [eqL] at h
  | [], _ :: _, _, _, h => by simp [eqL] at h
  | _ :: _, [], _, _, h => by simp [eqL] at h
  | _ :: _, _ :: _, [], _, h => by simp [eqL] at h
  | k :: ks, x :: xs, y :: ys, r, h => by
    simp only [eqL] at h
    split at h
    · rename_i u v h1 h2
      have := eqL_len h2
      simp [this.1, this.2]
    · cases h
theorem eqL_append : ∀ {ks ks' : List FK} {xs ys : List AV} {r : Bool}, eqL (ks ++ ks') xs ys = some r →
    ∃ a b, eqL ks (xs.take ks.length) (ys.take ks.length) = some a ∧ eqL ks' (xs.drop ks.length) (ys.drop ks.length) = some b ∧ r = (a && b)
  | [], ks', xs, ys, r, h => ⟨true, r, by simp [eqL], by simpa using h, by simp⟩
  | k :: ks, ks', [], ys, r, h => by simp [eqL] at h
  | k :: ks, ks', x :: xs, [], r, h => by simp [eqL] at h
  | k :: ks, ks', x :: xs, y :: ys, r, h => by
    simp only [List.cons_append, eqL] at h
    split at h
    · rename_i u v h1 h2
      injection h with h; subst h
      obtain ⟨a, b, e1, e2, rfl⟩ := eqL_append h2
      exact ⟨u && a, b, by simp [eqL, h1, e1], by simpa using e2, by simp [Bool.and_assoc]⟩
    · cases h

theorem run_part_one {t : TypeId} (h : cone P t = true) {cs : List Value} {off : Nat} {v : Value} (hv : cs[off]? = some v) (w : World) : (part t cs.toArray off).run P w = .ok v w := by
  simp [part, run_isAgg_one h, hv]
theorem run_part_struct {t : TypeId} {fs : Array Field} (hu : P.underlying t = some (.struct fs)) {n : Nat} (hn : csize P t = some n) (cs : List Value) (off : Nat) (w : World) :
    (part t cs.toArray off).run P w = .ok (.agg ((cs.drop off).take n).toArray) w := by
  simp only [part, Sem.run_bind, run_isAgg_struct hu, Result.andThen_ok, if_true, run_size hn, Sem.run_pure]
  congr 2
  apply Array.ext'
  simp [List.extract_eq_take_drop, List.take_drop, Nat.add_comm]

theorem one_of_take {cs : List Value} {at_ : Nat} (h : at_ < cs.length) : (cs.drop at_).take 1 = [cs[at_]] := by
  rw [List.drop_eq_getElem_cons h]; rfl

theorem cflat_fields {dd : Nat} {ok : TypeId → Option (List FK)} (IH : ∀ t ks, ok t = some ks → FlatEq P t ks dd) (hcone : ∀ t ks, ok t = some ks → (cone P t = true ∧ ks.length = 1) ∨ ∃ fs, P.underlying t = some (.struct fs)) {ρ : Ren} :
    ∀ (fs : List Field) (at_ n : Nat) (ks : List FK) (xs ys : List AV) (cs ds : List Value) (r : Bool) (w : World), cflat.cfields P ok fs at_ (some n) = some ks → VRs ρ xs cs → VRs ρ ys ds → eqL ks (xs.drop at_) (ys.drop at_) = some r →
      (Op.eqFields dd cs.toArray ds.toArray fs).run P w = .ok r w
  | [], at_, n, ks, xs, ys, cs, ds, r, w, hc, hxs, hys, he => by
    simp [cflat.cfields] at hc
    obtain ⟨_, rfl⟩ := hc
    have h := eqL_len he
    rw [List.eq_nil_of_length_eq_zero h.1, List.eq_nil_of_length_eq_zero h.2] at he
    simp [eqL] at he
    subst he
    simp [Op.eqFields]
  | f :: fs, at_, n, ks, xs, ys, cs, ds, r, w, hc, hxs, hys, he => by
    simp only [cflat.cfields] at hc
    split at hc
    · rename_i hno
      simp only [Bool.and_eq_true, bne_iff_ne, ne_eq, beq_iff_eq] at hno
      obtain ⟨hname, hoff⟩ := hno
      split at hc
      · rename_i k1 m hok hm
        split at hc
        · rename_i hmk
          simp only [Bool.and_eq_true, bne_iff_ne, ne_eq, beq_iff_eq] at hmk
          obtain ⟨hm0, hkm⟩ := hmk
          obtain ⟨ks', hc', rfl⟩ := Option.map_eq_some_iff.1 hc
          have hlx := (eqL_len he)
          simp only [List.length_drop, List.length_append] at hlx
          obtain ⟨u, v, e1, e2, rfl⟩ := eqL_append he
          rw [hkm] at e1 e2
          simp only [List.drop_drop] at e2
          have hlc := hxs.len
          have hld := hys.len
          have hxp := (hxs.drop at_).take m
          have hyp := (hys.drop at_).take m
          have key : ∃ a b, (part f.type cs.toArray f.offset).run P w = .ok a w ∧ (part f.type ds.toArray f.offset).run P w = .ok b w ∧ (Op.equalIn dd f.type a b).run P w = .ok u w := by
            rcases hcone f.type k1 hok with ⟨h1, hl1⟩ | ⟨gs, h1⟩
            · have hm1 : m = 1 := by omega
              subst hm1
              have hcl : at_ < cs.length := by omega
              have hdl : at_ < ds.length := by omega
              refine ⟨cs[at_], ds[at_], ?_, ?_, ?_⟩
              · rw [hoff]; exact run_part_one h1 (List.getElem?_eq_getElem hcl) w
              · rw [hoff]; exact run_part_one h1 (List.getElem?_eq_getElem hdl) w
              · refine IH f.type k1 hok ρ _ _ _ _ u w hxp hyp e1 _ _ ?_
                rw [if_pos h1]
                exact ⟨one_of_take hcl, one_of_take hdl⟩
            · refine ⟨_, _, by rw [hoff]; exact run_part_struct h1 hm cs at_ w, by rw [hoff]; exact run_part_struct h1 hm ds at_ w, ?_⟩
              refine IH f.type k1 hok ρ _ _ _ _ u w hxp hyp e1 _ _ ?_
              rw [if_neg (by simp [cone, h1])]
              exact ⟨rfl, rfl⟩
          obtain ⟨a, b, p1, p2, p3⟩ := key
          have hn2 := cflat_fields IH hcone fs (at_ + m) n ks' xs ys cs ds v w hc' hxs hys (by simpa [Nat.add_comm] using e2)
          simp only [Op.eqFields, hname, ne_eq, not_false_eq_true, if_true, Sem.run_bind, p1, p2, p3, Result.andThen_ok]
          cases u
          · simp
          · simpa using hn2
        · cases hc
      · cases hc
    · cases hc

theorem cflat_cone {d : Nat} {t : TypeId} {ks : List FK} (h : cflat P d t = some ks) : (cone P t = true ∧ ∃ k, ks = [k] ∧ fkOf P t = some k) ∨ ∃ fs, P.underlying t = some (.struct fs) := by
  cases d with
  | zero => simp [cflat] at h
  | succ d =>
    unfold cflat at h
    cases hu : P.underlying t with
    | none => simp [hu] at h
    | some k =>
      simp only [hu] at h
      cases k <;> simp [cone, hu, fkOf] at h ⊢ <;> exact h.2.symm
theorem flat_eq : ∀ (d : Nat) (t : TypeId) (ks : List FK), cflat P d t = some ks → ∀ dd, d ≤ dd → FlatEq P t ks dd
  | 0, t, ks, h, _, _ => by simp [cflat] at h
  | d + 1, t, ks, h, dd, hd => by
    intro ρ xs ys cs ds r w hxs hys he a b hab
    obtain ⟨dd, rfl⟩ : ∃ k, dd = k + 1 := ⟨dd - 1, by omega⟩
    rcases cflat_cone h with ⟨hc, k, rfl, hk⟩ | ⟨fs, hu⟩
    · rw [if_pos hc] at hab
      obtain ⟨rfl, rfl⟩ := hab
      have hl := eqL_len he
      match xs, ys, hl with
      | [x], [y], _ =>
        simp only [VRs_cons] at hxs hys
        simp only [eqL] at he
        split at he
        · rename_i p q h1 h2
          injection h2 with h2; subst h2
          injection he with he; subst he
          simpa using run_eqF hk hxs.1 hys.1 h1 dd w
        · cases he
    · rw [if_neg (by simp [cone, hu])] at hab
      obtain ⟨rfl, rfl⟩ := hab
      unfold cflat at h
      simp only [hu] at h
      split at h
      · rename_i hg
        simp only [Bool.and_eq_true, Bool.not_eq_true'] at hg
        have hn : ∃ n, csize P t = some n := by
          cases hs : csize P t with
          | some n => exact ⟨n, rfl⟩
          | none =>
            exfalso
            rw [hs] at h
            have : ∀ (gs : List Field) (a : Nat) (ks : List FK), cflat.cfields P (cflat P d) gs a none = some ks → False := by
              intro gs
              induction gs with
              | nil => intro a ks h; simp [cflat.cfields] at h
              | cons g gs ih =>
                intro a ks h
                simp only [cflat.cfields] at h
                split at h
                · split at h
                  · split at h
                    · obtain ⟨_, h2, _⟩ := Option.map_eq_some_iff.1 h
                      exact ih _ _ h2
                    · cases h
                  · cases h
                · cases h
            exact this _ _ _ h
        obtain ⟨n, hn⟩ := hn
        rw [hn] at h
        rw [run_equalIn_struct w dd t _ _ (by simp [Program.fieldsOf, hu]) hg.1]
        have hfs : P.fieldsOf t = fs := by simp [Program.fieldsOf, hu]
        rw [hfs]
        refine cflat_fields (fun t ks ht => flat_eq d t ks ht dd (by omega)) (fun t ks ht => ?_) fs.toList 0 n ks xs ys cs ds r w h hxs hys (by simpa using he)
        rcases cflat_cone ht with ⟨h1, k, rfl, _⟩ | h1
        · exact .inl ⟨h1, rfl⟩
        · exact .inr h1
      · cases h

theorem run_eqV {t : TypeId} {x y : AV} {cx cy : Value} {r : Bool} (hx : VR ρ x cx) (hy : VR ρ y cy) (h : eqV (cek P t) x y = some r) (w : World) : (Op.equal t cx cy).run P w = .ok r w := by
  show (Op.equalIn 10000 t cx cy).run P w = _
  cases hk : cek P t with
  | no => rw [hk, eqV_no] at h; cases h
  | ky k => rw [hk, eqV_ky] at h; cases h
  | bo =>
    have hu := cek_bo hk
    rw [hk] at h
    exact run_eqF (k := .b) (by simp [fkOf, hu]) hx hy (by simpa [eqV] using h) 9999 w
  | np =>
    obtain ⟨e, hu⟩ := cek_np hk
    rw [hk, eqV_np] at h
    obtain ⟨a, b, h1, h2, h3, rfl⟩ := nilEq_spec h
    obtain ⟨p, rfl, rfl⟩ := isNil_np h1 hx
    obtain ⟨q, rfl, rfl⟩ := isNil_np h2 hy
    exact run_eq_np hu 9999 p q h3 w
  | ns =>
    obtain ⟨e, hu⟩ := cek_ns hk
    rw [hk, eqV_ns] at h
    obtain ⟨a, b, h1, h2, h3, rfl⟩ := nilEq_spec h
    obtain ⟨p, n, m, rfl, rfl, e1⟩ := isNil_ns h1 hx
    obtain ⟨q, n', m', rfl, rfl, e2⟩ := isNil_ns h2 hy
    refine run_eq_ns hu 9999 p q n m n' m' ?_ w
    rcases h3 with h3 | h3
    · have := e1 h3
      injection this with g1 g2 g3
      exact .inl ⟨g1, g2, g3⟩
    · have := e2 h3
      injection this with g1 g2 g3
      exact .inr ⟨g1, g2, g3⟩
  | nm =>
    obtain ⟨e, f, hu⟩ := cek_nm hk
    rw [hk, eqV_nm] at h
    obtain ⟨a, b, h1, h2, h3, rfl⟩ := nilEq_spec h
    obtain ⟨p, rfl, rfl⟩ := isNil_nm h1 hx
    obtain ⟨q, rfl, rfl⟩ := isNil_nm h2 hy
    exact run_eq_nm hu 9999 p q h3 w
  | nf =>
    obtain ⟨e, f, g, hu⟩ := cek_nf hk
    rw [hk, eqV_nf] at h
    obtain ⟨a, b, h1, h2, h3, rfl⟩ := nilEq_spec h
    rcases isNil_nf h1 hx with ⟨rfl, rfl⟩ | ⟨rfl, f1, f2, f3, rfl⟩ <;> rcases isNil_nf h2 hy with ⟨rfl, rfl⟩ | ⟨rfl, g1, g2, g3, rfl⟩
    · exact run_eq_nf1 hu 9999 w
    · exact run_eq_nf2 hu 9999 _ _ _ w
    · exact run_eq_nf3 hu 9999 _ _ _ w
    · simp at h3
  | fl ks =>
    obtain ⟨fs, hu, hks⟩ := cek_fl hk
    rw [hk] at h
    obtain ⟨a, b, rfl, rfl, he⟩ := eqV_fl h
    simp only [VR] at hx hy
    obtain ⟨cs, rfl, hx⟩ := hx
    obtain ⟨ds, rfl, hy⟩ := hy
    exact flat_eq 8 t ks hks 10000 (by omega) ρ _ _ cs ds r w hx hy he _ _ (by rw [if_neg (by simp [cone, hu])]; exact ⟨rfl, rfl⟩)

theorem cflat_guard {t : TypeId} {fs : Array Field} {ks : List FK} (hu : P.underlying t = some (.struct fs)) (h : cflat P 8 t = some ks) : P.stoodInHeld t = false ∧ P.eqGuardType P.depth t = false := by
  unfold cflat at h
  simp only [hu] at h
  split at h
  · rename_i hg
    simpa using hg
  · cases h
theorem run_eqGuard {op : BinOp} {t : TypeId} {x y : Operand} {u v : AV} {cx cy : Value} {r : Bool} (hx : VR ρ u cx) (hy : VR ρ v cy) (h : eqV (cek P t) u v = some r) (w : World) : (eqGuard op t x y cx cy).run P w = .ok () w := by
  cases hk : cek P t with
  | no => rw [hk, eqV_no] at h; cases h
  | ky k => rw [hk, eqV_ky] at h; cases h
  | bo =>
    rw [hk] at h
    obtain ⟨a, b, rfl, rfl, rfl⟩ := eqF_bo (by simpa [eqV] using h)
    simp only [VR] at hx hy; subst hx; subst hy
    cases op <;> simp [eqGuard]
  | np =>
    rw [hk, eqV_np] at h
    obtain ⟨a, b, h1, h2, h3, rfl⟩ := nilEq_spec h
    obtain ⟨p, rfl, rfl⟩ := isNil_np h1 hx
    obtain ⟨q, rfl, rfl⟩ := isNil_np h2 hy
    cases op <;> simp [eqGuard]
  | ns =>
    rw [hk, eqV_ns] at h
    obtain ⟨a, b, h1, h2, h3, rfl⟩ := nilEq_spec h
    obtain ⟨p, n, m, rfl, rfl, e1⟩ := isNil_ns h1 hx
    obtain ⟨q, n', m', rfl, rfl, e2⟩ := isNil_ns h2 hy
    cases op <;> simp [eqGuard]
  | nm =>
    rw [hk, eqV_nm] at h
    obtain ⟨a, b, h1, h2, h3, rfl⟩ := nilEq_spec h
    obtain ⟨p, rfl, rfl⟩ := isNil_nm h1 hx
    obtain ⟨q, rfl, rfl⟩ := isNil_nm h2 hy
    cases op <;> simp [eqGuard]
  | nf =>
    rw [hk, eqV_nf] at h
    obtain ⟨a, b, h1, h2, h3, rfl⟩ := nilEq_spec h
    rcases isNil_nf h1 hx with ⟨rfl, rfl⟩ | ⟨rfl, f1, f2, f3, rfl⟩ <;> rcases isNil_nf h2 hy with ⟨rfl, rfl⟩ | ⟨rfl, g1, g2, g3, rfl⟩ <;> cases op <;> simp [eqGuard]
  | fl ks =>
    obtain ⟨fs, hu, hks⟩ := cek_fl hk
    rw [hk] at h
    obtain ⟨a, b, rfl, rfl, he⟩ := eqV_fl h
    simp only [VR] at hx hy
    obtain ⟨cs, rfl, hx⟩ := hx
    obtain ⟨ds, rfl, hy⟩ := hy
    exact run_eqGuard_agg w op t x y _ _ (cflat_guard hu hks).2

theorem run_binOp_eql {t : TypeId} {k : EK} {u v : AV} {cx cy : Value} {r : Bool} (hx : VR ρ u cx) (hy : VR ρ v cy) (h : eqV k u v = some r) :
    (Go.binOp .eql t cx cy = do pure (.bool (← Op.equal t cx cy))) ∧ (Go.binOp .neq t cx cy = do pure (.bool (!(← Op.equal t cx cy)))) := by
  cases k with
  | no => rw [eqV_no] at h; cases h
  | ky k => rw [eqV_ky] at h; cases h
  | bo =>
    obtain ⟨a, b, rfl, rfl, rfl⟩ := eqF_bo (by simpa [eqV] using h)
    simp only [VR] at hx hy; subst hx; subst hy
    exact ⟨rfl, rfl⟩
  | np =>
    obtain ⟨a, b, h1, h2, h3, rfl⟩ := nilEq_spec (by rw [← eqV_np]; exact h)
    obtain ⟨p, rfl, rfl⟩ := isNil_np h1 hx
    obtain ⟨q, rfl, rfl⟩ := isNil_np h2 hy
    exact ⟨rfl, rfl⟩
  | ns =>
    obtain ⟨a, b, h1, h2, h3, rfl⟩ := nilEq_spec (by rw [← eqV_ns]; exact h)
    obtain ⟨p, n, m, rfl, rfl, e1⟩ := isNil_ns h1 hx
    obtain ⟨q, n', m', rfl, rfl, e2⟩ := isNil_ns h2 hy
    exact ⟨rfl, rfl⟩
  | nm =>
    obtain ⟨a, b, h1, h2, h3, rfl⟩ := nilEq_spec (by rw [← eqV_nm]; exact h)
    obtain ⟨p, rfl, rfl⟩ := isNil_nm h1 hx
    obtain ⟨q, rfl, rfl⟩ := isNil_nm h2 hy
    exact ⟨rfl, rfl⟩
  | nf =>
    obtain ⟨a, b, h1, h2, h3, rfl⟩ := nilEq_spec (by rw [← eqV_nf]; exact h)
    rcases isNil_nf h1 hx with ⟨rfl, rfl⟩ | ⟨rfl, f1, f2, f3, rfl⟩ <;> rcases isNil_nf h2 hy with ⟨rfl, rfl⟩ | ⟨rfl, g1, g2, g3, rfl⟩ <;> exact ⟨rfl, rfl⟩
  | fl ks =>
    obtain ⟨a, b, rfl, rfl, he⟩ := eqV_fl h
    simp only [VR] at hx hy
    obtain ⟨cs, rfl, hx⟩ := hx
    obtain ⟨ds, rfl, hy⟩ := hy
    exact ⟨rfl, rfl⟩

theorem y_bin {op : BinOp} {t : TypeId} {x y : Operand} {u v r : AV} {cx cy : Value} (hx : VR ρ u cx) (hy : VR ρ v cy) (h : binOp op (cek P t) u v = some r) :
    Yield P ρ (do eqGuard op t x y cx cy; Go.binOp op t cx cy) r := by
  unfold binOp at h
  split at h
  · simp only [VR] at hx hy; subst hx; subst hy
    obtain ⟨c, hc, hrun⟩ := y_sh (ρ := ρ) (P := P) (k' := ‹_›) (t := t) h
    exact ⟨c, hc, fun w => by simp [eqGuard, hrun w]⟩
  · simp only [VR] at hx hy; subst hx; subst hy
    obtain ⟨c, hc, hrun⟩ := y_sh (ρ := ρ) (P := P) (k' := ‹_›) (t := t) h
    exact ⟨c, hc, fun w => by simp [eqGuard, hrun w]⟩
  · rename_i k a k' b hs hs'
    split at h
    · rename_i hk
      subst hk
      simp only [VR] at hx hy; subst hx; subst hy
      obtain ⟨c, hc, hrun⟩ := y_int (ρ := ρ) (P := P) (t := t) h hs hs'
      refine ⟨c, hc, fun w => ?_⟩
      have : (eqGuard op t x y (.int k a) (.int k b)).run P w = .ok () w := by cases op <;> simp [eqGuard]
      simp [this, hrun w]
    · cases h
  · rename_i a b
    simp only [VR] at hx hy; subst hx; subst hy
    obtain ⟨c, hc, hrun⟩ := y_str (ρ := ρ) (P := P) (t := t) h
    refine ⟨c, hc, fun w => ?_⟩
    have : (eqGuard op t x y (.string a) (.string b)).run P w = .ok () w := by cases op <;> simp [eqGuard]
    simp [this, hrun w]
  · obtain ⟨b, hb, rfl⟩ := Option.map_eq_some_iff.1 h
    refine ⟨.bool b, by simp [VR], fun w => ?_⟩
    rw [(run_binOp_eql hx hy hb).1]
    simp [run_eqGuard hx hy hb, run_eqV hx hy hb]
  · obtain ⟨b, hb, rfl⟩ := Option.map_eq_some_iff.1 h
    refine ⟨.bool (!b), by simp [VR], fun w => ?_⟩
    rw [(run_binOp_eql hx hy hb).2]
    simp [run_eqGuard hx hy hb, run_eqV hx hy hb]
  · cases h

end Go.AM
