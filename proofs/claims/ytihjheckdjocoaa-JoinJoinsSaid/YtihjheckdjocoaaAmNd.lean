/-
  Dots and nodes in memory; rules for stepping that keep them folded. Own work of this project.
-/
import Derived.Test.YtihjheckdjocoaaAmList
set_option linter.unusedVariables false
set_option linter.unusedSimpArgs false
namespace Go.AM
open Go

def dotC : Cod Dot where
  sz := 2
  enc := Dot.av
  dec := fun cs => match cs with
    | [.int .i64 a, .int .i64 b] => some ⟨a, b⟩
    | _ => none
  pos := by decide
  len := fun _ => rfl
  plain := fun _ => rfl
  dec_enc := fun _ => rfl
  enc_dec := fun cs x h => by
    split at h
    · injection h with h; subst h; rfl
    · cases h
def ndC : Cod Nd where
  sz := 6
  enc := Nd.av
  dec := fun cs => match cs with
    | [.int .i64 a, .int .i64 b, .int .i64 c, .int .i64 d, .int .i64 e, .int .i32 x] => some ⟨⟨a, b⟩, ⟨c, d⟩, e, x⟩
    | _ => none
  pos := by decide
  len := fun _ => rfl
  plain := fun _ => rfl
  dec_enc := fun _ => rfl
  enc_dec := fun cs x h => by
    split at h
    · injection h with h; subst h; rfl
    · cases h

/-! ### Numbers of blocks -/
def sameN (n : Nat) (s : St) : Prop := n = s.next
def ltN (n : Nat) (s : St) : Prop := n < s.next
theorem same_self (s : St) : sameN s.next s = True := eq_true rfl
theorem same_push {s t : St} (h : sameN s.next t) (b c : AB) : sameN (s.push b).next (t.push c) = True := eq_true (by unfold sameN at *; simp [h])
theorem same_lowed {n : Nat} {t : St} (h : sameN n t) : sameN n t.lowed = True := eq_true h
theorem same_lowed' {s t : St} (h : sameN s.next t) : sameN s.lowed.next t = True := eq_true h
theorem lt_push {n : Nat} {t : St} (h : ltN n t) (b : AB) : ltN n (t.push b) = True := eq_true (Nat.lt_succ_of_lt h)
theorem lt_push_same {n : Nat} {t : St} (h : sameN n t) (b : AB) : ltN n (t.push b) = True := eq_true (by unfold sameN at h; unfold ltN; simp [h])
theorem lt_lowed {n : Nat} {t : St} (h : ltN n t) : ltN n t.lowed = True := eq_true h
theorem lt_of_get {s : St} {id : Nat} {b : AB} (h : s.get id = some b) : ltN id s := St.get_lt h
/-! ### Loads and stores by value -/
def lod (s : St) (n : Nat) (v : AV) : Option AV := match v with
  | .ptr id o => match s.get id with
    | some (.row cs _) => if o + n ≤ cs.length then some (.agg ((cs.drop o).take n)) else none
    | _ => none
  | _ => none
def lod1 (s : St) (v : AV) : Option AV := match v with
  | .ptr id o => match s.get id with
    | some (.row cs _) => cs[o]?
    | _ => none
  | _ => none
def sto (s : St) (n : Nat) (a x : AV) : Option (AV × St) := match a with
  | .ptr id o => match s.get id with
    | some (.row cs true) => if x.cells.length = n ∧ x.cells.all AV.one ∧ o + n ≤ cs.length then some (.und, s.put id (.row (setAt cs o x.cells) true)) else none
    | _ => none
  | _ => none
variable {call : Nat → List AV → St → Option (AV × St)} {env : Env} {s t : St}
theorem ar_loadn (n : Nat) (a : AO) : aread call env s (.loadn n a) = lod s n (aev env a) := nrfl rfl
theorem ar_load1 (a : AO) : aread call env s (.load1 a) = lod1 s (aev env a) := nrfl rfl
theorem ae_store (n : Nat) (a x : AO) : aeff call env s (.store n a x) = sto s n (aev env a) (aev env x) := nrfl rfl
def iadV (sz : Nat) (x i : AV) : Option AV := match x, i with
  | .sl id off len _ z, .int _ n => if z = sz ∧ 0 ≤ n ∧ n < len then some (.ptr id (off + n.toNat * sz)) else none
  | _, _ => none
theorem ap_iad (sz : Nat) (x i : AO) : apure env (.iad sz x i) = iadV sz (aev env x) (aev env i) := nrfl rfl
theorem iadV_nat {sz id off len : Nat} {cap : Option Nat} {k : IntKind} {i : Nat} (h : i < len) : iadV sz (.sl id off len cap sz) (.int k (i : Int)) = some (.ptr id (off + i * sz)) := by
  simp [iadV, h]
def fadV (o : Nat) : AV → Option AV
  | .ptr id p => some (.ptr id (p + o))
  | _ => none
theorem ap_fad (o : Nat) (x : AO) : apure env (.fad o x) = fadV o (aev env x) := nrfl rfl
theorem fadV_ptr (o id p : Nat) : fadV o (.ptr id p) = some (.ptr id (p + o)) := nrfl rfl
def lenV : AV → Option AV
  | .sl _ _ n _ _ => some (.int .i64 (n : Int))
  | .nils => some (.int .i64 0)
  | _ => none
theorem ap_len (x : AO) : apure env (.len .sl x) = lenV (aev env x) := nrfl rfl
theorem lenV_sl (a b n : Nat) (c : Option Nat) (z : Nat) : lenV (.sl a b n c z) = some (.int .i64 (n : Int)) := nrfl rfl
theorem lenV_nils : lenV .nils = some (.int .i64 0) := nrfl rfl
theorem lenV_read {α : Type} {C : Cod α} {v : AV} {l : List α} (h : read C s v = some l) : lenV v = some (.int .i64 (l.length : Int)) := by
  cases v with
  | nils => simp [read] at h; subst h; rfl
  | sl id off n cap z =>
    obtain ⟨_, rfl, _⟩ := read_sl h
    rfl
  | _ => simp [read] at h
def pickV (c a b : AV) : Option AV := match c with
  | .bool t => some (if t then a else b)
  | _ => none
theorem ap_pick (c a b : AO) : apure env (.pick c a b) = pickV (aev env c) (aev env a) (aev env b) := nrfl rfl
theorem pickV_t (a b : AV) : pickV (.bool true) a b = some a := nrfl rfl
theorem pickV_f (a b : AV) : pickV (.bool false) a b = some b := nrfl rfl
def notV : AV → Option AV
  | .bool b => some (.bool !b)
  | _ => none
theorem ap_not (x : AO) : apure env (.un .not x) = notV (aev env x) := by
  simp only [apure, notV]
  cases aev env x <;> rfl
theorem notV_bool (b : Bool) : notV (.bool b) = some (.bool !b) := nrfl rfl
def extV (i : Nat) : AV → Option AV
  | .tup vs => vs[i]?
  | _ => none
theorem ap_ext (x : AO) (i : Nat) : apure env (.ext x i) = extV i (aev env x) := nrfl rfl
theorem extV_0 (v : AV) (l : List AV) : extV 0 (.tup (v :: l)) = some v := nrfl rfl
theorem extV_1 (v w : AV) (l : List AV) : extV 1 (.tup (v :: w :: l)) = some w := nrfl rfl
def fstep (cs : List AV) (off n : Nat) (v : AV) (K : List AV → Option (List AV)) : Option (List AV) :=
  if v.cells.length = n ∧ v.cells.all AV.one ∧ off + n ≤ cs.length then K (setAt cs off v.cells) else none
theorem fillP_nil (cs : List AV) : fillP env cs [] = some cs := nrfl rfl
theorem fillP_cons (cs : List AV) (off n : Nat) (x : AO) (r : List (Nat × Nat × AO)) : fillP env cs ((off, n, x) :: r) = fstep cs off n (aev env x) fun cs => fillP env cs r := nrfl rfl
theorem fstep_nd (x : Nd) (K : List AV → Option (List AV)) : fstep [.int .i64 0, .int .i64 0, .int .i64 0, .int .i64 0, .int .i64 0, .int .i32 0] 0 6 (.agg (Nd.av x)) K = K (Nd.av x) := nrfl rfl
theorem fstep_dot (x : Dot) (K : List AV → Option (List AV)) : fstep [.int .i64 0, .int .i64 0] 0 2 (.agg (Dot.av x)) K = K (Dot.av x) := nrfl rfl
theorem aa_bsl1 (z : List AV) (sz : Nat) (x : AO) : aalloc env (.bsl z 1 sz [(0, x)]) = (fstep z 0 sz (aev env x) some).map fun cs => (fun id => .sl id 0 1 (some 1) sz, .row cs true) := by
  simp only [aalloc, List.map_cons, List.map_nil, Nat.zero_mul, fillP_cons]
  rfl

/-! ### A box for one value -/
theorem push_put (s : St) (b c : AB) : (s.push b).put s.next c = s.lowed.push c := by
  simp [St.push, St.put, St.lowed]
theorem reserve0 (s : St) : s.reserve 0 = s := nrfl rfl
theorem reserve1_get (s : St) : (s.reserve 1).get (s.next + 0) = some .unborn := by simp [St.get_reserve]
theorem reserve1_get' (s : St) : (s.reserve 1).get s.next = some .unborn := by simp [St.get_reserve]
theorem reserve1_born (s : St) (b : AB) : (s.reserve 1).born (s.next + 0) b = s.push b := by simp [St.reserve, St.push, St.born]
theorem reserve1_born' (s : St) (b : AB) : (s.reserve 1).born s.next b = s.push b := by simp [St.reserve, St.push, St.born]
theorem sto_nd {n : Nat} {s : St} (h : sameN n s) (x : Nd) : sto (s.push (.row [.int .i64 0, .int .i64 0, .int .i64 0, .int .i64 0, .int .i64 0, .int .i32 0] true)) 6 (.ptr n 0) (.agg (Nd.av x)) = some (.und, s.lowed.push (.row (Nd.av x) true)) := by
  unfold sameN at h
  subst h
  simp only [sto, St.get_push_new, push_put]
  rfl
theorem lod_row {s : St} {id : Nat} {cs : List AV} {own : Bool} (h : s.get id = some (.row cs own)) (n o : Nat) : lod s n (.ptr id o) = if o + n ≤ cs.length then some (.agg ((cs.drop o).take n)) else none := by
  simp [lod, h]
theorem lod_nd {n : Nat} {s : St} (h : sameN n s) (x : Nd) (own : Bool) : lod (s.push (.row (Nd.av x) own)) 6 (.ptr n 0) = some (.agg (Nd.av x)) := by
  unfold sameN at h
  subst h
  simp only [lod, St.get_push_new]
  rfl
theorem lod_nd_dot {n : Nat} {s : St} (h : sameN n s) (x : Nd) (own : Bool) : lod (s.push (.row (Nd.av x) own)) 2 (.ptr n 0) = some (.agg (Dot.av x.d)) := by
  unfold sameN at h
  subst h
  simp only [lod, St.get_push_new]
  rfl
theorem Keep.lowed {s t : St} (h : Keep s t) : Keep s t.lowed := h.trans (keep_lowed t)
theorem Own.lowed {α : Type} {C : Cod α} {s t : St} {v : AV} {l : List α} (h : Own C s t v l) : Own C s t.lowed v l := h.mono fun _ _ k => k

/-- The loads of an element of a list of nodes. -/
theorem nd_loads {s : St} {id off n z : Nat} {cap : Option Nat} {l : List Nd} (h : read ndC s (.sl id off n cap z) = some l) {i : Nat} {x : Nd} (hi : l[i]? = some x) : ∀ t : St, (∀ b, s.get id = some b → t.get id = some b) →
    lod t 6 (.ptr id (off + i * 6)) = some (.agg (Nd.av x)) ∧ lod t 2 (.ptr id (off + i * 6)) = some (.agg (Dot.av x.d)) ∧ lod t 2 (.ptr id (off + i * 6 + 2)) = some (.agg (Dot.av x.p)) ∧
    lod1 t (.ptr id (off + i * 6 + 4)) = some (.int .i64 x.t) ∧ lod1 t (.ptr id (off + i * 6 + 5)) = some (.int .i32 x.x) := by
  intro t ht
  obtain ⟨rfl, hn, cs, own, hg, h1, h2, h3⟩ := read_sl h
  have hg' := ht _ hg
  have e : ∀ k m, k + m ≤ 6 → off + i * 6 + k + m ≤ cs.length ∧ (cs.drop (off + i * 6 + k)).take m = ((Nd.av x).drop k).take m := fun k m hk => h3 i x hi k m hk
  have e1 : ∀ k, k < 6 → cs[off + i * 6 + k]? = (Nd.av x)[k]? := by
    intro k hk
    have := (e k 1 (by omega)).2
    have := congrArg (fun l => l[0]?) this
    simpa using this
  refine ⟨?_, ?_, ?_, ?_, ?_⟩
  · rw [lod_row hg', if_pos (by have := (e 0 6 (by omega)).1; omega)]
    have := (e 0 6 (by omega)).2
    rw [Nat.add_zero] at this
    rw [this]
    rfl
  · rw [lod_row hg', if_pos (by have := (e 0 2 (by omega)).1; omega)]
    have := (e 0 2 (by omega)).2
    rw [Nat.add_zero] at this
    rw [this]
    rfl
  · rw [lod_row hg', if_pos (by have := (e 2 2 (by omega)).1; omega), (e 2 2 (by omega)).2]
    rfl
  · simp only [lod1, hg']
    rw [e1 4 (by omega)]
    rfl
  · simp only [lod1, hg']
    rw [e1 5 (by omega)]
    rfl
theorem dot_loads {s : St} {id off n z : Nat} {cap : Option Nat} {l : List Dot} (h : read dotC s (.sl id off n cap z) = some l) {i : Nat} {x : Dot} (hi : l[i]? = some x) : ∀ t : St, (∀ b, s.get id = some b → t.get id = some b) →
    lod t 2 (.ptr id (off + i * 2)) = some (.agg (Dot.av x)) ∧ lod1 t (.ptr id (off + i * 2)) = some (.int .i64 x.r) ∧ lod1 t (.ptr id (off + i * 2 + 1)) = some (.int .i64 x.c) := by
  intro t ht
  obtain ⟨rfl, hn, cs, own, hg, h1, h2, h3⟩ := read_sl h
  have hg' := ht _ hg
  have e : ∀ k m, k + m ≤ 2 → off + i * 2 + k + m ≤ cs.length ∧ (cs.drop (off + i * 2 + k)).take m = ((Dot.av x).drop k).take m := fun k m hk => h3 i x hi k m hk
  have e1 : ∀ k, k < 2 → cs[off + i * 2 + k]? = (Dot.av x)[k]? := by
    intro k hk
    have := (e k 1 (by omega)).2
    have := congrArg (fun l => l[0]?) this
    simpa using this
  refine ⟨?_, ?_, ?_⟩
  · rw [lod_row hg', if_pos (by have := (e 0 2 (by omega)).1; omega)]
    have := (e 0 2 (by omega)).2
    rw [Nat.add_zero] at this
    rw [this]
    rfl
  · simp only [lod1, hg']
    have := e1 0 (by omega)
    rw [Nat.add_zero] at this
    rw [this]
    rfl
  · simp only [lod1, hg']
    rw [e1 1 (by omega)]
    rfl

theorem cstep_bool (b : Bool) (A B : Prop) : cstep (.bool b) A B = ((b = true → A) ∧ (b = false → B)) := by cases b <;> simp [cstep]
theorem kt_refl (s : St) : Keep s s = True := eq_true (.refl s)
theorem kt_push (h : Keep s t) (b : AB) : Keep s (t.push b) = True := eq_true (h.push b)
theorem kt_lowed (h : Keep s t) : Keep s t.lowed = True := eq_true (h.trans (keep_lowed t))
theorem nd0_eq : (.agg [.int .i64 0, .int .i64 0, .int .i64 0, .int .i64 0, .int .i64 0, .int .i32 0] : AV) = .agg (Nd.av ⟨⟨0, 0⟩, ⟨0, 0⟩, 0, 0⟩) := nrfl rfl
/-! ### Operators -/
theorem bin_lss (e : EK) (k : IntKind) (a b : Int) : binOp .lss e (.int k a) (.int k b) = some (.bool (decide (a < b))) := by simp [binOp, intOp]
theorem bin_leq (e : EK) (k : IntKind) (a b : Int) : binOp .leq e (.int k a) (.int k b) = some (.bool (decide (a ≤ b))) := by simp [binOp, intOp]
theorem bin_gtr (e : EK) (k : IntKind) (a b : Int) : binOp .gtr e (.int k a) (.int k b) = some (.bool (decide (b < a))) := by simp [binOp, intOp]
theorem bin_geq (e : EK) (k : IntKind) (a b : Int) : binOp .geq e (.int k a) (.int k b) = some (.bool (decide (b ≤ a))) := by simp [binOp, intOp]
theorem bin_eql (e : EK) (k : IntKind) (a b : Int) : binOp .eql e (.int k a) (.int k b) = some (.bool (decide (a = b))) := by simp [binOp, intOp, beq_dec]
theorem bin_neq (e : EK) (k : IntKind) (a b : Int) : binOp .neq e (.int k a) (.int k b) = some (.bool (!decide (a = b))) := by simp [binOp, intOp, bne_dec]
theorem bin_add (e : EK) (k : IntKind) (a b : Int) : binOp .add e (.int k a) (.int k b) = some (.int k (k.wrap (a + b))) := by simp [binOp, intOp]
theorem bin_sub (e : EK) (k : IntKind) (a b : Int) : binOp .sub e (.int k a) (.int k b) = some (.int k (k.wrap (a - b))) := by simp [binOp, intOp]
theorem bin_eqb (a b : Bool) : binOp .eql .bo (.bool a) (.bool b) = some (.bool (a == b)) := nrfl rfl
theorem bin_neb (a b : Bool) : binOp .neq .bo (.bool a) (.bool b) = some (.bool (!(a == b))) := nrfl rfl
theorem bin_eqd (a b : Dot) : binOp .eql (.fl [.i, .i]) (.agg (Dot.av a)) (.agg (Dot.av b)) = some (.bool (decide (a = b))) := by
  obtain ⟨a1, a2⟩ := a
  obtain ⟨b1, b2⟩ := b
  simp [binOp, eqV, eqL, eqF, Dot.av, beq_dec]
theorem bin_neqd (a b : Dot) : binOp .neq (.fl [.i, .i]) (.agg (Dot.av a)) (.agg (Dot.av b)) = some (.bool (!decide (a = b))) := by
  obtain ⟨a1, a2⟩ := a
  obtain ⟨b1, b2⟩ := b
  simp [binOp, eqV, eqL, eqF, Dot.av, beq_dec]
theorem bin_eqd0 (a : Dot) : binOp .eql (.fl [.i, .i]) (.agg (Dot.av a)) (.agg [.int .i64 0, .int .i64 0]) = some (.bool (decide (a = ⟨0, 0⟩))) := bin_eqd a ⟨0, 0⟩
theorem bin_neqd0 (a : Dot) : binOp .neq (.fl [.i, .i]) (.agg (Dot.av a)) (.agg [.int .i64 0, .int .i64 0]) = some (.bool (!decide (a = ⟨0, 0⟩))) := bin_neqd a ⟨0, 0⟩
theorem bin_eqn (a b : Nd) : binOp .eql (.fl [.i, .i, .i, .i, .i, .i]) (.agg (Nd.av a)) (.agg (Nd.av b)) = some (.bool (decide (a = b))) := by
  obtain ⟨⟨a1, a2⟩, ⟨a3, a4⟩, a5, a6⟩ := a
  obtain ⟨⟨b1, b2⟩, ⟨b3, b4⟩, b5, b6⟩ := b
  simp [binOp, eqV, eqL, eqF, Nd.av, beq_dec, Bool.and_assoc, Bool.decide_and, and_assoc]
theorem bin_neqn (a b : Nd) : binOp .neq (.fl [.i, .i, .i, .i, .i, .i]) (.agg (Nd.av a)) (.agg (Nd.av b)) = some (.bool (!decide (a = b))) := by
  have := bin_eqn a b
  simp only [binOp, Option.map_eq_some_iff] at this ⊢
  obtain ⟨x, h1, h2⟩ := this
  injection h2 with h2
  exact ⟨x, h1, by rw [h2]⟩
theorem pickV_or (c y : Bool) : pickV (.bool c) (.bool true) (.bool y) = some (.bool (c || y)) := by cases c <;> rfl
theorem pickV_ors (c y : Bool) : pickV (.bool c) (.bool true) (sel (!c) (.bool y)) = some (.bool (c || y)) := by cases c <;> rfl
theorem pickV_and (c y : Bool) : pickV (.bool c) (.bool y) (.bool false) = some (.bool (c && y)) := by cases c <;> rfl
theorem pickV_ands (c y : Bool) : pickV (.bool c) (sel c (.bool y)) (.bool false) = some (.bool (c && y)) := by cases c <;> rfl
theorem pickV_orn (c y : Bool) : pickV (.bool (!c)) (.bool true) (sel c (.bool y)) = some (.bool (!c || y)) := by cases c <;> rfl
theorem ar_call (f : Nat) (l : List AO) : aread call env s (.call f true l) = (acall (call f) true (l.map (aev env)) s).map (·.1) := nrfl rfl
theorem ae_callv (x : AO) (l : List AO) : aeff call env s (.callv x false l) = match aev env x with
    | .fn g caps => acall (call g) false (l.map (aev env) ++ caps) s
    | _ => none := nrfl rfl
def boxV (n : Nat) (v : AV) : Option ((Nat → AV) × AB) := if v.cells.length = n ∧ v.cells.all AV.one then some (fun id => .ptr id 0, .row v.cells true) else none
theorem aa_box (n : Nat) (x : AO) : aalloc env (.box n x) = boxV n (aev env x) := nrfl rfl
theorem boxV_dot (d : Dot) : boxV 2 (.agg (Dot.av d)) = some (fun id => .ptr id 0, .row (Dot.av d) true) := nrfl rfl
theorem boxV_nd (d : Nd) : boxV 6 (.agg (Nd.av d)) = some (fun id => .ptr id 0, .row (Nd.av d) true) := nrfl rfl
theorem lod_push_lt {id : Nat} (h : ltN id s) (b : AB) (n o : Nat) : lod (s.push b) n (.ptr id o) = lod s n (.ptr id o) := by
  simp only [lod, St.get_push_old _ _ h]
theorem lod1_push_lt {id : Nat} (h : ltN id s) (b : AB) (o : Nat) : lod1 (s.push b) (.ptr id o) = lod1 s (.ptr id o) := by
  simp only [lod1, St.get_push_old _ _ h]
theorem lod_lowed (n : Nat) (v : AV) : lod s.lowed n v = lod s n v := by cases v <;> rfl
theorem lod1_lowed (v : AV) : lod1 s.lowed v = lod1 s v := by cases v <;> rfl
theorem lod_lowd (n m : Nat) (v : AV) : lod { heap := s.heap, next := s.next, low := m } n v = lod s n v := by cases v <;> rfl
theorem lod1_lowd (m : Nat) (v : AV) : lod1 { heap := s.heap, next := s.next, low := m } v = lod1 s v := by cases v <;> rfl
theorem lod_nd_par {n : Nat} {s : St} (h : sameN n s) (x : Nd) (own : Bool) : lod (s.push (.row (Nd.av x) own)) 2 (.ptr n 2) = some (.agg (Dot.av x.p)) := by
  unfold sameN at h
  subst h
  simp only [lod, St.get_push_new]
  rfl
theorem lod1_nd_t {n : Nat} {s : St} (h : sameN n s) (x : Nd) (own : Bool) : lod1 (s.push (.row (Nd.av x) own)) (.ptr n 4) = some (.int .i64 x.t) := by
  unfold sameN at h
  subst h
  simp only [lod1, St.get_push_new]
  rfl
theorem lod1_nd_x {n : Nat} {s : St} (h : sameN n s) (x : Nd) (own : Bool) : lod1 (s.push (.row (Nd.av x) own)) (.ptr n 5) = some (.int .i32 x.x) := by
  unfold sameN at h
  subst h
  simp only [lod1, St.get_push_new]
  rfl
theorem lod_dot {n : Nat} {s : St} (h : sameN n s) (x : Dot) (own : Bool) : lod (s.push (.row (Dot.av x) own)) 2 (.ptr n 0) = some (.agg (Dot.av x)) := by
  unfold sameN at h
  subst h
  simp only [lod, St.get_push_new]
  rfl
theorem lod1_dot_r {n : Nat} {s : St} (h : sameN n s) (x : Dot) (own : Bool) : lod1 (s.push (.row (Dot.av x) own)) (.ptr n 0) = some (.int .i64 x.r) := by
  unfold sameN at h
  subst h
  simp only [lod1, St.get_push_new]
  rfl
theorem lod1_dot_c {n : Nat} {s : St} (h : sameN n s) (x : Dot) (own : Bool) : lod1 (s.push (.row (Dot.av x) own)) (.ptr n 1) = some (.int .i64 x.c) := by
  unfold sameN at h
  subst h
  simp only [lod1, St.get_push_new]
  rfl
theorem sto_nd0 {n : Nat} {s : St} (h : sameN n s) : sto (s.push (.row [.int .i64 0, .int .i64 0, .int .i64 0, .int .i64 0, .int .i64 0, .int .i32 0] true)) 6 (.ptr n 0) (.agg [.int .i64 0, .int .i64 0, .int .i64 0, .int .i64 0, .int .i64 0, .int .i32 0]) = some (.und, s.lowed.push (.row (Nd.av ⟨⟨0, 0⟩, ⟨0, 0⟩, 0, 0⟩) true)) := sto_nd h ⟨⟨0, 0⟩, ⟨0, 0⟩, 0, 0⟩
theorem sto_push_lt {id : Nat} (h : ltN id s) (b : AB) (n o : Nat) (x : AV) : sto (s.push b) n (.ptr id o) x = (sto s n (.ptr id o) x).map fun r => (r.1, r.2.push b) := by
  unfold ltN at h
  have e : ∀ c, (s.push b).put id c = (s.put id c).push b := by
    intro c
    have : s.next + 1 - 1 - id = s.next - 1 - id + 1 := by omega
    simp only [St.push, St.put, this, List.set_cons_succ]
  simp only [sto, St.get_push_old _ _ h, e]
  split
  · split <;> rfl
  · rfl
theorem sto_nd_x {n : Nat} {s : St} (h : sameN n s) (x : Nd) (k : Int) : sto (s.push (.row (Nd.av x) true)) 1 (.ptr n 5) (.int .i32 k) = some (.und, s.lowed.push (.row (Nd.av { x with x := k }) true)) := by
  unfold sameN at h
  subst h
  simp only [sto, St.get_push_new, push_put]
  rfl
theorem sto_nd_t {n : Nat} {s : St} (h : sameN n s) (x : Nd) (k : Int) : sto (s.push (.row (Nd.av x) true)) 1 (.ptr n 4) (.int .i64 k) = some (.und, s.lowed.push (.row (Nd.av { x with t := k }) true)) := by
  unfold sameN at h
  subst h
  simp only [sto, St.get_push_new, push_put]
  rfl
theorem ap_build (z : List AV) (ps : List (Nat × Nat × AO)) : apure env (.build z ps) = (fillP env z ps).map .agg := nrfl rfl
theorem rc1 (env : Env) (s : St) (a n : Nat) : aresults env s [.celln a n] = lod s n (E env a) := by
  have h1 : aresult env s (.celln a n) = lod s n (E env a) := resc env s a n
  simp only [aresults, List.mapM_cons, List.mapM_nil, h1]
  cases lod s n (E env a) <;> rfl
theorem rc2 (env : Env) (s : St) (a n b : Nat) : aresults env s [.celln a n, .t b] = (lod s n (E env a)).map fun v => .tup [v, E env b] := by
  have h1 : aresult env s (.celln a n) = lod s n (E env a) := resc env s a n
  have h2 : aresult env s (.t b) = some (E env b) := rest_t env s b
  simp only [aresults, List.mapM_cons, List.mapM_nil, h1, h2]
  cases lod s n (E env a) <;> rfl

/-! ### Calls -/
theorem acall_ro {c : Con} {cl : Bool} {args : List AV} {r : AV} (h : c args { heap := s.heap, next := s.next, low := s.next } = some (r, { heap := s.heap, next := s.next, low := s.next })) (hg : r.ground = true) : acall c cl args s = some (r, s) := by
  simp [acall, h, hg]
theorem acall_rol {c : Con} {cl : Bool} {args : List AV} {r : AV} (h : c args { heap := s.heap, next := s.next, low := s.next } = some (r, St.lowed { heap := s.heap, next := s.next, low := s.next })) (hg : r.ground = true) : acall c cl args s = some (r, s) := by
  simp [acall, h, hg, St.lowed]
theorem SoundAt.lowed {P : Program} {g : Nat} {c c' : Con} (h : SoundAt P g c) (k : ∀ xs s r s', c' xs s = some (r, s') → s' = s.lowed ∧ c xs s = some (r, s)) : SoundAt P g c' := by
  intro xs s r s' hc
  obtain ⟨rfl, h1⟩ := k xs s r s' hc
  obtain ⟨a1, a2, a3⟩ := h xs s r s h1
  refine ⟨a1, (keep_lowed s).grow, fun ρ w cargs hf hR hargs => (a3 ρ w cargs hf hR hargs).mono fun e w' hp => ?_⟩
  obtain ⟨ρ', v, h2, h3, h4, h5⟩ := hp
  refine ⟨ρ', v, h2, h3, ⟨Nat.le_refl _, Nat.min_le_left _ _, h4.ren, h4.size, h4.os, h4.tape, h4.output, h4.drawn, fun b hb H => h4.frame b hb fun id L blk e1 => H id L blk (Nat.le_trans (Nat.min_le_left _ _) e1), h4.old, fun id L blk e1 e2 e3 e4 => ?_, fun _ _ _ => rfl⟩, ⟨h5.bound, h5.blk, h5.inj⟩⟩
  exact absurd (St.get_lt e3) (by rw [lowed_next]; omega)
theorem plains_ren (f : Nat → Nat) {v : AV} (h : v.plains = true) : v.ren f = v := by
  cases v
  case agg cs => simp only [AV.plains] at h; simp [AV.ren, plains_rens f h]
  all_goals exact plain_ren f (by simpa [AV.plains] using h)
theorem ground_ren (f : Nat → Nat) {v : AV} (h : v.ground = true) : v.ren f = v := by
  cases v
  case agg cs => simp only [AV.ground] at h; simp [AV.ren, plains_rens f h]
  case tup vs =>
    simp only [AV.ground] at h
    simp only [AV.ren, rens_map]
    congr 1
    refine map_same fun v hv => plains_ren f ?_
    rw [List.all_eq_true] at h
    exact h v hv
  all_goals exact plain_ren f (by simpa [AV.ground] using h)
theorem con_keep {P : Program} {call : Nat → List AV → St → Option (AV × St)} (hS : Sound P call) (hm : P.follows .mixedOrders = true) {g : Nat} {fn : Func} {afn : AFn} (hf : P.funcs[g]? = some fn) (hcal : callable P g = true) (hc : cfn P fn = some afn)
    {c : Con} (h : ∀ args s r s', c args s = some (r, s') → s' = s.lowed ∧ r.ground = true ∧ args.length ≤ afn.ntmps ∧ ∀ env : Env, elen env = afn.ntmps → (∀ i v, args[i]? = some v → E env i = v) →
      awp call afn.body (fun x env t => (∀ i, x ≠ .exit i) ∧ aresults env t afn.results = some r ∧ Keep s t) env s) : SoundAt P g c := by
  refine con_sound hS hm hf hcal hc fun args s r s' hh => ?_
  obtain ⟨rfl, hg, hl, k⟩ := h args s r s' hh
  refine ⟨(keep_lowed s).grow, start_env hl fun env h1 h2 => awp_mono _ (fun x e t q => ?_) (k env h1 h2)⟩
  obtain ⟨q1, q2, q3⟩ := q
  obtain ⟨f, _, hf⟩ := emb_keep q3
  exact ⟨q1, f, by rw [q2, ground_ren f hg], hf⟩
end Go.AM
