/-
  Ordered maps with strings as keys. Own work of this project; in part printed by a program of it.
-/
import Derived.Test.YtmgfhkkcgdagpaaP3
set_option linter.unusedVariables false
set_option linter.unusedSimpArgs false
section
set_option maxRecDepth 100000
set_option maxHeartbeats 8000000
namespace Go.AM
open Go Go.Proofs

variable {s t u : St}

abbrev PrT := ByteArray × AV
def OneT (L : List PrT) : Prop := ∀ x ∈ L, x.2.cells = [x.2] ∧ x.2.one = true
def cT (L : List PrT) : List AV := (L.map fun x => [.str x.1, x.2]).flatten
theorem cT_cons (x : PrT) (L : List PrT) : cT (x :: L) = .str x.1 :: x.2 :: cT L := by simp [cT]
theorem cT_app (L M : List PrT) : cT (L ++ M) = cT L ++ cT M := by simp [cT]
theorem cT_len (L : List PrT) : (cT L).length = L.length * 2 := by
  induction L with
  | nil => rfl
  | cons x L ih => rw [cT_cons, List.length_cons, List.length_cons, ih, List.length_cons]; omega
theorem cT_take (L : List PrT) (i : Nat) : (cT L).take (i * 2) = cT (L.take i) := by
  by_cases h : i ≤ L.length
  · conv => lhs; rw [← List.take_append_drop i L, cT_app]
    have : i * 2 = (cT (L.take i)).length := by rw [cT_len, List.length_take, Nat.min_eq_left h]
    rw [this, List.take_left]
  · rw [List.take_of_length_le (by rw [cT_len]; omega), List.take_of_length_le (by omega)]
theorem cT_drop (L : List PrT) (i : Nat) : (cT L).drop (i * 2) = cT (L.drop i) := by
  by_cases h : i ≤ L.length
  · conv => lhs; rw [← List.take_append_drop i L, cT_app]
    have : i * 2 = (cT (L.take i)).length := by rw [cT_len, List.length_take, Nat.min_eq_left h]
    rw [this, List.drop_left]
  · rw [List.drop_eq_nil_of_le (by rw [cT_len]; omega), List.drop_eq_nil_of_le (by omega)]
    rfl
theorem cT_ins (L : List PrT) (i : Nat) (x : PrT) : insC (cT L) i [.str x.1, x.2] = cT (L.take i ++ x :: L.drop i) := by
  unfold insC
  rw [cT_take, cT_drop, cT_app, cT_cons]
  simp
theorem cT_at {L : List PrT} {i : Nat} {x : PrT} (hx : L[i]? = some x) : (cT L)[i * 2]? = some (.str x.1) ∧ (cT L)[i * 2 + 1]? = some x.2 ∧ i * 2 + 2 ≤ (cT L).length ∧ ((cT L).drop (i * 2)).take 2 = [.str x.1, x.2] := by
  have hi := getlt hx
  have e : (cT L).drop (i * 2) = .str x.1 :: x.2 :: cT (L.drop (i + 1)) := by
    rw [cT_drop, List.drop_eq_getElem_cons hi, cT_cons]
    have := (List.getElem?_eq_some_iff.1 hx).2
    rw [this]
  refine ⟨?_, ?_, by rw [cT_len]; omega, by rw [e]; rfl⟩
  · have := congrArg (fun l => l[0]?) e
    simpa [List.getElem?_drop] using this
  · have := congrArg (fun l => l[1]?) e
    simpa [List.getElem?_drop] using this
theorem cT_set {L : List PrT} {i : Nat} {x : PrT} (hx : L[i]? = some x) (v : AV) : setAt (cT L) (i * 2 + 1) [v] = cT (L.take i ++ (x.1, v) :: L.drop (i + 1)) := by
  have hi := getlt hx
  have e : (cT L).drop (i * 2) = .str x.1 :: x.2 :: cT (L.drop (i + 1)) := by
    rw [cT_drop, List.drop_eq_getElem_cons hi, cT_cons]
    have := (List.getElem?_eq_some_iff.1 hx).2
    rw [this]
  have e1 : (cT L).take (i * 2 + 1) = cT (L.take i) ++ [.str x.1] := by
    rw [List.take_add_one, cT_take, (cT_at hx).1]
    rfl
  have e2 : (cT L).drop (i * 2 + 1 + 1) = cT (L.drop (i + 1)) := by
    rw [show i * 2 + 1 + 1 = i * 2 + 2 by omega, ← List.drop_drop, e]
    rfl
  unfold setAt
  rw [e1, show i * 2 + 1 + [v].length = i * 2 + 1 + 1 from rfl, e2, cT_app, cT_cons]
  simp
def mvT (q : Option Nat) (L : List PrT) : AV := match q with
  | none => .nils
  | some j => .sl j 0 L.length none 2
structure MpT (t : St) (id : Nat) (q : Option Nat) (L : List PrT) : Prop where
  box : t.get id = some (.row [.fn 20 [], mvT q L] true)
  nol : q = none → L = []
  dat : ∀ j, q = some j → j ≠ id ∧ t.get j = some (.row (cT L) true)
  hn : L.length ≤ 1000
/-- A list of such pairs, read. -/
def RdP (t : St) (w : AV) (L : List PrT) : Prop := (w = .nils ∧ L = []) ∨ ∃ j cap own, w = .sl j 0 L.length cap 2 ∧ t.get j = some (.row (cT L) own)
variable {id : Nat} {q : Option Nat} {L : List PrT}
theorem MpT.mono (h : MpT t id q L) (k : ∀ i b, t.get i = some b → u.get i = some b) : MpT u id q L := ⟨k _ _ h.box, h.nol, fun j e => ⟨(h.dat j e).1, k _ _ (h.dat j e).2⟩, h.hn⟩
theorem MpT.keep (h : MpT t id q L) (hK : Keep t u) : MpT u id q L := h.mono fun _ _ => hK.blk
theorem MpT.low (h : MpT s id q L) : MpT (lowd s) id q L := h.keep (keep_low s)
theorem MpT.rd (h : MpT t id q L) : RdP t (mvT q L) L := by
  cases q with
  | none => exact .inl ⟨rfl, h.nol rfl⟩
  | some j => exact .inr ⟨j, none, true, rfl, (h.dat j rfl).2⟩
theorem RdP.mono {w : AV} (h : RdP t w L) (k : ∀ i b, t.get i = some b → u.get i = some b) : RdP u w L := h.imp (fun q => q) fun ⟨j, cap, own, e, g⟩ => ⟨j, cap, own, e, k _ _ g⟩
theorem RdP.lenV {w : AV} (h : RdP t w L) : AM.lenV w = some (.int .i64 (L.length : Int)) := by
  rcases h with ⟨rfl, rfl⟩ | ⟨j, cap, own, rfl, _⟩ <;> rfl
theorem RdP.len {w : AV} (h : RdP t w L) : lenOf w = some L.length := by
  rcases h with ⟨rfl, rfl⟩ | ⟨j, cap, own, rfl, _⟩ <;> rfl
theorem RdP.shown {w : AV} (h : RdP t w L) : AM.shown t 2 w = some (cT L) := by
  rcases h with ⟨rfl, rfl⟩ | ⟨j, cap, own, rfl, g⟩
  · rfl
  · simp only [AM.shown, g, if_true]
    rw [if_pos (by rw [cT_len]; omega), List.drop_zero, ← cT_len, List.take_length]
theorem RdP.one {w : AV} (h : RdP t w L) : w.cells = [w] ∧ w.one = true := by rcases h with ⟨rfl, _⟩ | ⟨j, cap, own, rfl, _⟩ <;> exact ⟨rfl, rfl⟩
theorem RdP.at {w : AV} (h : RdP t w L) {i : Nat} {x : PrT} (hx : L[i]? = some x) : iadV 2 w (.int .i64 (i : Int)) = some (.ptr (bid w) (i * 2)) ∧ lod t 2 (.ptr (bid w) (i * 2)) = some (.agg [.str x.1, x.2]) ∧ lod1 t (.ptr (bid w) (i * 2)) = some (.str x.1) ∧ lod1 t (.ptr (bid w) (i * 2 + 1)) = some x.2 ∧ ltN (bid w) t := by
  have hi := getlt hx
  rcases h with ⟨_, rfl⟩ | ⟨j, cap, own, rfl, g⟩
  · simp at hx
  · have h1 : iadV 2 (.sl j 0 L.length cap 2) (.int .i64 (i : Int)) = some (.ptr j (0 + i * 2)) := iadV_nat hi
    rw [Nat.zero_add] at h1
    obtain ⟨c1, c2, c3, c4⟩ := cT_at hx
    refine ⟨h1, ?_, ?_, ?_, St.get_lt g⟩
    · show lod t 2 (.ptr j (i * 2)) = _
      simp only [lod, g]
      rw [if_pos c3, c4]
    · show lod1 t (.ptr j (i * 2)) = _
      simp only [lod1, g, c1]
    · show lod1 t (.ptr j (i * 2 + 1)) = _
      simp only [lod1, g, c2]
theorem MpT.at (h : MpT t id q L) {i : Nat} {x : PrT} (hx : L[i]? = some x) : ∃ j, q = some j ∧ iadV 2 (mvT q L) (.int .i64 (i : Int)) = some (.ptr j (i * 2)) ∧ lod t 2 (.ptr j (i * 2)) = some (.agg [.str x.1, x.2]) ∧ lod1 t (.ptr j (i * 2)) = some (.str x.1) ∧ lod1 t (.ptr j (i * 2 + 1)) = some x.2 ∧ ltN j t := by
  cases q with
  | none => rw [h.nol rfl] at hx; simp at hx
  | some j => exact ⟨j, rfl, h.rd.at hx⟩
/-! ### By length -/
def SrtT (L : List PrT) : Prop := L.Pairwise fun a b => a.1.size < b.1.size
theorem SrtT.lt (h : SrtT L) {i j : Nat} {x y : PrT} (hx : L[i]? = some x) (hy : L[j]? = some y) (hij : i < j) : x.1.size < y.1.size := by
  have h1 := getlt hx
  have h2 := getlt hy
  have := List.pairwise_iff_getElem.1 h i j h1 h2 hij
  have e1 := (List.getElem?_eq_some_iff.1 hx).2
  have e2 := (List.getElem?_eq_some_iff.1 hy).2
  rw [e1, e2] at this
  exact this
def rkT : List PrT → Nat → Nat
  | [], _ => 0
  | x :: r, k => if x.1.size < k then rkT r k + 1 else 0
theorem rkT_le (k : Nat) : ∀ L : List PrT, rkT L k ≤ L.length
  | [] => Nat.le_refl _
  | x :: r => by
    unfold rkT
    split
    · have := rkT_le k r
      simp only [List.length_cons]
      omega
    · omega
theorem rkT_lt {k : Nat} : ∀ {L : List PrT} {i : Nat} {x : PrT}, i < rkT L k → L[i]? = some x → x.1.size < k
  | [], i, x, h, _ => by simp [rkT] at h
  | y :: r, i, x, h, hx => by
    unfold rkT at h
    split at h
    · rename_i hy
      cases i with
      | zero => simp at hx; subst hx; exact hy
      | succ i => exact rkT_lt (L := r) (i := i) (by omega) (by simpa using hx)
    · omega
theorem rkT_eq {k : Nat} : ∀ {L : List PrT} {i : Nat}, i ≤ L.length → (∀ (j : Nat) (y : PrT), j < i → L[j]? = some y → y.1.size < k) → (∀ y, L[i]? = some y → ¬ y.1.size < k) → rkT L k = i
  | [], i, h, _, _ => by simp at h; subst h; rfl
  | x :: r, 0, _, _, h => by
    unfold rkT
    rw [if_neg (h x rfl)]
  | x :: r, i + 1, h, h1, h2 => by
    unfold rkT
    rw [if_pos (h1 0 x (by omega) rfl), rkT_eq (L := r) (i := i) (by simpa using h) (fun j y hj hy => h1 (j + 1) y (by omega) (by simpa using hy)) fun y hy => h2 y (by simpa using hy)]
def gtT (L : List PrT) (k : Nat) : Option PrT := match L[rkT L k]? with
  | some x => if x.1.size = k then some x else none
  | none => none
theorem gtT_some {k : Nat} {x : PrT} (h : gtT L k = some x) : L[rkT L k]? = some x ∧ x.1.size = k := by
  unfold gtT at h
  split at h
  · rename_i y hy
    split at h
    · rename_i e
      injection h with h
      subst h
      exact ⟨hy, e⟩
    · cases h
  · cases h
theorem gtT_split (L : List PrT) (k : Nat) : (gtT L k = none ∧ (gtT L k).isSome = false) ∨ ∃ v, gtT L k = some v ∧ (gtT L k).isSome = true := by cases gtT L k <;> simp
def putT (L : List PrT) (k : ByteArray) (v : AV) : List PrT := match gtT L k.size with
  | some x => L.take (rkT L k.size) ++ (x.1, v) :: L.drop (rkT L k.size + 1)
  | none => L.take (rkT L k.size) ++ (k, v) :: L.drop (rkT L k.size)
theorem q_cInsT (h : MpT t id q L) (hn : L.length < 1000) {vid i : Nat} {x : PrT} (hv : t.get vid = some (.row [.str x.1, x.2] true)) (hvi : ∀ j, q = some j → j ≠ vid) (hi : i ≤ L.length) :
    ∃ t', acall conIns false [mvT q L, .int .i64 (i : Int), .sl vid 0 1 (some 1) 2] t = some (.sl t.next 0 (L.length + 1) none 2, t') ∧ t'.get t.next = some (.row (cT (L.take i ++ x :: L.drop i)) true) ∧ t'.next = t.next + 1 ∧ Chg q.toList t t' := by
  cases q with
  | none =>
    have hL := h.nol rfl
    subst hL
    obtain rfl : i = 0 := by simpa using hi
    have e : conIns [mvT none [], .int .i64 ((0 : Nat) : Int), .sl vid 0 1 (some 1) 2] (lowd t) = some (.sl t.next 0 1 none 2, (lowd t).push (.row [.str x.1, x.2] true)) := by
      show (match t.get vid with
        | some (.row [a, b] true) => some (AV.sl t.next 0 1 none 2, (lowd t).push (.row [a, b] true))
        | _ => none) = _
      rw [hv]
    obtain ⟨t', g1, g2, g3, g4⟩ := acall_new e (((Keep.refl (lowd t)).push _).chg []) (.inl rfl)
    exact ⟨t', g1, by rw [g2]; exact St.get_push_new (lowd t) _, by rw [g3]; rfl, g4⟩
  | some j =>
    obtain ⟨hne, hd⟩ := h.dat j rfl
    have hlt := St.get_lt hd
    have hvj := hvi j rfl
    have e : conIns [mvT (some j) L, .int .i64 (i : Int), .sl vid 0 1 (some 1) 2] (lowd t) = some (.sl t.next 0 (L.length + 1) none 2, hidS (lowd t) j (insC (cT L) i [.str x.1, x.2])) := by
      show (match t.get j, t.get vid with
        | some (.row cs true), some (.row [a, b] true) => if j ≠ vid ∧ cs.length = L.length * 2 ∧ L.length ≤ 100000 ∧ 0 ≤ (i : Int) ∧ (i : Int) ≤ L.length then some (AV.sl t.next 0 (L.length + 1) none 2, hidS (lowd t) j (insC cs (i : Int).toNat [a, b])) else none
        | _, _ => none) = _
      rw [hd, hv]
      simp only
      rw [if_pos ⟨hvj, by rw [cT_len], by omega, by omega, by omega⟩, Int.toNat_natCast]
    have hC : Chg [j] (lowd t) (hidS (lowd t) j (insC (cT L) i [.str x.1, x.2])) := by
      refine ((Chg.refl [j] (lowd t)).put .dead (.inl (by simp)) hlt).push _
    obtain ⟨t', g1, g2, g3, g4⟩ := acall_new e hC (.inl rfl)
    refine ⟨t', g1, ?_, by rw [g3, hidS_next], g4⟩
    rw [g2, ← cT_ins]
    exact hidS_new (lowd t) j _
noncomputable def R_shorter : Con := runFn (tb []) a20
theorem s_shorter : SoundAt Try.prog 20 R_shorter := run_sound (tb_sound (l := []) (by simp)) mixed Try.func20 k20 c20
theorem n_shorter : noNxtC a20.body = true := by kernel_rfl
theorem w_shorter {s : St} (a b : ByteArray) (ha_ : a.size ≤ 1000000) (hb_ : b.size ≤ 1000000) : ∀ env : Env, elen env = a20.ntmps → (∀ i x_, [.str a, .str b][i]? = some x_ → E env i = x_) → awp (tb []) a20.body (fun x e t => (∀ i, x ≠ .exit i) ∧ aresults e t a20.results = some (.int .i64 ((a.size : Int) - (b.size : Int))) ∧ Keep s t) env s := by
  intro env hlen ha
  have h0 : E env 0 = _ := ha 0 _ rfl
  have h1 : E env 1 = _ := ha 1 _ rfl
  have hlen : elen env = _ := hlen
  simp only [a20] at hlen
  unfold a20
  try dsimp only [oO, oG]
  have hw : IntKind.i64.wrap ((a.size : Int) - (b.size : Int)) = (a.size : Int) - (b.size : Int) := wrapI (by omega) (by omega)
  simp (config := {contextual := true, maxDischargeDepth := 12, maxSteps := 4000000}) only [tb_at, h0, h1, hlen, hw, notV_bool, Bool.not_true, Bool.not_false, pickV_t, pickV_f, bin_eql, bin_neq, bin_neb, bin_npn, bin_np, bin_npnx, gcall_tt, gpure_tf, beq_self_eq_true, Bool.true_and, Bool.and_true, decide_true, decide_false, ↓bD, bU, forall_const, bS, implies_true, isNx, eq_self, ↓wp_cond, ↓wp_loop, ↓reduceIte, reduceCtorEq, Nat.reduceEqDiff, Nat.reduceLT, Nat.reduceAdd, Nat.reduceMul, bT, ↓sg_bsl, ↓st_callf, bX, ap_mkfn, ap_conv, ↓wi_seq, ↓wi_base, ↓wi_block, ↓wi_cond, ↓wi_loop, ↓wi_rf, ↓wy_seq, ↓wy_base, ↓wy_block, ↓wy_cond, ↓wy_loop, ↓wy_yld, ae_callvV, callvV_fn, List.append_nil, List.cons_append, List.nil_append, bin_nff, bin_nfn, bin_nffx, bin_nfnx, bin_streq, bin_bo_same, lstep_some, ↓st_load1nf, ↓st_loadnf, ↓st_appr, ↓st_appf0, bin_nfls, ap_lens, lensV_str, ↓sg_callf3, gcall_ff, gpure_ff0, q_known, res_cell1]
  all_goals first | exact .refl s | exact .refl _ | skip
theorem q_shorter (cl : Bool) {s : St} (a b : ByteArray) (ha_ : a.size ≤ 1000000) (hb_ : b.size ≤ 1000000) : acall R_shorter cl [.str a, .str b] s = some (.int .i64 ((a.size : Int) - (b.size : Int)), s) := run_same n_shorter (by simp [a20]) rfl (w_shorter (s := lowd s) a b ha_ hb_)
noncomputable def R_zeroT : Con := runFn (tb []) a46
theorem s_zeroT : SoundAt Try.prog 46 R_zeroT := run_sound (tb_sound (l := []) (by simp)) mixed Try.func46 k46 c46
theorem n_zeroT : noNxtC a46.body = true := by kernel_rfl
theorem w_zeroT {s : St} {id : Nat} {v : AV} {own : Bool} (hb : s.get id = some (.row [.fn 20 [], v] own)) : ∀ env : Env, elen env = a46.ntmps → (∀ i x_, [.ptr id 0][i]? = some x_ → E env i = x_) → awp (tb []) a46.body (fun x e t => (∀ i, x ≠ .exit i) ∧ aresults e t a46.results = some (.bool false) ∧ Keep s t) env s := by
  intro env hlen ha
  have h0 : E env 0 = _ := ha 0 _ rfl
  have hlen : elen env = _ := hlen
  simp only [a46] at hlen
  unfold a46
  try dsimp only [oO, oG]
  obtain ⟨b0, b1, blt⟩ := row2_lod hb
  simp (config := {contextual := true, maxDischargeDepth := 12, maxSteps := 4000000}) only [tb_at, h0, hlen, bin_np, nchkV_ptr, b0, blt, notV_bool, Bool.not_true, Bool.not_false, pickV_t, pickV_f, bin_eql, bin_neq, bin_neb, bin_npn, bin_np, bin_npnx, gcall_tt, gpure_tf, beq_self_eq_true, Bool.true_and, Bool.and_true, decide_true, decide_false, ↓bD, bU, forall_const, bS, implies_true, isNx, eq_self, ↓wp_cond, ↓wp_loop, ↓reduceIte, reduceCtorEq, Nat.reduceEqDiff, Nat.reduceLT, Nat.reduceAdd, Nat.reduceMul, bT, ↓sg_bsl, ↓st_callf, bX, ap_mkfn, ap_conv, ↓wi_seq, ↓wi_base, ↓wi_block, ↓wi_cond, ↓wi_loop, ↓wi_rf, ↓wy_seq, ↓wy_base, ↓wy_block, ↓wy_cond, ↓wy_loop, ↓wy_yld, ae_callvV, callvV_fn, List.append_nil, List.cons_append, List.nil_append, bin_nff, bin_nfn, bin_nffx, bin_nfnx, bin_streq, bin_bo_same, lstep_some, ↓st_load1nf, ↓st_loadnf, ↓st_appr, ↓st_appf0, bin_nfls, ap_lens, lensV_str, ↓sg_callf3, gcall_ff, gpure_ff0, q_known, res_cell1]
  all_goals first | exact .refl s | exact .refl _ | skip
theorem q_zeroT (cl : Bool) {s : St} {id : Nat} {v : AV} {own : Bool} (hb : s.get id = some (.row [.fn 20 [], v] own)) : acall R_zeroT cl [.ptr id 0] s = some (.bool false, s) := run_same n_zeroT (by simp [a46]) rfl (w_zeroT (s := lowd s) hb)
noncomputable def R_FT1 : Con := runFn (tb [(20, R_shorter)]) a65
theorem s_FT1 : SoundAt Try.prog 65 R_FT1 := run_sound (tb_sound (l := [(20, R_shorter)]) (by simpa using s_shorter)) mixed Try.func65 k65 c65
theorem n_FT1 : noNxtC a65.body = true := by kernel_rfl
theorem w_FT1 {s : St} {b id : Nat} {own own2 : Bool} {v w : AV} (hb : s.get b = some (.row [.ptr id 0] own)) (hm : s.get id = some (.row [.fn 20 [], v] own2)) (hw : w.one = true) (y k : ByteArray) (hy_ : y.size ≤ 1000000) (hk_ : k.size ≤ 1000000) : ∀ env : Env, elen env = a65.ntmps → (∀ i x_, [.agg [.str y, w], .str k, .ptr b 0][i]? = some x_ → E env i = x_) → awp (tb [(20, R_shorter)]) a65.body (fun x e t => (∀ i, x ≠ .exit i) ∧ aresults e t a65.results = some (.int .i64 ((y.size : Int) - (k.size : Int))) ∧ Keep s t) env s := by
  intro env hlen ha
  have h0 : E env 0 = _ := ha 0 _ rfl
  have h1 : E env 1 = _ := ha 1 _ rfl
  have h2 : E env 2 = _ := ha 2 _ rfl
  have hlen : elen env = _ := hlen
  simp only [a65] at hlen
  unfold a65
  try dsimp only [oO, oG]
  have hbx := boxV_m (a := .str y) (b := w) rfl hw
  have hK1 : Keep s (s.push (.row [.str y, w] true)) := (Keep.refl s).push _
  obtain ⟨a0, alt⟩ := row1_lod (hK1.blk hb)
  obtain ⟨b0, b1, blt⟩ := row2_lod (hK1.blk hm)
  obtain ⟨c0, c1, clt⟩ := row2_lod (St.get_push_new s (.row [.str y, w] true))
  have q1 := q_shorter false (s := s.push (.row [.str y, w] true)) y k hy_ hk_
  simp (config := {contextual := true, maxDischargeDepth := 12, maxSteps := 4000000}) only [tb_at, h0, h1, h2, hlen, hbx, a0, alt, b0, blt, c0, clt, nchkV_ptr, q1, reserve0, notV_bool, Bool.not_true, Bool.not_false, pickV_t, pickV_f, bin_eql, bin_neq, bin_neb, bin_npn, bin_np, bin_npnx, gcall_tt, gpure_tf, beq_self_eq_true, Bool.true_and, Bool.and_true, decide_true, decide_false, ↓bD, bU, forall_const, bS, implies_true, isNx, eq_self, ↓wp_cond, ↓wp_loop, ↓reduceIte, reduceCtorEq, Nat.reduceEqDiff, Nat.reduceLT, Nat.reduceAdd, Nat.reduceMul, bT, ↓sg_bsl, ↓st_callf, bX, ap_mkfn, ap_conv, ↓wi_seq, ↓wi_base, ↓wi_block, ↓wi_cond, ↓wi_loop, ↓wi_rf, ↓wy_seq, ↓wy_base, ↓wy_block, ↓wy_cond, ↓wy_loop, ↓wy_yld, ae_callvV, callvV_fn, List.append_nil, List.cons_append, List.nil_append, bin_nff, bin_nfn, bin_nffx, bin_nfnx, bin_streq, bin_bo_same, lstep_some, ↓st_load1nf, ↓st_loadnf, ↓st_appr, ↓st_appf0, bin_nfls, ap_lens, lensV_str, ↓sg_callf3, gcall_ff, gpure_ff0, q_known, res_cell1]
  all_goals first | exact hK1 | skip
theorem q_FT1 (cl : Bool) {s : St} {b id : Nat} {own own2 : Bool} {v w : AV} (hb : s.get b = some (.row [.ptr id 0] own)) (hm : s.get id = some (.row [.fn 20 [], v] own2)) (hw : w.one = true) (y k : ByteArray) (hy_ : y.size ≤ 1000000) (hk_ : k.size ≤ 1000000) : acall R_FT1 cl [.agg [.str y, w], .str k, .ptr b 0] s = some (.int .i64 ((y.size : Int) - (k.size : Int)), s) := run_same n_FT1 (by simp [a65]) rfl (w_FT1 (s := lowd s) hb hm hw y k hy_ hk_)
noncomputable def R_BST : Con := runFn (tb [(65, R_FT1)]) a64
theorem s_BST : SoundAt Try.prog 64 R_BST := run_sound (tb_sound (l := [(65, R_FT1)]) (by simpa using s_FT1)) mixed Try.func64 k64 c64
theorem n_BST : noNxtC a64.body = true := by kernel_rfl
theorem w_BST {s : St} {id : Nat} {q : Option Nat} {L : List PrT} (hk : MpT s id q L) (h1_ : OneT L) (hz_ : ∀ x ∈ L, x.1.size ≤ 1000000) (hs : SrtT L) (k : ByteArray) (hk_ : k.size ≤ 1000000) {b : Nat} {own : Bool} (hb : s.get b = some (.row [.ptr id 0] own)) : ∀ env : Env, elen env = a64.ntmps → (∀ i x_, [mvT q L, .str k, .fn 65 [.ptr b 0]][i]? = some x_ → E env i = x_) → awp (tb [(65, R_FT1)]) a64.body (fun x e t => (∀ i, x ≠ .exit i) ∧ aresults e t a64.results = some (.tup [.int .i64 ((rkT L k.size : Nat) : Int), .bool (gtT L k.size).isSome]) ∧ Keep s t) env s := by
  intro env hlen ha
  have h0 : E env 0 = _ := ha 0 _ rfl
  have h1 : E env 1 = _ := ha 1 _ rfl
  have h2 : E env 2 = _ := ha 2 _ rfl
  have hlen : elen env = _ := hlen
  simp only [a64] at hlen
  unfold a64
  try dsimp only [oO, oG]
  have hL := hk.rd.lenV
  have hll := hk.hn
  simp (config := {contextual := true, maxDischargeDepth := 12}) only [tb_at, h0, h1, h2, hlen, hL, ↓bD, bU, forall_const, bS, implies_true, isNx, eq_self, ↓wp_cond, ↓wp_loop, ↓reduceIte, reduceCtorEq, Nat.reduceEqDiff, Nat.reduceLT, Nat.reduceAdd, Nat.reduceMul, bT, ↓sg_bsl, ↓st_callf, bX, ap_mkfn, ap_conv, ↓wi_seq, ↓wi_base, ↓wi_block, ↓wi_cond, ↓wi_loop, ↓wi_rf, ↓wy_seq, ↓wy_base, ↓wy_block, ↓wy_cond, ↓wy_loop, ↓wy_yld, ae_callvV, callvV_fn, List.append_nil, List.cons_append, List.nil_append, bin_nff, bin_nfn, bin_nffx, bin_nfnx, bin_streq, bin_bo_same, lstep_some, ↓st_load1nf, ↓st_loadnf, ↓st_appr, ↓st_appf0, bin_nfls, ap_lens, lensV_str, ↓sg_callf3, gcall_ff, gpure_ff0, q_known, res_cell1]
  obtain ⟨I, hI⟩ : ∃ I : Nat → Env → St → Prop, ∀ n0 e t, I n0 e t = (t = s ∧ ∃ i j : Nat, n0 = j - i ∧ i ≤ j ∧ j ≤ L.length ∧ elen e = 49 ∧ E e 0 = mvT q L ∧ E e 1 = .str k ∧ E e 2 = .fn 65 [.ptr b 0] ∧ E e 8 = .int .i64 (L.length : Int) ∧ E e 9 = .int .i64 (i : Int) ∧ E e 10 = .int .i64 (j : Int) ∧ (∀ (m : Nat) (y : PrT), m < i → L[m]? = some y → y.1.size < k.size) ∧ ∀ (m : Nat) (y : PrT), j ≤ m → L[m]? = some y → ¬ y.1.size < k.size) := ⟨fun n0 e t => (t = s ∧ ∃ i j : Nat, n0 = j - i ∧ i ≤ j ∧ j ≤ L.length ∧ elen e = 49 ∧ E e 0 = mvT q L ∧ E e 1 = .str k ∧ E e 2 = .fn 65 [.ptr b 0] ∧ E e 8 = .int .i64 (L.length : Int) ∧ E e 9 = .int .i64 (i : Int) ∧ E e 10 = .int .i64 (j : Int) ∧ (∀ (m : Nat) (y : PrT), m < i → L[m]? = some y → y.1.size < k.size) ∧ ∀ (m : Nat) (y : PrT), j ≤ m → L[m]? = some y → ¬ y.1.size < k.size), fun _ _ _ => rfl⟩
  refine lwp_inv I (n := L.length) ?_ ?_
  · rw [hI]
    exact ⟨rfl, 0, L.length, rfl, by omega, by omega, (by simp only [bE, Nat.reduceEqDiff, bN, Nat.reduceLT, hlen]; try rfl), (by simp only [bE, Nat.reduceEqDiff, bN, Nat.reduceLT, hlen, h0]; try rfl), (by simp only [bE, Nat.reduceEqDiff, bN, Nat.reduceLT, hlen, h1]; try rfl), (by simp only [bE, Nat.reduceEqDiff, bN, Nat.reduceLT, hlen, h2]; try rfl), (by simp only [bE, Nat.reduceEqDiff, bN, Nat.reduceLT, hlen]; try rfl), (by simp only [bE, Nat.reduceEqDiff, bN, Nat.reduceLT, hlen]; try rfl), (by simp only [bE, Nat.reduceEqDiff, bN, Nat.reduceLT, hlen]; try rfl), fun m y hm => by omega, fun m y hm hy => absurd (getlt hy) (by omega)⟩
  intro n0 e t hi
  rw [hI] at hi
  obtain ⟨rfl, i, j, rfl, hij, hjl, he, e0, e1, e2, e8, e9, e10, hpre, hpost⟩ := hi
  by_cases hlt : i < j
  · obtain ⟨m, hm⟩ : ∃ m, m = (i + j) / 2 := ⟨_, rfl⟩
    obtain ⟨x, hx⟩ := getsome (show m < L.length by omega)
    have w1 : IntKind.i64.wrap ((i : Int) + (j : Int)) = ((i + j : Nat) : Int) := by
      rw [← Int.natCast_add]
      exact wrapI (by omega) (by omega)
    have w2 := wrap_u64' (n := i + j) (by omega)
    have w3 : IntKind.i64.wrap (m : Int) = (m : Int) := wrapI (by omega) (by omega)
    have w4 := wrap_add1 (n := m) (by omega)
    have sh := bin_shr1 (i + j)
    rw [← hm] at sh
    obtain ⟨jj, _, i1, a1, _, _, a4⟩ := hk.at hx
    have hxm := List.mem_of_getElem? hx
    have q := q_FT1 false hb hk.box (h1_ x hxm).2 x.1 k (hz_ x hxm) hk_
    have z1 := eq_true (show (i : Int) < (j : Int) by omega)
    by_cases hc : x.1.size < k.size
    rotate_left
    · have hz := eq_false (show ¬ (x.1.size : Int) - (k.size : Int) < 0 by omega)
      simp (config := {contextual := true, maxDischargeDepth := 12}) only [tb_at, he, e0, e1, e2, e8, e9, e10, z1, w1, w2, w3, sh, a1, a4, i1, q, hz, ↓bD, bU, forall_const, bS, implies_true, isNx, eq_self, ↓wp_cond, ↓wp_loop, ↓reduceIte, reduceCtorEq, Nat.reduceEqDiff, Nat.reduceLT, Nat.reduceAdd, Nat.reduceMul, bT, ↓sg_bsl, ↓st_callf, bX, ap_mkfn, ap_conv, ↓wi_seq, ↓wi_base, ↓wi_block, ↓wi_cond, ↓wi_loop, ↓wi_rf, ↓wy_seq, ↓wy_base, ↓wy_block, ↓wy_cond, ↓wy_loop, ↓wy_yld, ae_callvV, callvV_fn, List.append_nil, List.cons_append, List.nil_append, bin_nff, bin_nfn, bin_nffx, bin_nfnx, bin_streq, bin_bo_same, lstep_some, ↓st_load1nf, ↓st_loadnf, ↓st_appr, ↓st_appf0, bin_nfls, ap_lens, lensV_str, ↓sg_callf3, gcall_ff, gpure_ff0, q_known, res_cell1]
      refine ⟨m - i, by omega, ?_⟩
      rw [hI]
      exact ⟨rfl, i, m, rfl, by omega, by omega, (by simp only [bE, Nat.reduceEqDiff, bN, Nat.reduceLT, he, e0, e1, e2, e8, e9, e10]; try rfl), (by simp only [bE, Nat.reduceEqDiff, bN, Nat.reduceLT, he, e0, e1, e2, e8, e9, e10]; try rfl), (by simp only [bE, Nat.reduceEqDiff, bN, Nat.reduceLT, he, e0, e1, e2, e8, e9, e10]; try rfl), (by simp only [bE, Nat.reduceEqDiff, bN, Nat.reduceLT, he, e0, e1, e2, e8, e9, e10]; try rfl), (by simp only [bE, Nat.reduceEqDiff, bN, Nat.reduceLT, he, e0, e1, e2, e8, e9, e10]; try rfl), (by simp only [bE, Nat.reduceEqDiff, bN, Nat.reduceLT, he, e0, e1, e2, e8, e9, e10]; try rfl), (by simp only [bE, Nat.reduceEqDiff, bN, Nat.reduceLT, he, e0, e1, e2, e8, e9, e10]; try rfl), hpre, fun p y hp hy => by
        by_cases e : p = m
        · subst e
          rw [hx] at hy
          injection hy with hy
          rw [← hy]; exact hc
        · have := hs.lt hx hy (by omega)
          omega⟩
    · have hz := eq_true (show (x.1.size : Int) - (k.size : Int) < 0 by omega)
      simp (config := {contextual := true, maxDischargeDepth := 12}) only [tb_at, he, e0, e1, e2, e8, e9, e10, z1, w1, w2, w3, w4, sh, a1, a4, i1, q, hz, ↓bD, bU, forall_const, bS, implies_true, isNx, eq_self, ↓wp_cond, ↓wp_loop, ↓reduceIte, reduceCtorEq, Nat.reduceEqDiff, Nat.reduceLT, Nat.reduceAdd, Nat.reduceMul, bT, ↓sg_bsl, ↓st_callf, bX, ap_mkfn, ap_conv, ↓wi_seq, ↓wi_base, ↓wi_block, ↓wi_cond, ↓wi_loop, ↓wi_rf, ↓wy_seq, ↓wy_base, ↓wy_block, ↓wy_cond, ↓wy_loop, ↓wy_yld, ae_callvV, callvV_fn, List.append_nil, List.cons_append, List.nil_append, bin_nff, bin_nfn, bin_nffx, bin_nfnx, bin_streq, bin_bo_same, lstep_some, ↓st_load1nf, ↓st_loadnf, ↓st_appr, ↓st_appf0, bin_nfls, ap_lens, lensV_str, ↓sg_callf3, gcall_ff, gpure_ff0, q_known, res_cell1]
      refine ⟨j - (m + 1), by omega, ?_⟩
      rw [hI]
      exact ⟨rfl, (m + 1), j, rfl, by omega, by omega, (by simp only [bE, Nat.reduceEqDiff, bN, Nat.reduceLT, he, e0, e1, e2, e8, e9, e10]; try rfl), (by simp only [bE, Nat.reduceEqDiff, bN, Nat.reduceLT, he, e0, e1, e2, e8, e9, e10]; try rfl), (by simp only [bE, Nat.reduceEqDiff, bN, Nat.reduceLT, he, e0, e1, e2, e8, e9, e10]; try rfl), (by simp only [bE, Nat.reduceEqDiff, bN, Nat.reduceLT, he, e0, e1, e2, e8, e9, e10]; try rfl), (by simp only [bE, Nat.reduceEqDiff, bN, Nat.reduceLT, he, e0, e1, e2, e8, e9, e10]; try rfl), (by simp only [bE, Nat.reduceEqDiff, bN, Nat.reduceLT, he, e0, e1, e2, e8, e9, e10]; try rfl), (by simp only [bE, Nat.reduceEqDiff, bN, Nat.reduceLT, he, e0, e1, e2, e8, e9, e10]; try rfl), fun p y hp hy => by
        by_cases e : p = m
        · subst e
          rw [hx] at hy
          injection hy with hy
          rw [← hy]; exact hc
        · have := hs.lt hy hx (by omega)
          omega, hpost⟩
  · obtain rfl : i = j := by omega
    have hkk : rkT L k.size = i := rkT_eq hjl hpre fun y hy => hpost i y (Nat.le_refl _) hy
    have z1 := eq_false (show ¬ (i : Int) < (i : Int) by omega)
    by_cases hil : i < L.length
    · obtain ⟨x, hx⟩ := getsome hil
      obtain ⟨jj, _, i1, a1, _, _, a4⟩ := hk.at hx
      have hxm := List.mem_of_getElem? hx
      have q := q_FT1 false hb hk.box (h1_ x hxm).2 x.1 k (hz_ x hxm) hk_
      have z2 := eq_true (show (i : Int) < (L.length : Int) by omega)
      by_cases e_ : x.1.size = k.size
      · have hS : (gtT L k.size).isSome = true := by unfold gtT; rw [hkk, hx]; simp [e_]
        have hz := eq_true (show (x.1.size : Int) - (k.size : Int) = 0 by omega)
        rw [hkk, hS]
        simp (config := {contextual := true, maxDischargeDepth := 12}) only [tb_at, he, e0, e1, e2, e8, e9, e10, z1, z2, a1, a4, i1, q, hz, ↓bD, bU, forall_const, bS, implies_true, isNx, eq_self, ↓wp_cond, ↓wp_loop, ↓reduceIte, reduceCtorEq, Nat.reduceEqDiff, Nat.reduceLT, Nat.reduceAdd, Nat.reduceMul, bT, ↓sg_bsl, ↓st_callf, bX, ap_mkfn, ap_conv, ↓wi_seq, ↓wi_base, ↓wi_block, ↓wi_cond, ↓wi_loop, ↓wi_rf, ↓wy_seq, ↓wy_base, ↓wy_block, ↓wy_cond, ↓wy_loop, ↓wy_yld, ae_callvV, callvV_fn, List.append_nil, List.cons_append, List.nil_append, bin_nff, bin_nfn, bin_nffx, bin_nfnx, bin_streq, bin_bo_same, lstep_some, ↓st_load1nf, ↓st_loadnf, ↓st_appr, ↓st_appf0, bin_nfls, ap_lens, lensV_str, ↓sg_callf3, gcall_ff, gpure_ff0, q_known, res_cell1]
        all_goals first | exact .refl _ | skip
      · have hS : (gtT L k.size).isSome = false := by unfold gtT; rw [hkk, hx]; simp [e_]
        have hz := eq_false (show ¬ (x.1.size : Int) - (k.size : Int) = 0 by omega)
        rw [hkk, hS]
        simp (config := {contextual := true, maxDischargeDepth := 12}) only [tb_at, he, e0, e1, e2, e8, e9, e10, z1, z2, a1, a4, i1, q, hz, ↓bD, bU, forall_const, bS, implies_true, isNx, eq_self, ↓wp_cond, ↓wp_loop, ↓reduceIte, reduceCtorEq, Nat.reduceEqDiff, Nat.reduceLT, Nat.reduceAdd, Nat.reduceMul, bT, ↓sg_bsl, ↓st_callf, bX, ap_mkfn, ap_conv, ↓wi_seq, ↓wi_base, ↓wi_block, ↓wi_cond, ↓wi_loop, ↓wi_rf, ↓wy_seq, ↓wy_base, ↓wy_block, ↓wy_cond, ↓wy_loop, ↓wy_yld, ae_callvV, callvV_fn, List.append_nil, List.cons_append, List.nil_append, bin_nff, bin_nfn, bin_nffx, bin_nfnx, bin_streq, bin_bo_same, lstep_some, ↓st_load1nf, ↓st_loadnf, ↓st_appr, ↓st_appf0, bin_nfls, ap_lens, lensV_str, ↓sg_callf3, gcall_ff, gpure_ff0, q_known, res_cell1]
        all_goals first | exact .refl _ | skip
    · have hn : L[i]? = none := List.getElem?_eq_none (by omega)
      have hS : (gtT L k.size).isSome = false := by unfold gtT; rw [hkk, hn]; rfl
      have z2 := eq_false (show ¬ (i : Int) < (L.length : Int) by omega)
      rw [hkk, hS]
      simp (config := {contextual := true, maxDischargeDepth := 12}) only [tb_at, he, e0, e1, e2, e8, e9, e10, z1, z2, ↓bD, bU, forall_const, bS, implies_true, isNx, eq_self, ↓wp_cond, ↓wp_loop, ↓reduceIte, reduceCtorEq, Nat.reduceEqDiff, Nat.reduceLT, Nat.reduceAdd, Nat.reduceMul, bT, ↓sg_bsl, ↓st_callf, bX, ap_mkfn, ap_conv, ↓wi_seq, ↓wi_base, ↓wi_block, ↓wi_cond, ↓wi_loop, ↓wi_rf, ↓wy_seq, ↓wy_base, ↓wy_block, ↓wy_cond, ↓wy_loop, ↓wy_yld, ae_callvV, callvV_fn, List.append_nil, List.cons_append, List.nil_append, bin_nff, bin_nfn, bin_nffx, bin_nfnx, bin_streq, bin_bo_same, lstep_some, ↓st_load1nf, ↓st_loadnf, ↓st_appr, ↓st_appf0, bin_nfls, ap_lens, lensV_str, ↓sg_callf3, gcall_ff, gpure_ff0, q_known, res_cell1]
      all_goals first | exact .refl _ | skip
theorem q_BST (cl : Bool) {s : St} {id : Nat} {q : Option Nat} {L : List PrT} (hk : MpT s id q L) (h1_ : OneT L) (hz_ : ∀ x ∈ L, x.1.size ≤ 1000000) (hs : SrtT L) (k : ByteArray) (hk_ : k.size ≤ 1000000) {b : Nat} {own : Bool} (hb : s.get b = some (.row [.ptr id 0] own)) : acall R_BST cl [mvT q L, .str k, .fn 65 [.ptr b 0]] s = some (.tup [.int .i64 ((rkT L k.size : Nat) : Int), .bool (gtT L k.size).isSome], s) := run_same n_BST (by simp [a64]) rfl (w_BST (s := lowd s) hk.low h1_ hz_ hs k hk_ hb)
noncomputable def R_findT : Con := runFn (tb [(46, R_zeroT), (64, R_BST)]) a45
theorem s_findT : SoundAt Try.prog 45 R_findT := run_sound (tb_sound (l := [(46, R_zeroT), (64, R_BST)]) (by simpa using ⟨s_zeroT, s_BST⟩)) mixed Try.func45 k45 c45
theorem n_findT : noNxtC a45.body = true := by kernel_rfl
theorem w_findT {s : St} {id : Nat} {q : Option Nat} {L : List PrT} (hk : MpT s id q L) (h1_ : OneT L) (hz_ : ∀ x ∈ L, x.1.size ≤ 1000000) (hs : SrtT L) (k : ByteArray) (hk_ : k.size ≤ 1000000) : ∀ env : Env, elen env = a45.ntmps → (∀ i x_, [.ptr id 0, .str k][i]? = some x_ → E env i = x_) → awp (tb [(46, R_zeroT), (64, R_BST)]) a45.body (fun x e t => (∀ i, x ≠ .exit i) ∧ aresults e t a45.results = some (.tup [.int .i64 ((rkT L k.size : Nat) : Int), .bool (gtT L k.size).isSome]) ∧ Keep s t) env s := by
  intro env hlen ha
  have h0 : E env 0 = _ := ha 0 _ rfl
  have h1 : E env 1 = _ := ha 1 _ rfl
  have hlen : elen env = _ := hlen
  simp only [a45] at hlen
  unfold a45
  try dsimp only [oO, oG]
  have hbx : boxV 1 (.ptr id 0) = some (fun id => .ptr id 0, .row [.ptr id 0] true) := rfl
  have hK1 : Keep s (s.push (.row [.ptr id 0] true)) := (Keep.refl s).push _
  have hk1 := hk.keep hK1
  obtain ⟨a0, alt⟩ := row1_lod (St.get_push_new s (.row [.ptr id 0] true))
  obtain ⟨b0, b1, blt⟩ := row2_lod hk1.box
  have q1 := q_zeroT false hk1.box
  have q2 := q_BST false hk1 h1_ hz_ hs k hk_ (St.get_push_new s (.row [.ptr id 0] true))
  simp (config := {contextual := true, maxDischargeDepth := 12, maxSteps := 4000000}) only [tb_at, h0, h1, hlen, hbx, a0, alt, b0, b1, blt, nchkV_ptr, q1, q2, notV_bool, Bool.not_true, Bool.not_false, pickV_t, pickV_f, bin_eql, bin_neq, bin_neb, bin_npn, bin_np, bin_npnx, gcall_tt, gpure_tf, beq_self_eq_true, Bool.true_and, Bool.and_true, decide_true, decide_false, ↓bD, bU, forall_const, bS, implies_true, isNx, eq_self, ↓wp_cond, ↓wp_loop, ↓reduceIte, reduceCtorEq, Nat.reduceEqDiff, Nat.reduceLT, Nat.reduceAdd, Nat.reduceMul, bT, ↓sg_bsl, ↓st_callf, bX, ap_mkfn, ap_conv, ↓wi_seq, ↓wi_base, ↓wi_block, ↓wi_cond, ↓wi_loop, ↓wi_rf, ↓wy_seq, ↓wy_base, ↓wy_block, ↓wy_cond, ↓wy_loop, ↓wy_yld, ae_callvV, callvV_fn, List.append_nil, List.cons_append, List.nil_append, bin_nff, bin_nfn, bin_nffx, bin_nfnx, bin_streq, bin_bo_same, lstep_some, ↓st_load1nf, ↓st_loadnf, ↓st_appr, ↓st_appf0, bin_nfls, ap_lens, lensV_str, ↓sg_callf3, gcall_ff, gpure_ff0, q_known, res_cell1]
  all_goals first | exact hK1 | skip
theorem q_findT (cl : Bool) {s : St} {id : Nat} {q : Option Nat} {L : List PrT} (hk : MpT s id q L) (h1_ : OneT L) (hz_ : ∀ x ∈ L, x.1.size ≤ 1000000) (hs : SrtT L) (k : ByteArray) (hk_ : k.size ≤ 1000000) : acall R_findT cl [.ptr id 0, .str k] s = some (.tup [.int .i64 ((rkT L k.size : Nat) : Int), .bool (gtT L k.size).isSome], s) := run_same n_findT (by simp [a45]) rfl (w_findT (s := lowd s) hk.low h1_ hz_ hs k hk_)
noncomputable def R_LenT : Con := runFn (tb [(46, R_zeroT)]) a24
theorem s_LenT : SoundAt Try.prog 24 R_LenT := run_sound (tb_sound (l := [(46, R_zeroT)]) (by simpa using s_zeroT)) mixed Try.func24 k24 c24
theorem n_LenT : noNxtC a24.body = true := by kernel_rfl
theorem w_LenT {s : St} {id : Nat} {q : Option Nat} {L : List PrT} (hk : MpT s id q L) : ∀ env : Env, elen env = a24.ntmps → (∀ i x_, [.ptr id 0][i]? = some x_ → E env i = x_) → awp (tb [(46, R_zeroT)]) a24.body (fun x e t => (∀ i, x ≠ .exit i) ∧ aresults e t a24.results = some (.int .i64 (L.length : Int)) ∧ Keep s t) env s := by
  intro env hlen ha
  have h0 : E env 0 = _ := ha 0 _ rfl
  have hlen : elen env = _ := hlen
  simp only [a24] at hlen
  unfold a24
  try dsimp only [oO, oG]
  obtain ⟨b0, b1, blt⟩ := row2_lod hk.box
  have q1 := q_zeroT false hk.box
  have hL := hk.rd.lenV
  simp (config := {contextual := true, maxDischargeDepth := 12, maxSteps := 4000000}) only [tb_at, h0, hlen, b0, b1, blt, nchkV_ptr, q1, hL, notV_bool, Bool.not_true, Bool.not_false, pickV_t, pickV_f, bin_eql, bin_neq, bin_neb, bin_npn, bin_np, bin_npnx, gcall_tt, gpure_tf, beq_self_eq_true, Bool.true_and, Bool.and_true, decide_true, decide_false, ↓bD, bU, forall_const, bS, implies_true, isNx, eq_self, ↓wp_cond, ↓wp_loop, ↓reduceIte, reduceCtorEq, Nat.reduceEqDiff, Nat.reduceLT, Nat.reduceAdd, Nat.reduceMul, bT, ↓sg_bsl, ↓st_callf, bX, ap_mkfn, ap_conv, ↓wi_seq, ↓wi_base, ↓wi_block, ↓wi_cond, ↓wi_loop, ↓wi_rf, ↓wy_seq, ↓wy_base, ↓wy_block, ↓wy_cond, ↓wy_loop, ↓wy_yld, ae_callvV, callvV_fn, List.append_nil, List.cons_append, List.nil_append, bin_nff, bin_nfn, bin_nffx, bin_nfnx, bin_streq, bin_bo_same, lstep_some, ↓st_load1nf, ↓st_loadnf, ↓st_appr, ↓st_appf0, bin_nfls, ap_lens, lensV_str, ↓sg_callf3, gcall_ff, gpure_ff0, q_known, res_cell1]
  all_goals first | exact .refl s | exact .refl _ | skip
theorem q_LenT (cl : Bool) {s : St} {id : Nat} {q : Option Nat} {L : List PrT} (hk : MpT s id q L) : acall R_LenT cl [.ptr id 0] s = some (.int .i64 (L.length : Int), s) := run_same n_LenT (by simp [a24]) rfl (w_LenT (s := lowd s) hk.low)

def getT : Option PrT → AV
  | some x => .tup [x.2, .bool true]
  | none => .tup [.nils, .bool false]
noncomputable def R_GetT : Con := runFn (tb [(45, R_findT)]) a21
theorem s_GetT : SoundAt Try.prog 21 R_GetT := run_sound (tb_sound (l := [(45, R_findT)]) (by simpa using s_findT)) mixed Try.func21 k21 c21
theorem n_GetT : noNxtC a21.body = true := by kernel_rfl
theorem w_GetT {s : St} {id : Nat} {q : Option Nat} {L : List PrT} (hk : MpT s id q L) (h1_ : OneT L) (hz_ : ∀ x ∈ L, x.1.size ≤ 1000000) (hs : SrtT L) (k : ByteArray) (hk_ : k.size ≤ 1000000) : ∀ env : Env, elen env = a21.ntmps → (∀ i x_, [.ptr id 0, .str k][i]? = some x_ → E env i = x_) → awp (tb [(45, R_findT)]) a21.body (fun x e t => (∀ i, x ≠ .exit i) ∧ ∃ r, aresults e t a21.results = some r ∧ r = getT (gtT L k.size) ∧ Keep s t) env s := by
  intro env hlen ha
  have h0 : E env 0 = _ := ha 0 _ rfl
  have h1 : E env 1 = _ := ha 1 _ rfl
  have hlen : elen env = _ := hlen
  simp only [a21] at hlen
  unfold a21
  try dsimp only [oO, oG]
  have q1 := q_findT false hk h1_ hz_ hs k hk_
  obtain ⟨b0, b1, blt⟩ := row2_lod hk.box
  rcases gtT_split L k.size with ⟨hg, hg1⟩ | ⟨x_, hg, hg1⟩
  · rw [hg1] at q1
    rw [hg]
    unfold getT
    simp (config := {contextual := true, maxDischargeDepth := 12, maxSteps := 4000000}) only [tb_at, h0, h1, hlen, q1, notV_bool, Bool.not_true, Bool.not_false, pickV_t, pickV_f, bin_eql, bin_neq, bin_neb, bin_npn, bin_np, bin_npnx, gcall_tt, gpure_tf, beq_self_eq_true, Bool.true_and, Bool.and_true, decide_true, decide_false, ↓bD, bU, forall_const, bS, implies_true, isNx, eq_self, ↓wp_cond, ↓wp_loop, ↓reduceIte, reduceCtorEq, Nat.reduceEqDiff, Nat.reduceLT, Nat.reduceAdd, Nat.reduceMul, bT, ↓sg_bsl, ↓st_callf, bX, ap_mkfn, ap_conv, ↓wi_seq, ↓wi_base, ↓wi_block, ↓wi_cond, ↓wi_loop, ↓wi_rf, ↓wy_seq, ↓wy_base, ↓wy_block, ↓wy_cond, ↓wy_loop, ↓wy_yld, ae_callvV, callvV_fn, List.append_nil, List.cons_append, List.nil_append, bin_nff, bin_nfn, bin_nffx, bin_nfnx, bin_streq, bin_bo_same, lstep_some, ↓st_load1nf, ↓st_loadnf, ↓st_appr, ↓st_appf0, bin_nfls, ap_lens, lensV_str, ↓sg_callf3, gcall_ff, gpure_ff0, q_known, res_cell1]
    all_goals first | exact ⟨_, rfl, rfl, .refl s⟩ | exact ⟨_, rfl, rfl⟩ | exact .refl s | skip
  · rw [hg1] at q1
    rw [hg]
    obtain ⟨j, _, i1, _, _, a2, a3⟩ := hk.at (gtT_some hg).1
    unfold getT
    simp (config := {contextual := true, maxDischargeDepth := 12, maxSteps := 4000000}) only [tb_at, h0, h1, hlen, q1, b1, blt, nchkV_ptr, i1, a2, a3, notV_bool, Bool.not_true, Bool.not_false, pickV_t, pickV_f, bin_eql, bin_neq, bin_neb, bin_npn, bin_np, bin_npnx, gcall_tt, gpure_tf, beq_self_eq_true, Bool.true_and, Bool.and_true, decide_true, decide_false, ↓bD, bU, forall_const, bS, implies_true, isNx, eq_self, ↓wp_cond, ↓wp_loop, ↓reduceIte, reduceCtorEq, Nat.reduceEqDiff, Nat.reduceLT, Nat.reduceAdd, Nat.reduceMul, bT, ↓sg_bsl, ↓st_callf, bX, ap_mkfn, ap_conv, ↓wi_seq, ↓wi_base, ↓wi_block, ↓wi_cond, ↓wi_loop, ↓wi_rf, ↓wy_seq, ↓wy_base, ↓wy_block, ↓wy_cond, ↓wy_loop, ↓wy_yld, ae_callvV, callvV_fn, List.append_nil, List.cons_append, List.nil_append, bin_nff, bin_nfn, bin_nffx, bin_nfnx, bin_streq, bin_bo_same, lstep_some, ↓st_load1nf, ↓st_loadnf, ↓st_appr, ↓st_appf0, bin_nfls, ap_lens, lensV_str, ↓sg_callf3, gcall_ff, gpure_ff0, q_known, res_cell1]
    all_goals first | exact ⟨_, rfl, rfl, .refl s⟩ | exact ⟨_, rfl, rfl⟩ | exact .refl s | skip
theorem q_GetT {s : St} {id : Nat} {q : Option Nat} {L : List PrT} (hk : MpT s id q L) (h1_ : OneT L) (hz_ : ∀ x ∈ L, x.1.size ≤ 1000000) (hs : SrtT L) (k : ByteArray) (hk_ : k.size ≤ 1000000) : ∃ t, acall R_GetT false [.ptr id 0, .str k] s = some (getT (gtT L k.size), t) ∧ Keep s t := by
  obtain ⟨r, t, h1, h2, h4⟩ := run_any (s := s) n_GetT (args := [.ptr id 0, .str k]) (Q := fun r t => r = getT (gtT L k.size)) (by simp [a21]) (fun r t t' hg hn h => h) (fun r t hgr hk h => h) (w_GetT (s := lowd s) hk.low h1_ hz_ hs k hk_)
  subst h2
  exact ⟨t, h1, h4⟩
noncomputable def R_SetT : Con := runFn (tb [(46, R_zeroT), (45, R_findT), (47, conIns)]) a22
theorem s_SetT : SoundAt Try.prog 22 R_SetT := run_sound (tb_sound (l := [(46, R_zeroT), (45, R_findT), (47, conIns)]) (by simpa using ⟨s_zeroT, s_findT, s_cInsS⟩)) mixed Try.func22 k22 c22
theorem n_SetT : noNxtC a22.body = true := by kernel_rfl
theorem w_SetT {s : St} {id : Nat} {q : Option Nat} {L : List PrT} (hk : MpT s id q L) (h1_ : OneT L) (hz_ : ∀ x ∈ L, x.1.size ≤ 1000000) (hs : SrtT L) (k : ByteArray) (hk_ : k.size ≤ 1000000) {v : AV} (hv_ : v.cells = [v] ∧ v.one = true) (hn : L.length < 1000) : ∀ env : Env, elen env = a22.ntmps → (∀ i x_, [.ptr id 0, .str k, v][i]? = some x_ → E env i = x_) → awp (tb [(46, R_zeroT), (45, R_findT), (47, conIns)]) a22.body (fun x e t => (∀ i, x ≠ .exit i) ∧ ∃ r, aresults e t a22.results = some r ∧ (r = getT (gtT L k.size) ∧ ∃ q', MpT t id q' (putT L k v) ∧ ∀ j, q' = some j → q = some j ∨ s.next ≤ j) ∧ Chg (id :: q.toList) s t ∧ (r.ground = false ∨ t.low < s.next)) env s := by
  intro env hlen ha
  have h0 : E env 0 = _ := ha 0 _ rfl
  have h1 : E env 1 = _ := ha 1 _ rfl
  have h2 : E env 2 = _ := ha 2 _ rfl
  have hlen : elen env = _ := hlen
  simp only [a22] at hlen
  unfold a22
  try dsimp only [oO, oG]
  have q1 := q_zeroT false hk.box
  have q2 := q_findT false hk h1_ hz_ hs k hk_
  obtain ⟨b0, b1, blt⟩ := row2_lod hk.box
  have hid := St.get_lt hk.box
  rcases gtT_split L k.size with ⟨hg, hg1⟩ | ⟨x_, hg, hg1⟩
  · rw [hg1] at q2
    have fs0 := fstep_bw0' (x := .str k) ⟨rfl, rfl⟩ (.str ⟨#[]⟩) .nils
    have fs1 := fstep_bw1' (x := v) hv_ (.str k) .nils
    have hbs : bslV [.str ⟨#[]⟩, .nils] 1 2 [(0, .agg [.str k, v])] = some (fun id => .sl id 0 1 (some 1) 2, .row [.str k, v] true) := by
      have o1 : (AV.str k).one = true := rfl
      simp [bslV, fillP, aev, AV.cells, setAt, o1, hv_.2]
    have hK1 : Keep s (s.push (.row [.str k, v] true)) := (Keep.refl s).push _
    have hrk := rkT_le k.size L
    obtain ⟨t1, q3, g1, g2, hC⟩ := q_cInsT (hk.keep hK1) hn (vid := s.next) (i := rkT L k.size) (x := (k, v)) (St.get_push_new s _) (fun j e => by have := St.get_lt (hk.dat j e).2; omega) hrk
    have hbx1 : t1.get id = some (.row [.fn 20 [], mvT q L] true) := hC.blk (hK1.blk hk.box) (by
      cases q with
      | none => simp
      | some j => simpa using Ne.symm (hk.dat j rfl).1)
    obtain ⟨_, st1⟩ := row2_sto hbx1 (x := .sl (s.push (.row [.str k, v] true)).next 0 (L.length + 1) none 2) rfl rfl
    have ht1 := St.get_lt hbx1
    have hpd : putT L k v = L.take (rkT L k.size) ++ (k, v) :: L.drop (rkT L k.size) := by unfold putT; rw [hg]
    have hpl : (putT L k v).length = L.length + 1 := by
      rw [hpd, List.length_append, List.length_cons, List.length_take, List.length_drop]
      omega
    rw [hg]
    simp only [getT]
    simp (config := {contextual := true, maxDischargeDepth := 12, maxSteps := 4000000}) only [tb_at, h0, h1, h2, hlen, q1, q2, b1, blt, nchkV_ptr, ap_build, fillP_nil, fillP_cons, fs0, fs1, hbs, q3, st1, ht1, notV_bool, Bool.not_true, Bool.not_false, pickV_t, pickV_f, bin_eql, bin_neq, bin_neb, bin_npn, bin_np, bin_npnx, gcall_tt, gpure_tf, beq_self_eq_true, Bool.true_and, Bool.and_true, decide_true, decide_false, ↓bD, bU, forall_const, bS, implies_true, isNx, eq_self, ↓wp_cond, ↓wp_loop, ↓reduceIte, reduceCtorEq, Nat.reduceEqDiff, Nat.reduceLT, Nat.reduceAdd, Nat.reduceMul, bT, ↓sg_bsl, ↓st_callf, bX, ap_mkfn, ap_conv, ↓wi_seq, ↓wi_base, ↓wi_block, ↓wi_cond, ↓wi_loop, ↓wi_rf, ↓wy_seq, ↓wy_base, ↓wy_block, ↓wy_cond, ↓wy_loop, ↓wy_yld, ae_callvV, callvV_fn, List.append_nil, List.cons_append, List.nil_append, bin_nff, bin_nfn, bin_nffx, bin_nfnx, bin_streq, bin_bo_same, lstep_some, ↓st_load1nf, ↓st_loadnf, ↓st_appr, ↓st_appf0, bin_nfls, ap_lens, lensV_str, ↓sg_callf3, gcall_ff, gpure_ff0, q_known, res_cell1]
    have hnn : (s.push (.row [.str k, v] true)).next = s.next + 1 := rfl
    refine ⟨_, rfl, ⟨rfl, some (s.next + 1), ⟨?_, (fun e => by cases e), fun j e => ?_, by omega⟩, fun j e => by injection e with e; omega⟩, ?_, .inr (low_put _ _ _ hid)⟩
    · rw [St.get_put_same hbx1]
      simp only [mvT, hpl, hnn]
    · injection e with e
      subst e
      refine ⟨by omega, ?_⟩
      rw [St.get_put_ne _ _ (by omega) (by omega), hpd, ← hnn]
      exact g1
    · refine ((hK1.chg (id :: q.toList)).trans (M' := q.toList) hC fun i hi => .inl (List.mem_cons_of_mem _ hi)).put _ (.inl (by simp)) ht1
  · rw [hg1] at q2
    have hx := (gtT_some hg).1
    have hil := getlt hx
    obtain ⟨j, rfl, i1, a1, a2, a3, a4⟩ := hk.at hx
    obtain ⟨hne, hd⟩ := hk.dat j rfl
    have hpd : putT L k v = L.take (rkT L k.size) ++ (x_.1, v) :: L.drop (rkT L k.size + 1) := by unfold putT; rw [hg]
    have hpl : (putT L k v).length = L.length := by
      rw [hpd, List.length_append, List.length_cons, List.length_take, List.length_drop]
      omega
    have hjl := St.get_lt hd
    have st1 : AM.sto s 1 (.ptr j (rkT L k.size * 2 + 1)) v = some (.und, s.put j (.row (cT (putT L k v)) true)) := by
      simp only [AM.sto, hd]
      rw [if_pos ⟨by rw [hv_.1]; rfl, by rw [hv_.1]; simp [hv_.2], by rw [cT_len]; omega⟩, hv_.1, cT_set hx, hpd]
    rw [hg]
    simp only [getT]
    simp (config := {contextual := true, maxDischargeDepth := 12, maxSteps := 4000000}) only [tb_at, h0, h1, h2, hlen, q1, q2, b1, blt, nchkV_ptr, i1, a3, a4, st1, notV_bool, Bool.not_true, Bool.not_false, pickV_t, pickV_f, bin_eql, bin_neq, bin_neb, bin_npn, bin_np, bin_npnx, gcall_tt, gpure_tf, beq_self_eq_true, Bool.true_and, Bool.and_true, decide_true, decide_false, ↓bD, bU, forall_const, bS, implies_true, isNx, eq_self, ↓wp_cond, ↓wp_loop, ↓reduceIte, reduceCtorEq, Nat.reduceEqDiff, Nat.reduceLT, Nat.reduceAdd, Nat.reduceMul, bT, ↓sg_bsl, ↓st_callf, bX, ap_mkfn, ap_conv, ↓wi_seq, ↓wi_base, ↓wi_block, ↓wi_cond, ↓wi_loop, ↓wi_rf, ↓wy_seq, ↓wy_base, ↓wy_block, ↓wy_cond, ↓wy_loop, ↓wy_yld, ae_callvV, callvV_fn, List.append_nil, List.cons_append, List.nil_append, bin_nff, bin_nfn, bin_nffx, bin_nfnx, bin_streq, bin_bo_same, lstep_some, ↓st_load1nf, ↓st_loadnf, ↓st_appr, ↓st_appf0, bin_nfls, ap_lens, lensV_str, ↓sg_callf3, gcall_ff, gpure_ff0, q_known, res_cell1]
    refine ⟨_, rfl, ⟨rfl, some j, ⟨?_, (fun e => by cases e), fun i e => ?_, by have := hk.hn; omega⟩, fun i e => .inl e⟩, (Chg.refl _ s).put _ (.inl (by simp)) hjl, .inr (low_put _ _ _ hjl)⟩
    · rw [St.get_put_ne _ _ hjl (Ne.symm hne), hk.box]
      simp only [mvT, hpl]
    · injection e with e
      subst e
      exact ⟨hne, St.get_put_same hd⟩
theorem q_SetT {s : St} {id : Nat} {q : Option Nat} {L : List PrT} (hk : MpT s id q L) (h1_ : OneT L) (hz_ : ∀ x ∈ L, x.1.size ≤ 1000000) (hs : SrtT L) (k : ByteArray) (hk_ : k.size ≤ 1000000) {v : AV} (hv_ : v.cells = [v] ∧ v.one = true) (hn : L.length < 1000) : ∃ r t, acall R_SetT false [.ptr id 0, .str k, v] s = some (r, t) ∧ (∃ q', MpT t id q' (putT L k v) ∧ ∀ j, q' = some j → q = some j ∨ s.next ≤ j) ∧ Chg (id :: q.toList) s t := by
  obtain ⟨r, t, h1, h2, h3⟩ := run_new n_SetT (by simp [a22]) (Q := fun r t => r = getT (gtT L k.size) ∧ ∃ q', MpT t id q' (putT L k v) ∧ ∀ j, q' = some j → q = some j ∨ s.next ≤ j) (fun r t t' hg hn hq => by
    have hmono : ∀ id b, t.get id = some b → t'.get id = some b := fun id b hb => by rw [hg]; exact hb
    obtain ⟨q1, q', q2, q3⟩ := hq
    exact ⟨q1, q', q2.mono hmono, q3⟩) (w_SetT (s := lowd s) hk.low h1_ hz_ hs k hk_ hv_ hn)
  exact ⟨r, t, h1, h2.2, h3⟩
noncomputable def R_NewT : Con := runFn (tb []) a19
theorem s_NewT : SoundAt Try.prog 19 R_NewT := run_sound (tb_sound (l := []) (by simp)) mixed Try.func19 k19 c19
theorem n_NewT : noNxtC a19.body = true := by kernel_rfl
theorem w_NewT {s : St}  : ∀ env : Env, elen env = a19.ntmps → (∀ i x_, [.fn 20 []][i]? = some x_ → E env i = x_) → awp (tb []) a19.body (fun x e t => (∀ i, x ≠ .exit i) ∧ ∃ r, aresults e t a19.results = some r ∧ (∃ i, r = .ptr i 0 ∧ s.next ≤ i ∧ MpT t i none []) ∧ Keep s t) env s := by
  intro env hlen ha
  have h0 : E env 0 = _ := ha 0 _ rfl
  have hlen : elen env = _ := hlen
  simp only [a19] at hlen
  unfold a19
  try dsimp only [oO, oG]
  have fs0 := fstep_bw0' (x := .fn 20 []) ⟨rfl, rfl⟩ .nilf .nils
  have hbx : boxV 2 (.agg [.fn 20 [], .nils]) = some (fun id => .ptr id 0, .row [.fn 20 [], .nils] true) := rfl
  simp (config := {contextual := true, maxDischargeDepth := 12, maxSteps := 4000000}) only [tb_at, h0, hlen, ap_build, fillP_nil, fillP_cons, fs0, hbx, notV_bool, Bool.not_true, Bool.not_false, pickV_t, pickV_f, bin_eql, bin_neq, bin_neb, bin_npn, bin_np, bin_npnx, gcall_tt, gpure_tf, beq_self_eq_true, Bool.true_and, Bool.and_true, decide_true, decide_false, ↓bD, bU, forall_const, bS, implies_true, isNx, eq_self, ↓wp_cond, ↓wp_loop, ↓reduceIte, reduceCtorEq, Nat.reduceEqDiff, Nat.reduceLT, Nat.reduceAdd, Nat.reduceMul, bT, ↓sg_bsl, ↓st_callf, bX, ap_mkfn, ap_conv, ↓wi_seq, ↓wi_base, ↓wi_block, ↓wi_cond, ↓wi_loop, ↓wi_rf, ↓wy_seq, ↓wy_base, ↓wy_block, ↓wy_cond, ↓wy_loop, ↓wy_yld, ae_callvV, callvV_fn, List.append_nil, List.cons_append, List.nil_append, bin_nff, bin_nfn, bin_nffx, bin_nfnx, bin_streq, bin_bo_same, lstep_some, ↓st_load1nf, ↓st_loadnf, ↓st_appr, ↓st_appf0, bin_nfls, ap_lens, lensV_str, ↓sg_callf3, gcall_ff, gpure_ff0, q_known, res_cell1]
  have hK1 : Keep s (s.push (.row [.fn 20 [], .nils] true)) := (Keep.refl s).push _
  first | exact ⟨_, rfl, ⟨s.next, rfl, Nat.le_refl _, St.get_push_new s _, fun _ => rfl, (fun j e => by cases e), by simp⟩, hK1⟩ | exact ⟨_, rfl, s.next, rfl, Nat.le_refl _, St.get_push_new s _, fun _ => rfl, (fun j e => by cases e), by simp⟩
theorem q_NewT {s : St} : ∃ i t, acall R_NewT false [.fn 20 []] s = some (.ptr i 0, t) ∧ s.next ≤ i ∧ MpT t i none [] ∧ Keep s t := by
  obtain ⟨r, t, h1, ⟨i, rfl, h2, h3⟩, h4⟩ := run_any (s := s) n_NewT (args := [.fn 20 []]) (Q := fun r t => ∃ i, r = .ptr i 0 ∧ s.next ≤ i ∧ MpT t i none []) (by simp [a19]) (fun r t t' hg hn ⟨i, e, h, h3⟩ => ⟨i, e, h, h3.mono fun id b hb => by rw [hg]; exact hb⟩) (fun r t hgr hk h => by
    obtain ⟨b, rfl, _⟩ := h
    cases hgr) (w_NewT (s := lowd s))
  exact ⟨i, t, h1, h2, h3, h4⟩

end Go.AM
end
/-
  OmapStrings. Own work of this project; in part printed by a program of it.
-/
section
set_option maxRecDepth 100000
set_option maxHeartbeats 8000000
namespace Go.AM
open Go Go.Proofs

variable {s t u : St}

/-! ### Counters by replicas -/
def entsN : Nat → List (Int × AV) → List (AV × AV × Nat)
  | _, [] => []
  | k, x :: r => (.int .i64 x.1, x.2, k) :: entsN (k + 1) r
def mapN (l : List (Int × AV)) : AB := .map (entsN 0 l) l.length
def lookN : List (Int × AV) → Int → Option (Nat × (Int × AV))
  | [], _ => none
  | x :: r, d => if x.1 = d then some (0, x) else (lookN r d).map fun p => (p.1 + 1, p.2)
def updN (l : List (Int × AV)) (x : Int × AV) : List (Int × AV) := match lookN l x.1 with
  | some (j, _) => l.set j x
  | none => l ++ [x]
theorem eqK_int (a b : Int) : eqK (.ky .i) (.int .i64 a) (.int .i64 b) = some (decide (b = a)) := by
  simp only [eqK, eqF, if_true]
  congr 1
  rw [Bool.eq_iff_iff]
  simp only [beq_iff_eq, decide_eq_true_eq]
  exact eq_comm
theorem key_int (d : Int) : (AV.int .i64 d).key (.ky .i) = true := rfl
theorem find_entsN : ∀ (l : List (Int × AV)) (d : Int) (k i : Nat), findE (.ky .i) (.int .i64 d) (entsN k l) i = some ((lookN l d).map fun p => (i + p.1, p.2.2))
  | [], d, k, i => rfl
  | x :: r, d, k, i => by
    simp only [entsN, findE, eqK_int, lookN]
    by_cases h : x.1 = d
    · simp [h]
    · simp only [h, decide_false, if_false]
      rw [find_entsN r d (k + 1) (i + 1)]
      cases lookN r d <;> simp [Nat.add_comm, Nat.add_left_comm]
theorem lookN_some : ∀ {l : List (Int × AV)} {d : Int} {j : Nat} {x : Int × AV}, lookN l d = some (j, x) → l[j]? = some x ∧ x.1 = d
  | [], d, j, x, h => by simp [lookN] at h
  | y :: r, d, j, x, h => by
    simp only [lookN] at h
    split at h
    · injection h with h
      obtain ⟨rfl, rfl⟩ := Prod.mk.inj h
      exact ⟨rfl, by assumption⟩
    · obtain ⟨p, hp, h⟩ := Option.map_eq_some_iff.1 h
      obtain ⟨rfl, rfl⟩ := Prod.mk.inj h
      obtain ⟨h1, h2⟩ := lookN_some (l := r) (j := p.1) (x := p.2) hp
      exact ⟨by simpa using h1, h2⟩
theorem entsN_len : ∀ (l : List (Int × AV)) (k : Nat), (entsN k l).length = l.length
  | [], _ => rfl
  | x :: r, k => by simp [entsN, entsN_len r]
theorem entsN_get : ∀ (l : List (Int × AV)) (k j : Nat), (entsN k l)[j]? = (l[j]?).map fun x => (.int .i64 x.1, x.2, k + j)
  | [], k, j => by simp [entsN]
  | x :: r, k, 0 => rfl
  | x :: r, k, j + 1 => by
    simp only [entsN, List.getElem?_cons_succ, entsN_get r (k + 1) j]
    rw [show k + 1 + j = k + (j + 1) by omega]
theorem entsN_append : ∀ (l m : List (Int × AV)) (k : Nat), entsN k (l ++ m) = entsN k l ++ entsN (k + l.length) m
  | [], m, k => by simp [entsN]
  | x :: r, m, k => by
    simp only [List.cons_append, entsN, entsN_append r m (k + 1), List.length_cons]
    rw [show k + 1 + r.length = k + (r.length + 1) by omega]
theorem entsN_set : ∀ (l : List (Int × AV)) (k j : Nat) (x : Int × AV), entsN k (l.set j x) = (entsN k l).set j (.int .i64 x.1, x.2, k + j)
  | [], k, j, x => by simp [entsN]
  | y :: r, k, 0, x => by simp [entsN]
  | y :: r, k, j + 1, x => by
    simp only [List.set_cons_succ, entsN, entsN_set r (k + 1) j x]
    rw [show k + 1 + j = k + (j + 1) by omega]
theorem lookN_hit {l : List (Int × AV)} {d : Int} {j : Nat} {x : Int × AV} {id : Nat} (hg : s.get id = some (mapN l)) (h : lookN l d = some (j, x)) (z : AV) : lookV s z (.ky .i) false (.mp id) (.int .i64 d) = some (x.2) := by
  simp only [lookV, key_int, if_true, hg, mapN, find_entsN, h, Option.map_some, Bool.false_eq_true, if_false]
theorem lookN_miss {l : List (Int × AV)} {d : Int} {id : Nat} (hg : s.get id = some (mapN l)) (h : lookN l d = none) (z : AV) : lookV s z (.ky .i) false (.mp id) (.int .i64 d) = some z := by
  simp only [lookV, key_int, if_true, hg, mapN, find_entsN, h, Option.map_none, Bool.false_eq_true, if_false]
theorem msetN_map {l : List (Int × AV)} {id : Nat} (hg : s.get id = some (mapN l)) (x : Int × AV) (hw : x.2.whole = true) : msetV s (.ky .i) (.mp id) (.int .i64 x.1) (x.2) = some (.und, s.put id (mapN (updN l x))) := by
  simp only [msetV, key_int, hw, Bool.and_self, if_true, hg, mapN, find_entsN, updN]
  cases h : lookN l x.1 with
  | none =>
    simp only [Option.map_none, entsN_append, entsN, List.length_append, List.length_singleton, Nat.zero_add]
  | some p =>
    obtain ⟨j, y⟩ := p
    obtain ⟨h1, h2⟩ := lookN_some h
    simp only [Option.map_some, Nat.zero_add, entsN_get, h1, entsN_set, List.length_set]

theorem lookN_upd (l : List (Int × AV)) (x : Int × AV) (d : Int) : (lookN (updN l x) d).map (fun p => p.2.2) = if x.1 = d then some x.2 else (lookN l d).map (fun p => p.2.2) := by
  have app : ∀ (l m : List (Int × AV)) (d : Int), lookN l d = none → (lookN (l ++ m) d).map (fun p => p.2.2) = (lookN m d).map (fun p => p.2.2) := by
    intro l
    induction l with
    | nil => intro m d _; rfl
    | cons y r ih =>
      intro m d h
      simp only [lookN] at h
      split at h
      · cases h
      · rename_i e
        have := ih m d (by simpa using h)
        simp only [List.cons_append, lookN, if_neg e, Option.map_map]
        rw [← this]
        cases lookN (r ++ m) d <;> rfl
  have app2 : ∀ (l m : List (Int × AV)) (d : Int) (p : Nat × (Int × AV)), lookN l d = some p → lookN (l ++ m) d = some p := by
    intro l
    induction l with
    | nil => intro m d p h; simp [lookN] at h
    | cons y r ih =>
      intro m d p h
      simp only [lookN] at h
      simp only [List.cons_append, lookN]
      split at h
      · rename_i e; rw [if_pos e]; exact h
      · rename_i e
        rw [if_neg e]
        obtain ⟨q, hq, rfl⟩ := Option.map_eq_some_iff.1 h
        rw [ih m d q hq]
        rfl
  have set : ∀ (l : List (Int × AV)) (j : Nat) (y x : Int × AV) (d : Int), lookN l x.1 = some (j, y) → (lookN (l.set j x) d).map (fun p => p.2.2) = if x.1 = d then some x.2 else (lookN l d).map (fun p => p.2.2) := by
    intro l
    induction l with
    | nil => intro j y x d h; simp [lookN] at h
    | cons z r ih =>
      intro j y x d h
      simp only [lookN] at h
      split at h
      · rename_i e
        injection h with h
        obtain ⟨rfl, rfl⟩ := Prod.mk.inj h
        simp only [List.set_cons_zero, lookN]
        by_cases ed : x.1 = d
        · simp [ed]
        · rw [if_neg ed, if_neg ed, if_neg (by rw [e]; exact ed)]
      · rename_i e
        obtain ⟨q, hq, h⟩ := Option.map_eq_some_iff.1 h
        obtain ⟨rfl, rfl⟩ := Prod.mk.inj h
        have := ih q.1 q.2 x d hq
        simp only [List.set_cons_succ, lookN]
        by_cases ed : z.1 = d
        · have : ¬ x.1 = d := fun q => e (by rw [ed, q])
          simp [ed, this]
        · have key : ∀ o : Option (Nat × (Int × AV)), (o.map fun p => (p.1 + 1, p.2)).map (fun p => p.2.2) = o.map fun p => p.2.2 := fun o => by cases o <;> rfl
          rw [if_neg ed, if_neg ed, key, this, key]
  unfold updN
  cases h : lookN l x.1 with
  | none =>
    simp only
    by_cases ed : x.1 = d
    · rw [app l [x] d (by rw [← ed]; exact h)]
      simp [lookN, ed]
    · rw [if_neg ed]
      cases h2 : lookN l d with
      | none => rw [app l [x] d h2]; simp [lookN, ed]
      | some p => rw [app2 l [x] d p h2]
  | some p =>
    obtain ⟨j, y⟩ := p
    exact set l j y x d h
theorem updN_len (l : List (Int × AV)) (x : Int × AV) : (updN l x).length = if (lookN l x.1).isSome = true then l.length else l.length + 1 := by
  unfold updN
  cases h : lookN l x.1 with
  | none => simp
  | some p => simp
def lkN (l : List (Int × AV)) (d : Int) (z : AV) : AV := ((lookN l d).map fun p => p.2.2).getD z
theorem lookN_v {l : List (Int × AV)} {id : Nat} (hg : s.get id = some (mapN l)) (d : Int) (z : AV) : lookV s z (.ky .i) false (.mp id) (.int .i64 d) = some (lkN l d z) := by
  cases h : lookN l d with
  | none => rw [lookN_miss hg h]; simp [lkN, h]
  | some p =>
    obtain ⟨j, y⟩ := p
    rw [lookN_hit hg h]; simp [lkN, h]
theorem lkN_upd (l : List (Int × AV)) (x : Int × AV) (d : Int) (z : AV) : lkN (updN l x) d z = if x.1 = d then x.2 else lkN l d z := by
  unfold lkN
  rw [lookN_upd]
  split <;> rfl
def lenmV (s : St) : AV → Option AV
  | .nilm => some (.int .i64 0)
  | .mp id => match s.get id with | some (.map es _) => some (.int .i64 (es.length : Int)) | _ => none
  | _ => none
theorem ar_lenm {call : Nat → List AV → St → Option (AV × St)} {env : Env} (x : AO) : aread call env s (.len .mp x) = lenmV s (aev env x) := by
  simp only [aread, lenmV] <;> (cases aev env x <;> rfl)
theorem lenmN {l : List (Int × AV)} {id : Nat} (hg : s.get id = some (mapN l)) : lenmV s (.mp id) = some (.int .i64 (l.length : Int)) := by
  simp only [lenmV, hg, mapN, entsN_len]
/-! ### All -/
def NwT (s t : St) (w : AV) (l : List PrT) : Prop := (w = .nils ∧ l = []) ∨ ∃ j cap, w = .sl j 0 l.length cap 2 ∧ s.next ≤ j ∧ t.get j = some (.row (cT l) true)
theorem NwT.mono {w : AV} {l : List PrT} (h : NwT s t w l) (k : ∀ id b, t.get id = some b → u.get id = some b) : NwT s u w l := h.imp (fun q => q) fun ⟨j, cap, e, h1, h2⟩ => ⟨j, cap, e, h1, k _ _ h2⟩
theorem NwT.rd {w : AV} {l : List PrT} (h : NwT s t w l) : RdP t w l := h.imp (fun q => q) fun ⟨j, cap, e, _, h2⟩ => ⟨j, cap, true, e, h2⟩
def ItT (s t : St) (f : AV) (l : List PrT) : Prop := ∃ b w, f = .fn 69 [.ptr b 0] ∧ s.next ≤ b ∧ t.get b = some (.row [w] true) ∧ RdP t w l
theorem ItT.mono {f : AV} {l : List PrT} (h : ItT s t f l) (k : ∀ id b, t.get id = some b → u.get id = some b) : ItT s u f l := by
  obtain ⟨b, w, e, h1, h2, h3⟩ := h
  exact ⟨b, w, e, h1, k _ _ h2, h3.mono k⟩
variable {id : Nat} {q : Option Nat} {L : List PrT}
noncomputable def R_CloneT : Con := runFn (tb []) a68
theorem s_CloneT : SoundAt Try.prog 68 R_CloneT := run_sound (tb_sound (l := []) (by simp)) mixed Try.func68 k68 c68
theorem n_CloneT : noNxtC a68.body = true := by kernel_rfl
theorem w_CloneT {s : St} {v : AV} {l : List PrT} (hr : RdP s v l) (hl : l.length ≤ 100000) : ∀ env : Env, elen env = a68.ntmps → (∀ i x_, [v][i]? = some x_ → E env i = x_) → awp (tb []) a68.body (fun x e t => (∀ i, x ≠ .exit i) ∧ ∃ r, aresults e t a68.results = some r ∧ NwT s t r l ∧ Keep s t) env s := by
  intro env hlen ha
  have h0 : E env 0 = _ := ha 0 _ rfl
  have hlen : elen env = _ := hlen
  simp only [a68] at hlen
  unfold a68
  try dsimp only [oO, oG]
  rcases hr with ⟨rfl, rfl⟩ | ⟨j0, cap0, own0, rfl, hg0⟩
  · skip
    simp (config := {contextual := true, maxDischargeDepth := 12, maxSteps := 4000000}) only [tb_at, h0, hlen, bin_nsn, notV_bool, Bool.not_true, Bool.not_false, pickV_t, pickV_f, bin_eql, bin_neq, bin_neb, bin_npn, bin_np, bin_npnx, gcall_tt, gpure_tf, beq_self_eq_true, Bool.true_and, Bool.and_true, decide_true, decide_false, ↓bD, bU, forall_const, bS, implies_true, isNx, eq_self, ↓wp_cond, ↓wp_loop, ↓reduceIte, reduceCtorEq, Nat.reduceEqDiff, Nat.reduceLT, Nat.reduceAdd, Nat.reduceMul, bT, ↓sg_bsl, ↓st_callf, bX, ap_mkfn, ap_conv, ↓wi_seq, ↓wi_base, ↓wi_block, ↓wi_cond, ↓wi_loop, ↓wi_rf, ↓wy_seq, ↓wy_base, ↓wy_block, ↓wy_cond, ↓wy_loop, ↓wy_yld, ae_callvV, callvV_fn, List.append_nil, List.cons_append, List.nil_append, bin_nff, bin_nfn, bin_nffx, bin_nfnx, bin_streq, bin_bo_same, lstep_some, ↓st_load1nf, ↓st_loadnf, ↓st_appr, ↓st_appf0, bin_nfls, ap_lens, lensV_str, ↓sg_callf3, gcall_ff, gpure_ff0, q_known, res_cell1]
    exact ⟨_, rfl, Or.inl ⟨rfl, rfl⟩⟩
  · have hbs : bslV [] 0 2 [] = some (fun id => .sl id 0 0 (some 0) 2, .row [] true) := rfl
    have hK1 : Keep s (s.push (.row [] true)) := (Keep.refl s).push _
    have hr1 : RdP (s.push (.row [] true)) (.sl j0 0 l.length cap0 2) l := .inr ⟨j0, cap0, own0, rfl, hK1.blk hg0⟩
    have hg1 := St.get_push_new s (.row [] true)
    obtain ⟨w, t1, hap, hw, hK2⟩ : ∃ w t1, appV (s.push (.row [] true)) 2 40 (.sl s.next 0 0 (some 0) 2) (.sl j0 0 l.length cap0 2) = some (w, t1) ∧ NwT s t1 w l ∧ Keep s t1 := by
      have e1 := hr1.shown
      have e2 := hr1.len
      simp only [appV, e1, e2, aappend, hg1, if_true]
      by_cases h0 : l.length = 0
      · rw [if_pos h0]
        have : l = [] := by simpa using h0
        subst this
        exact ⟨_, _, rfl, .inr ⟨s.next, some 0, rfl, Nat.le_refl _, hg1⟩, hK1⟩
      · rw [if_neg h0, if_pos ⟨by simp, by unfold roomBytes; omega⟩, if_neg (by omega)]
        refine ⟨_, _, rfl, .inr ⟨s.next + 1, none, by simp, by omega, ?_⟩, hK1.push _⟩
        have := St.get_push_new (s.push (.row [] true)) (.row (cT l) true)
        simpa using this
    simp (config := {contextual := true, maxDischargeDepth := 12, maxSteps := 4000000}) only [tb_at, h0, hlen, bin_nss, hbs, hap, notV_bool, Bool.not_true, Bool.not_false, pickV_t, pickV_f, bin_eql, bin_neq, bin_neb, bin_npn, bin_np, bin_npnx, gcall_tt, gpure_tf, beq_self_eq_true, Bool.true_and, Bool.and_true, decide_true, decide_false, ↓bD, bU, forall_const, bS, implies_true, isNx, eq_self, ↓wp_cond, ↓wp_loop, ↓reduceIte, reduceCtorEq, Nat.reduceEqDiff, Nat.reduceLT, Nat.reduceAdd, Nat.reduceMul, bT, ↓sg_bsl, ↓st_callf, bX, ap_mkfn, ap_conv, ↓wi_seq, ↓wi_base, ↓wi_block, ↓wi_cond, ↓wi_loop, ↓wi_rf, ↓wy_seq, ↓wy_base, ↓wy_block, ↓wy_cond, ↓wy_loop, ↓wy_yld, ae_callvV, callvV_fn, List.append_nil, List.cons_append, List.nil_append, bin_nff, bin_nfn, bin_nffx, bin_nfnx, bin_streq, bin_bo_same, lstep_some, ↓st_load1nf, ↓st_loadnf, ↓st_appr, ↓st_appf0, bin_nfls, ap_lens, lensV_str, ↓sg_callf3, gcall_ff, gpure_ff0, q_known, res_cell1]
    exact ⟨_, rfl, hw, hK2⟩
theorem q_CloneT {s : St} {v : AV} {l : List PrT} (hr : RdP s v l) (hl : l.length ≤ 100000) : ∃ w t, acall R_CloneT false [v] s = some (w, t) ∧ NwT s t w l ∧ Keep s t :=
  run_any (s := s) n_CloneT (args := [v]) (Q := fun r t => NwT s t r l) (by simp [a68]) (fun r t t' hg hn h => h.mono fun id b hb => by rw [hg]; exact hb) (fun r t hgr hk h => by
    rcases h with ⟨rfl, rfl⟩ | ⟨j, cap, rfl, _⟩
    · exact .inl ⟨rfl, rfl⟩
    · cases hgr) (w_CloneT (s := lowd s) hr hl)
noncomputable def R_overT : Con := runFn (tb [(68, R_CloneT)]) a48
theorem s_overT : SoundAt Try.prog 48 R_overT := run_sound (tb_sound (l := [(68, R_CloneT)]) (by simpa using s_CloneT)) mixed Try.func48 k48 c48
theorem n_overT : noNxtC a48.body = true := by kernel_rfl
theorem w_overT {s : St} {v : AV} {l : List PrT} (hr : RdP s v l) (hl : l.length ≤ 100000) : ∀ env : Env, elen env = a48.ntmps → (∀ i x_, [v][i]? = some x_ → E env i = x_) → awp (tb [(68, R_CloneT)]) a48.body (fun x e t => (∀ i, x ≠ .exit i) ∧ ∃ r, aresults e t a48.results = some r ∧ ItT s t r l ∧ Keep s t) env s := by
  intro env hlen ha
  have h0 : E env 0 = _ := ha 0 _ rfl
  have hlen : elen env = _ := hlen
  simp only [a48] at hlen
  unfold a48
  try dsimp only [oO, oG]
  have hv := hr.one
  have hbx : boxV 1 v = some (fun id => .ptr id 0, .row [v] true) := by
    unfold boxV
    simp [hv.1, hv.2]
  have hK1 : Keep s (s.push (.row [v] true)) := (Keep.refl s).push _
  have hg1 := St.get_push_new s (.row [v] true)
  obtain ⟨a0, alt⟩ := row1_lod hg1
  obtain ⟨w, t1, q1, hw, hK2⟩ := q_CloneT (hr.mono fun _ _ => hK1.blk) hl
  have hg2 := hK2.blk hg1
  have st1 := row1_sto hg2 hw.rd.one
  have ht1 := St.get_lt hg2
  simp (config := {contextual := true, maxDischargeDepth := 12, maxSteps := 4000000}) only [tb_at, h0, hlen, hbx, a0, alt, q1, st1, ht1, notV_bool, Bool.not_true, Bool.not_false, pickV_t, pickV_f, bin_eql, bin_neq, bin_neb, bin_npn, bin_np, bin_npnx, gcall_tt, gpure_tf, beq_self_eq_true, Bool.true_and, Bool.and_true, decide_true, decide_false, ↓bD, bU, forall_const, bS, implies_true, isNx, eq_self, ↓wp_cond, ↓wp_loop, ↓reduceIte, reduceCtorEq, Nat.reduceEqDiff, Nat.reduceLT, Nat.reduceAdd, Nat.reduceMul, bT, ↓sg_bsl, ↓st_callf, bX, ap_mkfn, ap_conv, ↓wi_seq, ↓wi_base, ↓wi_block, ↓wi_cond, ↓wi_loop, ↓wi_rf, ↓wy_seq, ↓wy_base, ↓wy_block, ↓wy_cond, ↓wy_loop, ↓wy_yld, ae_callvV, callvV_fn, List.append_nil, List.cons_append, List.nil_append, bin_nff, bin_nfn, bin_nffx, bin_nfnx, bin_streq, bin_bo_same, lstep_some, ↓st_load1nf, ↓st_loadnf, ↓st_appr, ↓st_appf0, bin_nfls, ap_lens, lensV_str, ↓sg_callf3, gcall_ff, gpure_ff0, q_known, res_cell1]
  have hnn : (s.push (.row [v] true)).next = s.next + 1 := rfl
  refine ⟨_, rfl, ⟨s.next, w, rfl, Nat.le_refl _, St.get_put_same hg2, ?_⟩, (hK1.trans hK2).put _ (Nat.le_refl _) ht1⟩
  rcases hw with ⟨e1, e2⟩ | ⟨j, cap, e1, h1, h2⟩
  · exact .inl ⟨e1, e2⟩
  · exact .inr ⟨j, cap, true, e1, by rw [St.get_put_ne _ _ ht1 (by omega)]; exact h2⟩
theorem q_overT {s : St} {v : AV} {l : List PrT} (hr : RdP s v l) (hl : l.length ≤ 100000) : ∃ w t, acall R_overT false [v] s = some (w, t) ∧ ItT s t w l ∧ Keep s t :=
  run_any (s := s) n_overT (args := [v]) (Q := fun r t => ItT s t r l) (by simp [a48]) (fun r t t' hg hn h => h.mono fun id b hb => by rw [hg]; exact hb) (fun r t hgr hk h => by
    obtain ⟨b, w, rfl, _⟩ := h
    cases hgr) (w_overT (s := lowd s) hr hl)
noncomputable def R_AllT : Con := runFn (tb [(46, R_zeroT), (48, R_overT)]) a23
theorem s_AllT : SoundAt Try.prog 23 R_AllT := run_sound (tb_sound (l := [(46, R_zeroT), (48, R_overT)]) (by simpa using ⟨s_zeroT, s_overT⟩)) mixed Try.func23 k23 c23
theorem n_AllT : noNxtC a23.body = true := by kernel_rfl
theorem w_AllT {s : St} {id : Nat} {q : Option Nat} {L : List PrT} (hk : MpT s id q L) : ∀ env : Env, elen env = a23.ntmps → (∀ i x_, [.ptr id 0][i]? = some x_ → E env i = x_) → awp (tb [(46, R_zeroT), (48, R_overT)]) a23.body (fun x e t => (∀ i, x ≠ .exit i) ∧ ∃ r, aresults e t a23.results = some r ∧ ItT s t r L ∧ Keep s t) env s := by
  intro env hlen ha
  have h0 : E env 0 = _ := ha 0 _ rfl
  have hlen : elen env = _ := hlen
  simp only [a23] at hlen
  unfold a23
  try dsimp only [oO, oG]
  have q1 := q_zeroT false hk.box
  obtain ⟨b0, b1, blt⟩ := row2_lod hk.box
  obtain ⟨w, t1, q2, h1, h2⟩ := q_overT hk.rd (by have := hk.hn; omega)
  simp (config := {contextual := true, maxDischargeDepth := 12, maxSteps := 4000000}) only [tb_at, h0, hlen, q1, b1, blt, nchkV_ptr, q2, notV_bool, Bool.not_true, Bool.not_false, pickV_t, pickV_f, bin_eql, bin_neq, bin_neb, bin_npn, bin_np, bin_npnx, gcall_tt, gpure_tf, beq_self_eq_true, Bool.true_and, Bool.and_true, decide_true, decide_false, ↓bD, bU, forall_const, bS, implies_true, isNx, eq_self, ↓wp_cond, ↓wp_loop, ↓reduceIte, reduceCtorEq, Nat.reduceEqDiff, Nat.reduceLT, Nat.reduceAdd, Nat.reduceMul, bT, ↓sg_bsl, ↓st_callf, bX, ap_mkfn, ap_conv, ↓wi_seq, ↓wi_base, ↓wi_block, ↓wi_cond, ↓wi_loop, ↓wi_rf, ↓wy_seq, ↓wy_base, ↓wy_block, ↓wy_cond, ↓wy_loop, ↓wy_yld, ae_callvV, callvV_fn, List.append_nil, List.cons_append, List.nil_append, bin_nff, bin_nfn, bin_nffx, bin_nfnx, bin_streq, bin_bo_same, lstep_some, ↓st_load1nf, ↓st_loadnf, ↓st_appr, ↓st_appf0, bin_nfls, ap_lens, lensV_str, ↓sg_callf3, gcall_ff, gpure_ff0, q_known, res_cell1]
  exact ⟨_, rfl, h1, h2⟩
theorem q_AllT {s : St} {id : Nat} {q : Option Nat} {L : List PrT} (hk : MpT s id q L) : ∃ w t, acall R_AllT false [.ptr id 0] s = some (w, t) ∧ ItT s t w L ∧ Keep s t :=
  run_any (s := s) n_AllT (args := [.ptr id 0]) (Q := fun r t => ItT s t r L) (by simp [a23]) (fun r t t' hg hn h => h.mono fun id b hb => by rw [hg]; exact hb) (fun r t hgr hk h => by
    obtain ⟨b, w, rfl, _⟩ := h
    cases hgr) (w_AllT (s := lowd s) hk.low)
theorem rf_overT {call : Nat → List AV → St → Option (AV × St)} {env : Env} {g : AO} {p1 p2 : Nat} {asg body : AC} {Q : AEx → Env → St → Prop} {b : Nat} {w : AV} {l : List PrT} {own : Bool} (hg : aev env g = .fn 69 [.ptr b 0]) (hl : l.length ≤ 100000) (h1_ : OneT l) (hb : s.get b = some (.row [w] own)) (J : Nat → St → Prop)
    (h0 : J 0 s) (hrd : ∀ i t, J i t → RdP t w l)
    (hstep : ∀ i y t t', J i t → l[i]? = some y → Keep t t' → awp call asg (fun x e t1 => x = .nor ∧ awp call body (fun x _ t2 => match x with
      | .nor => J (i + 1) t2
      | .exit k => Q (.exit k) env t2
      | .ret => Q .ret env t2) e t1) (setPs env [p1, p2] [.str y.1, y.2]) t')
    (hend : ∀ t, J l.length t → Q .nor env t) : @rfwp call g [p1, p2] asg body [(63, 19, y63), (69, 19, y69)] env s ⟨Q⟩ := by
  refine rf_start (f := 69) (n := 19) (caps := [.ptr b 0]) (y := y69) hg rfl fun yl => ?_
  refine start_env (args := [.yd yl, .ptr b 0]) (n := 19) (p := fun env1 => awpY _ _ _ y69 none _ env1 s) (by simp) fun env1 hl1 ha1 => ?_
  have a0 : E env1 0 = _ := ha1 0 _ rfl
  have a1 : E env1 1 = _ := ha1 1 _ rfl
  unfold y69
  try dsimp only [oO, oG]
  obtain ⟨b0, blt⟩ := row1_lod hb
  have hL := (hrd 0 s h0).lenV
  simp (config := {contextual := true, maxDischargeDepth := 12, maxSteps := 4000000}) only [tb_at, a0, a1, hl1, b0, blt, hL, notV_bool, Bool.not_true, Bool.not_false, pickV_t, pickV_f, bin_eql, bin_neq, bin_neb, bin_npn, bin_np, bin_npnx, gcall_tt, gpure_tf, beq_self_eq_true, Bool.true_and, Bool.and_true, decide_true, decide_false, ↓bD, bU, forall_const, bS, implies_true, isNx, eq_self, ↓wp_cond, ↓wp_loop, ↓reduceIte, reduceCtorEq, Nat.reduceEqDiff, Nat.reduceLT, Nat.reduceAdd, Nat.reduceMul, bT, ↓sg_bsl, ↓st_callf, bX, ap_mkfn, ap_conv, ↓wi_seq, ↓wi_base, ↓wi_block, ↓wi_cond, ↓wi_loop, ↓wi_rf, ↓wy_seq, ↓wy_base, ↓wy_block, ↓wy_cond, ↓wy_loop, ↓wy_yld, ae_callvV, callvV_fn, List.append_nil, List.cons_append, List.nil_append, bin_nff, bin_nfn, bin_nffx, bin_nfnx]
  obtain ⟨I, hI⟩ : ∃ I : Nat → Env → St → Prop, ∀ n e t, I n e t = (∃ i, n + i = l.length ∧ elen e = 19 ∧ E e 0 = .yd yl ∧ E e 5 = w ∧ E e 6 = .int .i64 (l.length : Int) ∧ E e 7 = .int .i64 (i : Int) ∧ J i t) := ⟨fun n e t => (∃ i, n + i = l.length ∧ elen e = 19 ∧ E e 0 = .yd yl ∧ E e 5 = w ∧ E e 6 = .int .i64 (l.length : Int) ∧ E e 7 = .int .i64 (i : Int) ∧ J i t), fun _ _ _ => rfl⟩
  refine lwpY_inv roundY_mono I (n := l.length) ?_ ?_
  · rw [hI]
    exact ⟨0, by omega, (by simp only [bE, Nat.reduceEqDiff, bN, Nat.reduceLT, hl1, a0, a1]; try rfl), (by simp only [bE, Nat.reduceEqDiff, bN, Nat.reduceLT, hl1, a0, a1]; try rfl), (by simp only [bE, Nat.reduceEqDiff, bN, Nat.reduceLT, hl1, a0, a1]; try rfl), (by simp only [bE, Nat.reduceEqDiff, bN, Nat.reduceLT, hl1, a0, a1]; try rfl), (by simp only [bE, Nat.reduceEqDiff, bN, Nat.reduceLT, hl1, a0, a1]; try rfl), h0⟩
  clear a0 a1 hl1 ha1
  intro n e t hi
  rw [hI] at hi
  obtain ⟨i, hni, he, e0, e5, e6, e7, hJ⟩ := hi
  by_cases hlt : i < l.length
  rotate_left
  · have hz := eq_false (show ¬ (i : Int) < (l.length : Int) by omega)
    obtain rfl : i = l.length := by omega
    simp (config := {contextual := true, maxDischargeDepth := 12, maxSteps := 4000000}) only [tb_at, he, e0, e5, e6, e7, hz, notV_bool, Bool.not_true, Bool.not_false, pickV_t, pickV_f, bin_eql, bin_neq, bin_neb, bin_npn, bin_np, bin_npnx, gcall_tt, gpure_tf, beq_self_eq_true, Bool.true_and, Bool.and_true, decide_true, decide_false, ↓bD, bU, forall_const, bS, implies_true, isNx, eq_self, ↓wp_cond, ↓wp_loop, ↓reduceIte, reduceCtorEq, Nat.reduceEqDiff, Nat.reduceLT, Nat.reduceAdd, Nat.reduceMul, bT, ↓sg_bsl, ↓st_callf, bX, ap_mkfn, ap_conv, ↓wi_seq, ↓wi_base, ↓wi_block, ↓wi_cond, ↓wi_loop, ↓wi_rf, ↓wy_seq, ↓wy_base, ↓wy_block, ↓wy_cond, ↓wy_loop, ↓wy_yld, ae_callvV, callvV_fn, List.append_nil, List.cons_append, List.nil_append, bin_nff, bin_nfn, bin_nffx, bin_nfnx]
    exact hend t hJ
  have hz := eq_true (show (i : Int) < (l.length : Int) by omega)
  have hw := wrap_add1 (n := i) (by omega)
  obtain ⟨y, hy⟩ := getsome hlt
  obtain ⟨i1, a1, _, _, a4⟩ := (hrd i t hJ).at hy
  have st1 := sto_z2 (m := t.next) (t := t) rfl (a := .str y.1) (b := y.2) rfl (h1_ y (List.mem_of_getElem? hy)).2 [.str ⟨#[]⟩, .nils] rfl
  have hK1 : Keep t (t.lowed.push (.row [.str y.1, y.2] true)) := (keep_lowed t).push _
  obtain ⟨t1, ht1⟩ : ∃ t1, t1 = t.lowed.push (.row [.str y.1, y.2] true) := ⟨_, rfl⟩
  have hg1 : t1.get t.next = some (.row [.str y.1, y.2] true) := by rw [ht1]; exact St.get_push_new t.lowed _
  rw [← ht1] at st1 hK1
  obtain ⟨c0, c1, clt⟩ := row2_lod hg1
  simp (config := {contextual := true, maxDischargeDepth := 12, maxSteps := 4000000}) only [tb_at, he, e0, e5, e6, e7, hz, i1, a1, a4, st1, c0, c1, clt, notV_bool, Bool.not_true, Bool.not_false, pickV_t, pickV_f, bin_eql, bin_neq, bin_neb, bin_npn, bin_np, bin_npnx, gcall_tt, gpure_tf, beq_self_eq_true, Bool.true_and, Bool.and_true, decide_true, decide_false, ↓bD, bU, forall_const, bS, implies_true, isNx, eq_self, ↓wp_cond, ↓wp_loop, ↓reduceIte, reduceCtorEq, Nat.reduceEqDiff, Nat.reduceLT, Nat.reduceAdd, Nat.reduceMul, bT, ↓sg_bsl, ↓st_callf, bX, ap_mkfn, ap_conv, ↓wi_seq, ↓wi_base, ↓wi_block, ↓wi_cond, ↓wi_loop, ↓wi_rf, ↓wy_seq, ↓wy_base, ↓wy_block, ↓wy_cond, ↓wy_loop, ↓wy_yld, ae_callvV, callvV_fn, List.append_nil, List.cons_append, List.nil_append, bin_nff, bin_nfn, bin_nffx, bin_nfnx]
  refine ystep_round rfl ?_
  refine awp_mono asg (fun x e2 t2 k => ⟨k.1, awp_mono body (fun x _ t3 k => ?_) k.2⟩) (hstep i y t t1 hJ hy hK1)
  cases x with
  | nor =>
    simp (config := {contextual := true, maxDischargeDepth := 12, maxSteps := 4000000}) only [tb_at, he, e0, e5, e6, e7, hw, putE_pE, notV_bool, Bool.not_true, Bool.not_false, pickV_t, pickV_f, bin_eql, bin_neq, bin_neb, bin_npn, bin_np, bin_npnx, gcall_tt, gpure_tf, beq_self_eq_true, Bool.true_and, Bool.and_true, decide_true, decide_false, ↓bD, bU, forall_const, bS, implies_true, isNx, eq_self, ↓wp_cond, ↓wp_loop, ↓reduceIte, reduceCtorEq, Nat.reduceEqDiff, Nat.reduceLT, Nat.reduceAdd, Nat.reduceMul, bT, ↓sg_bsl, ↓st_callf, bX, ap_mkfn, ap_conv, ↓wi_seq, ↓wi_base, ↓wi_block, ↓wi_cond, ↓wi_loop, ↓wi_rf, ↓wy_seq, ↓wy_base, ↓wy_block, ↓wy_cond, ↓wy_loop, ↓wy_yld, ae_callvV, callvV_fn, List.append_nil, List.cons_append, List.nil_append, bin_nff, bin_nfn, bin_nffx, bin_nfnx]
    refine ⟨n - 1, by omega, ?_⟩
    rw [hI]
    exact ⟨i + 1, by omega, (by simp only [bE, Nat.reduceEqDiff, bN, Nat.reduceLT, he, e0, e5, e6, e7]; try rfl), (by simp only [bE, Nat.reduceEqDiff, bN, Nat.reduceLT, he, e0, e5, e6, e7]; try rfl), (by simp only [bE, Nat.reduceEqDiff, bN, Nat.reduceLT, he, e0, e5, e6, e7]; try rfl), (by simp only [bE, Nat.reduceEqDiff, bN, Nat.reduceLT, he, e0, e5, e6, e7]; try rfl), (by simp only [bE, Nat.reduceEqDiff, bN, Nat.reduceLT, he, e0, e5, e6, e7]; try rfl), k⟩
  | exit j =>
    simp (config := {contextual := true, maxDischargeDepth := 12, maxSteps := 4000000}) only [tb_at, he, e0, e5, e6, e7, hw, putE_pE, notV_bool, Bool.not_true, Bool.not_false, pickV_t, pickV_f, bin_eql, bin_neq, bin_neb, bin_npn, bin_np, bin_npnx, gcall_tt, gpure_tf, beq_self_eq_true, Bool.true_and, Bool.and_true, decide_true, decide_false, ↓bD, bU, forall_const, bS, implies_true, isNx, eq_self, ↓wp_cond, ↓wp_loop, ↓reduceIte, reduceCtorEq, Nat.reduceEqDiff, Nat.reduceLT, Nat.reduceAdd, Nat.reduceMul, bT, ↓sg_bsl, ↓st_callf, bX, ap_mkfn, ap_conv, ↓wi_seq, ↓wi_base, ↓wi_block, ↓wi_cond, ↓wi_loop, ↓wi_rf, ↓wy_seq, ↓wy_base, ↓wy_block, ↓wy_cond, ↓wy_loop, ↓wy_yld, ae_callvV, callvV_fn, List.append_nil, List.cons_append, List.nil_append, bin_nff, bin_nfn, bin_nffx, bin_nfnx]
    exact k
  | ret =>
    simp (config := {contextual := true, maxDischargeDepth := 12, maxSteps := 4000000}) only [tb_at, he, e0, e5, e6, e7, hw, putE_pE, notV_bool, Bool.not_true, Bool.not_false, pickV_t, pickV_f, bin_eql, bin_neq, bin_neb, bin_npn, bin_np, bin_npnx, gcall_tt, gpure_tf, beq_self_eq_true, Bool.true_and, Bool.and_true, decide_true, decide_false, ↓bD, bU, forall_const, bS, implies_true, isNx, eq_self, ↓wp_cond, ↓wp_loop, ↓reduceIte, reduceCtorEq, Nat.reduceEqDiff, Nat.reduceLT, Nat.reduceAdd, Nat.reduceMul, bT, ↓sg_bsl, ↓st_callf, bX, ap_mkfn, ap_conv, ↓wi_seq, ↓wi_base, ↓wi_block, ↓wi_cond, ↓wi_loop, ↓wi_rf, ↓wy_seq, ↓wy_base, ↓wy_block, ↓wy_cond, ↓wy_loop, ↓wy_yld, ae_callvV, callvV_fn, List.append_nil, List.cons_append, List.nil_append, bin_nff, bin_nfn, bin_nffx, bin_nfnx]
    exact k


end Go.AM
end
/-
  OmapStrings: the law. Own work of this project; in part printed by a program of it.
-/
section
set_option maxRecDepth 100000
set_option maxHeartbeats 8000000
namespace Go.AM
open Go Go.Proofs

variable {s t u : St}

theorem int_underS : Try.prog.underlying 9 = some .string := by kernel_rfl
theorem strs_under : Try.prog.underlying 46 = some (.slice 9) := by kernel_rfl
theorem str_cells : Try.prog.cellsOf 9 = 1 := by kernel_rfl
def srC : Cod ByteArray where
  sz := 1
  enc := fun b => [.str b]
  dec := fun cs => match cs with
    | [.str n] => some n
    | _ => none
  pos := by decide
  len := fun _ => rfl
  plain := fun _ => rfl
  dec_enc := fun b => rfl
  enc_dec := fun cs x h => by
    split at h
    · injection h with h
      subst h
      rfl
    · cases h
theorem srC_sz : srC.sz = 1 := rfl
theorem sr_lods {v : AV} {l : List ByteArray} (h : AM.read srC s v = some l) {i : Nat} {b : ByteArray} (hi : l[i]? = some b) : iadV 1 v (.int .i64 (i : Int)) = some (.ptr (bid v) (boff v + i)) ∧ lod1 s (.ptr (bid v) (boff v + i)) = some (.str b) ∧ ltN (bid v) s := by
  have h1 := read_idx h hi .i64
  rw [srC_sz, Nat.mul_one] at h1
  have hl := read_lt h (Keep.refl s) hi
  refine ⟨h1, ?_, hl⟩
  cases v with
  | nils => simp [AM.read] at h; subst h; simp at hi
  | sl id off n cap z =>
    obtain ⟨rfl, rfl, cs, own, hg, _, _, h5⟩ := read_sl h
    obtain ⟨k1, k2⟩ := h5 i b hi 0 1 (Nat.le_refl 1)
    rw [srC_sz, Nat.mul_one, Nat.add_zero] at k1 k2
    show lod1 s (.ptr id (off + i)) = _
    simp only [lod1, hg]
    have e := congrArg (fun l => l[0]?) k2
    simpa [show srC.enc b = [AV.str b] from rfl] using e
  | _ => simp [AM.read] at h
theorem strs_of_rows {d : Nat} : ∀ {rows : List (List AV)}, (∀ r ∈ rows, RdT Try.prog s (d + 1) 9 r) → ∃ l : List ByteArray, rows.flatten = srC.cells l ∧ l.length = rows.length
  | [], _ => ⟨[], rfl, rfl⟩
  | r :: rows, h => by
    obtain ⟨n, rfl⟩ := rd_strK int_underS (h r (by simp))
    obtain ⟨l, h1, h2⟩ := strs_of_rows (rows := rows) fun r' hr' => h r' (by simp [hr'])
    exact ⟨n :: l, by rw [List.flatten_cons, h1, cells_cons]; rfl, by simp [h2]⟩
theorem rda_strs {v : AV} (h : RdA Try.prog s 8 46 v) : ∃ l, AM.read srC s v = some l := by
  obtain ⟨vs, h1, rfl⟩ := h
  rcases rd_slice strs_under h1 with rfl | ⟨id, n, cap, rows, rfl, h1, _, h3, h4, h5⟩
  · exact ⟨[], by simp [argAV, strs_under]; rfl⟩
  · obtain ⟨l, e1, e2⟩ := strs_of_rows fun r hr => (h5 r hr).1
    have e : argAV Try.prog 46 [.sl id 0 n (some cap) (Try.prog.cellsOf 9)] = .sl id 0 n (some cap) 1 := by simp [argAV, strs_under, str_cells]
    rw [e]
    refine ⟨l.take n, ?_⟩
    have hall : AM.read srC s (.sl id 0 cap (some cap) 1) = some l := by
      have hcl : (srC.cells l).length = l.length * 1 := cells_len srC l
      refine read_of (C := srC) (by omega) h4 ?_ ?_
      · rw [e1, hcl]
        show 0 + cap * 1 ≤ _
        omega
      · rw [e1, List.drop_zero, show cap * srC.sz = (srC.cells l).length by rw [hcl]; show cap * 1 = _; omega, List.take_length]
    exact read_take hall n h1
/-! ### What a list of strings has -/
def cntS (p : List ByteArray) (n : Nat) : Nat := (p.filter fun y => decide (y.size = n)).length
def fstS (p : List ByteArray) (n : Nat) : Option ByteArray := p.find? fun y => decide (y.size = n)
theorem cnt_snoc (p : List ByteArray) (y : ByteArray) (n : Nat) : cntS (p ++ [y]) n = if y.size = n then cntS p n + 1 else cntS p n := by
  unfold cntS
  rw [List.filter_append, List.length_append]
  by_cases h : y.size = n <;> simp [h]
theorem fst_snoc (p : List ByteArray) (y : ByteArray) (n : Nat) : fstS (p ++ [y]) n = match fstS p n with
    | some z => some z
    | none => if y.size = n then some y else none := by
  unfold fstS
  rw [List.find?_append]
  cases p.find? fun y => decide (y.size = n) with
  | some z => rfl
  | none => by_cases h : y.size = n <;> simp [h]
theorem cnt_pos {p : List ByteArray} {n : Nat} : 0 < cntS p n ↔ ∃ y ∈ p, y.size = n := by
  unfold cntS
  rw [List.length_pos_iff_exists_mem]
  simp only [List.mem_filter, decide_eq_true_eq]
theorem fst_none {p : List ByteArray} {n : Nat} (h : cntS p n = 0) : fstS p n = none := by
  unfold fstS
  rw [List.find?_eq_none]
  intro y hy
  simp only [decide_eq_true_eq]
  intro e
  have := cnt_pos.2 ⟨y, hy, e⟩
  omega
variable {id : Nat} {q : Option Nat} {L : List PrT}
theorem gtT_none (hs : SrtT L) {k : Nat} (h : gtT L k = none) : ∀ x ∈ L, x.1.size ≠ k := fun x hx e => by
  obtain ⟨j, hj⟩ := List.mem_iff_getElem?.1 hx
  have hrk : rkT L k = j := rkT_eq (Nat.le_of_lt (getlt hj)) (fun i y hi hy => by have := hs.lt hy hj hi; omega) (fun y hy => by
    rw [hj] at hy; injection hy with hy; rw [← hy]; omega)
  unfold gtT at h
  rw [hrk, hj] at h
  simp [e] at h
theorem srtT_rk (h : SrtT L) {k : Nat} {j : Nat} {y : PrT} (hy : L[j]? = some y) (hj : rkT L k ≤ j) : k ≤ y.1.size := by
  have hjl := getlt hy
  obtain ⟨z, hz⟩ := getsome (show rkT L k < L.length by omega)
  have h1 : ∀ {L : List PrT} {x : PrT}, L[rkT L k]? = some x → ¬ x.1.size < k := by
    intro L
    induction L with
    | nil => intro x h; simp at h
    | cons y r ih =>
      intro x h
      unfold rkT at h
      split at h
      · exact ih (by simpa using h)
      · rename_i hy
        simp at h
        subst h
        exact hy
  have h2 := h1 hz
  by_cases e : j = rkT L k
  · subst e
    rw [hz] at hy; injection hy with hy; rw [← hy]; omega
  · have := h.lt hz hy (by omega)
    omega
def keyT (L : List PrT) (k : ByteArray) : ByteArray := match gtT L k.size with
  | some x => x.1
  | none => k
theorem keyT_size (L : List PrT) (k : ByteArray) : (keyT L k).size = k.size := by
  unfold keyT
  split
  · rename_i x h
    exact (gtT_some h).2
  · rfl
theorem putT_form (hs : SrtT L) (k : ByteArray) (v : AV) : ∃ A B, putT L k v = A ++ (keyT L k, v) :: B ∧ SrtT A ∧ SrtT B ∧ (∀ a ∈ A, a.1.size < k.size) ∧ (∀ b ∈ B, k.size < b.1.size) ∧ (∀ z, z ∈ L → z.1.size ≠ k.size → z ∈ A ∨ z ∈ B) ∧ (∀ z, z ∈ A ∨ z ∈ B → z ∈ L) ∧ A.length + B.length = if (gtT L k.size).isSome = true then L.length - 1 else L.length := by
  have hA : ∀ a ∈ L.take (rkT L k.size), a.1.size < k.size := fun a ha => by
    obtain ⟨j, hj⟩ := List.mem_iff_getElem?.1 ha
    have hj1 := getlt hj
    rw [List.length_take] at hj1
    rw [List.getElem?_take_of_lt (by omega)] at hj
    exact rkT_lt (show j < rkT L k.size by omega) hj
  have sA : SrtT (L.take (rkT L k.size)) := List.Pairwise.sublist (List.take_sublist _ L) hs
  have hrk := rkT_le k.size L
  rcases gtT_split L k.size with ⟨hg, hg1⟩ | ⟨x, hg, hg1⟩
  · refine ⟨L.take (rkT L k.size), L.drop (rkT L k.size), by unfold putT keyT; rw [hg], sA, List.Pairwise.sublist (List.drop_sublist _ L) hs, hA, fun b hb => ?_, fun z hz _ => ?_, fun z hz => ?_, ?_⟩
    · obtain ⟨j, hj⟩ := List.mem_iff_getElem?.1 hb
      rw [List.getElem?_drop] at hj
      have h1 := srtT_rk (k := k.size) hs hj (by omega)
      have h2 := gtT_none hs hg b (List.mem_of_getElem? hj)
      omega
    · rw [← List.take_append_drop (rkT L k.size) L] at hz
      exact List.mem_append.1 hz
    · rcases hz with h | h
      · exact List.mem_of_mem_take h
      · exact List.mem_of_mem_drop h
    · rw [hg1, List.length_take, List.length_drop]
      simp
      omega
  · obtain ⟨hx, hxs⟩ := gtT_some hg
    have hi := getlt hx
    refine ⟨L.take (rkT L k.size), L.drop (rkT L k.size + 1), by unfold putT keyT; rw [hg], sA, List.Pairwise.sublist (List.drop_sublist _ L) hs, hA, fun b hb => ?_, fun z hz hne => ?_, fun z hz => ?_, ?_⟩
    · obtain ⟨j, hj⟩ := List.mem_iff_getElem?.1 hb
      rw [List.getElem?_drop] at hj
      have := hs.lt hx hj (by omega)
      omega
    · rw [← List.take_append_drop (rkT L k.size) L, List.drop_eq_getElem_cons hi] at hz
      rcases List.mem_append.1 hz with h | h
      · exact .inl h
      · rcases List.mem_cons.1 h with h | h
        · have : L[rkT L k.size] = x := (List.getElem?_eq_some_iff.1 hx).2
          rw [this] at h
          rw [h] at hne
          exact absurd hxs hne
        · exact .inr h
    · rcases hz with h | h
      · exact List.mem_of_mem_take h
      · exact List.mem_of_mem_drop h
    · rw [hg1, List.length_take, List.length_drop]
      simp
      omega
/-! ### The memory -/
theorem MpT.nrow (h : MpT t id q L) {b : Nat} {c : AV} {cs : List AV} {own : Bool} (hg : t.get b = some (.row (c :: cs) own)) (h1 : ∀ f cp, c ≠ .fn f cp) (h2 : ∀ x, c ≠ .str x) : b ∉ id :: q.toList := by
  intro hm
  rcases List.mem_cons.1 hm with rfl | hm
  · have := h.box
    rw [hg] at this
    injection this with this
    injection this with this _
    injection this with this _
    exact h1 _ _ this
  · cases hq : q with
    | none => rw [hq] at hm; simp at hm
    | some j =>
      rw [hq] at hm
      simp only [Option.toList_some, List.mem_singleton] at hm
      subst hm
      have := (h.dat b hq).2
      rw [hg] at this
      injection this with this
      injection this with this _
      cases L with
      | nil => cases this
      | cons y r =>
        rw [cT_cons] at this
        injection this with this _
        exact h2 _ this
theorem MpT.nmap (h : MpT t id q L) {b : Nat} {l : List (Int × AV)} (hg : t.get b = some (mapN l)) : b ∉ id :: q.toList := by
  intro hm
  rcases List.mem_cons.1 hm with rfl | hm
  · have := h.box
    rw [hg] at this
    cases this
  · cases hq : q with
    | none => rw [hq] at hm; simp at hm
    | some j =>
      rw [hq] at hm
      simp only [Option.toList_some, List.mem_singleton] at hm
      subst hm
      have := (h.dat b hq).2
      rw [hg] at this
      cases this
/-- The map, and both tables, behind a list of strings. -/
structure SmT (s t : St) (b2 b4 b5 fm cm id : Nat) (q : Option Nat) (L : List PrT) (C F : List (Int × AV)) (p : List ByteArray) : Prop where
  mp : MpT t id q L
  hid : s.next ≤ id
  hq : ∀ j, q = some j → s.next ≤ j
  srt : SrtT L
  vals : ∀ x ∈ L, ∃ w, Own inC s t x.2 w ∧ w.length = cntS p x.1.size ∧ fstS p x.1.size = some x.1 ∧ x.1.size ≤ 100 ∧ 0 < w.length
  cov : ∀ y ∈ p, ∃ x ∈ L, x.1.size = y.size
  gc : t.get cm = some (mapN C)
  gf : t.get fm = some (mapN F)
  g4 : t.get b4 = some (.row [.mp fm] true)
  g5 : t.get b5 = some (.row [.mp cm] true)
  g2 : t.get b2 = some (.row [.bool false] true)
  ne : cm ≠ fm
  hm : s.next ≤ cm ∧ s.next ≤ fm
  cnt : ∀ n : Nat, lkN C (n : Int) (.int .i64 0) = .int .i64 (cntS p n : Int)
  isC : ∀ n : Nat, (lookN C (n : Int)).isSome = decide (0 < cntS p n)
  fst : ∀ (n : Nat) (y : ByteArray), fstS p n = some y → lkN F (n : Int) (.str ⟨#[]⟩) = .str y
  len : C.length = L.length
  lp : L.length ≤ p.length
variable {b2 b4 b5 fm cm : Nat} {C F : List (Int × AV)} {p : List ByteArray}
theorem SmT.mono (h : SmT s t b2 b4 b5 fm cm id q L C F p) (k : ∀ i b, t.get i = some b → u.get i = some b) : SmT s u b2 b4 b5 fm cm id q L C F p :=
  ⟨h.mp.mono k, h.hid, h.hq, h.srt, fun x hx => by
    obtain ⟨w, h1, h2⟩ := h.vals x hx
    exact ⟨w, h1.mono k, h2⟩, h.cov, k _ _ h.gc, k _ _ h.gf, k _ _ h.g4, k _ _ h.g5, k _ _ h.g2, h.ne, h.hm, h.cnt, h.isC, h.fst, h.len, h.lp⟩
theorem SmT.keep (h : SmT s t b2 b4 b5 fm cm id q L C F p) (hK : Keep t u) : SmT s u b2 b4 b5 fm cm id q L C F p := h.mono fun _ _ => hK.blk
theorem SmT.one (h : SmT s t b2 b4 b5 fm cm id q L C F p) : OneT L := fun x hx => by
  obtain ⟨w, h1, _⟩ := h.vals x hx
  exact own_one1 h1
theorem SmT.szs (h : SmT s t b2 b4 b5 fm cm id q L C F p) : ∀ x ∈ L, x.1.size ≤ 1000000 := fun x hx => by
  obtain ⟨w, _, _, _, h4, _⟩ := h.vals x hx
  omega
theorem SmT.miss (h : SmT s t b2 b4 b5 fm cm id q L C F p) {k : Nat} (hg : gtT L k = none) : cntS p k = 0 := by
  by_cases h0 : 0 < cntS p k
  · obtain ⟨y, hy, e⟩ := cnt_pos.1 h0
    obtain ⟨x, hx, e2⟩ := h.cov y hy
    exact absurd (e2.trans e) (gtT_none h.srt hg x hx)
  · omega
theorem SmT.hit (h : SmT s t b2 b4 b5 fm cm id q L C F p) {k : Nat} {x : PrT} (hg : gtT L k = some x) : ∃ w, Own inC s t x.2 w ∧ w.length = cntS p k ∧ fstS p k = some x.1 ∧ 0 < w.length := by
  obtain ⟨hx, e⟩ := gtT_some hg
  obtain ⟨w, h1, h2, h3, _, h5⟩ := h.vals x (List.mem_of_getElem? hx)
  rw [e] at h2 h3
  exact ⟨w, h1, h2, h3, h5⟩
theorem ownI_away (hm : MpT t id q L) {v : AV} {w : List Int} (h : Own inC s t v w) (hw : 0 < w.length) (hC : Chg (id :: q.toList) t u) : Own inC s u v w := by
  rcases h with e | ⟨j, e, h1, h2, h3⟩
  · exact .inl e
  · refine .inr ⟨j, e, h1, h2, hC.blk h3 ?_⟩
    cases w with
    | nil => simp at hw
    | cons a r =>
      rw [cells_cons] at h3
      exact hm.nrow (c := .int .i64 a) h3 (fun f cp e => by cases e) (fun x e => by cases e)
theorem row_putmap {x : Nat} {cs : List AV} {o : Bool} (h : t.get x = some (.row cs o)) {m : Nat} {l : List (Int × AV)} (hg : t.get m = some (mapN l)) (b : AB) : (t.put m b).get x = some (.row cs o) := by
  rw [St.get_put_ne _ _ (St.get_lt hg) fun e2 => by
    rw [e2, hg] at h
    cases h]
  exact h
/-- One string more. -/
theorem SmT.step (h : SmT s t b2 b4 b5 fm cm id q L C F p) {y : ByteArray} (hy : y.size ≤ 100) {u1 : St} {v : AV} {w : List Int} (hv : Own inC s t v w) (hw : w.length = cntS p y.size + 1) (hC : Chg (id :: q.toList) t u1) {q' : Option Nat} (hm : MpT u1 id q' (putT L y v)) (hq' : ∀ j, q' = some j → q = some j ∨ t.next ≤ j) (hst : s.next ≤ t.next)
    {u2 u3 : St} {F' : List (Int × AV)} (hu2 : (cntS p y.size = 0 ∧ F' = updN F ((y.size : Int), .str y) ∧ u2 = u1.put fm (mapN F')) ∨ (0 < cntS p y.size ∧ F' = F ∧ u2 = u1))
    (hu3 : u3 = u2.put cm (mapN (updN C ((y.size : Int), .int .i64 ((cntS p y.size + 1 : Nat) : Int))))) : SmT s u3 b2 b4 b5 fm cm id q' (putT L y v) (updN C ((y.size : Int), .int .i64 ((cntS p y.size + 1 : Nat) : Int))) F' (p ++ [y]) := by
  obtain ⟨A, B, hput, sA, sB, hA, hB, hin, hout, hlen⟩ := putT_form h.srt y v
  have gf1 : u1.get fm = some (mapN F) := hC.blk h.gf (h.mp.nmap h.gf)
  have gc1 : u1.get cm = some (mapN C) := hC.blk h.gc (h.mp.nmap h.gc)
  have g41 := hC.blk h.g4 (h.mp.nrow h.g4 (fun f cp e => by cases e) (fun x e => by cases e))
  have g51 := hC.blk h.g5 (h.mp.nrow h.g5 (fun f cp e => by cases e) (fun x e => by cases e))
  have g21 := hC.blk h.g2 (h.mp.nrow h.g2 (fun f cp e => by cases e) (fun x e => by cases e))
  have hv1 := ownI_away h.mp hv (by omega) hC
  have two : u2.get cm = some (mapN C) ∧ u2.get fm = some (mapN F') ∧ (∀ (x : Nat) (cs : List AV) (o : Bool), u1.get x = some (.row cs o) → u2.get x = some (.row cs o)) := by
    rcases hu2 with ⟨_, rfl, rfl⟩ | ⟨_, rfl, rfl⟩
    · exact ⟨by rw [St.get_put_ne _ _ (St.get_lt gf1) h.ne]; exact gc1, St.get_put_same gf1, fun x cs o hx => row_putmap hx gf1 _⟩
    · exact ⟨gc1, gf1, fun x cs o hx => hx⟩
  obtain ⟨gc2, gf2, rows2⟩ := two
  have rows3 : ∀ (x : Nat) (cs : List AV) (o : Bool), u1.get x = some (.row cs o) → u3.get x = some (.row cs o) := fun x cs o hx => by
    rw [hu3]
    exact row_putmap (rows2 x cs o hx) gc2 _
  have own3 : ∀ {v : AV} {w : List Int}, Own inC s u1 v w → Own inC s u3 v w := fun {v w} hO => by
    rcases hO with e | ⟨j, e, h1, h2, h3⟩
    · exact .inl e
    · exact .inr ⟨j, e, h1, h2, rows3 _ _ _ h3⟩
  refine ⟨⟨rows3 _ _ _ hm.box, hm.nol, fun j e => ⟨(hm.dat j e).1, rows3 _ _ _ (hm.dat j e).2⟩, hm.hn⟩, h.hid, fun j e => ?_, ?_, fun x hx => ?_, fun z hz => ?_, ?_, ?_, rows3 _ _ _ g41, rows3 _ _ _ g51, rows3 _ _ _ g21, h.ne, h.hm, fun n => ?_, fun n => ?_, fun n z hz => ?_, ?_, ?_⟩
  · rcases hq' j e with e' | e'
    · exact h.hq j e'
    · omega
  · rw [hput]
    unfold SrtT
    rw [List.pairwise_append, List.pairwise_cons]
    refine ⟨sA, ⟨fun b hb => ?_, sB⟩, fun a ha b hb => ?_⟩
    · show (keyT L y).size < _
      rw [keyT_size]
      exact hB b hb
    · rcases List.mem_cons.1 hb with rfl | hb
      · show _ < (keyT L y).size
        rw [keyT_size]
        exact hA a ha
      · have := hA a ha
        have := hB b hb
        omega
  · rw [hput] at hx
    have old : x ∈ A ∨ x ∈ B → ∃ w, Own inC s u3 x.2 w ∧ w.length = cntS (p ++ [y]) x.1.size ∧ fstS (p ++ [y]) x.1.size = some x.1 ∧ x.1.size ≤ 100 ∧ 0 < w.length := fun hx => by
      have hne : y.size ≠ x.1.size := by
        rcases hx with h | h
        · have := hA x h; omega
        · have := hB x h; omega
      obtain ⟨w, w1, w2, w3, w4, w5⟩ := h.vals x (hout x hx)
      exact ⟨w, own3 (ownI_away h.mp w1 w5 hC), by rw [cnt_snoc, if_neg hne]; exact w2, by rw [fst_snoc, w3], w4, w5⟩
    rcases List.mem_append.1 hx with hx | hx
    · exact old (.inl hx)
    · rcases List.mem_cons.1 hx with rfl | hx
      · refine ⟨w, own3 hv1, ?_, ?_, ?_, by omega⟩
        · rw [keyT_size, cnt_snoc, if_pos rfl, hw]
        · show fstS (p ++ [y]) (keyT L y).size = some (keyT L y)
          rw [keyT_size, fst_snoc]
          unfold keyT
          rcases gtT_split L y.size with ⟨hg, _⟩ | ⟨x, hg, _⟩
          · rw [hg, fst_none (h.miss hg)]
            simp
          · obtain ⟨_, _, _, h3, _⟩ := h.hit hg
            rw [hg, h3]
        · show (keyT L y).size ≤ 100
          rw [keyT_size]; exact hy
      · exact old (.inr hx)
  · rcases List.mem_append.1 hz with hz | hz
    · obtain ⟨x, hx, e⟩ := h.cov z hz
      by_cases e2 : x.1.size = y.size
      · exact ⟨(keyT L y, v), by rw [hput]; simp, by show (keyT L y).size = _; rw [keyT_size, ← e, e2]⟩
      · rcases hin x hx e2 with h1 | h1
        · exact ⟨x, by rw [hput]; simp [h1], e⟩
        · exact ⟨x, by rw [hput]; simp [h1], e⟩
    · simp at hz
      subst hz
      exact ⟨(keyT L z, v), by rw [hput]; simp, keyT_size L z⟩
  · rw [hu3]
    exact St.get_put_same gc2
  · rw [hu3, St.get_put_ne _ _ (St.get_lt gc2) (Ne.symm h.ne)]
    exact gf2
  · rw [lkN_upd, cnt_snoc]
    simp only
    by_cases e : y.size = n
    · subst e
      simp
    · rw [if_neg (by omega), if_neg e]
      exact h.cnt n
  · have e1 : (lookN (updN C ((y.size : Int), AV.int .i64 ((cntS p y.size + 1 : Nat) : Int))) (n : Int)).isSome = ((lookN (updN C ((y.size : Int), AV.int .i64 ((cntS p y.size + 1 : Nat) : Int))) (n : Int)).map fun p => p.2.2).isSome := by simp
    rw [e1, lookN_upd, cnt_snoc]
    simp only
    by_cases e : y.size = n
    · subst e
      simp
    · rw [if_neg (by omega), if_neg e]
      have := h.isC n
      simpa using this
  · rw [fst_snoc] at hz
    rcases hu2 with ⟨h0, rfl, _⟩ | ⟨h0, rfl, _⟩
    · rw [lkN_upd]
      simp only
      by_cases e : y.size = n
      · subst e
        rw [fst_none h0] at hz
        simp only [if_true] at hz
        injection hz with hz
        rw [if_pos rfl, hz]
      · rw [if_neg (by omega)]
        cases hf : fstS p n with
        | none => rw [hf] at hz; simp [e] at hz
        | some z' =>
          rw [hf] at hz
          injection hz with hz
          subst hz
          exact h.fst n z' hf
    · cases hf : fstS p n with
      | none =>
        rw [hf] at hz
        by_cases e : y.size = n
        · subst e
          obtain ⟨z', hz', e'⟩ := cnt_pos.1 h0
          unfold fstS at hf
          rw [List.find?_eq_none] at hf
          have := hf z' hz'
          simp [e'] at this
        · simp [e] at hz
      | some z' =>
        rw [hf] at hz
        injection hz with hz
        subst hz
        exact h.fst n z' hf
  · rw [updN_len]
    have hi := h.isC y.size
    have hl := h.len
    have hput_len : (putT L y v).length = A.length + B.length + 1 := by
      rw [hput, List.length_append, List.length_cons]
      omega
    rw [hput_len, hlen, hl]
    simp only [hi]
    rcases gtT_split L y.size with ⟨hg, hg1⟩ | ⟨x, hg, hg1⟩
    · have h0 := h.miss hg
      rw [hg1, h0]
      simp
    · obtain ⟨w, _, h2, _, h4⟩ := h.hit hg
      have hpos := getlt (gtT_some hg).1
      rw [hg1]
      have : 0 < cntS p y.size := by omega
      simp [this]
      omega
  · have hput_len : (putT L y v).length = A.length + B.length + 1 := by
      rw [hput, List.length_append, List.length_cons]
      omega
    have := h.lp
    rw [hput_len, hlen, List.length_append, List.length_singleton]
    split <;> omega

end Go.AM
end
/-
  OmapStrings. Own work of this project; in part printed by a program of it.
-/
section
set_option maxRecDepth 100000
set_option maxHeartbeats 8000000
namespace Go.AM
open Go Go.Proofs

variable {s t u : St}

abbrev LIN := List (Int × AV)
theorem bin_strnes (k : EK) (a : ByteArray) : binOp .neq k (.str a) (.str a) = some (.bool false) := by
  have : (a.toList == a.toList) = true := by simp
  show strOp .neq a a = _
  simp only [strOp, this]
  rfl
variable {id : Nat} {q : Option Nat} {L : List PrT} {b2 b4 b5 fm cm : Nat} {C F : List (Int × AV)} {p : List ByteArray}
theorem RdP.putb {w : AV} (h : RdP t w L) {b : Nat} {n : Int} (hg : t.get b = some (.row [.int .i64 n] true)) (x : AB) : RdP (t.put b x) w L := by
  rcases h with e | ⟨j, cap, own, e, g⟩
  · exact .inl e
  · refine .inr ⟨j, cap, own, e, ?_⟩
    rw [St.get_put_ne _ _ (St.get_lt hg) fun e2 => by
      rw [e2, hg] at g
      injection g with g
      injection g with g _
      cases L with
      | nil => cases g
      | cons y r =>
        rw [cT_cons] at g
        injection g with g _
        cases g]
    exact g
/-- What Get has, and what is counted. -/
theorem SmT.old (h : SmT s t b2 b4 b5 fm cm id q L C F p) (k : Nat) (hK : Keep t u) : ∃ ov w0, getT (gtT L k) = .tup [ov, .bool (decide (0 < cntS p k))] ∧ AM.read inC u ov = some w0 ∧ w0.length = cntS p k := by
  rcases gtT_split L k with ⟨hg, _⟩ | ⟨x, hg, _⟩
  · have h0 := h.miss hg
    exact ⟨.nils, [], by rw [hg, h0]; rfl, rfl, by rw [h0]; rfl⟩
  · obtain ⟨w, h1, h2, _, h4⟩ := h.hit hg
    refine ⟨x.2, w, ?_, hK.read h1.read, h2⟩
    rw [hg, decide_eq_true (show 0 < cntS p k by omega)]
    rfl
theorem s_OmapStrings : SoundAt Try.prog 4 (lawC Try.prog 8 [46]) :=
  con_keepI (tb_sound (l := [(9, closed [] (.bool true)), (19, R_NewT), (21, R_GetT), (22, R_SetT), (23, R_AllT), (24, R_LenT)]) (by simpa using ⟨s_known, s_NewT, s_GetT, s_SetT, s_AllT, s_LenT⟩)) mixed Try.func4 ki4 ci4 fun args s r s' h => by
    obtain ⟨hh, rfl, rfl⟩ := lawC_some h
    obtain ⟨vl, rfl, k1⟩ := rdas_1 hh
    obtain ⟨l, hV⟩ := rda_strs k1
    refine ⟨rfl, rfl, by simp [ai4], fun env hlen ha => ?_⟩
    have h0 : E env 0 = _ := ha 0 _ rfl
    have hlen : elen env = _ := hlen
    simp only [ai4] at hlen
    unfold ai4
    try dsimp only [oO, oG]
    simp only [res_cell1, ne_eq]
    have hLv := lenV_read hV
    have g2 := St.get_push_new s (.row [.bool false] true)
    obtain ⟨s1, hs1⟩ : ∃ s1, s1 = s.push (.row [.bool false] true) := ⟨_, rfl⟩
    obtain ⟨b2, hb2⟩ : ∃ b2, b2 = s.next := ⟨_, rfl⟩
    have hK1 : Keep s s1 := by rw [hs1]; exact (Keep.refl s).push _
    rw [← hs1, ← hb2] at g2
    have st2 := row1_sto g2 (x := .bool true) ⟨rfl, rfl⟩
    have lt2 := St.get_lt g2
    have r2 := (row1_lod (St.get_put_same (b := .row [.bool true] true) g2)).1
    have hKf : Keep s (s1.put b2 (.row [.bool true] true)) := hK1.put _ (by omega) lt2
    by_cases c40 : 40 < l.length
    · have z40 := eq_true (show (40 : Int) < (l.length : Int) by omega)
      simp (config := {contextual := true, maxDischargeDepth := 12, maxSteps := 4000000}) only [tb_at, h0, hlen, ← hs1, ← hb2, hLv, z40, st2, lt2, r2, notV_bool, Bool.not_true, Bool.not_false, pickV_t, pickV_f, bin_eql, bin_neq, bin_neb, bin_npn, bin_np, bin_npnx, gcall_tt, gpure_tf, beq_self_eq_true, Bool.true_and, Bool.and_true, decide_true, decide_false, ↓bD, bU, forall_const, bS, implies_true, isNx, eq_self, ↓wp_cond, ↓wp_loop, ↓reduceIte, reduceCtorEq, Nat.reduceEqDiff, Nat.reduceLT, Nat.reduceAdd, Nat.reduceMul, bT, ↓sg_bsl, ↓st_callf, bX, ap_mkfn, ap_conv, ↓wi_seq, ↓wi_base, ↓wi_block, ↓wi_cond, ↓wi_loop, ↓wi_rf, ↓wy_seq, ↓wy_base, ↓wy_block, ↓wy_cond, ↓wy_loop, ↓wy_yld, ae_callvV, callvV_fn, List.append_nil, List.cons_append, List.nil_append, bin_nff, bin_nfn, bin_nffx, bin_nfnx, bin_streq, bin_bo_same, lstep_some, ↓st_load1nf, ↓st_loadnf, ↓st_appr, ↓st_appf0, bin_nfls, ap_lens, lensV_str, ↓sg_callf3, gcall_ff, gpure_ff0, q_known, res_cell1, bin_strnes, ar_lenm, ae_mkmap0]
      all_goals first | exact hKf | skip
    have z40 := eq_false (show ¬ (40 : Int) < (l.length : Int) by omega)
    obtain ⟨id, t1, qn, hi0, hm0, hK2⟩ := q_NewT (s := s1)
    have hKs1 := hK1.trans hK2
    have hs1n : s.next + 1 = s1.next := by rw [hs1]; rfl
    have hn0 := hKs1.next
    have hn2 := hK2.next
    obtain ⟨u1, hu1⟩ : ∃ u1, u1 = t1.push (.map [] 0) := ⟨_, rfl⟩
    obtain ⟨fm, hfm⟩ : ∃ fm, fm = t1.next := ⟨_, rfl⟩
    have m1 : u1.next = fm + 1 := by rw [hu1, hfm]; rfl
    have gf1 : u1.get fm = some (mapN []) := by rw [hu1, hfm]; exact St.get_push_new t1 _
    have hKu1 : Keep t1 u1 := by rw [hu1]; exact (Keep.refl t1).push _
    have g4a := St.get_push_new u1 (.row [.nilm] true)
    rw [m1] at g4a
    have st4 := row1_sto g4a (x := .mp fm) ⟨rfl, rfl⟩
    have lt4 := St.get_lt g4a
    obtain ⟨u3, hu3⟩ : ∃ u3, u3 = (u1.push (.row [.nilm] true)).put (fm + 1) (.row [.mp fm] true) := ⟨_, rfl⟩
    have g4 : u3.get (fm + 1) = some (.row [.mp fm] true) := by rw [hu3]; exact St.get_put_same g4a
    have hKu3 : Keep u1 u3 := by rw [hu3]; exact ((Keep.refl u1).push _).put _ (by omega) lt4
    have m3 : u3.next = fm + 2 := by rw [hu3]; simp [m1]
    rw [← hu3] at st4
    obtain ⟨u4, hu4⟩ : ∃ u4, u4 = u3.push (.map [] 0) := ⟨_, rfl⟩
    have m4 : u4.next = fm + 3 := by rw [hu4]; simp [m3]
    have gc4 : u4.get (fm + 2) = some (mapN []) := by rw [hu4, ← m3]; exact St.get_push_new u3 _
    have hKu4 : Keep u3 u4 := by rw [hu4]; exact (Keep.refl u3).push _
    have g5a := St.get_push_new u4 (.row [.nilm] true)
    rw [m4] at g5a
    have st5 := row1_sto g5a (x := .mp (fm + 2)) ⟨rfl, rfl⟩
    have lt5 := St.get_lt g5a
    obtain ⟨u6, hu6⟩ : ∃ u6, u6 = (u4.push (.row [.nilm] true)).put (fm + 3) (.row [.mp (fm + 2)] true) := ⟨_, rfl⟩
    have g5 : u6.get (fm + 3) = some (.row [.mp (fm + 2)] true) := by rw [hu6]; exact St.get_put_same g5a
    have hKu6 : Keep u4 u6 := by rw [hu6]; exact ((Keep.refl u4).push _).put _ (by omega) lt5
    rw [← hu6] at st5
    have hK16 := hKu1.trans (hKu3.trans (hKu4.trans hKu6))
    have hKs6 := hKs1.trans hK16
    have hS0 : SmT s u6 b2 (fm + 1) (fm + 3) fm (fm + 2) id none [] [] [] [] := ⟨hm0.keep hK16, by omega, (fun j e => by cases e), List.Pairwise.nil, (fun x hx => by simp at hx), (fun y hy => by simp at hy), hKu6.blk gc4, (hKu3.trans (hKu4.trans hKu6)).blk gf1, (hKu4.trans hKu6).blk g4, g5, (hK2.trans hK16).blk g2, by omega, ⟨by omega, by omega⟩, fun n => rfl, fun n => rfl, (fun n y e => by cases e), rfl, Nat.le_refl _⟩
    simp (config := {contextual := true, maxDischargeDepth := 12, maxSteps := 4000000}) only [tb_at, h0, hlen, ← hs1, ← hb2, hLv, z40, qn, bin_np, ← hu1, ← hfm, m1, st4, lt4, m3, ← hu4, m4, st5, lt5, notV_bool, Bool.not_true, Bool.not_false, pickV_t, pickV_f, bin_eql, bin_neq, bin_neb, bin_npn, bin_np, bin_npnx, gcall_tt, gpure_tf, beq_self_eq_true, Bool.true_and, Bool.and_true, decide_true, decide_false, ↓bD, bU, forall_const, bS, implies_true, isNx, eq_self, ↓wp_cond, ↓wp_loop, ↓reduceIte, reduceCtorEq, Nat.reduceEqDiff, Nat.reduceLT, Nat.reduceAdd, Nat.reduceMul, bT, ↓sg_bsl, ↓st_callf, bX, ap_mkfn, ap_conv, ↓wi_seq, ↓wi_base, ↓wi_block, ↓wi_cond, ↓wi_loop, ↓wi_rf, ↓wy_seq, ↓wy_base, ↓wy_block, ↓wy_cond, ↓wy_loop, ↓wy_yld, ae_callvV, callvV_fn, List.append_nil, List.cons_append, List.nil_append, bin_nff, bin_nfn, bin_nffx, bin_nfnx, bin_streq, bin_bo_same, lstep_some, ↓st_load1nf, ↓st_loadnf, ↓st_appr, ↓st_appf0, bin_nfls, ap_lens, lensV_str, ↓sg_callf3, gcall_ff, gpure_ff0, q_known, res_cell1, bin_strnes, ar_lenm, ae_mkmap0]
    obtain ⟨I, hI⟩ : ∃ I : Nat → Env → St → Prop, ∀ n e t, I n e t = (Keep s t ∧ ∃ (i : Nat) (q : Option Nat) (L : List PrT) (C : LIN) (F : LIN), n + i = l.length ∧ elen e = 117 ∧ E e 2 = .ptr b2 0 ∧ E e 3 = .ptr id 0 ∧ E e 4 = .ptr (fm + 1) 0 ∧ E e 5 = .ptr (fm + 3) 0 ∧ E e 23 = vl ∧ E e 24 = .int .i64 (l.length : Int) ∧ E e 25 = .int .i64 (i : Int) ∧ SmT s t b2 (fm + 1) (fm + 3) fm (fm + 2) id q L C F (l.take i)) := ⟨fun n e t => (Keep s t ∧ ∃ (i : Nat) (q : Option Nat) (L : List PrT) (C : LIN) (F : LIN), n + i = l.length ∧ elen e = 117 ∧ E e 2 = .ptr b2 0 ∧ E e 3 = .ptr id 0 ∧ E e 4 = .ptr (fm + 1) 0 ∧ E e 5 = .ptr (fm + 3) 0 ∧ E e 23 = vl ∧ E e 24 = .int .i64 (l.length : Int) ∧ E e 25 = .int .i64 (i : Int) ∧ SmT s t b2 (fm + 1) (fm + 3) fm (fm + 2) id q L C F (l.take i)), fun _ _ _ => rfl⟩
    refine lwp_inv I (n := l.length) ?_ ?_
    · rw [hI]
      exact ⟨hKs6, 0, none, [], [], [], by omega, (by simp only [bE, Nat.reduceEqDiff, bN, Nat.reduceLT, hlen]; try rfl), (by simp only [bE, Nat.reduceEqDiff, bN, Nat.reduceLT, hlen, ← hb2]; try rfl), (by simp only [bE, Nat.reduceEqDiff, bN, Nat.reduceLT, hlen]; try rfl), (by simp only [bE, Nat.reduceEqDiff, bN, Nat.reduceLT, hlen]; try rfl), (by simp only [bE, Nat.reduceEqDiff, bN, Nat.reduceLT, hlen]; try rfl), (by simp only [bE, Nat.reduceEqDiff, bN, Nat.reduceLT, hlen, h0]; try rfl), (by simp only [bE, Nat.reduceEqDiff, bN, Nat.reduceLT, hlen]; try rfl), (by simp only [bE, Nat.reduceEqDiff, bN, Nat.reduceLT, hlen]; try rfl), hS0⟩
    clear h0 hlen ha qn hS0 st2 r2 hKf
    intro n e t hi
    rw [hI] at hi
    obtain ⟨hK, i, q, L, C, F, hni, he, e2, e3, e4, e5, e23, e24, e25, hS⟩ := hi
    obtain ⟨k5, k5t⟩ := row1_lod hS.g5
    by_cases hlt : i < l.length
    · have y1 := eq_true (show (i : Int) < (l.length : Int) by omega)
      have hw2 := wrap_add1 (n := i) (by omega)
      obtain ⟨y, hy⟩ := getsome hlt
      obtain ⟨i1, a1, a3⟩ := sr_lods (hK.read hV) hy
      by_cases c100 : 100 < y.size
      · have z1 := eq_true (show (100 : Int) < (y.size : Int) by omega)
        have st2 := row1_sto hS.g2 (x := .bool true) ⟨rfl, rfl⟩
        have lt2 := St.get_lt hS.g2
        have r2 := (row1_lod (St.get_put_same (b := .row [.bool true] true) hS.g2)).1
        have hKf := hK.put (id := b2) (.row [.bool true] true) (by omega) lt2
        simp (config := {contextual := true, maxDischargeDepth := 12, maxSteps := 4000000}) only [tb_at, he, e2, e3, e4, e5, e23, e24, e25, y1, i1, a1, a3, z1, st2, lt2, r2, notV_bool, Bool.not_true, Bool.not_false, pickV_t, pickV_f, bin_eql, bin_neq, bin_neb, bin_npn, bin_np, bin_npnx, gcall_tt, gpure_tf, beq_self_eq_true, Bool.true_and, Bool.and_true, decide_true, decide_false, ↓bD, bU, forall_const, bS, implies_true, isNx, eq_self, ↓wp_cond, ↓wp_loop, ↓reduceIte, reduceCtorEq, Nat.reduceEqDiff, Nat.reduceLT, Nat.reduceAdd, Nat.reduceMul, bT, ↓sg_bsl, ↓st_callf, bX, ap_mkfn, ap_conv, ↓wi_seq, ↓wi_base, ↓wi_block, ↓wi_cond, ↓wi_loop, ↓wi_rf, ↓wy_seq, ↓wy_base, ↓wy_block, ↓wy_cond, ↓wy_loop, ↓wy_yld, ae_callvV, callvV_fn, List.append_nil, List.cons_append, List.nil_append, bin_nff, bin_nfn, bin_nffx, bin_nfnx, bin_streq, bin_bo_same, lstep_some, ↓st_load1nf, ↓st_loadnf, ↓st_appr, ↓st_appf0, bin_nfls, ap_lens, lensV_str, ↓sg_callf3, gcall_ff, gpure_ff0, q_known, res_cell1, bin_strnes, ar_lenm, ae_mkmap0]
        all_goals first | exact hKf | skip
      have z1 := eq_false (show ¬ (100 : Int) < (y.size : Int) by omega)
      obtain ⟨p, hp⟩ : ∃ p, p = l.take i := ⟨_, rfl⟩
      rw [← hp] at hS
      have hL40 : L.length ≤ 40 := by have := hS.lp; rw [hp, List.length_take] at this; omega
      obtain ⟨t2, qg, hKg⟩ := q_GetT hS.mp hS.one hS.szs hS.srt y (by omega)
      have hS2 := hS.keep hKg
      obtain ⟨ov, w0, eg, hro, hw0⟩ := hS.old y.size hKg
      rw [eg] at qg
      obtain ⟨c, hc⟩ : ∃ c, c = cntS p y.size := ⟨_, rfl⟩
      rw [← hc] at qg hw0
      have lv5 := lookN_v hS2.gc (y.size : Int) (.int .i64 0)
      rw [hS.cnt, ← hc] at lv5
      obtain ⟨v5e, v5t⟩ := row1_lod hS2.g5
      have hlo := lenV_read hro
      rw [hw0] at hlo
      have zcc : ((c : Int) = (c : Int)) = True := eq_self _
      have hcl : c ≤ 40 := by
        rw [hc]
        unfold cntS
        have := List.length_filter_le (fun z : ByteArray => decide (z.size = y.size)) p
        rw [hp, List.length_take] at this
        rw [hp]
        omega
      obtain ⟨w1, t3, ap1, hK3, hO1⟩ := appV_list (C := inC) (Keep.refl t2) (.nil inC t2 t2) hro 8 (by simp; unfold roomBytes; omega)
      rw [List.nil_append] at hO1
      obtain ⟨v', t4, ap2, hK4, hO2⟩ := appV_one (C := inC) hK3 hO1 (i : Int) 8 (by unfold roomBytes; omega)
      have ap1 : appV t2 1 8 .nils ov = some (w1, t3) := ap1
      have ap2 : appV (t3.push (.row [.int .i64 (i : Int)] true)) 1 8 w1 (.sl t3.next 0 1 (some 1) 1) = some (v', t4) := ap2
      have hbs : bslV [.int .i64 0] 1 1 [(0, .int .i64 (i : Int))] = some (fun id => .sl id 0 1 (some 1) 1, .row [.int .i64 (i : Int)] true) := rfl
      have hS4 := hS2.keep hK4
      have hK24 := hKg.trans hK4
      have hKs4 := hK.trans hK24
      obtain ⟨r5, t5, qs, ⟨q', hm', hq'⟩, hC⟩ := q_SetT hS4.mp hS4.one hS4.szs hS4.srt y (by omega) (own_one1 hO2) (by omega)
      have hKs5 : Keep s t5 := hKs4.chgn hC fun k hk => by
        rcases List.mem_cons.1 hk with rfl | hk
        · exact hS.hid
        · cases hq : q with
          | none => rw [hq] at hk; simp at hk
          | some j => rw [hq] at hk; simp at hk; subst hk; exact hS.hq k hq
      have gc5 : t5.get (fm + 2) = some (mapN C) := hC.blk hS4.gc (hS4.mp.nmap hS4.gc)
      have gf5 : t5.get fm = some (mapN F) := hC.blk hS4.gf (hS4.mp.nmap hS4.gf)
      have g45 := hC.blk hS4.g4 (hS4.mp.nrow hS4.g4 (fun f cp e => by cases e) (fun x e => by cases e))
      have g55 := hC.blk hS4.g5 (hS4.mp.nrow hS4.g5 (fun f cp e => by cases e) (fun x e => by cases e))
      obtain ⟨f5, f5t⟩ := row1_lod g55
      obtain ⟨f4, f4t⟩ := row1_lod g45
      have lv6 := lookN_v gc5 (y.size : Int) (.int .i64 0)
      rw [hS.cnt, ← hc] at lv6
      have hwc := wrap_add1 (n := c) (by omega)
      have hOs : Own inC s t4 v' (w0 ++ [(i : Int)]) := hO2.from (hK.trans hKg).next
      have htk : l.take (i + 1) = p ++ [y] := by rw [hp, take_snoc hy]
      by_cases hc0 : c = 0
      · have zc := eq_true (show (c : Int) = 0 by omega)
        have zp := eq_false (show ¬ (0 : Int) < (c : Int) by omega)
        rw [decide_eq_false (show ¬ 0 < c by omega)] at qg
        have ms1 := msetN_map gf5 ((y.size : Int), .str y) rfl
        obtain ⟨t6, ht6⟩ : ∃ t6, t6 = t5.put fm (mapN (updN F ((y.size : Int), .str y))) := ⟨_, rfl⟩
        have gc6 : t6.get (fm + 2) = some (mapN C) := by rw [ht6, St.get_put_ne _ _ (St.get_lt gf5) (by omega)]; exact gc5
        have g56 : t6.get (fm + 3) = some (.row [.mp (fm + 2)] true) := by rw [ht6]; exact row_putmap g55 gf5 _
        rw [← ht6] at ms1
        obtain ⟨d5, d5t⟩ := row1_lod g56
        have lv7 := lookN_v gc6 (y.size : Int) (.int .i64 0)
        rw [hS.cnt, ← hc] at lv7
        have ms2 := msetN_map gc6 ((y.size : Int), .int .i64 ((c + 1 : Nat) : Int)) rfl
        have hSn := hS4.step (y := y) (by omega) hOs (by rw [List.length_append, hw0, ← hc]; rfl) hC hm' hq' hKs4.next (.inl ⟨by omega, rfl, rfl⟩) rfl
        rw [← ht6, ← hc, ← htk] at hSn
        have hKn : Keep s (t6.put (fm + 2) (mapN (updN C ((y.size : Int), .int .i64 ((c + 1 : Nat) : Int))))) := by
          refine Keep.put ?_ _ hS.hm.1 (St.get_lt gc6)
          rw [ht6]
          exact hKs5.put _ hS.hm.2 (St.get_lt gf5)
        simp (config := {contextual := true, maxDischargeDepth := 12, maxSteps := 4000000}) only [tb_at, he, e2, e3, e4, e5, e23, e24, e25, y1, hw2, i1, a1, a3, z1, qg, v5e, v5t, lv5, zp, hlo, zcc, ap1, hbs, ap2, qs, f5, f5t, lv6, zc, f4, f4t, ms1, d5, d5t, lv7, hwc, ms2, notV_bool, Bool.not_true, Bool.not_false, pickV_t, pickV_f, bin_eql, bin_neq, bin_neb, bin_npn, bin_np, bin_npnx, gcall_tt, gpure_tf, beq_self_eq_true, Bool.true_and, Bool.and_true, decide_true, decide_false, ↓bD, bU, forall_const, bS, implies_true, isNx, eq_self, ↓wp_cond, ↓wp_loop, ↓reduceIte, reduceCtorEq, Nat.reduceEqDiff, Nat.reduceLT, Nat.reduceAdd, Nat.reduceMul, bT, ↓sg_bsl, ↓st_callf, bX, ap_mkfn, ap_conv, ↓wi_seq, ↓wi_base, ↓wi_block, ↓wi_cond, ↓wi_loop, ↓wi_rf, ↓wy_seq, ↓wy_base, ↓wy_block, ↓wy_cond, ↓wy_loop, ↓wy_yld, ae_callvV, callvV_fn, List.append_nil, List.cons_append, List.nil_append, bin_nff, bin_nfn, bin_nffx, bin_nfnx, bin_streq, bin_bo_same, lstep_some, ↓st_load1nf, ↓st_loadnf, ↓st_appr, ↓st_appf0, bin_nfls, ap_lens, lensV_str, ↓sg_callf3, gcall_ff, gpure_ff0, q_known, res_cell1, bin_strnes, ar_lenm, ae_mkmap0]
        refine ⟨n - 1, by omega, ?_⟩
        rw [hI]
        exact ⟨hKn, i + 1, q', _, _, _, by omega, (by simp only [bE, Nat.reduceEqDiff, bN, Nat.reduceLT, he, e2, e3, e4, e5, e23, e24, e25]; try rfl), (by simp only [bE, Nat.reduceEqDiff, bN, Nat.reduceLT, he, e2, e3, e4, e5, e23, e24, e25]; try rfl), (by simp only [bE, Nat.reduceEqDiff, bN, Nat.reduceLT, he, e2, e3, e4, e5, e23, e24, e25]; try rfl), (by simp only [bE, Nat.reduceEqDiff, bN, Nat.reduceLT, he, e2, e3, e4, e5, e23, e24, e25]; try rfl), (by simp only [bE, Nat.reduceEqDiff, bN, Nat.reduceLT, he, e2, e3, e4, e5, e23, e24, e25]; try rfl), (by simp only [bE, Nat.reduceEqDiff, bN, Nat.reduceLT, he, e2, e3, e4, e5, e23, e24, e25]; try rfl), (by simp only [bE, Nat.reduceEqDiff, bN, Nat.reduceLT, he, e2, e3, e4, e5, e23, e24, e25]; try rfl), (by simp only [bE, Nat.reduceEqDiff, bN, Nat.reduceLT, he, e2, e3, e4, e5, e23, e24, e25]; try rfl), hSn⟩
      · have zc := eq_false (show ¬ (c : Int) = 0 by omega)
        have zp := eq_true (show (0 : Int) < (c : Int) by omega)
        rw [decide_eq_true (show 0 < c by omega)] at qg
        have ms2 := msetN_map gc5 ((y.size : Int), .int .i64 ((c + 1 : Nat) : Int)) rfl
        have hSn := hS4.step (y := y) (by omega) hOs (by rw [List.length_append, hw0, ← hc]; rfl) hC hm' hq' hKs4.next (.inr ⟨by omega, rfl, rfl⟩) rfl
        rw [← hc, ← htk] at hSn
        have hKn : Keep s (t5.put (fm + 2) (mapN (updN C ((y.size : Int), .int .i64 ((c + 1 : Nat) : Int))))) := hKs5.put _ hS.hm.1 (St.get_lt gc5)
        simp (config := {contextual := true, maxDischargeDepth := 12, maxSteps := 4000000}) only [tb_at, he, e2, e3, e4, e5, e23, e24, e25, y1, hw2, i1, a1, a3, z1, qg, v5e, v5t, lv5, zp, hlo, zcc, ap1, hbs, ap2, qs, f5, f5t, lv6, zc, hwc, ms2, notV_bool, Bool.not_true, Bool.not_false, pickV_t, pickV_f, bin_eql, bin_neq, bin_neb, bin_npn, bin_np, bin_npnx, gcall_tt, gpure_tf, beq_self_eq_true, Bool.true_and, Bool.and_true, decide_true, decide_false, ↓bD, bU, forall_const, bS, implies_true, isNx, eq_self, ↓wp_cond, ↓wp_loop, ↓reduceIte, reduceCtorEq, Nat.reduceEqDiff, Nat.reduceLT, Nat.reduceAdd, Nat.reduceMul, bT, ↓sg_bsl, ↓st_callf, bX, ap_mkfn, ap_conv, ↓wi_seq, ↓wi_base, ↓wi_block, ↓wi_cond, ↓wi_loop, ↓wi_rf, ↓wy_seq, ↓wy_base, ↓wy_block, ↓wy_cond, ↓wy_loop, ↓wy_yld, ae_callvV, callvV_fn, List.append_nil, List.cons_append, List.nil_append, bin_nff, bin_nfn, bin_nffx, bin_nfnx, bin_streq, bin_bo_same, lstep_some, ↓st_load1nf, ↓st_loadnf, ↓st_appr, ↓st_appf0, bin_nfls, ap_lens, lensV_str, ↓sg_callf3, gcall_ff, gpure_ff0, q_known, res_cell1, bin_strnes, ar_lenm, ae_mkmap0]
        refine ⟨n - 1, by omega, ?_⟩
        rw [hI]
        exact ⟨hKn, i + 1, q', _, _, _, by omega, (by simp only [bE, Nat.reduceEqDiff, bN, Nat.reduceLT, he, e2, e3, e4, e5, e23, e24, e25]; try rfl), (by simp only [bE, Nat.reduceEqDiff, bN, Nat.reduceLT, he, e2, e3, e4, e5, e23, e24, e25]; try rfl), (by simp only [bE, Nat.reduceEqDiff, bN, Nat.reduceLT, he, e2, e3, e4, e5, e23, e24, e25]; try rfl), (by simp only [bE, Nat.reduceEqDiff, bN, Nat.reduceLT, he, e2, e3, e4, e5, e23, e24, e25]; try rfl), (by simp only [bE, Nat.reduceEqDiff, bN, Nat.reduceLT, he, e2, e3, e4, e5, e23, e24, e25]; try rfl), (by simp only [bE, Nat.reduceEqDiff, bN, Nat.reduceLT, he, e2, e3, e4, e5, e23, e24, e25]; try rfl), (by simp only [bE, Nat.reduceEqDiff, bN, Nat.reduceLT, he, e2, e3, e4, e5, e23, e24, e25]; try rfl), (by simp only [bE, Nat.reduceEqDiff, bN, Nat.reduceLT, he, e2, e3, e4, e5, e23, e24, e25]; try rfl), hSn⟩
    have y1 := eq_false (show ¬ (i : Int) < (l.length : Int) by omega)
    obtain rfl : i = l.length := by omega
    rw [List.take_length] at hS
    have hL40 : L.length ≤ 40 := by have := hS.lp; omega
    have g10a := St.get_push_new t (.row [.int .i64 0] true)
    obtain ⟨b10, hb10⟩ : ∃ b10, b10 = t.next := ⟨_, rfl⟩
    rw [← hb10] at g10a
    have st10 := row1_sto g10a (x := .int .i64 (-1)) ⟨rfl, rfl⟩
    have lt10 := St.get_lt g10a
    obtain ⟨ua, hua⟩ : ∃ ua, ua = (t.push (.row [.int .i64 0] true)).put b10 (.row [.int .i64 (-1)] true) := ⟨_, rfl⟩
    have g10 : ua.get b10 = some (.row [.int .i64 (-1)] true) := by rw [hua]; exact St.get_put_same g10a
    have hKua : Keep t ua := by rw [hua]; exact ((Keep.refl t).push _).put _ (by omega) lt10
    rw [← hua] at st10
    obtain ⟨w, t2, qA, hI1, hKA⟩ := q_AllT (hS.mp.keep hKua)
    obtain ⟨bq, wq, rfl, hbq0, hbq1, hrq⟩ := hI1
    have hKt2 := hKua.trans hKA
    simp (config := {contextual := true, maxDischargeDepth := 12, maxSteps := 4000000}) only [tb_at, he, e2, e3, e4, e5, e23, e24, e25, hLv, y1, ← hb10, st10, lt10, qA, notV_bool, Bool.not_true, Bool.not_false, pickV_t, pickV_f, bin_eql, bin_neq, bin_neb, bin_npn, bin_np, bin_npnx, gcall_tt, gpure_tf, beq_self_eq_true, Bool.true_and, Bool.and_true, decide_true, decide_false, ↓bD, bU, forall_const, bS, implies_true, isNx, eq_self, ↓wp_cond, ↓wp_loop, ↓reduceIte, reduceCtorEq, Nat.reduceEqDiff, Nat.reduceLT, Nat.reduceAdd, Nat.reduceMul, bT, ↓sg_bsl, ↓st_callf, bX, ap_mkfn, ap_conv, ↓wi_seq, ↓wi_base, ↓wi_block, ↓wi_cond, ↓wi_loop, ↓wi_rf, ↓wy_seq, ↓wy_base, ↓wy_block, ↓wy_cond, ↓wy_loop, ↓wy_yld, ae_callvV, callvV_fn, List.append_nil, List.cons_append, List.nil_append, bin_nff, bin_nfn, bin_nffx, bin_nfnx, bin_streq, bin_bo_same, lstep_some, ↓st_load1nf, ↓st_loadnf, ↓st_appr, ↓st_appf0, bin_nfls, ap_lens, lensV_str, ↓sg_callf3, gcall_ff, gpure_ff0, q_known, res_cell1, bin_strnes, ar_lenm, ae_mkmap0]
    refine rf_gen (fun e => elen e = 117 ∧ E e 2 = .ptr b2 0 ∧ E e 3 = .ptr id 0 ∧ E e 4 = .ptr (fm + 1) 0 ∧ E e 5 = .ptr (fm + 3) 0 ∧ E e 10 = .ptr b10 0 ∧ E e 83 = .fn 69 [.ptr bq 0]) ⟨(by simp only [bE, Nat.reduceEqDiff, bN, Nat.reduceLT, he, e2, e3, e4, e5, e23, e24, e25, ← hb10]; try rfl), (by simp only [bE, Nat.reduceEqDiff, bN, Nat.reduceLT, he, e2, e3, e4, e5, e23, e24, e25, ← hb10]; try rfl), (by simp only [bE, Nat.reduceEqDiff, bN, Nat.reduceLT, he, e2, e3, e4, e5, e23, e24, e25, ← hb10]; try rfl), (by simp only [bE, Nat.reduceEqDiff, bN, Nat.reduceLT, he, e2, e3, e4, e5, e23, e24, e25, ← hb10]; try rfl), (by simp only [bE, Nat.reduceEqDiff, bN, Nat.reduceLT, he, e2, e3, e4, e5, e23, e24, e25, ← hb10]; try rfl), (by simp only [bE, Nat.reduceEqDiff, bN, Nat.reduceLT, he, e2, e3, e4, e5, e23, e24, e25, ← hb10]; try rfl), (by simp only [bE, Nat.reduceEqDiff, bN, Nat.reduceLT, he, e2, e3, e4, e5, e23, e24, e25, ← hb10]; try rfl)⟩ ?_
    clear he e2 e3 e4 e5 e23 e24 e25
    rintro e0 ⟨he0, x2, x3, x4, x5, x10, x83⟩
    refine rf_overT (l := L) (by rw [aev_t]; exact x83) (by omega) hS.one hbq1 (fun n t' => Keep t t' ∧ RdP t' wq L ∧ ∃ pv : Int, t'.get b10 = some (.row [.int .i64 pv] true) ∧ ∀ j x, n ≤ j → L[j]? = some x → pv < (x.1.size : Int)) ⟨hKt2, hrq, -1, hKA.blk g10, fun j x _ _ => by omega⟩ (fun n t' hJ => hJ.2.1) (fun n y t' t3 hJ hy hKt => ?_) (fun t' hJ => ?_)
    · obtain ⟨hK', hr', pv, gp, hpv⟩ := hJ
      have hset : ∀ a c, setPs e0 [84, 85] [a, c] = pE (pE e0 (some 84) a) (some 85) c := fun a c => by unfold pE; rfl
      rw [hset]
      have hK3 := hK'.trans hKt
      have hS3 := hS.keep hK3
      have gp3 := hKt.blk gp
      obtain ⟨d10, d10t⟩ := row1_lod gp3
      obtain ⟨d4, d4t⟩ := row1_lod hS3.g4
      obtain ⟨d5, d5t⟩ := row1_lod hS3.g5
      obtain ⟨w0, v1, v2, v3, v4, v5⟩ := hS.vals y (List.mem_of_getElem? hy)
      have lf := lookN_v hS3.gf (y.1.size : Int) (.str ⟨#[]⟩)
      rw [hS.fst _ _ v3] at lf
      have lc := lookN_v hS3.gc (y.1.size : Int) (.int .i64 0)
      rw [hS.cnt] at lc
      have hlw := lenV_read v1.read
      rw [v2] at hlw
      have z1 := eq_false (show ¬ (y.1.size : Int) ≤ pv by have := hpv n y (Nat.le_refl _) hy; omega)
      have zcc : ((cntS l y.1.size : Int) = (cntS l y.1.size : Int)) = True := eq_self _
      have st3 := row1_sto gp3 (x := .int .i64 (y.1.size : Int)) ⟨rfl, rfl⟩
      have lt3 := St.get_lt gp3
      simp (config := {contextual := true, maxDischargeDepth := 12, maxSteps := 4000000}) only [tb_at, he0, x2, x3, x4, x5, x10, d10, d10t, d4, d4t, d5, d5t, lf, lc, hlw, z1, zcc, st3, lt3, notV_bool, Bool.not_true, Bool.not_false, pickV_t, pickV_f, bin_eql, bin_neq, bin_neb, bin_npn, bin_np, bin_npnx, gcall_tt, gpure_tf, beq_self_eq_true, Bool.true_and, Bool.and_true, decide_true, decide_false, ↓bD, bU, forall_const, bS, implies_true, isNx, eq_self, ↓wp_cond, ↓wp_loop, ↓reduceIte, reduceCtorEq, Nat.reduceEqDiff, Nat.reduceLT, Nat.reduceAdd, Nat.reduceMul, bT, ↓sg_bsl, ↓st_callf, bX, ap_mkfn, ap_conv, ↓wi_seq, ↓wi_base, ↓wi_block, ↓wi_cond, ↓wi_loop, ↓wi_rf, ↓wy_seq, ↓wy_base, ↓wy_block, ↓wy_cond, ↓wy_loop, ↓wy_yld, ae_callvV, callvV_fn, List.append_nil, List.cons_append, List.nil_append, bin_nff, bin_nfn, bin_nffx, bin_nfnx, bin_streq, bin_bo_same, lstep_some, ↓st_load1nf, ↓st_loadnf, ↓st_appr, ↓st_appf0, bin_nfls, ap_lens, lensV_str, ↓sg_callf3, gcall_ff, gpure_ff0, q_known, res_cell1, bin_strnes, ar_lenm, ae_mkmap0]
      refine ⟨hK3.put _ (by omega) lt3, (hr'.mono fun _ _ => hKt.blk).putb gp3 _, (y.1.size : Int), St.get_put_same gp3, fun j x hj hx => ?_⟩
      have := hS.srt.lt hy hx (by omega)
      omega
    · obtain ⟨hK', hr', pv, gp, hpv⟩ := hJ
      have hS3 := hS.keep hK'
      have qL := q_LenT false hS3.mp
      obtain ⟨d5, d5t⟩ := row1_lod hS3.g5
      have lm := lenmN hS3.gc
      rw [hS.len] at lm
      have zll : ((L.length : Int) = (L.length : Int)) = True := eq_self _
      have st2 := row1_sto hS3.g2 (x := .bool true) ⟨rfl, rfl⟩
      have lt2 := St.get_lt hS3.g2
      have r2 := (row1_lod (St.get_put_same (b := .row [.bool true] true) hS3.g2)).1
      have hKf := (hK.trans hK').put (id := b2) (.row [.bool true] true) (by omega) lt2
      simp (config := {contextual := true, maxDischargeDepth := 12, maxSteps := 4000000}) only [tb_at, he0, x2, x3, x4, x5, x10, qL, d5, d5t, lm, zll, st2, lt2, r2, notV_bool, Bool.not_true, Bool.not_false, pickV_t, pickV_f, bin_eql, bin_neq, bin_neb, bin_npn, bin_np, bin_npnx, gcall_tt, gpure_tf, beq_self_eq_true, Bool.true_and, Bool.and_true, decide_true, decide_false, ↓bD, bU, forall_const, bS, implies_true, isNx, eq_self, ↓wp_cond, ↓wp_loop, ↓reduceIte, reduceCtorEq, Nat.reduceEqDiff, Nat.reduceLT, Nat.reduceAdd, Nat.reduceMul, bT, ↓sg_bsl, ↓st_callf, bX, ap_mkfn, ap_conv, ↓wi_seq, ↓wi_base, ↓wi_block, ↓wi_cond, ↓wi_loop, ↓wi_rf, ↓wy_seq, ↓wy_base, ↓wy_block, ↓wy_cond, ↓wy_loop, ↓wy_yld, ae_callvV, callvV_fn, List.append_nil, List.cons_append, List.nil_append, bin_nff, bin_nfn, bin_nffx, bin_nfnx, bin_streq, bin_bo_same, lstep_some, ↓st_load1nf, ↓st_loadnf, ↓st_appr, ↓st_appf0, bin_nfls, ap_lens, lensV_str, ↓sg_callf3, gcall_ff, gpure_ff0, q_known, res_cell1, bin_strnes, ar_lenm, ae_mkmap0]
      all_goals first | exact hKf | skip

end Go.AM
end
