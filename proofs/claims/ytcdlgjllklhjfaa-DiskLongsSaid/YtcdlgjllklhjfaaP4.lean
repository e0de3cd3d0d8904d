/-
  What DiskHolds needs besides: new disks are new, numbers. Own work of this project; in part printed by a program of it.
-/
import Derived.Test.YtcdlgjllklhjfaaP3
set_option linter.unusedVariables false
set_option linter.unusedSimpArgs false
section
set_option maxRecDepth 100000
set_option maxHeartbeats 8000000
namespace Go.AM
open Go Go.Proofs

variable {s t u : St}

theorem ap_conv {env : Env} (k : IntKind) (x : AO) : apure env (.conv k x) = (match aev env x with
    | .int _ n => some (.int k (k.wrap n))
    | _ => none) := nrfl rfl
theorem bin_remN {a b : Nat} (hb : 0 < b) : binOp .rem .no (.int .i64 (a : Int)) (.int .i64 (b : Int)) = some (.int .i64 ((a % b : Nat) : Int)) := by
  have h0 : ¬ ((b : Int) = 0) := by omega
  have e : (a : Int).tmod (b : Int) = ((a % b : Nat) : Int) := by rw [Int.tmod_eq_emod_of_nonneg (by omega)]; rfl
  show (if (b : Int) = 0 then none else some (AV.int .i64 ((a : Int).tmod (b : Int)))) = _
  rw [if_neg h0, e]
theorem w_NewF_ok {s : St} (a b : Nat) (h : 1 ≤ a ∧ a ≤ 4096 ∧ 32 ≤ b ∧ b ≤ 4096) (hfit : a * b ≤ 1048576) : ∀ env : Env, elen env = a8.ntmps → (∀ i x_, [.int .i64 (a : Int), .int .i64 (b : Int)][i]? = some x_ → E env i = x_) → awp (tb []) a8.body (fun x e t => (∀ i, x ≠ .exit i) ∧ ∃ r, aresults e t a8.results = some r ∧ (∃ id j, r = .tup [.ptr id 0, .int .i64 0] ∧ DkR t id j (some (a * b)) b (List.replicate (a * b) 0) ∧ s.next ≤ id ∧ s.next ≤ j) ∧ Keep s t) env s := by
  intro env hlen ha
  have h0 : E env 0 = _ := ha 0 _ rfl
  have h1 : E env 1 = _ := ha 1 _ rfl
  have hlen : elen env = _ := hlen
  simp only [a8] at hlen
  unfold a8
  try dsimp only [oO, oG]
  have z1 := eq_false (show ¬ (a : Int) < 1 by omega)
  have z2 := eq_false (show ¬ 4096 < (a : Int) by omega)
  have z3 := eq_false (show ¬ (b : Int) < 32 by omega)
  have z4 := eq_false (show ¬ 4096 < (b : Int) by omega)
  have hab : a * b ≤ 4096 * 4096 := Nat.mul_le_mul (by omega) (by omega)
  have hm : IntKind.i64.wrap ((a : Int) * (b : Int)) = ((a * b : Nat) : Int) := by
    rw [← Int.natCast_mul]
    exact wrapI (by omega) (by omega)
  have z5 := eq_false (show ¬ (1048576 : Int) < ((a * b : Nat) : Int) by omega)
  have hmk := mkslB (n := a * b) (by omega)
  obtain ⟨n, hn⟩ : ∃ n, n = a * b := ⟨_, rfl⟩
  rw [← hn] at hmk hm z5 hab hfit
  have f0 := fstep_bw0 (x := .int .i64 (b : Int)) ⟨rfl, rfl⟩ (.int .i64 0) .nils
  have f1 := fstep_bw1 (x := .sl s.next 0 n (some n) 1) ⟨rfl, rfl⟩ (.int .i64 (b : Int)) .nils
  have hbx : boxV 2 (.agg [.int .i64 (b : Int), .sl s.next 0 n (some n) 1]) = some (fun id => .ptr id 0, .row [.int .i64 (b : Int), .sl s.next 0 n (some n) 1] true) := boxV_2 rfl rfl
  have hD : DkR ((s.push (.row (byC.cells (List.replicate n 0)) true)).push (.row [.int .i64 (b : Int), .sl s.next 0 n (some n) 1] true)) (s.push (.row (byC.cells (List.replicate n 0)) true)).next s.next (some n) b (List.replicate n 0) := ⟨by rw [List.length_replicate]; exact St.get_push_new _ _, get_push_some _ (St.get_push_new s _), fun c hc => by injection hc with hc; rw [List.length_replicate]; exact hc.symm, by omega, by rw [List.length_replicate]; omega⟩
  simp (config := {contextual := true, maxDischargeDepth := 12}) only [tb_at, h0, h1, hlen, z1, z2, z3, z4, hm, z5, aa_mksl, hmk, ap_build, fillP_nil, fillP_cons, f0, f1, hbx, ↓bD, bU, forall_const, bS, implies_true, isNx, eq_self, ↓wp_cond, ↓wp_loop, ↓reduceIte, reduceCtorEq, Nat.reduceEqDiff, Nat.reduceLT, Nat.reduceAdd, Nat.reduceMul, bT, ↓sg_bsl, ↓st_callf, bX, ar_b2s, bin_mulE, ap_mkfn, ↓wi_seq, ↓wi_base, ↓wi_block, ↓wi_cond, ↓wi_loop, ↓wi_rf, ↓wy_seq, ↓wy_base, ↓wy_block, ↓wy_cond, ↓wy_loop, ↓wy_yld, q_known, ↓sg_callf3]
  rw [← hn]
  first | exact ⟨_, rfl, ⟨_, _, rfl, hD, by simp, Nat.le_refl _⟩, ((Keep.refl s).push _).push _⟩ | exact ⟨_, rfl, _, _, rfl, hD, by simp, Nat.le_refl _⟩
theorem q_NewF_ok {s : St} (a b : Nat) (h : 1 ≤ a ∧ a ≤ 4096 ∧ 32 ≤ b ∧ b ≤ 4096) (hfit : a * b ≤ 1048576) : ∃ id j t, acall R_New false [.int .i64 (a : Int), .int .i64 (b : Int)] s = some (.tup [.ptr id 0, .int .i64 0], t) ∧ DkR t id j (some (a * b)) b (List.replicate (a * b) 0) ∧ s.next ≤ id ∧ s.next ≤ j ∧ Keep s t := by
  obtain ⟨r, t, h1, ⟨id, j, rfl, h2, h4, h5⟩, h3⟩ := run_any (s := s) n_New (args := [.int .i64 (a : Int), .int .i64 (b : Int)]) (Q := fun r t => ∃ id j, r = .tup [.ptr id 0, .int .i64 0] ∧ DkR t id j (some (a * b)) b (List.replicate (a * b) 0) ∧ s.next ≤ id ∧ s.next ≤ j) (by simp [a8]) (fun r t t' hg hn ⟨id, j, e, h, k1, k2⟩ => ⟨id, j, e, ⟨by rw [hg]; exact h.box, by rw [hg]; exact h.dat, h.hcap, h.pos, h.len⟩, k1, k2⟩) (fun r t hgr hk ⟨id, j, e, h, _⟩ => by
    rw [e] at hgr
    simp [AV.ground, AV.plains, AV.plain] at hgr) (w_NewF_ok (s := lowd s) a b h hfit)
  exact ⟨id, j, t, h1, h2, h4, h5, h3⟩

end Go.AM
end
/-
  DiskHolds. Own work of this project; in part printed by a program of it.
-/
section
set_option maxRecDepth 100000
set_option maxHeartbeats 8000000
namespace Go.AM
open Go Go.Proofs

variable {s t u : St}

theorem DkR.chg {id j j' z : Nat} {cap : Option Nat} {l : List UInt8} (h : DkR t id j cap z l) (q : Chg [j'] t u) (h1 : id ≠ j') (h2 : j ≠ j') : DkR u id j cap z l := ⟨q.blk h.box (by simpa using h1), q.blk h.dat (by simpa using h2), h.hcap, h.pos, h.len⟩
theorem NewB.cap {v : AV} {l : List UInt8} (h : NewB s t v l) : CapB v := by
  rcases h with ⟨rfl, _⟩ | ⟨j, cap, rfl, _, _, hc⟩
  · exact CapB.nils
  · intro id off n c z e
    injection e with _ _ e1 e2
    have := hc c e2
    omega
end Go.AM
end
/-
  Cutting a walk in parts: behind the first part an own statement about registers and memory. Own work of this project.
-/
section
set_option maxRecDepth 100000
namespace Go.AM
open Go

end Go.AM
end
/-
  The reference's disk, of which blocks are written. Own work of this project; in part printed by a program of it.
-/
section
set_option maxRecDepth 100000
set_option maxHeartbeats 8000000
namespace Go.AM
open Go Go.Proofs

variable {s t u : St}
/-- Block writes that lie apart from some blocks. -/
def BwM (M : List Nat) (s : St) (v : AV) (L : List (Int × List UInt8)) : Prop := (v = .nils ∧ L = []) ∨ ∃ id off cap, v = .sl id off L.length cap 2 ∧ (∀ c, cap = some c → L.length ≤ c) ∧ ∀ (i : Nat) (x : Int × List UInt8), L[i]? = some x → ∃ st, CapB st ∧ ∀ t, Chg M s t → lod t 2 (.ptr id (off + i * 2)) = some (.agg [.int .i64 x.1, st]) ∧ lod1 t (.ptr id (off + i * 2)) = some (.int .i64 x.1) ∧ lod1 t (.ptr id (off + i * 2 + 1)) = some st ∧ ltN id t ∧ AM.read byC t st = some x.2
theorem BwM.len {M : List Nat} {v : AV} {L : List (Int × List UInt8)} (h : BwM M s v L) : lenV v = some (.int .i64 (L.length : Int)) := by
  rcases h with ⟨rfl, rfl⟩ | ⟨id, off, cap, rfl, _⟩ <;> rfl
theorem BwM.at {M : List Nat} {i : Nat} {v : AV} {L : List (Int × List UInt8)} {x : Int × List UInt8} (h : BwM M s v L) (hx : L[i]? = some x) : ∃ st id o, (iadV 2 v (.int .i64 (i : Int)) = some (.ptr id o) ∧ CapB st) ∧ ∀ t, Chg M s t → lod t 2 (.ptr id o) = some (.agg [.int .i64 x.1, st]) ∧ lod1 t (.ptr id o) = some (.int .i64 x.1) ∧ lod1 t (.ptr id (o + 1)) = some st ∧ ltN id t ∧ AM.read byC t st = some x.2 := by
  rcases h with ⟨_, rfl⟩ | ⟨id, off, cap, rfl, _, h⟩
  · simp at hx
  · obtain ⟨st, hcb, h2⟩ := h i x hx
    exact ⟨st, id, off + i * 2, ⟨iadV_nat (getlt hx), hcb⟩, h2⟩
theorem BwM.chg {M : List Nat} {v : AV} {L : List (Int × List UInt8)} (h : BwM M s v L) (k : Chg M s u) : BwM M u v L := h.imp (fun q => q) fun ⟨id, off, cap, e, hc, h⟩ => ⟨id, off, cap, e, hc, fun i x hx => by
  obtain ⟨st, hcb, h2⟩ := h i x hx
  exact ⟨st, hcb, fun t q => h2 t (k.trans q fun id hid => .inl hid)⟩⟩
theorem BwM.low {M : List Nat} {v : AV} {L : List (Int × List UInt8)} (h : BwM M s v L) : BwM M (lowd s) v L := h.chg ((keep_low s).chg _)
/-- The first ones. -/
theorem BwM.take {M : List Nat} {a : Nat} {v : AV} {L : List (Int × List UInt8)} (h : BwM M s v L) (ha : a ≤ L.length) : ∃ v', slcV 2 v none (some (.int .i64 (a : Int))) = some v' ∧ BwM M s v' (L.take a) := by
  rcases h with ⟨rfl, rfl⟩ | ⟨id, off, cap, rfl, hc, h⟩
  · obtain rfl : a = 0 := by simpa using ha
    exact ⟨.nils, by simp [slcV, optNat, asNatIn], .inl ⟨rfl, rfl⟩⟩
  · have hl : (L.take a).length = a := by rw [List.length_take]; omega
    cases cap with
    | none => exact ⟨.sl id off a none 2, by simp [slcV, optNat, asNatIn, ha], .inr ⟨id, off, none, by rw [hl], (fun c q => by cases q), fun i x hx => h i x (by
        have := getlt hx
        rw [hl] at this
        rwa [List.getElem?_take_of_lt this] at hx)⟩⟩
    | some c =>
      have hc := hc c rfl
      have hac : a ≤ c := by omega
      exact ⟨.sl id off a (some c) 2, by simp [slcV, optNat, asNatIn, hac], .inr ⟨id, off, some c, by rw [hl], fun c' q => by injection q with q; omega, fun i x hx => h i x (by
        have := getlt hx
        rw [hl] at this
        rwa [List.getElem?_take_of_lt this] at hx)⟩⟩
/-- One of them. -/
theorem BwM.one {M : List Nat} {i : Nat} {v : AV} {L : List (Int × List UInt8)} {x : Int × List UInt8} (h : BwM M s v L) (hx : L[i]? = some x) : ∃ v', slcV 2 v (some (.int .i64 (i : Int))) (some (.int .i64 ((i + 1 : Nat) : Int))) = some v' ∧ BwM M s v' [x] := by
  have hi := getlt hx
  rcases h with ⟨_, rfl⟩ | ⟨id, off, cap, rfl, hc, h⟩
  · simp at hx
  · obtain ⟨st, hcb, h2⟩ := h i x hx
    have key : ∀ cap', (∀ c, cap' = some c → 1 ≤ c) → BwM M s (.sl id (off + i * 2) 1 cap' 2) [x] := fun cap' hc' => .inr ⟨id, off + i * 2, cap', rfl, hc', fun k y hy => by
      have : k = 0 := by have := getlt hy; simpa using this
      subst this
      injection hy with hy
      subst hy
      exact ⟨st, hcb, fun t q => by rw [Nat.zero_mul, Nat.add_zero]; exact h2 t q⟩⟩
    have n1 := asNat_ok (show i ≤ i + 1 by omega)
    cases cap with
    | none =>
      have n2 := asNat_ok (show i + 1 ≤ L.length by omega)
      refine ⟨.sl id (off + i * 2) 1 none 2, ?_, key none fun c q => by cases q⟩
      simp only [slcV, optNat, n1, n2, if_true, show i + 1 - i = 1 by omega]
    | some c =>
      have hc := hc c rfl
      have n2 := asNat_ok (show i + 1 ≤ c by omega)
      refine ⟨.sl id (off + i * 2) 1 (some (c - i)) 2, ?_, key _ fun c' q => by injection q with q; omega⟩
      simp only [slcV, optNat, n1, n2, if_true, show i + 1 - i = 1 by omega]

theorem BwM.jay {j : Nat} {v : AV} {L : List (Int × List UInt8)} (h : BwM [j] s v L) : BwJ j s v L := h
theorem BwM.mono {M M' : List Nat} {v : AV} {L : List (Int × List UInt8)} (h : BwM M s v L) (hM : ∀ id ∈ M', id ∈ M) : BwM M' s v L := h.imp (fun q => q) fun ⟨id, off, cap, e, hc, h⟩ => ⟨id, off, cap, e, hc, fun i x hx => by
  obtain ⟨st, hcb, h2⟩ := h i x hx
  exact ⟨st, hcb, fun t q => h2 t (q.mono hM)⟩⟩
theorem by_lods {v : AV} {l : List UInt8} (h : AM.read byC s v = some l) {i : Nat} {b : UInt8} (hi : l[i]? = some b) : iadV 1 v (.int .i64 (i : Int)) = some (.ptr (bid v) (boff v + i)) ∧ lod1 s (.ptr (bid v) (boff v + i)) = some (.int .u8 (b.toNat : Int)) ∧ ltN (bid v) s := by
  have h1 := read_idx h hi .i64
  rw [byC_sz, Nat.mul_one] at h1
  have hl := read_lt h (Keep.refl s) hi
  refine ⟨h1, ?_, hl⟩
  cases v with
  | nils => simp [AM.read] at h; subst h; simp at hi
  | sl id off n cap z =>
    obtain ⟨rfl, rfl, cs, own, hg, _, _, h5⟩ := read_sl h
    obtain ⟨k1, k2⟩ := h5 i b hi 0 1 (Nat.le_refl 1)
    rw [byC_sz, Nat.mul_one, Nat.add_zero] at k1 k2
    show lod1 s (.ptr id (off + i)) = _
    simp only [lod1, hg]
    have e := congrArg (fun l => l[0]?) k2
    simpa [show byC.enc b = [AV.int .u8 (b.toNat : Int)] from rfl] using e
  | _ => simp [AM.read] at h
def slId : AV → Nat
  | .sl q _ _ _ _ => q
  | _ => 0
def NkX (s t : St) (id : Nat) (lv : AV) (vs : List AV) (z i : Nat) : Prop := NkR s t id lv vs z i ∧ (vs.map slId).Nodup ∧ ∀ v ∈ vs, s.next ≤ slId v
theorem NkX.next {id z i : Nat} {lv lv' : AV} {vs : List AV} (h : NkX s t id lv vs z i) (hK : Keep s t) {t' : St} (h' : NkR s t' id lv' (vs ++ [.sl t.next 0 z (some z) 1]) z (i + 1)) : NkX s t' id lv' (vs ++ [.sl t.next 0 z (some z) 1]) z (i + 1) := by
  refine ⟨h', ?_, fun v hv => ?_⟩
  · rw [List.map_append, List.nodup_append]
    refine ⟨h.2.1, by simp, fun a ha b hb => ?_⟩
    obtain ⟨v, hv, rfl⟩ := List.mem_map.1 ha
    obtain ⟨q, rfl, hg⟩ := h.1.row v hv
    simp at hb
    subst hb
    have := St.get_lt hg
    show q ≠ t.next
    omega
  · rcases List.mem_append.1 hv with hv | hv
    · exact h.2.2 v hv
    · simp at hv
      subst hv
      exact hK.next
structure XkR (s t : St) (ix jx : Nat) (qs : List Nat) (z : Nat) (ls : List (List UInt8)) : Prop where
  box : t.get ix = some (.row [.int .i64 (z : Int), .sl jx 0 qs.length none 1] true)
  lst : t.get jx = some (.row (qs.map fun q => AV.sl q 0 z (some z) 1) true)
  len : qs.length = ls.length
  nd : qs.Nodup
  row : ∀ (i q : Nat), qs[i]? = some q → ∃ l, ls[i]? = some l ∧ l.length = z ∧ t.get q = some (.row (byC.cells l) true)
  pos : 0 < z
  z4 : z ≤ 4096
  hix : s.next ≤ ix
  hjx : s.next ≤ jx
  hqs : ∀ q ∈ qs, s.next ≤ q
theorem XkR.keep {ix jx z : Nat} {qs : List Nat} {ls : List (List UInt8)} (h : XkR s t ix jx qs z ls) (hK : Keep t u) : XkR s u ix jx qs z ls := ⟨hK.blk h.box, hK.blk h.lst, h.len, h.nd, fun i q hq => by
  obtain ⟨l, h1, h2, h3⟩ := h.row i q hq
  exact ⟨l, h1, h2, hK.blk h3⟩, h.pos, h.z4, h.hix, h.hjx, h.hqs⟩
theorem XkR.of {s0 : St} {ix jx z : Nat} {qs : List Nat} {ls : List (List UInt8)} (h : XkR s t ix jx qs z ls) (hs : s0.next ≤ s.next) : XkR s0 t ix jx qs z ls := ⟨h.box, h.lst, h.len, h.nd, h.row, h.pos, h.z4, Nat.le_trans hs h.hix, Nat.le_trans hs h.hjx, fun q hq => Nat.le_trans hs (h.hqs q hq)⟩
theorem XkR.low {s0 : St} {ix jx z : Nat} {qs : List Nat} {ls : List (List UInt8)} (h : XkR s0 s ix jx qs z ls) : XkR s0 (lowd s) ix jx qs z ls := h.keep (keep_low s)
theorem XkR.chg {M : List Nat} {ix jx z : Nat} {qs : List Nat} {ls : List (List UInt8)} (h : XkR s t ix jx qs z ls) (hC : Chg M t u) (h1 : ix ∉ M) (h2 : jx ∉ M) (h3 : ∀ q ∈ qs, q ∉ M) : XkR s u ix jx qs z ls := ⟨hC.blk h.box h1, hC.blk h.lst h2, h.len, h.nd, fun i q hq => by
  obtain ⟨l, k1, k2, k3⟩ := h.row i q hq
  exact ⟨l, k1, k2, hC.blk k3 (h3 q (List.mem_of_getElem? hq))⟩, h.pos, h.z4, h.hix, h.hjx, h.hqs⟩
theorem cells_hd {l : List UInt8} {z : Nat} (hl : l.length = z) (hz : 0 < z) : ∃ b r, byC.cells l = AV.int .u8 b :: r := by
  cases l with
  | nil => simp at hl; omega
  | cons b r => exact ⟨_, _, by rw [cells_cons]; rfl⟩
theorem XkR.mem {ix jx z q : Nat} {qs : List Nat} {ls : List (List UInt8)} (h : XkR s t ix jx qs z ls) (hq : q ∈ qs) : ∃ b r, t.get q = some (.row (AV.int .u8 b :: r) true) := by
  obtain ⟨i, hi⟩ := List.mem_iff_getElem?.1 hq
  obtain ⟨l, h1, h2, h3⟩ := h.row i q hi
  obtain ⟨b, r, e⟩ := cells_hd h2 h.pos
  exact ⟨b, r, by rw [h3, e]⟩
theorem XkR.nix {ix jx z : Nat} {qs : List Nat} {ls : List (List UInt8)} (h : XkR s t ix jx qs z ls) : ix ∉ qs := fun hq => by
  obtain ⟨b, r, e⟩ := h.mem hq
  rw [h.box] at e
  injection e with e
  injection e with e _
  injection e with e _
  cases e
theorem XkR.njx {ix jx z : Nat} {qs : List Nat} {ls : List (List UInt8)} (h : XkR s t ix jx qs z ls) : jx ∉ qs := fun hq => by
  obtain ⟨b, r, e⟩ := h.mem hq
  rw [h.lst] at e
  injection e with e
  injection e with e _
  cases qs with
  | nil => simp at hq
  | cons a l =>
    injection e with e _
    cases e
theorem XkR.put {ix jx z b q : Nat} {qs : List Nat} {ls : List (List UInt8)} {l' : List UInt8} (h : XkR s t ix jx qs z ls) (hq : qs[b]? = some q) (hl : l'.length = z) : XkR s (t.put q (.row (byC.cells l') true)) ix jx qs z (ls.set b l') := by
  have hm := List.mem_of_getElem? hq
  obtain ⟨l0, k1, k2, k3⟩ := h.row b q hq
  have hlt := St.get_lt k3
  have hbl := getlt k1
  refine ⟨?_, ?_, by simp [h.len], h.nd, fun i q' hq' => ?_, h.pos, h.z4, h.hix, h.hjx, h.hqs⟩
  · rw [St.get_put_ne _ _ hlt fun e => h.nix (by rw [e]; exact hm)]
    exact h.box
  · rw [St.get_put_ne _ _ hlt fun e => h.njx (by rw [e]; exact hm)]
    exact h.lst
  · by_cases hi : i = b
    · subst hi
      rw [hq] at hq'; injection hq' with hq'; subst hq'
      exact ⟨l', by rw [List.getElem?_set_self hbl], hl, St.get_put_same k3⟩
    · obtain ⟨l, g1, g2, g3⟩ := h.row i q' hq'
      refine ⟨l, by rw [List.getElem?_set_ne (Ne.symm hi)]; exact g1, g2, ?_⟩
      rw [St.get_put_ne _ _ hlt fun e => ?_]
      · exact g3
      · subst e
        have := (List.getElem?_inj (getlt hq') h.nd).1 (hq'.trans hq.symm)
        exact hi this
theorem XkR.rkr {ix jx z : Nat} {qs : List Nat} {ls : List (List UInt8)} (h : XkR s t ix jx qs z ls) : RkR s t ix (.sl jx 0 qs.length none 1) (qs.map fun q => AV.sl q 0 z (some z) 1) z ls :=
  ⟨h.box, .inr ⟨jx, none, by simp, h.lst, h.hjx⟩, by simp [h.len], fun i v hv => by
    rw [List.getElem?_map] at hv
    obtain ⟨q, hq, rfl⟩ := Option.map_eq_some_iff.1 hv
    obtain ⟨l, h1, h2, h3⟩ := h.row i q hq
    refine ⟨l, h1, ?_⟩
    have := read_part (t := t) (j := q) (o := 0) (m := z) (cap := some z) (l := l) h3 (by omega)
    rw [← h2, List.drop_zero, List.take_length] at this
    rw [← h2]
    exact this⟩
theorem XkR.at {ix jx z i : Nat} {qs : List Nat} {ls : List (List UInt8)} {l : List UInt8} (h : XkR s t ix jx qs z ls) (hl : ls[i]? = some l) : ∃ q, qs[i]? = some q ∧ iadV 1 (.sl jx 0 qs.length none 1) (.int .i64 (i : Int)) = some (.ptr jx i) ∧ lod1 t (.ptr jx i) = some (.sl q 0 z (some z) 1) ∧ ltN jx t ∧ l.length = z ∧ t.get q = some (.row (byC.cells l) true) := by
  obtain ⟨q, hq⟩ := getsome (show i < qs.length by rw [h.len]; exact getlt hl)
  obtain ⟨l', h1, h2, h3⟩ := h.row i q hq
  rw [hl] at h1; injection h1 with h1; subst h1
  have hi : iadV 1 (.sl jx 0 qs.length none 1) (.int .i64 (i : Int)) = some (.ptr jx (0 + i * 1)) := iadV_nat (getlt hq)
  refine ⟨q, hq, by simpa using hi, ?_, St.get_lt h.lst, h2, h3⟩
  simp only [lod1, h.lst, List.getElem?_map, hq]
  rfl
theorem XkR.ofNk {id z i : Nat} {lv : AV} {vs : List AV} (h : NkX s t id lv vs z i) (hi : 0 < i) (hz : 0 < z) (hz4 : z ≤ 4096) (hid : s.next ≤ id) : ∃ jx qs, XkR s t id jx qs z (List.replicate i (List.replicate z 0)) := by
  obtain ⟨h1, h2, h3⟩ := h
  rcases h1.out with ⟨q, _⟩ | ⟨j, _, e, hg, hj⟩
  · omega
  have hv : vs = (vs.map slId).map fun q => AV.sl q 0 z (some z) 1 := by
    rw [List.map_map]
    conv => lhs; rw [← List.map_id vs]
    refine List.map_congr_left fun v hv => ?_
    obtain ⟨q, rfl, _⟩ := h1.row v hv
    rfl
  have hl := h1.len
  refine ⟨j, vs.map slId, by rw [List.length_map, hl, ← e]; exact h1.box, by rw [← hv]; exact hg, by simp [hl], h2, fun k q hq => ?_, hz, hz4, hid, hj, fun q hq => ?_⟩
  · rw [List.getElem?_map] at hq
    obtain ⟨v, hv, rfl⟩ := Option.map_eq_some_iff.1 hq
    obtain ⟨q, rfl, hg⟩ := h1.row v (List.mem_of_getElem? hv)
    have hk : k < i := by rw [← hl]; exact getlt hv
    exact ⟨List.replicate z 0, by rw [List.getElem?_replicate, if_pos hk], by simp, hg⟩
  · obtain ⟨v, hv, rfl⟩ := List.mem_map.1 hq
    exact h3 v hv
theorem w_RNewX {s : St} (a z : Nat) (ha : a ≤ 4096) (ha0 : 0 < a) (hz : 0 < z) (hz4 : z ≤ 4096) : ∀ env : Env, elen env = a12.ntmps → (∀ i x_, [.int .i64 (a : Int), .int .i64 (z : Int)][i]? = some x_ → E env i = x_) → awp (tb []) a12.body (fun x e t => (∀ i, x ≠ .exit i) ∧ ∃ r, aresults e t a12.results = some r ∧ (∃ jx qs, r = .ptr s.next 0 ∧ XkR s t s.next jx qs z (List.replicate a (List.replicate z 0))) ∧ Keep s t) env s := by
  intro env hlen ha
  have h0 : E env 0 = _ := ha 0 _ rfl
  have h1 : E env 1 = _ := ha 1 _ rfl
  have hlen : elen env = _ := hlen
  simp only [a12] at hlen
  unfold a12
  try dsimp only [oO, oG]
  have hbx : boxV 2 (.agg [.int .i64 (z : Int), .nils]) = some (fun id => .ptr id 0, .row [.int .i64 (z : Int), .nils] true) := rfl
  have f0 := fstep_bw0 (x := .int .i64 (z : Int)) ⟨rfl, rfl⟩ (.int .i64 0) .nils
  have hK1 : Keep s (s.push (.row [.int .i64 (z : Int), .nils] true)) := (Keep.refl s).push _
  simp (config := {contextual := true, maxDischargeDepth := 12}) only [tb_at, h0, h1, hlen, ap_build, fillP_nil, fillP_cons, f0, hbx, ↓bD, bU, forall_const, bS, implies_true, isNx, eq_self, ↓wp_cond, ↓wp_loop, ↓reduceIte, reduceCtorEq, Nat.reduceEqDiff, Nat.reduceLT, Nat.reduceAdd, Nat.reduceMul, bT, ↓sg_bsl, ↓st_callf, bX, ar_b2s, bin_mulE, ap_mkfn, ↓wi_seq, ↓wi_base, ↓wi_block, ↓wi_cond, ↓wi_loop, ↓wi_rf, ↓wy_seq, ↓wy_base, ↓wy_block, ↓wy_cond, ↓wy_loop, ↓wy_yld, q_known, ↓sg_callf3]
  obtain ⟨I, hI⟩ : ∃ I : Nat → Env → St → Prop, ∀ n e t, I n e t = (Keep s t ∧ ∃ (i : Nat) (lv : AV) (vs : List AV), n + i = a ∧ elen e = 27 ∧ E e 0 = .int .i64 (a : Int) ∧ E e 1 = .int .i64 (z : Int) ∧ E e 5 = .ptr s.next 0 ∧ E e 6 = .int .i64 (i : Int) ∧ NkX s t s.next lv vs z i) := ⟨fun n e t => (Keep s t ∧ ∃ (i : Nat) (lv : AV) (vs : List AV), n + i = a ∧ elen e = 27 ∧ E e 0 = .int .i64 (a : Int) ∧ E e 1 = .int .i64 (z : Int) ∧ E e 5 = .ptr s.next 0 ∧ E e 6 = .int .i64 (i : Int) ∧ NkX s t s.next lv vs z i), fun _ _ _ => rfl⟩
  refine lwp_inv I (n := a) ?_ ?_
  · rw [hI]
    exact ⟨hK1, 0, .nils, [], by omega, (by simp only [bE, Nat.reduceEqDiff, bN, Nat.reduceLT, hlen]; try rfl), (by simp only [bE, Nat.reduceEqDiff, bN, Nat.reduceLT, hlen, h0]; try rfl), (by simp only [bE, Nat.reduceEqDiff, bN, Nat.reduceLT, hlen, h1]; try rfl), (by simp only [bE, Nat.reduceEqDiff, bN, Nat.reduceLT, hlen]; try rfl), (by simp only [bE, Nat.reduceEqDiff, bN, Nat.reduceLT, hlen]; try rfl), ⟨⟨St.get_push_new s _, .inl ⟨rfl, rfl, rfl⟩, rfl, fun v hv => by simp at hv⟩, by simp, fun v hv => by simp at hv⟩⟩
  clear h0 h1 hlen
  intro n e t hi
  rw [hI] at hi
  obtain ⟨hK, i, lv, vs, hni, he, e0, e1, e5, e6, hN⟩ := hi
  by_cases hlt : i < a
  · have hw2 := wrap_add1 (n := i) (by omega)
    have z1 := eq_true (show (i : Int) < (a : Int) by omega)
    obtain ⟨lv', t', hap, hst, hltb, hN', hK'⟩ := hN.1.step hz (by omega) hK (Nat.le_refl _)
    have hNX := hN.next hK hN'
    have hKR := keep_reserve t 2
    obtain ⟨b0, b1, blt⟩ := row2_lod (hKR.blk hN.1.box)
    have hmk := mkslB (n := z) (by omega)
    have hbs : bslV [.nils] 1 1 [(0, .sl t.next 0 z (some z) 1)] = some (fun id => .sl id 0 1 (some 1) 1, .row [.sl t.next 0 z (some z) 1] true) := rfl
    have fs : ∀ K : List AV → Option (List AV), fstep [.nils] 0 1 (.sl t.next 0 z (some z) 1) K = K [.sl t.next 0 z (some z) 1] := fun K => by simp [fstep, AV.cells, AV.one, setAt]
    have rv := resv2 t
    have rv' := resv2' t
    have bo := born2 t
    simp (config := {contextual := true, maxDischargeDepth := 12}) only [tb_at, he, e0, e1, e5, e6, z1, hw2, b0, b1, blt, nchkV_ptr, aa_mksl, hmk, hbs, fs, rv, rv', bo, hap, hst, hltb, reserve0, ↓bD, bU, forall_const, bS, implies_true, isNx, eq_self, ↓wp_cond, ↓wp_loop, ↓reduceIte, reduceCtorEq, Nat.reduceEqDiff, Nat.reduceLT, Nat.reduceAdd, Nat.reduceMul, bT, ↓sg_bsl, ↓st_callf, bX, ar_b2s, bin_mulE, ap_mkfn, ↓wi_seq, ↓wi_base, ↓wi_block, ↓wi_cond, ↓wi_loop, ↓wi_rf, ↓wy_seq, ↓wy_base, ↓wy_block, ↓wy_cond, ↓wy_loop, ↓wy_yld, q_known, ↓sg_callf3]
    refine ⟨n - 1, by omega, ?_⟩
    rw [hI]
    exact ⟨hK', i + 1, lv', _, by omega, (by simp only [bE, Nat.reduceEqDiff, bN, Nat.reduceLT, he, e0, e1, e5, e6]; try rfl), (by simp only [bE, Nat.reduceEqDiff, bN, Nat.reduceLT, he, e0, e1, e5, e6]; try rfl), (by simp only [bE, Nat.reduceEqDiff, bN, Nat.reduceLT, he, e0, e1, e5, e6]; try rfl), (by simp only [bE, Nat.reduceEqDiff, bN, Nat.reduceLT, he, e0, e1, e5, e6]; try rfl), (by simp only [bE, Nat.reduceEqDiff, bN, Nat.reduceLT, he, e0, e1, e5, e6]; try rfl), hNX⟩
  · obtain rfl : i = a := by omega
    have z1 := eq_false (show ¬ (i : Int) < (i : Int) by omega)
    simp (config := {contextual := true, maxDischargeDepth := 12}) only [tb_at, he, e0, e1, e5, e6, z1, ↓bD, bU, forall_const, bS, implies_true, isNx, eq_self, ↓wp_cond, ↓wp_loop, ↓reduceIte, reduceCtorEq, Nat.reduceEqDiff, Nat.reduceLT, Nat.reduceAdd, Nat.reduceMul, bT, ↓sg_bsl, ↓st_callf, bX, ar_b2s, bin_mulE, ap_mkfn, ↓wi_seq, ↓wi_base, ↓wi_block, ↓wi_cond, ↓wi_loop, ↓wi_rf, ↓wy_seq, ↓wy_base, ↓wy_block, ↓wy_cond, ↓wy_loop, ↓wy_yld, q_known, ↓sg_callf3]
    obtain ⟨jx, qs, hX⟩ := XkR.ofNk hN ha0 hz hz4 (Nat.le_refl _)
    first | exact ⟨_, rfl, ⟨jx, qs, rfl, hX⟩, hK⟩ | exact ⟨_, rfl, jx, qs, rfl, hX⟩
theorem q_RNewX {s : St} (a z : Nat) (ha : a ≤ 4096) (ha0 : 0 < a) (hz : 0 < z) (hz4 : z ≤ 4096) : ∃ jx qs t, acall R_RNew false [.int .i64 (a : Int), .int .i64 (z : Int)] s = some (.ptr s.next 0, t) ∧ XkR s t s.next jx qs z (List.replicate a (List.replicate z 0)) ∧ Keep s t := by
  obtain ⟨r, t, h1, ⟨jx, qs, rfl, h2⟩, h3⟩ := run_any (s := s) n_RNew (args := [.int .i64 (a : Int), .int .i64 (z : Int)]) (Q := fun r t => ∃ jx qs, r = .ptr s.next 0 ∧ XkR (lowd s) t s.next jx qs z (List.replicate a (List.replicate z 0))) (by simp [a12]) (fun r t t' hg hn ⟨jx, qs, e, h⟩ => ⟨jx, qs, e, by rw [hg]; exact h.box, by rw [hg]; exact h.lst, h.len, h.nd, fun i q hq => by rw [hg]; exact h.row i q hq, h.pos, h.z4, h.hix, h.hjx, h.hqs⟩) (fun r t hgr hk ⟨jx, qs, e, h⟩ => by
    rw [e] at hgr
    simp [AV.ground, AV.plain] at hgr) (w_RNewX (s := lowd s) a z ha ha0 hz hz4)
  exact ⟨jx, qs, t, h1, ⟨h2.box, h2.lst, h2.len, h2.nd, h2.row, h2.pos, h2.z4, h2.hix, h2.hjx, h2.hqs⟩, h3⟩
noncomputable def R_Rput : Con := runFn (tb []) a34
theorem s_Rput : SoundAt Try.prog 34 R_Rput := run_sound (tb_sound (l := []) (by simp)) mixed Try.func34 k34 c34
theorem n_Rput : noNxtC a34.body = true := by kernel_rfl

theorem set_same {l d : List UInt8} {i : Nat} {x : UInt8} (hx : d[i]? = some x) (hi : i < l.length) : (d.take i ++ l.drop i).set i x = d.take (i + 1) ++ l.drop (i + 1) := by
  have hd := getlt hx
  have h1 : (d.take i).length = i := by rw [List.length_take]; omega
  rw [List.set_append_right _ _ (by omega), h1, Nat.sub_self, List.drop_eq_getElem_cons hi, List.set_cons_zero, List.take_add_one, hx]
  simp
theorem cells_set {l : List UInt8} {i : Nat} (hi : i < l.length) (b : UInt8) : setAt (byC.cells l) i [.int .u8 (b.toNat : Int)] = byC.cells (l.set i b) := by
  rw [byC_map, byC_map, List.map_set, List.set_eq_take_append_cons_drop, if_pos (by simpa using hi)]
  simp [setAt]
theorem set_id {α : Type} {l : List α} {i : Nat} {x : α} (h : l[i]? = some x) : l.set i x = l := by
  refine List.ext_getElem? fun k => ?_
  by_cases hk : k = i
  · subst hk
    rw [List.getElem?_set_self (getlt h), h]
  · rw [List.getElem?_set_ne (Ne.symm hk)]
theorem sto_by {q i : Nat} {l : List UInt8} (hg : t.get q = some (.row (byC.cells l) true)) (hi : i < l.length) (b : UInt8) : sto t 1 (.ptr q i) (.int .u8 (b.toNat : Int)) = some (.und, t.put q (.row (byC.cells (l.set i b)) true)) := by
  simp only [sto, hg]
  rw [if_pos ⟨rfl, rfl, by rw [cells_len, byC_sz]; omega⟩]
  show some (AV.und, t.put q (.row (setAt (byC.cells l) i [.int .u8 (b.toNat : Int)]) true)) = _
  rw [cells_set hi]
theorem w_Rput {s : St} {s0 : St} {ix jx z : Nat} {qs : List Nat} {ls : List (List UInt8)} (hx : XkR s0 s ix jx qs z ls) {b : Nat} {l : List UInt8} (hb : ls[b]? = some l) {st : AV} {d : List UInt8} (hst : ∀ t, Chg qs s t → AM.read byC t st = some d) {m : Nat} (hm : m ≤ d.length) (hmz : m ≤ z) : ∀ env : Env, elen env = a34.ntmps → (∀ i x_, [.ptr ix 0, .agg [.int .i64 (b : Int), st], .int .i64 (m : Int)][i]? = some x_ → E env i = x_) → awp (tb []) a34.body (fun x e t => (∀ i, x ≠ .exit i) ∧ ∃ r, aresults e t a34.results = some r ∧ (r = .tup [] ∧ XkR s0 t ix jx qs z (ls.set b (d.take m ++ l.drop m)) ∧ Chg qs s t ∧ (0 < m → ∃ q ∈ qs, t.low ≤ q))) env s := by
  intro env hlen ha
  have h0 : E env 0 = _ := ha 0 _ rfl
  have h1 : E env 1 = _ := ha 1 _ rfl
  have h2 : E env 2 = _ := ha 2 _ rfl
  have hlen : elen env = _ := hlen
  simp only [a34] at hlen
  unfold a34
  try dsimp only [oO, oG]
  have hso := read_oneB (hst s (Chg.refl _ _))
  have hbxv : boxV 2 (.agg [.int .i64 (b : Int), st]) = some (fun id => .ptr id 0, .row [.int .i64 (b : Int), st] true) := boxV_2 rfl hso.2
  have hK1 : Keep s (s.push (.row [.int .i64 (b : Int), st] true)) := (Keep.refl s).push _
  have hz4 := hx.z4
  have hX0 : XkR s0 (s.push (.row [.int .i64 (b : Int), st] true)) ix jx qs z (ls.set b (d.take 0 ++ l.drop 0)) := by
    rw [List.take_zero, List.nil_append, List.drop_zero, set_id hb]
    exact hx.keep hK1
  simp (config := {contextual := true, maxDischargeDepth := 12}) only [tb_at, h0, h1, h2, hlen, hbxv, ↓bD, bU, forall_const, bS, implies_true, isNx, eq_self, ↓wp_cond, ↓wp_loop, ↓reduceIte, reduceCtorEq, Nat.reduceEqDiff, Nat.reduceLT, Nat.reduceAdd, Nat.reduceMul, bT, ↓sg_bsl, ↓st_callf, bX, ar_b2s, bin_mulE, ap_mkfn, ↓wi_seq, ↓wi_base, ↓wi_block, ↓wi_cond, ↓wi_loop, ↓wi_rf, ↓wy_seq, ↓wy_base, ↓wy_block, ↓wy_cond, ↓wy_loop, ↓wy_yld, q_known, ↓sg_callf3]
  obtain ⟨I, hI⟩ : ∃ I : Nat → Env → St → Prop, ∀ n e t, I n e t = (Chg qs s t ∧ ∃ i : Nat, n + i = m ∧ elen e = 27 ∧ E e 0 = .ptr ix 0 ∧ E e 2 = .int .i64 (m : Int) ∧ E e 4 = .ptr s.next 0 ∧ E e 6 = .int .i64 (i : Int) ∧ XkR s0 t ix jx qs z (ls.set b (d.take i ++ l.drop i)) ∧ t.get s.next = some (.row [.int .i64 (b : Int), st] true) ∧ (0 < i → ∃ q ∈ qs, t.low ≤ q)) := ⟨fun n e t => (Chg qs s t ∧ ∃ i : Nat, n + i = m ∧ elen e = 27 ∧ E e 0 = .ptr ix 0 ∧ E e 2 = .int .i64 (m : Int) ∧ E e 4 = .ptr s.next 0 ∧ E e 6 = .int .i64 (i : Int) ∧ XkR s0 t ix jx qs z (ls.set b (d.take i ++ l.drop i)) ∧ t.get s.next = some (.row [.int .i64 (b : Int), st] true) ∧ (0 < i → ∃ q ∈ qs, t.low ≤ q)), fun _ _ _ => rfl⟩
  refine lwp_inv I (n := m) ?_ ?_
  · rw [hI]
    exact ⟨hK1.chg _, 0, by omega, (by simp only [bE, Nat.reduceEqDiff, bN, Nat.reduceLT, hlen]; try rfl), (by simp only [bE, Nat.reduceEqDiff, bN, Nat.reduceLT, hlen, h0]; try rfl), (by simp only [bE, Nat.reduceEqDiff, bN, Nat.reduceLT, hlen, h2]; try rfl), (by simp only [bE, Nat.reduceEqDiff, bN, Nat.reduceLT, hlen]; try rfl), (by simp only [bE, Nat.reduceEqDiff, bN, Nat.reduceLT, hlen]; try rfl), hX0, St.get_push_new s _, fun h => by omega⟩
  clear h0 h1 h2 hlen
  intro n e t hi
  rw [hI] at hi
  obtain ⟨hK, i, hni, he, e0, e2, e4, e6, hX, hbx, hlow⟩ := hi
  by_cases hlt : i < m
  · have hw2 := wrap_add1 (n := i) (by omega)
    have z1 := eq_true (show (i : Int) < (m : Int) by omega)
    have hbl := getlt hb
    obtain ⟨q, hq, i1, l1, lt1, hcl, hgq⟩ := hX.at (i := b) (l := d.take i ++ l.drop i) (List.getElem?_set_self hbl)
    obtain ⟨x, hx_⟩ := getsome (show i < d.length by omega)
    obtain ⟨a1, a2, alt⟩ := by_lods (hst t hK) hx_
    obtain ⟨c0, c1, clt⟩ := row2_lod hbx
    obtain ⟨b0, b1, blt⟩ := row2_lod hX.box
    have hi2 : iadV 1 (.sl q 0 z (some z) 1) (.int .i64 (i : Int)) = some (.ptr q (0 + i * 1)) := iadV_nat (by omega)
    rw [Nat.zero_add, Nat.mul_one] at hi2
    have hst2 := sto_by hgq (i := i) (by omega) x
    have hll : l.length = z := by
      rw [List.length_append, List.length_take, List.length_drop] at hcl
      omega
    rw [set_same hx_ (by omega)] at hst2
    have hX' := hX.put hq (l' := d.take (i + 1) ++ l.drop (i + 1)) (by rw [List.length_append, List.length_take, List.length_drop]; omega)
    rw [List.set_set] at hX'
    have hqlt := St.get_lt hgq
    have hqm := List.mem_of_getElem? hq
    have hK' := hK.put (.row (byC.cells (d.take (i + 1) ++ l.drop (i + 1))) true) (.inl hqm) hqlt
    have hne : s.next ≠ q := by
      have h1 := (hx.row b q hq)
      obtain ⟨_, _, _, h1⟩ := h1
      have := St.get_lt h1
      omega
    have hbx' : (t.put q (.row (byC.cells (d.take (i + 1) ++ l.drop (i + 1))) true)).get s.next = some (.row [.int .i64 (b : Int), st] true) := by rw [St.get_put_ne _ _ hqlt hne]; exact hbx
    have hlow' : ∃ q' ∈ qs, (t.put q (.row (byC.cells (d.take (i + 1) ++ l.drop (i + 1))) true)).low ≤ q' := ⟨q, hqm, Nat.min_le_right _ _⟩
    simp (config := {contextual := true, maxDischargeDepth := 12}) only [tb_at, he, e0, e2, e4, e6, z1, hw2, i1, l1, lt1, a1, a2, alt, b0, b1, blt, c0, c1, clt, nchkV_ptr, hi2, hst2, reserve0, ↓bD, bU, forall_const, bS, implies_true, isNx, eq_self, ↓wp_cond, ↓wp_loop, ↓reduceIte, reduceCtorEq, Nat.reduceEqDiff, Nat.reduceLT, Nat.reduceAdd, Nat.reduceMul, bT, ↓sg_bsl, ↓st_callf, bX, ar_b2s, bin_mulE, ap_mkfn, ↓wi_seq, ↓wi_base, ↓wi_block, ↓wi_cond, ↓wi_loop, ↓wi_rf, ↓wy_seq, ↓wy_base, ↓wy_block, ↓wy_cond, ↓wy_loop, ↓wy_yld, q_known, ↓sg_callf3]
    refine ⟨n - 1, by omega, ?_⟩
    rw [hI]
    exact ⟨hK', i + 1, by omega, (by simp only [bE, Nat.reduceEqDiff, bN, Nat.reduceLT, he, e0, e2, e4, e6]; try rfl), (by simp only [bE, Nat.reduceEqDiff, bN, Nat.reduceLT, he, e0, e2, e4, e6]; try rfl), (by simp only [bE, Nat.reduceEqDiff, bN, Nat.reduceLT, he, e0, e2, e4, e6]; try rfl), (by simp only [bE, Nat.reduceEqDiff, bN, Nat.reduceLT, he, e0, e2, e4, e6]; try rfl), (by simp only [bE, Nat.reduceEqDiff, bN, Nat.reduceLT, he, e0, e2, e4, e6]; try rfl), hX', hbx', fun _ => hlow'⟩
  · obtain rfl : i = m := by omega
    have z1 := eq_false (show ¬ (i : Int) < (i : Int) by omega)
    simp (config := {contextual := true, maxDischargeDepth := 12}) only [tb_at, he, e0, e2, e4, e6, z1, ↓bD, bU, forall_const, bS, implies_true, isNx, eq_self, ↓wp_cond, ↓wp_loop, ↓reduceIte, reduceCtorEq, Nat.reduceEqDiff, Nat.reduceLT, Nat.reduceAdd, Nat.reduceMul, bT, ↓sg_bsl, ↓st_callf, bX, ar_b2s, bin_mulE, ap_mkfn, ↓wi_seq, ↓wi_base, ↓wi_block, ↓wi_cond, ↓wi_loop, ↓wi_rf, ↓wy_seq, ↓wy_base, ↓wy_block, ↓wy_cond, ↓wy_loop, ↓wy_yld, q_known, ↓sg_callf3]
    first | exact ⟨_, rfl, rfl, hX, hK, hlow⟩ | exact ⟨hX, hK, hlow⟩
theorem q_Rput {s : St} {s0 : St} {ix jx z : Nat} {qs : List Nat} {ls : List (List UInt8)} (hx : XkR s0 s ix jx qs z ls) {b : Nat} {l : List UInt8} (hb : ls[b]? = some l) {st : AV} {d : List UInt8} (hst : ∀ t, Chg qs s t → AM.read byC t st = some d) {m : Nat} (hm : m ≤ d.length) (hmz : m ≤ z) : ∃ t, acall R_Rput false [.ptr ix 0, .agg [.int .i64 (b : Int), st], .int .i64 (m : Int)] s = some (.tup [], t) ∧ XkR s0 t ix jx qs z (ls.set b (d.take m ++ l.drop m)) ∧ Chg qs s t := by
  have hst' : ∀ t, Chg qs (lowd s) t → AM.read byC t st = some d := fun t q => hst t (((keep_low s).chg _).trans q fun id hid => .inl hid)
  obtain ⟨r, t, h1, rfl, h2, h3, h4⟩ := run_awp n_Rput (args := [.ptr ix 0, .agg [.int .i64 (b : Int), st], .int .i64 (m : Int)]) (by simp [a34]) (w_Rput (s := lowd s) hx.low hb hst' hm hmz)
  obtain ⟨t', g1, g2, _, g4⟩ := run_chg s_Rput h1 h3
  exact ⟨t', g1, ⟨by rw [g2 _ (St.get_lt hx.box)]; exact h2.box, by rw [g2 _ (St.get_lt hx.lst)]; exact h2.lst, h2.len, h2.nd, fun i q hq => by
    obtain ⟨_, _, _, k⟩ := hx.row i q hq
    rw [g2 _ (St.get_lt k)]
    exact h2.row i q hq, h2.pos, h2.z4, h2.hix, h2.hjx, h2.hqs⟩, g4⟩

end Go.AM
end
/-
  New lists of block writes; what the reference says of block writes, and does with them. Own work of this project; in part printed by a program of it.
-/
section
set_option maxRecDepth 100000
set_option maxHeartbeats 8000000
namespace Go.AM
open Go Go.Proofs

variable {s t u : St}

/-- A new list of rows of two cells. -/
def Raw2 (s t : St) (v : AV) (rows : List (AV × AV)) : Prop := (v = .nils ∧ rows = []) ∨ ∃ j, v = .sl j 0 rows.length none 2 ∧ rows ≠ [] ∧ s.next ≤ j ∧ t.get j = some (.row (rows.flatMap fun x => [x.1, x.2]) true)
theorem Raw2.mono {v : AV} {rows : List (AV × AV)} (h : Raw2 s t v rows) (k : ∀ id b, t.get id = some b → u.get id = some b) : Raw2 s u v rows :=
  h.imp (fun q => q) fun ⟨j, e, h0, h1, h2⟩ => ⟨j, e, h0, h1, k _ _ h2⟩
theorem flat2_len (rows : List (AV × AV)) : (rows.flatMap fun x => [x.1, x.2]).length = rows.length * 2 := by
  induction rows with
  | nil => rfl
  | cons x r ih => rw [List.flatMap_cons, List.length_append, ih]; simp; omega
theorem Raw2.app {v : AV} {rows : List (AV × AV)} {a b : AV} {p : Nat} (h : Raw2 s t v rows) (hp : t.get p = some (.row [a, b] true)) (hK : Keep s t) (hn : rows.length ≤ 4000000) :
    ∃ v' t', appV t 2 32 v (.sl p 0 1 (some 1) 2) = some (v', t') ∧ Raw2 s t' v' (rows ++ [(a, b)]) ∧ Keep s t' ∧ ∀ id bl, t.get id = some bl → (∀ c, v ≠ .sl id 0 rows.length c 2) → t'.get id = some bl := by
  have hs1 : shown t 2 (.sl p 0 1 (some 1) 2) = some [a, b] := by
    simp only [shown, hp, if_true]
    rfl
  have hs2 : lenOf (.sl p 0 1 (some 1) 2) = some 1 := rfl
  have hsn := hK.next
  simp only [appV, hs1, hs2]
  rcases h with ⟨rfl, rfl⟩ | ⟨j, rfl, h0, h1, h2⟩
  · simp only [aappend]
    rw [if_neg (by omega), if_pos (by unfold roomBytes; omega)]
    refine ⟨_, _, rfl, .inr ⟨_, rfl, by simp, hsn, ?_⟩, hK.push _, fun id bl hb _ => get_push_some _ hb⟩
    rw [St.get_push_new]
    rfl
  · have hlt := St.get_lt h2
    simp only [aappend, h2, if_true]
    rw [if_neg (by omega), if_pos ⟨by rw [flat2_len]; simp, by unfold roomBytes; omega⟩]
    refine ⟨_, _, rfl, .inr ⟨_, by rw [List.length_append]; rfl, by simp, hsn, ?_⟩, (hK.put .dead h1 hlt).push _, fun id bl hb hne => ?_⟩
    · refine (St.get_push_new (t.put j .dead) _).trans ?_
      rw [List.drop_zero, ← flat2_len, List.take_length, List.flatMap_append]
      rfl
    · refine get_push_some _ ?_
      have : id ≠ j := fun q => hne none (by rw [q])
      rw [St.get_put_ne _ _ hlt this]
      exact hb
/-- A new list of new block writes. -/
def OwB (s t : St) (v : AV) (L : List (Int × List UInt8)) (sts : List AV) : Prop := sts.length = L.length ∧ Raw2 s t v ((L.zip sts).map fun y => (.int .i64 y.1.1, y.2)) ∧ ∀ (i : Nat) (x : Int × List UInt8) (st : AV), L[i]? = some x → sts[i]? = some st → Own byC s t st x.2
theorem OwB.nil : OwB s t .nils [] [] := ⟨rfl, .inl ⟨rfl, rfl⟩, fun i x st h => by simp at h⟩
theorem OwB.mono {v : AV} {L : List (Int × List UInt8)} {sts : List AV} (h : OwB s t v L sts) (k : ∀ id b, t.get id = some b → u.get id = some b) : OwB s u v L sts := ⟨h.1, h.2.1.mono k, fun i x st h1 h2 => (h.2.2 i x st h1 h2).mono k⟩
theorem OwB.len {v : AV} {L : List (Int × List UInt8)} {sts : List AV} (h : OwB s t v L sts) : lenV v = some (.int .i64 (L.length : Int)) := by
  rcases h.2.1 with ⟨rfl, e⟩ | ⟨j, rfl, _⟩
  · have := congrArg List.length e
    rw [List.length_map, List.length_zip, h.1] at this
    simp at this
    rw [this]
    rfl
  · show some (AV.int .i64 _) = _
    rw [List.length_map, List.length_zip, h.1, Nat.min_self]
theorem OwB.app {v : AV} {L : List (Int × List UInt8)} {sts : List AV} {b : Int} {st : AV} {d : List UInt8} {p : Nat} (h : OwB s t v L sts) (hp : t.get p = some (.row [.int .i64 b, st] true)) (hO : Own byC s t st d) (hK : Keep s t) (hn : L.length ≤ 4000000) :
    ∃ v' t', appV t 2 32 v (.sl p 0 1 (some 1) 2) = some (v', t') ∧ OwB s t' v' (L ++ [(b, d)]) (sts ++ [st]) ∧ Keep s t' := by
  have hzl : ((L.zip sts).map fun y => (AV.int .i64 y.1.1, y.2)).length = L.length := by rw [List.length_map, List.length_zip, h.1, Nat.min_self]
  obtain ⟨v', t', e, hR, hK', hf⟩ := h.2.1.app hp hK (by rw [hzl]; exact hn)
  have hfo : ∀ st' d', Own byC s t st' d' → Own byC s t' st' d' := fun st' d' q => by
    rcases q with ⟨rfl, rfl⟩ | ⟨q, rfl, h0, h1, h2⟩
    · exact .nil _ _ _
    · refine .inr ⟨q, rfl, h0, h1, hf _ _ h2 fun c e => ?_⟩
      rcases h.2.1 with ⟨rfl, _⟩ | ⟨j, rfl, g0, _, g2⟩
      · cases e
      · injection e with e
        subst e
        rw [h2] at g2
        injection g2 with g2
        injection g2 with g2 _
        obtain ⟨b', r', e'⟩ := cells_hd (l := d') rfl (List.length_pos_iff.2 h0)
        cases hz : L.zip sts with
        | nil => rw [hz] at g0; exact g0 rfl
        | cons y r =>
          rw [hz, List.map_cons, List.flatMap_cons, e'] at g2
          injection g2 with g2 _
          cases g2
  refine ⟨v', t', e, ⟨by simp [h.1], ?_, fun i x st' h1 h2 => ?_⟩, hK'⟩
  · rw [List.zip_append h.1.symm, List.map_append]
    exact hR
  · by_cases hi : i < L.length
    · rw [List.getElem?_append_left hi] at h1
      rw [List.getElem?_append_left (by rw [h.1]; exact hi)] at h2
      exact hfo _ _ (h.2.2 i x st' h1 h2)
    · have hi2 := getlt h1
      rw [List.length_append, List.length_singleton] at hi2
      obtain rfl : i = L.length := by omega
      rw [List.getElem?_append_right (Nat.le_refl _), Nat.sub_self] at h1
      rw [List.getElem?_append_right (by rw [h.1]; exact Nat.le_refl _), h.1, Nat.sub_self] at h2
      simp at h1 h2
      subst h1 h2
      exact hfo _ _ hO
theorem flat2_at {rows : List (AV × AV)} {i : Nat} {x : AV × AV} (h : rows[i]? = some x) : (rows.flatMap fun x => [x.1, x.2])[i * 2]? = some x.1 ∧ (rows.flatMap fun x => [x.1, x.2])[i * 2 + 1]? = some x.2 := by
  induction rows generalizing i with
  | nil => simp at h
  | cons y r ih =>
    cases i with
    | zero => simp at h; subst h; exact ⟨rfl, rfl⟩
    | succ i =>
      rw [List.flatMap_cons]
      have e1 : (i + 1) * 2 = i * 2 + 1 + 1 := by omega
      rw [e1]
      exact ih (by simpa using h)
theorem OwB.row {v : AV} {L : List (Int × List UInt8)} {sts : List AV} (h : OwB s t v L sts) {i : Nat} {x : Int × List UInt8} {st : AV} (hx : L[i]? = some x) (hst : sts[i]? = some st) : ∃ j, v = .sl j 0 L.length none 2 ∧ s.next ≤ j ∧ Own byC s t st x.2 ∧ ∃ cs, t.get j = some (.row cs true) ∧ cs[i * 2]? = some (.int .i64 x.1) ∧ cs[i * 2 + 1]? = some st ∧ i * 2 + 2 ≤ cs.length := by
  have hi := getlt hx
  have hzl : ((L.zip sts).map fun y => (AV.int .i64 y.1.1, y.2)).length = L.length := by rw [List.length_map, List.length_zip, h.1, Nat.min_self]
  rcases h.2.1 with ⟨_, e⟩ | ⟨j, rfl, _, g1, g2⟩
  · rw [e] at hzl; simp at hzl; omega
  · have hz : ((L.zip sts).map fun y => (AV.int .i64 y.1.1, y.2))[i]? = some (.int .i64 x.1, st) := by
      rw [List.getElem?_map, show (L.zip sts)[i]? = some (x, st) by rw [List.getElem?_zip_eq_some]; exact ⟨hx, hst⟩]
      rfl
    obtain ⟨c0, c1⟩ := flat2_at hz
    exact ⟨j, by rw [hzl], g1, h.2.2 i x st hx hst, _, g2, c0, c1, by rw [flat2_len, hzl]; omega⟩
theorem Own.blkB {v : AV} {d : List UInt8} (h : Own byC s t v d) {M : List Nat} (hC : Chg M t u) (hM : ∀ id ∈ M, id < s.next ∨ t.next ≤ id) : Own byC s u v d := by
  rcases h with q | ⟨q, rfl, h0, h1, h2⟩
  · exact .inl q
  · refine .inr ⟨q, rfl, h0, h1, hC.blk h2 fun hm => ?_⟩
    have := St.get_lt h2
    rcases hM q hm with k | k <;> omega
theorem OwB.chg {v : AV} {L : List (Int × List UInt8)} {sts : List AV} (h : OwB s t v L sts) {M : List Nat} (hC : Chg M t u) (hM : ∀ id ∈ M, id < s.next ∨ t.next ≤ id) : OwB s u v L sts := by
  refine ⟨h.1, h.2.1.imp (fun q => q) fun ⟨j, e, h0, h1, h2⟩ => ⟨j, e, h0, h1, hC.blk h2 fun hm => ?_⟩, fun i x st h1 h2 => (h.2.2 i x st h1 h2).blkB hC hM⟩
  have := St.get_lt h2
  rcases hM j hm with k | k <;> omega
theorem OwB.bwm {v : AV} {L : List (Int × List UInt8)} {sts : List AV} (h : OwB s t v L sts) {M : List Nat} (hM : ∀ id ∈ M, id < s.next ∨ t.next ≤ id) : BwM M t v L := by
  by_cases hL : L = []
  · subst hL
    rcases h.2.1 with ⟨e, _⟩ | ⟨j, _, h0, _⟩
    · exact .inl ⟨e, rfl⟩
    · simp at h0
  · obtain ⟨x0, hx0⟩ := getsome (List.length_pos_iff.2 hL)
    obtain ⟨st0, hst0⟩ := getsome (show 0 < sts.length by rw [h.1]; exact List.length_pos_iff.2 hL)
    obtain ⟨j, rfl, hj, _⟩ := h.row hx0 hst0
    refine .inr ⟨j, 0, none, rfl, (fun c e => by cases e), fun i x hx => ?_⟩
    obtain ⟨st, hst⟩ := getsome (show i < sts.length by rw [h.1]; exact getlt hx)
    obtain ⟨j', e, _, hO, _⟩ := h.row hx hst
    refine ⟨st, ?_, fun u hC => ?_⟩
    · rcases hO with ⟨rfl, _⟩ | ⟨q, rfl, _⟩
      · exact CapB.nils
      · intro _ _ _ _ _ e
        injection e with _ _ _ e _
        cases e
    · obtain ⟨j2, e2, _, hO2, cs, hg, c0, c1, c2⟩ := (h.chg hC hM).row hx hst
      injection e2 with e2
      subst e2
      rw [Nat.zero_add]
      refine ⟨?_, by simp only [lod1, hg, c0], by simp only [lod1, hg, c1], St.get_lt hg, hO2.read⟩
      simp only [lod, hg]
      rw [if_pos c2, take2 c0 c1]

/-- An append that may write nothing that was there. -/
def appF (s : St) (sz b : Nat) (a x : AV) : Option (AV × St) := match appV (lowd s) sz b a x with
  | some (v, t) => if s.next ≤ t.low then some (v, { t with low := min s.low t.low }) else none
  | none => none
theorem st_appf {call : Nat → List AV → St → Option (AV × St)} {base : Nat} {d : Option Nat} {r : Option Nat} {rest : List AOper} {Q : Env → St → Prop} {env : Env} {s : St} (sz b : Nat) (z : List AV) (a x : AO) : awops call base (⟨d, .app sz b z a x, none, r, true⟩ :: rest) Q env s = estep (appF s sz b (aev env a) (aev env x)) fun v t => awops call base rest Q (pE env d v) t := by
  rw [st_efff (op := .app sz b z a x) (by simp) rfl rfl rfl]
  simp only [ae_app, appF, AOp.floor, AOp.isStore, Bool.false_eq_true, if_false]
  cases appV (lowd s) sz b (aev env a) (aev env x) with
  | none => rfl
  | some q =>
    obtain ⟨v, t⟩ := q
    simp only [estep]
    by_cases h : s.next ≤ t.low
    · rw [if_pos h, if_pos h]
    · rw [if_neg h, if_neg h]
end Go.AM
end
/-
  The reference's Bad, Write, From and Read. Own work of this project; in part printed by a program of it.
-/
section
set_option maxRecDepth 100000
set_option maxHeartbeats 8000000
namespace Go.AM
open Go Go.Proofs

variable {s t u : St}
noncomputable def R_RBad : Con := runFn (tb []) a33
theorem s_RBad : SoundAt Try.prog 33 R_RBad := run_sound (tb_sound (l := []) (by simp)) mixed Try.func33 k33 c33
theorem n_RBad : noNxtC a33.body = true := by kernel_rfl
theorem w_RBad {s : St} {s0 : St} {ix jx z : Nat} {qs : List Nat} {ls : List (List UInt8)} (hx : XkR s0 s ix jx qs z ls) {M : List Nat} {v : AV} {L : List (Int × List UInt8)} (hv : BwM M s v L) (hL4 : L.length ≤ 4000000) : ∀ env : Env, elen env = a33.ntmps → (∀ i x_, [.ptr ix 0, v][i]? = some x_ → E env i = x_) → awp (tb []) a33.body (fun x e t => (∀ i, x ≠ .exit i) ∧ aresults e t a33.results = some (.int .i64 (checkP ls.length z L)) ∧ Keep s t) env s := by
  intro env hlen ha
  have h0 : E env 0 = _ := ha 0 _ rfl
  have h1 : E env 1 = _ := ha 1 _ rfl
  have hlen : elen env = _ := hlen
  simp only [a33] at hlen
  unfold a33
  try dsimp only [oO, oG]
  have hL := hv.len
  by_cases hbig : 10000 < L.length
  · have z1 := eq_true (show (10000 : Int) < (L.length : Int) by omega)
    have hS : checkP ls.length z L = 5 := by unfold checkP; rw [if_pos hbig]
    rw [hS]
    simp (config := {contextual := true, maxDischargeDepth := 12}) only [tb_at, h0, h1, hlen, hL, z1, ↓bD, bU, forall_const, bS, implies_true, isNx, eq_self, ↓wp_cond, ↓wp_loop, ↓reduceIte, reduceCtorEq, Nat.reduceEqDiff, Nat.reduceLT, Nat.reduceAdd, Nat.reduceMul, bT, ↓sg_bsl, ↓st_callf, bX, ar_b2s, bin_mulE, ap_mkfn, ↓wi_seq, ↓wi_base, ↓wi_block, ↓wi_cond, ↓wi_loop, ↓wi_rf, ↓wy_seq, ↓wy_base, ↓wy_block, ↓wy_cond, ↓wy_loop, ↓wy_yld, q_known, ↓sg_callf3, ↓st_appf]
    all_goals first | exact .refl s | skip
  · have z1 := eq_false (show ¬ (10000 : Int) < (L.length : Int) by omega)
    have hS : checkP ls.length z L = chkL ls.length z L := by unfold checkP; rw [if_neg hbig]
    rw [hS]
    simp (config := {contextual := true, maxDischargeDepth := 12}) only [tb_at, h0, h1, hlen, hL, z1, ↓bD, bU, forall_const, bS, implies_true, isNx, eq_self, ↓wp_cond, ↓wp_loop, ↓reduceIte, reduceCtorEq, Nat.reduceEqDiff, Nat.reduceLT, Nat.reduceAdd, Nat.reduceMul, bT, ↓sg_bsl, ↓st_callf, bX, ar_b2s, bin_mulE, ap_mkfn, ↓wi_seq, ↓wi_base, ↓wi_block, ↓wi_cond, ↓wi_loop, ↓wi_rf, ↓wy_seq, ↓wy_base, ↓wy_block, ↓wy_cond, ↓wy_loop, ↓wy_yld, q_known, ↓sg_callf3, ↓st_appf]
    obtain ⟨I, hI⟩ : ∃ I : Nat → Env → St → Prop, ∀ n e t, I n e t = (Keep s t ∧ ∃ i : Nat, n + i = L.length ∧ elen e = 45 ∧ E e 0 = .ptr ix 0 ∧ E e 1 = v ∧ E e 5 = .int .i64 (i : Int) ∧ chkL ls.length z L = chkL ls.length z (L.drop i)) := ⟨fun n e t => (Keep s t ∧ ∃ i : Nat, n + i = L.length ∧ elen e = 45 ∧ E e 0 = .ptr ix 0 ∧ E e 1 = v ∧ E e 5 = .int .i64 (i : Int) ∧ chkL ls.length z L = chkL ls.length z (L.drop i)), fun _ _ _ => rfl⟩
    refine lwp_inv I (n := L.length) ?_ ?_
    · rw [hI]
      exact ⟨.refl s, 0, by omega, (by simp only [bE, Nat.reduceEqDiff, bN, Nat.reduceLT, hlen]; try rfl), (by simp only [bE, Nat.reduceEqDiff, bN, Nat.reduceLT, hlen, h0]; try rfl), (by simp only [bE, Nat.reduceEqDiff, bN, Nat.reduceLT, hlen, h1]; try rfl), (by simp only [bE, Nat.reduceEqDiff, bN, Nat.reduceLT, hlen]; try rfl), rfl⟩
    clear h0 h1 hlen
    intro n e t hi
    rw [hI] at hi
    obtain ⟨hK, i, hni, he, e0, e1, e5, hch⟩ := hi
    rw [hch]
    by_cases hlt : i < L.length
    · obtain ⟨x, hxx⟩ := getsome hlt
      have hw2 := wrap_add1 (n := i) (by omega)
      have z2 := eq_true (show (i : Int) < (L.length : Int) by omega)
      obtain ⟨st, ib, ob, ⟨i1, _⟩, hl⟩ := hv.at hxx
      obtain ⟨a1, a2, a3, a4, hrd⟩ := hl t (hK.chg _)
      have hLs := lenV_read hrd
      have hxt := hx.keep hK
      obtain ⟨b0, b1, blt⟩ := row2_lod hxt.box
      have hLq : lenV (.sl jx 0 qs.length none 1) = some (.int .i64 (ls.length : Int)) := by rw [hx.len]; rfl
      rw [chk_at hxx]
      by_cases hb0 : x.1 < 0
      · have y1 := eq_true hb0
        rw [if_pos (.inl hb0)]
        simp (config := {contextual := true, maxDischargeDepth := 12}) only [tb_at, he, e0, e1, e5, hL, z2, i1, a2, y1, ↓bD, bU, forall_const, bS, implies_true, isNx, eq_self, ↓wp_cond, ↓wp_loop, ↓reduceIte, reduceCtorEq, Nat.reduceEqDiff, Nat.reduceLT, Nat.reduceAdd, Nat.reduceMul, bT, ↓sg_bsl, ↓st_callf, bX, ar_b2s, bin_mulE, ap_mkfn, ↓wi_seq, ↓wi_base, ↓wi_block, ↓wi_cond, ↓wi_loop, ↓wi_rf, ↓wy_seq, ↓wy_base, ↓wy_block, ↓wy_cond, ↓wy_loop, ↓wy_yld, q_known, ↓sg_callf3, ↓st_appf]
        all_goals first | exact hK | skip
      · have y1 := eq_false hb0
        by_cases hb1 : (ls.length : Int) ≤ x.1
        · have y2 := eq_true hb1
          rw [if_pos (.inr hb1)]
          simp (config := {contextual := true, maxDischargeDepth := 12}) only [tb_at, he, e0, e1, e5, hL, z2, i1, a2, y1, y2, b0, b1, blt, nchkV_ptr, hLq, ↓bD, bU, forall_const, bS, implies_true, isNx, eq_self, ↓wp_cond, ↓wp_loop, ↓reduceIte, reduceCtorEq, Nat.reduceEqDiff, Nat.reduceLT, Nat.reduceAdd, Nat.reduceMul, bT, ↓sg_bsl, ↓st_callf, bX, ar_b2s, bin_mulE, ap_mkfn, ↓wi_seq, ↓wi_base, ↓wi_block, ↓wi_cond, ↓wi_loop, ↓wi_rf, ↓wy_seq, ↓wy_base, ↓wy_block, ↓wy_cond, ↓wy_loop, ↓wy_yld, q_known, ↓sg_callf3, ↓st_appf]
          all_goals first | exact hK | skip
        · have y2 := eq_false hb1
          rw [if_neg (by omega)]
          by_cases h5 : z < x.2.length
          · have y3 := eq_true (show (z : Int) < (x.2.length : Int) by omega)
            rw [if_pos h5]
            simp (config := {contextual := true, maxDischargeDepth := 12}) only [tb_at, he, e0, e1, e5, hL, z2, i1, a2, a3, y1, y2, y3, b0, b1, blt, nchkV_ptr, hLq, hLs, ↓bD, bU, forall_const, bS, implies_true, isNx, eq_self, ↓wp_cond, ↓wp_loop, ↓reduceIte, reduceCtorEq, Nat.reduceEqDiff, Nat.reduceLT, Nat.reduceAdd, Nat.reduceMul, bT, ↓sg_bsl, ↓st_callf, bX, ar_b2s, bin_mulE, ap_mkfn, ↓wi_seq, ↓wi_base, ↓wi_block, ↓wi_cond, ↓wi_loop, ↓wi_rf, ↓wy_seq, ↓wy_base, ↓wy_block, ↓wy_cond, ↓wy_loop, ↓wy_yld, q_known, ↓sg_callf3, ↓st_appf]
            all_goals first | exact hK | skip
          · have y3 := eq_false (show ¬ (z : Int) < (x.2.length : Int) by omega)
            have hch' : chkL ls.length z L = chkL ls.length z (L.drop (i + 1)) := by rw [hch, chk_at hxx, if_neg (by omega), if_neg h5]
            rw [if_neg h5]
            simp (config := {contextual := true, maxDischargeDepth := 12}) only [tb_at, he, e0, e1, e5, hL, z2, i1, a2, a3, y1, y2, y3, b0, b1, blt, nchkV_ptr, hLq, hLs, hw2, ↓bD, bU, forall_const, bS, implies_true, isNx, eq_self, ↓wp_cond, ↓wp_loop, ↓reduceIte, reduceCtorEq, Nat.reduceEqDiff, Nat.reduceLT, Nat.reduceAdd, Nat.reduceMul, bT, ↓sg_bsl, ↓st_callf, bX, ar_b2s, bin_mulE, ap_mkfn, ↓wi_seq, ↓wi_base, ↓wi_block, ↓wi_cond, ↓wi_loop, ↓wi_rf, ↓wy_seq, ↓wy_base, ↓wy_block, ↓wy_cond, ↓wy_loop, ↓wy_yld, q_known, ↓sg_callf3, ↓st_appf]
            refine ⟨n - 1, by omega, ?_⟩
            rw [hI]
            exact ⟨hK, i + 1, by omega, (by simp only [bE, Nat.reduceEqDiff, bN, Nat.reduceLT, he, e0, e1, e5]; try rfl), (by simp only [bE, Nat.reduceEqDiff, bN, Nat.reduceLT, he, e0, e1, e5]; try rfl), (by simp only [bE, Nat.reduceEqDiff, bN, Nat.reduceLT, he, e0, e1, e5]; try rfl), (by simp only [bE, Nat.reduceEqDiff, bN, Nat.reduceLT, he, e0, e1, e5]; try rfl), hch'⟩
    · obtain rfl : i = L.length := by omega
      have z2 := eq_false (show ¬ (L.length : Int) < (L.length : Int) by omega)
      rw [List.drop_length]
      simp (config := {contextual := true, maxDischargeDepth := 12}) only [tb_at, he, e0, e1, e5, hL, z2, ↓bD, bU, forall_const, bS, implies_true, isNx, eq_self, ↓wp_cond, ↓wp_loop, ↓reduceIte, reduceCtorEq, Nat.reduceEqDiff, Nat.reduceLT, Nat.reduceAdd, Nat.reduceMul, bT, ↓sg_bsl, ↓st_callf, bX, ar_b2s, bin_mulE, ap_mkfn, ↓wi_seq, ↓wi_base, ↓wi_block, ↓wi_cond, ↓wi_loop, ↓wi_rf, ↓wy_seq, ↓wy_base, ↓wy_block, ↓wy_cond, ↓wy_loop, ↓wy_yld, q_known, ↓sg_callf3, ↓st_appf]
      all_goals first | exact ⟨rfl, hK⟩ | exact hK | skip
theorem q_RBad (cl : Bool) {s : St} {s0 : St} {ix jx z : Nat} {qs : List Nat} {ls : List (List UInt8)} (hx : XkR s0 s ix jx qs z ls) {M : List Nat} {v : AV} {L : List (Int × List UInt8)} (hv : BwM M s v L) (hL4 : L.length ≤ 4000000) : acall R_RBad cl [.ptr ix 0, v] s = some (.int .i64 (checkP ls.length z L), s) := run_same n_RBad (by simp [a33]) rfl (w_RBad (s := lowd s) hx.low hv.low hL4)
noncomputable def R_RWrite : Con := runFn (tb [(33, R_RBad), (34, R_Rput)]) a16
theorem s_RWrite : SoundAt Try.prog 16 R_RWrite := run_sound (tb_sound (l := [(33, R_RBad), (34, R_Rput)]) (by simpa using ⟨s_RBad, s_Rput⟩)) mixed Try.func16 k16 c16
theorem n_RWrite : noNxtC a16.body = true := by kernel_rfl

def putR (ls : List (List UInt8)) (x : Int × List UInt8) (m : Nat) : List (List UInt8) := ls.set x.1.toNat (x.2.take m ++ ((ls[x.1.toNat]?).getD []).drop m)
def wrR (ls : List (List UInt8)) (L : List (Int × List UInt8)) : List (List UInt8) := L.foldl (fun ls x => putR ls x x.2.length) ls
theorem putR_len (ls : List (List UInt8)) (x : Int × List UInt8) (m : Nat) : (putR ls x m).length = ls.length := by simp [putR]
theorem wrR_len (ls : List (List UInt8)) (L : List (Int × List UInt8)) : (wrR ls L).length = ls.length := by
  unfold wrR
  induction L generalizing ls with
  | nil => rfl
  | cons x r ih => rw [List.foldl_cons, ih, putR_len]
theorem wrR_snoc {i : Nat} {ls : List (List UInt8)} {L : List (Int × List UInt8)} {x : Int × List UInt8} (hx : L[i]? = some x) : wrR ls (L.take (i + 1)) = putR (wrR ls (L.take i)) x x.2.length := by
  unfold wrR
  rw [List.take_add_one, hx, List.foldl_append]
  rfl
def wrRS (z : Nat) (ls : List (List UInt8)) (L : List (Int × List UInt8)) : List (List UInt8) := if checkP ls.length z L = 0 then wrR ls L else ls
/-- put, told by its block write. -/
theorem q_RputX {s : St} {s0 : St} {ix jx z : Nat} {qs : List Nat} {ls : List (List UInt8)} (hx : XkR s0 s ix jx qs z ls) {x : Int × List UInt8} (h0_ : 0 ≤ x.1) (hlt : x.1 < (ls.length : Int)) {st : AV} (hst : ∀ t, Chg qs s t → AM.read byC t st = some x.2) {m : Nat} (hm : m ≤ x.2.length) (hmz : m ≤ z) : ∃ t, acall R_Rput false [.ptr ix 0, .agg [.int .i64 x.1, st], .int .i64 (m : Int)] s = some (.tup [], t) ∧ XkR s0 t ix jx qs z (putR ls x m) ∧ Chg qs s t := by
  obtain ⟨b, hb⟩ : ∃ b : Nat, x.1 = (b : Int) := ⟨x.1.toNat, by omega⟩
  obtain ⟨l, hl⟩ := getsome (show b < ls.length by omega)
  obtain ⟨t, h1, h2, h3⟩ := q_Rput hx hl hst hm hmz
  refine ⟨t, by rw [hb]; exact h1, ?_, h3⟩
  have e : x.1.toNat = b := by omega
  unfold putR
  rw [e, hl]
  exact h2
theorem w_RWrite {s : St} {s0 : St} {ix jx z : Nat} {qs : List Nat} {ls : List (List UInt8)} (hx : XkR s0 s ix jx qs z ls) {v : AV} {L : List (Int × List UInt8)} (hv : BwM qs s v L) (hL4 : L.length ≤ 4000000) : ∀ env : Env, elen env = a16.ntmps → (∀ i x_, [.ptr ix 0, v][i]? = some x_ → E env i = x_) → awp (tb [(33, R_RBad), (34, R_Rput)]) a16.body (fun x e t => (∀ i, x ≠ .exit i) ∧ ∃ r, aresults e t a16.results = some r ∧ (r = .int .i64 (checkP ls.length z L) ∧ XkR s0 t ix jx qs z (wrRS z ls L) ∧ Chg qs s t)) env s := by
  intro env hlen ha
  have h0 : E env 0 = _ := ha 0 _ rfl
  have h1 : E env 1 = _ := ha 1 _ rfl
  have hlen : elen env = _ := hlen
  simp only [a16] at hlen
  unfold a16
  try dsimp only [oO, oG]
  have hL := hv.len
  have q1 := q_RBad false hx hv hL4
  by_cases hc : checkP ls.length z L = 0
  rotate_left
  · have hS : wrRS z ls L = ls := by unfold wrRS; rw [if_neg hc]
    have n00 := eq_false hc
    rw [hS]
    simp (config := {contextual := true, maxDischargeDepth := 12}) only [tb_at, h0, h1, hlen, q1, n00, decide_false, bin_eql, Bool.not_false, ↓bD, bU, forall_const, bS, implies_true, isNx, eq_self, ↓wp_cond, ↓wp_loop, ↓reduceIte, reduceCtorEq, Nat.reduceEqDiff, Nat.reduceLT, Nat.reduceAdd, Nat.reduceMul, bT, ↓sg_bsl, ↓st_callf, bX, ar_b2s, bin_mulE, ap_mkfn, ↓wi_seq, ↓wi_base, ↓wi_block, ↓wi_cond, ↓wi_loop, ↓wi_rf, ↓wy_seq, ↓wy_base, ↓wy_block, ↓wy_cond, ↓wy_loop, ↓wy_yld, q_known, ↓sg_callf3, ↓st_appf]
    first | exact ⟨_, rfl, rfl, hx, Chg.refl _ _⟩ | exact ⟨hx, Chg.refl _ _⟩
  have hS : wrRS z ls L = wrR ls L := by unfold wrRS; rw [if_pos hc]
  have hfit := checkP_fits hc
  rw [hc] at q1
  have n00 : ((0 : Int) = 0) = True := eq_true rfl
  rw [hS, hc]
  simp (config := {contextual := true, maxDischargeDepth := 12}) only [tb_at, h0, h1, hlen, q1, n00, decide_true, bin_eql, Bool.not_true, ↓bD, bU, forall_const, bS, implies_true, isNx, eq_self, ↓wp_cond, ↓wp_loop, ↓reduceIte, reduceCtorEq, Nat.reduceEqDiff, Nat.reduceLT, Nat.reduceAdd, Nat.reduceMul, bT, ↓sg_bsl, ↓st_callf, bX, ar_b2s, bin_mulE, ap_mkfn, ↓wi_seq, ↓wi_base, ↓wi_block, ↓wi_cond, ↓wi_loop, ↓wi_rf, ↓wy_seq, ↓wy_base, ↓wy_block, ↓wy_cond, ↓wy_loop, ↓wy_yld, q_known, ↓sg_callf3, ↓st_appf]
  obtain ⟨I, hI⟩ : ∃ I : Nat → Env → St → Prop, ∀ n e t, I n e t = (Chg qs s t ∧ ∃ i : Nat, n + i = L.length ∧ elen e = 31 ∧ E e 0 = .ptr ix 0 ∧ E e 1 = v ∧ E e 6 = .int .i64 (i : Int) ∧ XkR s0 t ix jx qs z (wrR ls (L.take i))) := ⟨fun n e t => (Chg qs s t ∧ ∃ i : Nat, n + i = L.length ∧ elen e = 31 ∧ E e 0 = .ptr ix 0 ∧ E e 1 = v ∧ E e 6 = .int .i64 (i : Int) ∧ XkR s0 t ix jx qs z (wrR ls (L.take i))), fun _ _ _ => rfl⟩
  refine lwp_inv I (n := L.length) ?_ ?_
  · rw [hI]
    exact ⟨Chg.refl _ _, 0, by omega, (by simp only [bE, Nat.reduceEqDiff, bN, Nat.reduceLT, hlen]; try rfl), (by simp only [bE, Nat.reduceEqDiff, bN, Nat.reduceLT, hlen, h0]; try rfl), (by simp only [bE, Nat.reduceEqDiff, bN, Nat.reduceLT, hlen, h1]; try rfl), (by simp only [bE, Nat.reduceEqDiff, bN, Nat.reduceLT, hlen]; try rfl), hx⟩
  clear h0 h1 hlen q1
  intro n e t hi
  rw [hI] at hi
  obtain ⟨hK, i, hni, he, e0, e1, e6, hX⟩ := hi
  by_cases hlt : i < L.length
  · obtain ⟨x, hxx⟩ := getsome hlt
    have hw2 := wrap_add1 (n := i) (by omega)
    have z2 := eq_true (show (i : Int) < (L.length : Int) by omega)
    obtain ⟨st, ib, ob, ⟨i1, _⟩, hl⟩ := hv.at hxx
    obtain ⟨a1, a2, a3, a4, hrd⟩ := hl t hK
    have hLs := lenV_read hrd
    obtain ⟨f1, f2, f3⟩ := hfit x (List.mem_of_getElem? hxx)
    obtain ⟨t', q2, hX', hK'⟩ := q_RputX hX (x := x) f1 (by rw [wrR_len]; exact f2) (st := st) (fun u hu => (hl u (hK.trans hu fun id hid => .inl hid)).2.2.2.2) (m := x.2.length) (Nat.le_refl _) f3
    rw [← wrR_snoc hxx] at hX'
    have hK2 := hK.trans hK' fun id hid => .inl hid
    simp (config := {contextual := true, maxDischargeDepth := 12}) only [tb_at, he, e0, e1, e6, hL, z2, hw2, i1, a1, a3, hLs, q2, ↓bD, bU, forall_const, bS, implies_true, isNx, eq_self, ↓wp_cond, ↓wp_loop, ↓reduceIte, reduceCtorEq, Nat.reduceEqDiff, Nat.reduceLT, Nat.reduceAdd, Nat.reduceMul, bT, ↓sg_bsl, ↓st_callf, bX, ar_b2s, bin_mulE, ap_mkfn, ↓wi_seq, ↓wi_base, ↓wi_block, ↓wi_cond, ↓wi_loop, ↓wi_rf, ↓wy_seq, ↓wy_base, ↓wy_block, ↓wy_cond, ↓wy_loop, ↓wy_yld, q_known, ↓sg_callf3, ↓st_appf]
    refine ⟨n - 1, by omega, ?_⟩
    rw [hI]
    exact ⟨hK2, i + 1, by omega, (by simp only [bE, Nat.reduceEqDiff, bN, Nat.reduceLT, he, e0, e1, e6]; try rfl), (by simp only [bE, Nat.reduceEqDiff, bN, Nat.reduceLT, he, e0, e1, e6]; try rfl), (by simp only [bE, Nat.reduceEqDiff, bN, Nat.reduceLT, he, e0, e1, e6]; try rfl), (by simp only [bE, Nat.reduceEqDiff, bN, Nat.reduceLT, he, e0, e1, e6]; try rfl), hX'⟩
  · obtain rfl : i = L.length := by omega
    have z2 := eq_false (show ¬ (L.length : Int) < (L.length : Int) by omega)
    rw [List.take_length] at hX
    simp (config := {contextual := true, maxDischargeDepth := 12}) only [tb_at, he, e0, e1, e6, hL, z2, ↓bD, bU, forall_const, bS, implies_true, isNx, eq_self, ↓wp_cond, ↓wp_loop, ↓reduceIte, reduceCtorEq, Nat.reduceEqDiff, Nat.reduceLT, Nat.reduceAdd, Nat.reduceMul, bT, ↓sg_bsl, ↓st_callf, bX, ar_b2s, bin_mulE, ap_mkfn, ↓wi_seq, ↓wi_base, ↓wi_block, ↓wi_cond, ↓wi_loop, ↓wi_rf, ↓wy_seq, ↓wy_base, ↓wy_block, ↓wy_cond, ↓wy_loop, ↓wy_yld, q_known, ↓sg_callf3, ↓st_appf]
    first | exact ⟨_, rfl, rfl, hX, hK⟩ | exact ⟨hX, hK⟩
theorem XkR.same {s0 : St} {ix jx z : Nat} {qs : List Nat} {ls0 ls : List (List UInt8)} (h0 : XkR s0 s ix jx qs z ls0) (h : XkR s0 t ix jx qs z ls) (g : ∀ id, id < s.next → u.get id = t.get id) : XkR s0 u ix jx qs z ls := ⟨by rw [g _ (St.get_lt h0.box)]; exact h.box, by rw [g _ (St.get_lt h0.lst)]; exact h.lst, h.len, h.nd, fun i q hq => by
    obtain ⟨_, _, _, k⟩ := h0.row i q hq
    rw [g _ (St.get_lt k)]
    exact h.row i q hq, h.pos, h.z4, h.hix, h.hjx, h.hqs⟩
theorem q_RWrite {s : St} {s0 : St} {ix jx z : Nat} {qs : List Nat} {ls : List (List UInt8)} (hx : XkR s0 s ix jx qs z ls) {v : AV} {L : List (Int × List UInt8)} (hv : BwM qs s v L) (hL4 : L.length ≤ 4000000) : ∃ t, acall R_RWrite false [.ptr ix 0, v] s = some (.int .i64 (checkP ls.length z L), t) ∧ XkR s0 t ix jx qs z (wrRS z ls L) ∧ Chg qs s t := by
  obtain ⟨r, t, h1, rfl, h2, h3⟩ := run_awp n_RWrite (args := [.ptr ix 0, v]) (by simp [a16]) (w_RWrite (s := lowd s) hx.low hv.low hL4)
  obtain ⟨t', g1, g2, _, g4⟩ := run_chg s_RWrite h1 h3
  exact ⟨t', g1, hx.same h2 g2, g4⟩

theorem flat_take_le (ls : List (List UInt8)) (k i : Nat) : ((ls.drop k).take i).flatten.length ≤ ls.flatten.length := by
  have h1 : ∀ (l : List (List UInt8)) (n : Nat), (l.take n).flatten.length ≤ l.flatten.length := fun l n => by
    have := congrArg (fun x => x.flatten.length) (List.take_append_drop n l)
    simp only [List.flatten_append, List.length_append] at this
    omega
  have h2 : (ls.drop k).flatten.length ≤ ls.flatten.length := by
    have := congrArg (fun x => x.flatten.length) (List.take_append_drop k ls)
    simp only [List.flatten_append, List.length_append] at this
    omega
  exact Nat.le_trans (h1 _ _) h2
theorem flat_len {z : Nat} : ∀ {ls : List (List UInt8)}, (∀ l ∈ ls, l.length = z) → ls.flatten.length = ls.length * z
  | [], _ => by simp
  | l :: r, h => by
    rw [List.flatten_cons, List.length_append, flat_len (fun x hx => h x (by simp [hx])), h l (by simp), List.length_cons, Nat.succ_mul]
    omega
theorem XkR.rows {s0 : St} {ix jx z : Nat} {qs : List Nat} {ls : List (List UInt8)} (h : XkR s0 t ix jx qs z ls) : ∀ l ∈ ls, l.length = z := fun l hl => by
  obtain ⟨i, hi⟩ := List.mem_iff_getElem?.1 hl
  obtain ⟨q, _, _, _, _, k, _⟩ := h.at hi
  exact k
end Go.AM
end
/-
  Crash, Read and Split at any numbers; the reference's Crash and Split. Own work of this project; in part printed by a program of it.
-/
section
set_option maxRecDepth 100000
set_option maxHeartbeats 8000000
namespace Go.AM
open Go Go.Proofs

variable {s t u : St}
noncomputable def R_RCrash : Con := runFn (tb [(33, R_RBad), (34, R_Rput), (16, R_RWrite)]) a17
theorem s_RCrash : SoundAt Try.prog 17 R_RCrash := run_sound (tb_sound (l := [(33, R_RBad), (34, R_Rput), (16, R_RWrite)]) (by simpa using ⟨s_RBad, s_Rput, s_RWrite⟩)) mixed Try.func17 k17 c17
theorem n_RCrash : noNxtC a17.body = true := by kernel_rfl

/-- The error of a crash. -/
def crE (n z : Nat) (L : List (Int × List UInt8)) (w m : Int) : Int := if checkP n z L ≠ 0 then checkP n z L else if w < 0 ∨ (L.length : Int) < w ∨ m < 0 ∨ ((nxt L w.toNat).2.length : Int) < m then 2 else 0
def crR (ls : List (List UInt8)) (L : List (Int × List UInt8)) (w m : Nat) : List (List UInt8) := if w < L.length then putR (wrR ls (L.take w)) (nxt L w) m else wrR ls (L.take w)
theorem nxt_end {L : List (Int × List UInt8)} {w : Nat} (h : L.length ≤ w) : nxt L w = (0, []) := by unfold nxt; rw [List.getElem?_eq_none h]; rfl
theorem nxt_at {L : List (Int × List UInt8)} {w : Nat} {x : Int × List UInt8} (h : L[w]? = some x) : nxt L w = x := by unfold nxt; rw [h]; rfl
theorem w_RCrash {s : St} {s0 : St} {ix jx z : Nat} {qs : List Nat} {ls : List (List UInt8)} (hx : XkR s0 s ix jx qs z ls) {v : AV} {L : List (Int × List UInt8)} (hv : BwM qs s v L) (hL4 : L.length ≤ 4000000) {w m : Nat} (hc : checkP ls.length z L = 0) (hw : w ≤ L.length) (hm : m ≤ (nxt L w).2.length) : ∀ env : Env, elen env = a17.ntmps → (∀ i x_, [.ptr ix 0, v, .int .i64 (w : Int), .int .i64 (m : Int)][i]? = some x_ → E env i = x_) → awp (tb [(33, R_RBad), (34, R_Rput), (16, R_RWrite)]) a17.body (fun x e t => (∀ i, x ≠ .exit i) ∧ ∃ r, aresults e t a17.results = some r ∧ (r = .int .i64 0 ∧ XkR s0 t ix jx qs z (crR ls L w m) ∧ Chg qs s t)) env s := by
  intro env hlen ha
  have h0 : E env 0 = _ := ha 0 _ rfl
  have h1 : E env 1 = _ := ha 1 _ rfl
  have h2 : E env 2 = _ := ha 2 _ rfl
  have h3 : E env 3 = _ := ha 3 _ rfl
  have hlen : elen env = _ := hlen
  simp only [a17] at hlen
  unfold a17
  try dsimp only [oO, oG]
  have hL := hv.len
  have q1 := q_RBad false hx hv hL4
  rw [hc] at q1
  have n00 : ((0 : Int) = 0) = True := eq_true rfl
  have hfit := checkP_fits hc
  have z1 := eq_false (show ¬ (w : Int) < 0 by omega)
  have z2 := eq_false (show ¬ (L.length : Int) < (w : Int) by omega)
  have z3 := eq_false (show ¬ (m : Int) < 0 by omega)
  obtain ⟨v', sl1, hv'⟩ := hv.take hw
  obtain ⟨t1, q2, hX1, hC1⟩ := q_RWrite hx hv' (by rw [List.length_take]; omega)
  have hct : checkP ls.length z (L.take w) = 0 := by
    have := hc
    unfold checkP at this ⊢
    split at this
    · cases this
    · rw [if_neg (by rw [List.length_take]; omega)]
      exact fits_chk hfit.take
  have hS : wrRS z ls (L.take w) = wrR ls (L.take w) := by unfold wrRS; rw [if_pos hct]
  rw [hS] at hX1
  by_cases y4 : w = L.length
  · subst y4
    have z4 : ((L.length : Int) = (L.length : Int)) = True := eq_true rfl
    have z5 := eq_false (show ¬ (0 : Int) < (m : Int) by rw [nxt_end (Nat.le_refl _)] at hm; simp at hm; omega)
    have z6 := eq_false (show ¬ (L.length : Int) < (L.length : Int) by omega)
    have hR : crR ls L L.length m = wrR ls (L.take L.length) := by unfold crR; rw [if_neg (by omega)]
    rw [hR]
    simp (config := {contextual := true, maxDischargeDepth := 12}) only [tb_at, h0, h1, h2, h3, hlen, q1, n00, hL, z1, z2, z3, z4, z5, z6, sl1, q2, decide_true, decide_false, bin_eql, Bool.not_true, Bool.not_false, ↓bD, bU, forall_const, bS, implies_true, isNx, eq_self, ↓wp_cond, ↓wp_loop, ↓reduceIte, reduceCtorEq, Nat.reduceEqDiff, Nat.reduceLT, Nat.reduceAdd, Nat.reduceMul, bT, ↓sg_bsl, ↓st_callf, bX, ar_b2s, bin_mulE, ap_mkfn, ↓wi_seq, ↓wi_base, ↓wi_block, ↓wi_cond, ↓wi_loop, ↓wi_rf, ↓wy_seq, ↓wy_base, ↓wy_block, ↓wy_cond, ↓wy_loop, ↓wy_yld, q_known, ↓sg_callf3, ↓st_appf]
    first | exact ⟨_, rfl, rfl, hX1, hC1⟩ | exact ⟨hX1, hC1⟩
  have z4 := eq_false (show ¬ (w : Int) = (L.length : Int) by omega)
  have z5 := eq_true (show (w : Int) < (L.length : Int) by omega)
  obtain ⟨x, hxx⟩ := getsome (show w < L.length by omega)
  have hnx := nxt_at hxx
  obtain ⟨st, ib, ob, ⟨i1, _⟩, hl⟩ := hv.at hxx
  obtain ⟨a1, a2, a3, a4, hrd⟩ := hl s (Chg.refl _ _)
  obtain ⟨b1, b2, b3, b4, hrd1⟩ := hl t1 hC1
  have hLs := lenV_read hrd
  rw [hnx] at hm
  have z6 := eq_false (show ¬ (x.2.length : Int) < (m : Int) by omega)
  obtain ⟨f1, f2, f3⟩ := hfit x (List.mem_of_getElem? hxx)
  obtain ⟨t2, q3, hX2, hC2⟩ := q_RputX hX1 (x := x) f1 (by rw [wrR_len]; exact f2) (st := st) (fun u hu => (hl u (hC1.trans hu fun id hid => .inl hid)).2.2.2.2) (m := m) hm (by omega)
  have hR : crR ls L w m = putR (wrR ls (L.take w)) x m := by unfold crR; rw [if_pos (by omega), hnx]
  have hC12 := hC1.trans hC2 fun id hid => .inl hid
  rw [hR]
  simp (config := {contextual := true, maxDischargeDepth := 12}) only [tb_at, h0, h1, h2, h3, hlen, q1, n00, hL, z1, z2, z3, z4, z5, z6, i1, a3, hLs, sl1, q2, b1, q3, decide_true, decide_false, bin_eql, Bool.not_true, Bool.not_false, ↓bD, bU, forall_const, bS, implies_true, isNx, eq_self, ↓wp_cond, ↓wp_loop, ↓reduceIte, reduceCtorEq, Nat.reduceEqDiff, Nat.reduceLT, Nat.reduceAdd, Nat.reduceMul, bT, ↓sg_bsl, ↓st_callf, bX, ar_b2s, bin_mulE, ap_mkfn, ↓wi_seq, ↓wi_base, ↓wi_block, ↓wi_cond, ↓wi_loop, ↓wi_rf, ↓wy_seq, ↓wy_base, ↓wy_block, ↓wy_cond, ↓wy_loop, ↓wy_yld, q_known, ↓sg_callf3, ↓st_appf]
  first | exact ⟨_, rfl, rfl, hX2, hC12⟩ | exact ⟨hX2, hC12⟩
theorem q_RCrash {s : St} {s0 : St} {ix jx z : Nat} {qs : List Nat} {ls : List (List UInt8)} (hx : XkR s0 s ix jx qs z ls) {v : AV} {L : List (Int × List UInt8)} (hv : BwM qs s v L) (hL4 : L.length ≤ 4000000) {w m : Nat} (hc : checkP ls.length z L = 0) (hw : w ≤ L.length) (hm : m ≤ (nxt L w).2.length) : ∃ t, acall R_RCrash false [.ptr ix 0, v, .int .i64 (w : Int), .int .i64 (m : Int)] s = some (.int .i64 0, t) ∧ XkR s0 t ix jx qs z (crR ls L w m) ∧ Chg qs s t := by
  obtain ⟨r, t, h1, rfl, h2, h3⟩ := run_awp n_RCrash (args := [.ptr ix 0, v, .int .i64 (w : Int), .int .i64 (m : Int)]) (by simp [a17]) (w_RCrash (s := lowd s) hx.low hv.low hL4 hc hw hm)
  obtain ⟨t', g1, g2, _, g4⟩ := run_chg s_RCrash h1 h3
  exact ⟨t', g1, hx.same h2 g2, g4⟩
theorem w_Crash2_e {s : St} {id j z : Nat} {cap : Option Nat} {l : List UInt8} (hd : DkR s id j cap z l) {v : AV} {L : List (Int × List UInt8)} (hv : BwJ j s v L) (hL4 : L.length ≤ 4000000) {w m : Int} (he : crE (l.length / z) z L w m ≠ 0) : ∀ env : Env, elen env = a14.ntmps → (∀ i x_, [.ptr id 0, v, .int .i64 w, .int .i64 m][i]? = some x_ → E env i = x_) → awp (tb [(31, R_check2), (32, R_run2)]) a14.body (fun x e t => (∀ i, x ≠ .exit i) ∧ aresults e t a14.results = some (.int .i64 (crE (l.length / z) z L w m)) ∧ Keep s t) env s := by
  intro env hlen ha
  have h0 : E env 0 = _ := ha 0 _ rfl
  have h1 : E env 1 = _ := ha 1 _ rfl
  have h2 : E env 2 = _ := ha 2 _ rfl
  have h3 : E env 3 = _ := ha 3 _ rfl
  have hlen : elen env = _ := hlen
  simp only [a14] at hlen
  unfold a14
  try dsimp only [oO, oG]
  have hL := hv.len
  have q1 := q_check2 false hd hv hL4
  by_cases hc : checkP (l.length / z) z L = 0
  rotate_left
  · have hr : crE (l.length / z) z L w m = checkP (l.length / z) z L := by unfold crE; rw [if_pos hc]
    have n00 := eq_false hc
    rw [hr]
    simp (config := {contextual := true, maxDischargeDepth := 12}) only [tb_at, h0, h1, h2, h3, hlen, q1, n00, hL, n00, decide_true, decide_false, bin_eql, Bool.not_true, Bool.not_false, ↓bD, bU, forall_const, bS, implies_true, isNx, eq_self, ↓wp_cond, ↓wp_loop, ↓reduceIte, reduceCtorEq, Nat.reduceEqDiff, Nat.reduceLT, Nat.reduceAdd, Nat.reduceMul, bT, ↓sg_bsl, ↓st_callf, bX, ar_b2s, bin_mulE, ap_mkfn, ↓wi_seq, ↓wi_base, ↓wi_block, ↓wi_cond, ↓wi_loop, ↓wi_rf, ↓wy_seq, ↓wy_base, ↓wy_block, ↓wy_cond, ↓wy_loop, ↓wy_yld, q_known, ↓sg_callf3, ↓st_appf]
    all_goals first | exact .refl s | skip
  rw [hc] at q1
  have n00 : ((0 : Int) = 0) = True := eq_true rfl
  have hr : crE (l.length / z) z L w m = 2 := by
    unfold crE at he ⊢
    rw [if_neg (by simpa using hc)] at he ⊢
    split at he
    · rename_i h; rw [if_pos h]
    · exact absurd rfl he
  have hcond : w < 0 ∨ (L.length : Int) < w ∨ m < 0 ∨ ((nxt L w.toNat).2.length : Int) < m := by
    unfold crE at he
    rw [if_neg (by simpa using hc)] at he
    split at he
    · assumption
    · exact absurd rfl he
  rw [hr]
  by_cases y1 : w < 0
  · have z1 := eq_true y1
    simp (config := {contextual := true, maxDischargeDepth := 12}) only [tb_at, h0, h1, h2, h3, hlen, q1, n00, hL, z1, decide_true, decide_false, bin_eql, Bool.not_true, Bool.not_false, ↓bD, bU, forall_const, bS, implies_true, isNx, eq_self, ↓wp_cond, ↓wp_loop, ↓reduceIte, reduceCtorEq, Nat.reduceEqDiff, Nat.reduceLT, Nat.reduceAdd, Nat.reduceMul, bT, ↓sg_bsl, ↓st_callf, bX, ar_b2s, bin_mulE, ap_mkfn, ↓wi_seq, ↓wi_base, ↓wi_block, ↓wi_cond, ↓wi_loop, ↓wi_rf, ↓wy_seq, ↓wy_base, ↓wy_block, ↓wy_cond, ↓wy_loop, ↓wy_yld, q_known, ↓sg_callf3, ↓st_appf]
    all_goals first | exact .refl s | skip
  have z1 := eq_false y1
  by_cases y2 : (L.length : Int) < w
  · have z2 := eq_true y2
    simp (config := {contextual := true, maxDischargeDepth := 12}) only [tb_at, h0, h1, h2, h3, hlen, q1, n00, hL, z1, z2, decide_true, decide_false, bin_eql, Bool.not_true, Bool.not_false, ↓bD, bU, forall_const, bS, implies_true, isNx, eq_self, ↓wp_cond, ↓wp_loop, ↓reduceIte, reduceCtorEq, Nat.reduceEqDiff, Nat.reduceLT, Nat.reduceAdd, Nat.reduceMul, bT, ↓sg_bsl, ↓st_callf, bX, ar_b2s, bin_mulE, ap_mkfn, ↓wi_seq, ↓wi_base, ↓wi_block, ↓wi_cond, ↓wi_loop, ↓wi_rf, ↓wy_seq, ↓wy_base, ↓wy_block, ↓wy_cond, ↓wy_loop, ↓wy_yld, q_known, ↓sg_callf3, ↓st_appf]
    all_goals first | exact .refl s | skip
  have z2 := eq_false y2
  obtain ⟨w, rfl⟩ : ∃ k : Nat, w = (k : Int) := ⟨w.toNat, by omega⟩
  have hwn : (w : Int).toNat = w := rfl
  rw [hwn] at hcond
  have hKA : Keep s (s.push (.row [.int .i64 0, .nils] true)) := (Keep.refl s).push _
  by_cases hlt : w < L.length
  · have zlt := eq_true (show (w : Int) < (L.length : Int) by omega)
    obtain ⟨x, hxx⟩ := getsome hlt
    rw [nxt_at hxx] at hcond
    obtain ⟨st, ib, ob, ⟨i1, hcb⟩, hl⟩ := hv.at hxx
    obtain ⟨a1, _, _, a4, hrd0⟩ := hl (s.push (.row [.int .i64 0, .nils] true)) (hKA.chg _)
    have ho := read_oneB hrd0
    have hst := sto_bw (show sameN s.next s from rfl) (b := x.1) ho
    have hKT : Keep s (s.lowed.push (.row [.int .i64 x.1, st] true)) := (Keep.refl s).lowed.push _
    obtain ⟨e0_, e1_, elt⟩ := row2_lod (St.get_push_new s.lowed (.row [.int .i64 x.1, st] true))
    have e1_ : lod1 (s.lowed.push (.row [.int .i64 x.1, st] true)) (.ptr s.next 1) = some st := e1_
    have elt : ltN s.next (s.lowed.push (.row [.int .i64 x.1, st] true)) := elt
    have hLs := lenV_read hrd0
    by_cases y3 : m < 0
    · have z3 := eq_true y3
      simp (config := {contextual := true, maxDischargeDepth := 12}) only [tb_at, h0, h1, h2, h3, hlen, q1, n00, hL, z1, z2, zlt, i1, a1, a4, hst, z3, decide_true, decide_false, bin_eql, Bool.not_true, Bool.not_false, ↓bD, bU, forall_const, bS, implies_true, isNx, eq_self, ↓wp_cond, ↓wp_loop, ↓reduceIte, reduceCtorEq, Nat.reduceEqDiff, Nat.reduceLT, Nat.reduceAdd, Nat.reduceMul, bT, ↓sg_bsl, ↓st_callf, bX, ar_b2s, bin_mulE, ap_mkfn, ↓wi_seq, ↓wi_base, ↓wi_block, ↓wi_cond, ↓wi_loop, ↓wi_rf, ↓wy_seq, ↓wy_base, ↓wy_block, ↓wy_cond, ↓wy_loop, ↓wy_yld, q_known, ↓sg_callf3, ↓st_appf]
      all_goals first | exact hKT | skip
    have z3 := eq_false y3
    have z4 := eq_true (show (x.2.length : Int) < m by omega)
    simp (config := {contextual := true, maxDischargeDepth := 12}) only [tb_at, h0, h1, h2, h3, hlen, q1, n00, hL, z1, z2, zlt, i1, a1, a4, hst, z3, z4, e1_, elt, hLs, decide_true, decide_false, bin_eql, Bool.not_true, Bool.not_false, ↓bD, bU, forall_const, bS, implies_true, isNx, eq_self, ↓wp_cond, ↓wp_loop, ↓reduceIte, reduceCtorEq, Nat.reduceEqDiff, Nat.reduceLT, Nat.reduceAdd, Nat.reduceMul, bT, ↓sg_bsl, ↓st_callf, bX, ar_b2s, bin_mulE, ap_mkfn, ↓wi_seq, ↓wi_base, ↓wi_block, ↓wi_cond, ↓wi_loop, ↓wi_rf, ↓wy_seq, ↓wy_base, ↓wy_block, ↓wy_cond, ↓wy_loop, ↓wy_yld, q_known, ↓sg_callf3, ↓st_appf]
    all_goals first | exact hKT | skip
  have zlt := eq_false (show ¬ (w : Int) < (L.length : Int) by omega)
  rw [nxt_end (by omega)] at hcond
  obtain ⟨e0_, e1_, elt⟩ := row2_lod (St.get_push_new s (.row [.int .i64 0, .nils] true))
  by_cases y3 : m < 0
  · have z3 := eq_true y3
    simp (config := {contextual := true, maxDischargeDepth := 12}) only [tb_at, h0, h1, h2, h3, hlen, q1, n00, hL, z1, z2, zlt, z3, decide_true, decide_false, bin_eql, Bool.not_true, Bool.not_false, ↓bD, bU, forall_const, bS, implies_true, isNx, eq_self, ↓wp_cond, ↓wp_loop, ↓reduceIte, reduceCtorEq, Nat.reduceEqDiff, Nat.reduceLT, Nat.reduceAdd, Nat.reduceMul, bT, ↓sg_bsl, ↓st_callf, bX, ar_b2s, bin_mulE, ap_mkfn, ↓wi_seq, ↓wi_base, ↓wi_block, ↓wi_cond, ↓wi_loop, ↓wi_rf, ↓wy_seq, ↓wy_base, ↓wy_block, ↓wy_cond, ↓wy_loop, ↓wy_yld, q_known, ↓sg_callf3, ↓st_appf]
    all_goals first | exact hKA | skip
  have z3 := eq_false y3
  have hLn : lenV .nils = some (.int .i64 0) := rfl
  have z4 := eq_true (show (0 : Int) < m by simp at hcond; omega)
  simp (config := {contextual := true, maxDischargeDepth := 12}) only [tb_at, h0, h1, h2, h3, hlen, q1, n00, hL, z1, z2, zlt, z3, z4, e1_, elt, hLn, decide_true, decide_false, bin_eql, Bool.not_true, Bool.not_false, ↓bD, bU, forall_const, bS, implies_true, isNx, eq_self, ↓wp_cond, ↓wp_loop, ↓reduceIte, reduceCtorEq, Nat.reduceEqDiff, Nat.reduceLT, Nat.reduceAdd, Nat.reduceMul, bT, ↓sg_bsl, ↓st_callf, bX, ar_b2s, bin_mulE, ap_mkfn, ↓wi_seq, ↓wi_base, ↓wi_block, ↓wi_cond, ↓wi_loop, ↓wi_rf, ↓wy_seq, ↓wy_base, ↓wy_block, ↓wy_cond, ↓wy_loop, ↓wy_yld, q_known, ↓sg_callf3, ↓st_appf]
  all_goals first | exact hKA | skip
theorem q_Crash2_e (cl : Bool) {s : St} {id j z : Nat} {cap : Option Nat} {l : List UInt8} (hd : DkR s id j cap z l) {v : AV} {L : List (Int × List UInt8)} (hv : BwJ j s v L) (hL4 : L.length ≤ 4000000) {w m : Int} (he : crE (l.length / z) z L w m ≠ 0) : acall R_Crash2 cl [.ptr id 0, v, .int .i64 w, .int .i64 m] s = some (.int .i64 (crE (l.length / z) z L w m), s) := run_same n_Crash2 (by simp [a14]) rfl (w_Crash2_e (s := lowd s) hd.low hv.low hL4 he)
end Go.AM
end
/-
  The reference's Split; Split at any numbers; splits. Own work of this project; in part printed by a program of it.
-/
section
set_option maxRecDepth 100000
set_option maxHeartbeats 8000000
namespace Go.AM
open Go Go.Proofs

variable {s t u : St}

theorem OwB.ground {v : AV} {L : List (Int × List UInt8)} {sts : List AV} (h : OwB s t v L sts) (hg : v.ground = true) : OwB s u v L sts := by
  rcases h.2.1 with ⟨rfl, e⟩ | ⟨j, rfl, _⟩
  · have := congrArg List.length e
    rw [List.length_map, List.length_zip, h.1] at this
    simp at this
    subst this
    have h0 := h.1
    obtain rfl : sts = [] := by simpa using h0
    exact OwB.nil
  · simp [AV.ground, AV.plain] at hg
end Go.AM
end
/-
  Plain laws of disks by blocks and by bytes; calls as arguments; frames. Own work of this project; in part printed by a program of it.
-/
section
set_option maxRecDepth 100000
set_option maxHeartbeats 8000000
namespace Go.AM
open Go Go.Proofs

variable {s t u : St}

theorem set_flat {z : Nat} : ∀ {ls : List (List UInt8)} {b : Nat} {l d : List UInt8}, ls[b]? = some l → (∀ l ∈ ls, l.length = z) → d.length ≤ z → (ls.set b (d ++ l.drop d.length)).flatten = putD ls.flatten (b * z) d
  | [], _, _, _, h, _, _ => by simp at h
  | y :: r, 0, l, d, h, hz, hd => by
    simp at h
    subst h
    have hl := hz y (by simp)
    rw [List.set_cons_zero, List.flatten_cons, List.flatten_cons, putD, Nat.zero_mul, List.take_zero, List.nil_append, Nat.zero_add, List.drop_append_of_le_length (by omega), List.append_assoc]
  | y :: r, b + 1, l, d, h, hz, hd => by
    have hl := hz y (by simp)
    have ih := set_flat (z := z) (ls := r) (b := b) (l := l) (d := d) (by simpa using h) (fun x hx => hz x (by simp [hx])) hd
    rw [List.set_cons_succ, List.flatten_cons, ih, List.flatten_cons]
    unfold putD
    have e1 : (b + 1) * z = y.length + b * z := by rw [Nat.succ_mul, hl]; omega
    rw [e1, List.take_length_add_append, show y.length + b * z + d.length = y.length + (b * z + d.length) by omega, List.drop_length_add_append]
    simp only [List.append_assoc]
theorem putR_flat {z m : Nat} {ls : List (List UInt8)} {x : Int × List UInt8} (h0 : 0 ≤ x.1) (h1 : x.1 < (ls.length : Int)) (hz : ∀ l ∈ ls, l.length = z) (hm : m ≤ x.2.length) (hd : x.2.length ≤ z) : (putR ls x m).flatten = putD ls.flatten (x.1.toNat * z) (x.2.take m) := by
  obtain ⟨l, hl⟩ := getsome (show x.1.toNat < ls.length by omega)
  have hml : (x.2.take m).length = m := by rw [List.length_take]; omega
  have := set_flat (d := x.2.take m) hl hz (by omega)
  rw [hml] at this
  unfold putR
  rw [hl]
  exact this
theorem putR_rows {z m : Nat} {ls : List (List UInt8)} {x : Int × List UInt8} (h0 : 0 ≤ x.1) (h1 : x.1 < (ls.length : Int)) (hz : ∀ l ∈ ls, l.length = z) (hm : m ≤ x.2.length) (hd : x.2.length ≤ z) : ∀ l ∈ putR ls x m, l.length = z := by
  obtain ⟨l, hl⟩ := getsome (show x.1.toNat < ls.length by omega)
  intro y hy
  unfold putR at hy
  rw [hl] at hy
  rcases List.mem_or_eq_of_mem_set hy with h | rfl
  · exact hz y h
  · have := hz l (List.mem_of_getElem? hl)
    simp only [Option.getD_some, List.length_append, List.length_take, List.length_drop]
    omega
theorem wrR_rows {z : Nat} : ∀ {L : List (Int × List UInt8)} {ls : List (List UInt8)}, (∀ l ∈ ls, l.length = z) → Fits ls.length z L → ∀ l ∈ wrR ls L, l.length = z
  | [], ls, hz, _ => hz
  | x :: r, ls, hz, hf => by
    obtain ⟨f1, f2, f3⟩ := hf x (by simp)
    have h1 := putR_rows f1 f2 hz (Nat.le_refl _) f3
    exact wrR_rows (L := r) (ls := putR ls x x.2.length) h1 (by rw [putR_len]; exact fun y hy => hf y (by simp [hy]))
theorem wrR_flat {z : Nat} : ∀ {L : List (Int × List UInt8)} {ls : List (List UInt8)}, (∀ l ∈ ls, l.length = z) → Fits ls.length z L → (wrR ls L).flatten = wrL z ls.flatten L
  | [], ls, _, _ => rfl
  | x :: r, ls, hz, hf => by
    obtain ⟨f1, f2, f3⟩ := hf x (by simp)
    have h1 := putR_rows f1 f2 hz (Nat.le_refl _) f3
    have h2 := putR_flat f1 f2 hz (Nat.le_refl _) f3
    rw [List.take_length] at h2
    have := wrR_flat (L := r) (ls := putR ls x x.2.length) h1 (by rw [putR_len]; exact fun y hy => hf y (by simp [hy]))
    rw [h2] at this
    exact this
theorem crR_flat {z w m : Nat} {L : List (Int × List UInt8)} {ls : List (List UInt8)} (hz : ∀ l ∈ ls, l.length = z) (hf : Fits ls.length z L) (hw : w ≤ L.length) (hm : m ≤ (nxt L w).2.length) : (crR ls L w m).flatten = wrL z ls.flatten (crL L w m) := by
  have h1 := wrR_flat (L := L.take w) hz hf.take
  have e : wrL z ls.flatten (crL L w m) = putD (wrL z ls.flatten (L.take w)) ((nxt L w).1.toNat * z) ((nxt L w).2.take m) := by
    unfold wrL crL
    rw [List.foldl_append]
    rfl
  rw [e]
  unfold crR
  by_cases h : w < L.length
  · rw [if_pos h]
    obtain ⟨x, hx⟩ := getsome h
    rw [nxt_at hx] at hm ⊢
    obtain ⟨f1, f2, f3⟩ := hf x (List.mem_of_getElem? hx)
    rw [putR_flat f1 (by rw [wrR_len]; exact f2) (wrR_rows hz hf.take) hm f3, h1]
  · rw [if_neg h, h1, nxt_end (by omega)]
    simp only [List.take_nil]
    rw [putD_nil]
theorem wrS_flat {z : Nat} {L : List (Int × List UInt8)} {ls : List (List UInt8)} (hz0 : 0 < z) (hz : ∀ l ∈ ls, l.length = z) : (wrRS z ls L).flatten = wrS z ls.flatten L := by
  have hd : ls.flatten.length / z = ls.length := by rw [flat_len hz]; exact Nat.mul_div_cancel _ hz0
  unfold wrRS wrS
  rw [hd]
  split
  · rename_i h
    exact wrR_flat hz (checkP_fits h)
  · rfl
/-! ### Numbers -/
/-! ### Calls as arguments -/
theorem BwA.one {v : AV} {L : List (Int × List UInt8)} (h : BwA s v L) : v.cells = [v] ∧ v.one = true := by
  rcases h with ⟨rfl, _⟩ | ⟨id, cap, rfl, _⟩ <;> exact ⟨rfl, rfl⟩
/-! ### Frames -/
theorem DkR.chgM {id j z : Nat} {cap : Option Nat} {l : List UInt8} {M : List Nat} (h : DkR t id j cap z l) (q : Chg M t u) (h1 : id ∉ M) (h2 : j ∉ M) : DkR u id j cap z l := ⟨q.blk h.box h1, q.blk h.dat h2, h.hcap, h.pos, h.len⟩
theorem hd_ne {a c : Nat} {b : Int} {x : AV} {r r' : List AV} {o o' : Bool} (h1 : t.get a = some (.row (AV.int .u8 b :: r) o)) (h2 : t.get c = some (.row (x :: r') o')) (h : ∀ b, x ≠ .int .u8 b) : c ≠ a := by
  rintro rfl
  rw [h1] at h2
  injection h2 with h2
  injection h2 with h2 _
  injection h2 with h2 _
  exact h b h2.symm
/-- A disk and the reference's, with the same bytes. -/
structure Plr (s t : St) (id j : Nat) (cap : Option Nat) (ix jx : Nat) (qs : List Nat) (z : Nat) (ls : List (List UInt8)) : Prop where
  dk : DkR t id j cap z ls.flatten
  xk : XkR s t ix jx qs z ls
  hid : s.next ≤ id
  hj : s.next ≤ j
  nj : j ∉ qs
  l0 : 0 < ls.length
theorem Plr.len {id j ix jx z : Nat} {cap : Option Nat} {qs : List Nat} {ls : List (List UInt8)} (h : Plr s t id j cap ix jx qs z ls) : ls.flatten.length = ls.length * z ∧ 0 < ls.flatten.length ∧ ls.flatten.length / z = ls.length := by
  have h1 := flat_len h.xk.rows
  have h2 := Nat.mul_pos h.l0 h.xk.pos
  exact ⟨h1, by omega, by rw [h1]; exact Nat.mul_div_cancel _ h.xk.pos⟩
theorem Plr.apart {id j ix jx z : Nat} {cap : Option Nat} {qs : List Nat} {ls : List (List UInt8)} (h : Plr s t id j cap ix jx qs z ls) : ix ≠ j ∧ jx ≠ j ∧ id ∉ qs ∧ id ≠ j := by
  obtain ⟨b, r, e⟩ := cells_hd (l := ls.flatten) rfl h.len.2.1
  have hj := h.dk.dat
  rw [e] at hj
  refine ⟨hd_ne hj h.xk.box (fun b e => by cases e), ?_, fun hq => ?_, hd_ne hj h.dk.box (fun b e => by cases e)⟩
  · have hl := h.xk.lst
    cases hqs : qs with
    | nil => have := h.xk.len; rw [hqs] at this; have := h.l0; simp at *; omega
    | cons a r =>
      rw [hqs] at hl
      exact hd_ne hj hl fun b e => by cases e
  · obtain ⟨b, r, e⟩ := h.xk.mem hq
    have := hd_ne e h.dk.box fun b e => by cases e
    exact this rfl
theorem Plr.keep {id j ix jx z : Nat} {cap : Option Nat} {qs : List Nat} {ls : List (List UInt8)} (h : Plr s t id j cap ix jx qs z ls) (hK : Keep t u) : Plr s u id j cap ix jx qs z ls := ⟨h.dk.keep hK, h.xk.keep hK, h.hid, h.hj, h.nj, h.l0⟩
theorem Plr.chg {id j ix jx z : Nat} {cap : Option Nat} {qs : List Nat} {ls : List (List UInt8)} {M : List Nat} (h : Plr s t id j cap ix jx qs z ls) (hC : Chg M t u) (h1 : id ∉ M) (h2 : j ∉ M) (h3 : ix ∉ M) (h4 : jx ∉ M) (h5 : ∀ q ∈ qs, q ∉ M) : Plr s u id j cap ix jx qs z ls := ⟨h.dk.chgM hC h1 h2, h.xk.chg hC h3 h4 h5, h.hid, h.hj, h.nj, h.l0⟩
/-! ### The own list, of which bytes are changed -/
def OwQ (s t : St) (v : AV) (L : List (Int × List UInt8)) (sts : List AV) : Prop := sts.length = L.length ∧ Raw2 s t v ((L.zip sts).map fun y => (.int .i64 y.1.1, y.2)) ∧ ∀ (i : Nat) (x : Int × List UInt8) (st : AV), L[i]? = some x → sts[i]? = some st → ∃ d, d.length = x.2.length ∧ Own byC s t st d
theorem OwQ.row {v : AV} {L : List (Int × List UInt8)} {sts : List AV} (h : OwQ s t v L sts) {i : Nat} {x : Int × List UInt8} {st : AV} (hx : L[i]? = some x) (hst : sts[i]? = some st) : ∃ j, iadV 2 v (.int .i64 (i : Int)) = some (.ptr j (i * 2)) ∧ lod1 t (.ptr j (i * 2 + 1)) = some st ∧ ltN j t := by
  have hi := getlt hx
  have hzl : ((L.zip sts).map fun y => (AV.int .i64 y.1.1, y.2)).length = L.length := by rw [List.length_map, List.length_zip, h.1, Nat.min_self]
  rcases h.2.1 with ⟨_, e⟩ | ⟨j, rfl, _, g1, g2⟩
  · rw [e] at hzl; simp at hzl; omega
  · have hz : ((L.zip sts).map fun y => (AV.int .i64 y.1.1, y.2))[i]? = some (.int .i64 x.1, st) := by
      rw [List.getElem?_map, show (L.zip sts)[i]? = some (x, st) by rw [List.getElem?_zip_eq_some]; exact ⟨hx, hst⟩]
      rfl
    obtain ⟨c0, c1⟩ := flat2_at hz
    have hia : iadV 2 (.sl j 0 ((L.zip sts).map fun y => (AV.int .i64 y.1.1, y.2)).length none 2) (.int .i64 (i : Int)) = some (.ptr j (0 + i * 2)) := iadV_nat (by omega)
    rw [Nat.zero_add] at hia
    exact ⟨j, hia, by simp only [lod1, g2, c1], St.get_lt g2⟩
theorem OwQ.len {v : AV} {L : List (Int × List UInt8)} {sts : List AV} (h : OwQ s t v L sts) : lenV v = some (.int .i64 (L.length : Int)) := by
  rcases h.2.1 with ⟨rfl, e⟩ | ⟨j, rfl, _⟩
  · have := congrArg List.length e
    rw [List.length_map, List.length_zip, h.1] at this
    simp at this
    rw [this]
    rfl
  · show some (AV.int .i64 _) = _
    rw [List.length_map, List.length_zip, h.1, Nat.min_self]
theorem OwQ.put {v : AV} {L : List (Int × List UInt8)} {sts : List AV} (h : OwQ s t v L sts) {q k : Nat} {d : List UInt8} (hg : t.get q = some (.row (byC.cells d) true)) (hk : k < d.length) (b : UInt8) : OwQ s (t.put q (.row (byC.cells (d.set k b)) true)) v L sts := by
  have hlt := St.get_lt hg
  refine ⟨h.1, ?_, fun i x st h1 h2 => ?_⟩
  · rcases h.2.1 with e | ⟨j, e, h0, g1, g2⟩
    · exact .inl e
    · refine .inr ⟨j, e, h0, g1, ?_⟩
      rw [St.get_put_ne _ _ hlt]
      · exact g2
      · rintro rfl
        rw [hg] at g2
        obtain ⟨b', r', e'⟩ := cells_hd (l := d) rfl (by omega)
        injection g2 with g2
        injection g2 with g2 _
        cases hz : L.zip sts with
        | nil => rw [hz] at h0; exact h0 rfl
        | cons y r =>
          rw [hz, List.map_cons, List.flatMap_cons, e'] at g2
          injection g2 with g2 _
          cases g2
  · obtain ⟨d', hd', hO⟩ := h.2.2 i x st h1 h2
    rcases hO with ⟨rfl, rfl⟩ | ⟨q', rfl, g0, g1, g2⟩
    · exact ⟨[], hd', .nil _ _ _⟩
    · by_cases hq : q' = q
      · subst hq
        rw [hg] at g2
        injection g2 with g2
        injection g2 with g2 _
        have hl := congrArg List.length g2
        rw [cells_len, cells_len, byC_sz, Nat.mul_one, Nat.mul_one] at hl
        refine ⟨d.set k b, by rw [List.length_set]; omega, .inr ⟨q', ?_, ?_, g1, St.get_put_same hg⟩⟩
        · rw [List.length_set, hl]
        · intro e
          have := congrArg List.length e
          rw [List.length_set] at this
          simp at this
          subst this
          simp at hk
      · exact ⟨d', hd', .inr ⟨q', rfl, g0, g1, by rw [St.get_put_ne _ _ hlt hq]; exact g2⟩⟩
/-! ### New bytes, of which some are changed -/
def NbQ (s t : St) (v : AV) (n : Nat) : Prop := (v = .nils ∧ n = 0) ∨ ∃ q cap d, v = .sl q 0 n cap 1 ∧ d.length = n ∧ s.next ≤ q ∧ t.get q = some (.row (byC.cells d) true)
theorem NbQ.len {v : AV} {n : Nat} (h : NbQ s t v n) : lenV v = some (.int .i64 (n : Int)) := by
  rcases h with ⟨rfl, rfl⟩ | ⟨q, cap, d, rfl, _⟩ <;> rfl
/-- Pieces of a split, or none. -/
def SpQ (b : Nat) (t : St) (lv : AV) (k z m cnt : Nat) : Prop := (lv = .nils ∧ cnt = 0) ∨ ∃ d, d.length = m ∧ SpL t b lv k z d ∧ cnt = chunksN z m
theorem SpQ.len {b k z m cnt : Nat} {lv : AV} (hz : 0 < z) (h : SpQ b t lv k z m cnt) : lenV lv = some (.int .i64 (cnt : Int)) := by
  rcases h with ⟨rfl, rfl⟩ | ⟨d, hd, h, rfl⟩
  · rfl
  · rcases h with ⟨rfl, rfl⟩ | ⟨_, rfl, _⟩
    · have : chunksN z m = 0 := by
        rw [← hd]
        unfold chunksN
        exact Nat.div_eq_of_lt (by simp; omega)
      rw [this]
      rfl
    · rw [hd]; rfl
end Go.AM
end
/-
  DiskLongs. Own work of this project; in part printed by a program of it.
-/
section
set_option maxRecDepth 100000
set_option maxHeartbeats 8000000
namespace Go.AM
open Go Go.Proofs

variable {s t u : St}

theorem rda_u16 {v : AV} (h : RdA Try.prog s 8 31 v) : ∃ n : Nat, v = .int .u16 (n : Int) ∧ n < 65536 := by
  obtain ⟨n, rfl, hw⟩ := rda_int (show Try.prog.underlying 31 = some (.int .u16) by kernel_rfl) h
  have e1 : IntKind.u16.min = 0 := by decide
  have e2 : IntKind.u16.max = 65535 := by decide
  have h1 : 0 ≤ n ∧ n ≤ 65535 := by
    simp only [Lit.wf, Bool.and_eq_true, decide_eq_true_eq] at hw
    omega
  exact ⟨n.toNat, by congr 1; omega, by omega⟩
theorem sg_mksl {call : Nat → List AV → St → Option (AV × St)} {base : Nat} {d : Option Nat} {r : Option Nat} {fr : Bool} {rest : List AOper} {Q : Env → St → Prop} {env : Env} (z : List AV) (b : Nat) (l c : AO) (t : Nat) (w : Bool) :
    awops call base (⟨d, .mksl z b l c, some (t, w), r, fr⟩ :: rest) Q env s = gstep (E env t) w (awops call base (⟨d, .mksl z b l c, none, r, fr⟩ :: rest) Q env s) (awops call base rest Q (pE env d .und) s) := st_guard _ _ _
/-- A part of a list of block writes. -/
theorem BwM.sub {M : List Nat} {v : AV} {L : List (Int × List UInt8)} (h : BwM M s v L) {lo hi : Nat} (h1 : lo ≤ hi) (h2 : hi ≤ L.length) : ∃ v', slcV 2 v (some (.int .i64 (lo : Int))) (some (.int .i64 (hi : Int))) = some v' ∧ BwM M s v' ((L.take hi).drop lo) := by
  have hl : ((L.take hi).drop lo).length = hi - lo := by rw [List.length_drop, List.length_take]; omega
  have hat : ∀ (i : Nat) (x : Int × List UInt8), ((L.take hi).drop lo)[i]? = some x → L[lo + i]? = some x := fun i x hx => by
    have := getlt hx
    rw [hl] at this
    rw [List.getElem?_drop, List.getElem?_take_of_lt (by omega)] at hx
    exact hx
  rcases h with ⟨rfl, rfl⟩ | ⟨id, off, cap, rfl, hc, h⟩
  · have e1 : hi = 0 := by simpa using h2
    subst e1
    have e2 : lo = 0 := by omega
    subst e2
    exact ⟨.nils, by simp [slcV, optNat, asNatIn], .inl ⟨rfl, rfl⟩⟩
  · have a1 := asNat_ok h1
    have row : ∀ (i : Nat) (x : Int × List UInt8), ((L.take hi).drop lo)[i]? = some x → ∃ st, CapB st ∧ ∀ t, Chg M s t → lod t 2 (.ptr id (off + lo * 2 + i * 2)) = some (.agg [.int .i64 x.1, st]) ∧ lod1 t (.ptr id (off + lo * 2 + i * 2)) = some (.int .i64 x.1) ∧ lod1 t (.ptr id (off + lo * 2 + i * 2 + 1)) = some st ∧ ltN id t ∧ AM.read byC t st = some x.2 := fun i x hx => by
      obtain ⟨st, g1, g2⟩ := h (lo + i) x (hat i x hx)
      rw [show off + lo * 2 + i * 2 = off + (lo + i) * 2 by omega]
      exact ⟨st, g1, g2⟩
    cases cap with
    | none =>
      have a2 := asNat_ok h2
      refine ⟨.sl id (off + lo * 2) (hi - lo) none 2, ?_, .inr ⟨id, off + lo * 2, none, by rw [hl], (fun c q => by cases q), row⟩⟩
      simp only [slcV, optNat, a1, a2, if_true]
    | some c =>
      have hcl := hc c rfl
      have a2 := asNat_ok (show hi ≤ c by omega)
      refine ⟨.sl id (off + lo * 2) (hi - lo) (some (c - lo)) 2, ?_, .inr ⟨id, off + lo * 2, some (c - lo), by rw [hl], (fun c' q => by injection q with q; rw [hl]; omega), row⟩⟩
      simp only [slcV, optNat, a1, a2, if_true]
theorem BwM.dropv {M : List Nat} {v : AV} {L : List (Int × List UInt8)} (h : BwM M s v L) {lo : Nat} (h1 : lo ≤ L.length) : ∃ v', slcV 2 v (some (.int .i64 (lo : Int))) none = some v' ∧ BwM M s v' (L.drop lo) := by
  have hat : ∀ (i : Nat) (x : Int × List UInt8), (L.drop lo)[i]? = some x → L[lo + i]? = some x := fun i x hx => by rw [List.getElem?_drop] at hx; exact hx
  rcases h with ⟨rfl, rfl⟩ | ⟨id, off, cap, rfl, hc, h⟩
  · have e1 : lo = 0 := by simpa using h1
    subst e1
    exact ⟨.nils, by simp [slcV, optNat, asNatIn], .inl ⟨rfl, rfl⟩⟩
  · have a1 := asNat_ok h1
    have row : ∀ (i : Nat) (x : Int × List UInt8), (L.drop lo)[i]? = some x → ∃ st, CapB st ∧ ∀ t, Chg M s t → lod t 2 (.ptr id (off + lo * 2 + i * 2)) = some (.agg [.int .i64 x.1, st]) ∧ lod1 t (.ptr id (off + lo * 2 + i * 2)) = some (.int .i64 x.1) ∧ lod1 t (.ptr id (off + lo * 2 + i * 2 + 1)) = some st ∧ ltN id t ∧ AM.read byC t st = some x.2 := fun i x hx => by
      obtain ⟨st, g1, g2⟩ := h (lo + i) x (hat i x hx)
      rw [show off + lo * 2 + i * 2 = off + (lo + i) * 2 by omega]
      exact ⟨st, g1, g2⟩
    have hl : (L.drop lo).length = L.length - lo := List.length_drop
    cases cap with
    | none =>
      refine ⟨.sl id (off + lo * 2) (L.length - lo) none 2, ?_, .inr ⟨id, off + lo * 2, none, by rw [hl], (fun c q => by cases q), row⟩⟩
      simp only [slcV, optNat, a1, if_true]
    | some c =>
      have hcl := hc c rfl
      refine ⟨.sl id (off + lo * 2) (L.length - lo) (some (c - lo)) 2, ?_, .inr ⟨id, off + lo * 2, some (c - lo), by rw [hl], (fun c' q => by injection q with q; rw [hl]; omega), row⟩⟩
      simp only [slcV, optNat, a1, if_true]
/-- The byte that a number is cut to. -/
def fB (n : Int) : UInt8 := UInt8.ofNat (IntKind.u8.wrap n).toNat
theorem fB_wrap (n : Int) : IntKind.u8.wrap n = ((fB n).toNat : Int) := by
  have h1 : 0 ≤ IntKind.u8.wrap n ∧ IntKind.u8.wrap n < 256 := by
    simp only [IntKind.wrap, IntKind.signed, IntKind.bits]
    simp
    constructor
    · exact Int.emod_nonneg _ (by decide)
    · exact Int.emod_lt_of_pos _ (by decide)
  unfold fB
  rw [UInt8.toNat_ofNat']
  omega
def lgA (i : Nat) : Int × List UInt8 := (((i % 2 : Nat) : Int), [fB (i : Int), fB ((i / 256 : Nat) : Int)])
def lgL (n : Nat) : List (Int × List UInt8) := (List.range n).map lgA
theorem lgL_len (n : Nat) : (lgL n).length = n := by simp [lgL]
theorem lgL_at {n i : Nat} (h : i < n) : (lgL n)[i]? = some (lgA i) := by simp [lgL, h]
theorem flat2_set {rows : List (AV × AV)} {i : Nat} (hi : i < rows.length) (x y : AV) : setAt (rows.flatMap fun x => [x.1, x.2]) (i * 2) [x, y] = ((rows.set i (x, y)).flatMap fun x => [x.1, x.2]) := by
  induction rows generalizing i with
  | nil => simp at hi
  | cons r rows ih =>
    cases i with
    | zero => simp [setAt]
    | succ i =>
      have := ih (i := i) (by simpa using hi)
      rw [List.set_cons_succ, List.flatMap_cons, List.flatMap_cons, ← this]
      simp only [setAt]
      rw [show (i + 1) * 2 = i * 2 + 1 + 1 by omega]
      simp
structure LgR (s t : St) (jl n i : Nat) (rows : List (AV × AV)) : Prop where
  len : rows.length = n
  lst : t.get jl = some (.row (rows.flatMap fun x => [x.1, x.2]) true)
  new : s.next ≤ jl
  row : ∀ k, k < i → ∃ q, rows[k]? = some (.int .i64 ((k % 2 : Nat) : Int), .sl q 0 2 (some 2) 1) ∧ jl < q ∧ t.get q = some (.row (byC.cells (lgA k).2) true)
theorem LgR.step {jl n i : Nat} {rows : List (AV × AV)} (h : LgR s t jl n i rows) (hi : i < n) : ∃ t' rows', sto (t.push (.row (byC.cells (lgA i).2) true)) 2 (.ptr jl (i * 2)) (.agg [.int .i64 ((i % 2 : Nat) : Int), .sl t.next 0 2 (some 2) 1]) = some (.und, t') ∧ LgR s t' jl n (i + 1) rows' ∧ (Keep s t → Keep s t') := by
  have hg := get_push_some (.row (byC.cells (lgA i).2) true) h.lst
  have hlt := St.get_lt hg
  have hjl := St.get_lt h.lst
  refine ⟨(t.push (.row (byC.cells (lgA i).2) true)).put jl (.row ((rows.set i (.int .i64 ((i % 2 : Nat) : Int), .sl t.next 0 2 (some 2) 1)).flatMap fun x => [x.1, x.2]) true), rows.set i (.int .i64 ((i % 2 : Nat) : Int), .sl t.next 0 2 (some 2) 1), ?_, ⟨by rw [List.length_set]; exact h.len, St.get_put_same hg, h.new, fun k hk => ?_⟩, fun hK => (hK.push _).put _ h.new hlt⟩
  · simp only [sto, hg]
    rw [if_pos ⟨rfl, rfl, by rw [flat2_len, h.len]; omega⟩]
    have := flat2_set (rows := rows) (i := i) (by rw [h.len]; exact hi) (.int .i64 ((i % 2 : Nat) : Int)) (.sl t.next 0 2 (some 2) 1)
    rw [← this]
    rfl
  · by_cases hki : k = i
    · subst hki
      refine ⟨t.next, by rw [List.getElem?_set_self (by rw [h.len]; exact hi)], hjl, ?_⟩
      rw [St.get_put_ne _ _ hlt (by omega)]
      exact St.get_push_new t _
    · obtain ⟨q, g1, g2, g3⟩ := h.row k (by omega)
      refine ⟨q, by rw [List.getElem?_set_ne (Ne.symm hki)]; exact g1, g2, ?_⟩
      rw [St.get_put_ne _ _ hlt (by omega)]
      exact get_push_some _ g3
theorem LgR.bwm {jl n : Nat} {rows : List (AV × AV)} (h : LgR s t jl n n rows) {M : List Nat} (hM : ∀ id ∈ M, id < s.next ∨ t.next ≤ id) : BwM M t (.sl jl 0 n (some n) 2) (lgL n) := by
  have hjl := St.get_lt h.lst
  refine .inr ⟨jl, 0, some n, by rw [lgL_len], (fun c e => by injection e with e; rw [lgL_len]; omega), fun i x hx => ?_⟩
  have hi := getlt hx
  rw [lgL_len] at hi
  rw [lgL_at hi] at hx
  injection hx with hx
  subst hx
  obtain ⟨q, g1, g2, g3⟩ := h.row i hi
  have hq := St.get_lt g3
  obtain ⟨c0, c1⟩ := flat2_at g1
  refine ⟨.sl q 0 2 (some 2) 1, (fun _ _ _ _ _ e => by injection e with _ _ e1 e2 _; injection e2 with e2; omega), fun u hC => ?_⟩
  have hg := hC.blk h.lst (fun hm => by have := h.new; rcases hM _ hm with k | k <;> omega)
  have hgq := hC.blk g3 (fun hm => by have := h.new; rcases hM _ hm with k | k <;> omega)
  rw [Nat.zero_add]
  refine ⟨?_, by simp only [lod1, hg, c0]; rfl, by simp only [lod1, hg, c1], St.get_lt hg, ?_⟩
  · simp only [lod, hg]
    rw [if_pos (by rw [flat2_len, h.len]; omega), take2 c0 c1]
    rfl
  · exact read_part (cap := some 2) (o := 0) (m := 2) hgq (by simp [lgA])
theorem mksl_bw {n : Nat} (h : n ≤ 1000000) : mkslV [.int .i64 0, .nils] 32 (.int .i64 (n : Int)) (.int .i64 (n : Int)) = some (fun id => .sl id 0 n (some n) 2, .row ((List.replicate n (AV.int .i64 0, AV.nils)).flatMap fun x => [x.1, x.2]) true) := by
  have e : zeros [.int .i64 0, .nils] n = (List.replicate n (AV.int .i64 0, AV.nils)).flatMap fun x => [x.1, x.2] := by
    unfold zeros
    rw [List.flatMap_def, List.map_replicate]
  simp only [mkslV]
  rw [if_pos ⟨by omega, Int.le_refl _, by unfold roomBytes; omega, by omega⟩, ← e]
  simp
/-! ### The last writes of both blocks -/
def gD (a b : Nat) : List UInt8 := (lgA a).2 ++ List.replicate 30 0 ++ (lgA b).2 ++ List.replicate 30 0
theorem gD_even (a b i : Nat) (h : i % 2 = 0) : wrP 32 (gD a b) (lgA i) = gD i b := by
  unfold wrP
  simp only [lgA, h]
  rfl
theorem gD_odd (a b i : Nat) (h : i % 2 = 1) : wrP 32 (gD a b) (lgA i) = gD a i := by
  unfold wrP
  simp only [lgA, h]
  rfl
theorem z_even (i k : Nat) (h : i % 2 = 0) (hk : k % 2 = 1) : wrL 32 (List.replicate 64 0) [lgA i, lgA k] = gD i k := by
  unfold wrL
  simp only [List.foldl_cons, List.foldl_nil, wrP, lgA, h, hk]
  rfl
theorem z_odd (i k : Nat) (h : i % 2 = 1) (hk : k % 2 = 0) : wrL 32 (List.replicate 64 0) [lgA i, lgA k] = gD k i := by
  unfold wrL
  simp only [List.foldl_cons, List.foldl_nil, wrP, lgA, h, hk]
  rfl
theorem lgL_two {n m : Nat} (h : n + 2 ≤ m) : ((lgL m).take (n + 2)).drop n = [lgA n, lgA (n + 1)] := by
  refine List.ext_getElem? fun k => ?_
  rw [List.getElem?_drop]
  by_cases hk : k < 2
  · rw [List.getElem?_take_of_lt (by omega), lgL_at (by omega)]
    obtain rfl | rfl : k = 0 ∨ k = 1 := by omega
    · rfl
    · rfl
  · rw [List.getElem?_take_eq_none (by omega)]
    obtain ⟨k, rfl⟩ : ∃ k', k = k' + 2 := ⟨k - 2, by omega⟩
    rfl
theorem last_two {m : Nat} : ∀ n, n + 2 ≤ m → wrL 32 (List.replicate 64 0) ((lgL m).take (n + 2)) = wrL 32 (List.replicate 64 0) [lgA n, lgA (n + 1)]
  | 0, h => by
    have := lgL_two (n := 0) h
    rw [List.drop_zero] at this
    rw [this]
  | n + 1, h => by
    have ih := last_two (m := m) n (by omega)
    have hs : (lgL m).take (n + 1 + 2) = (lgL m).take (n + 2) ++ [lgA (n + 2)] := by
      rw [show n + 1 + 2 = n + 2 + 1 by omega, List.take_add_one, lgL_at (by omega)]
      rfl
    have hw : wrL 32 (List.replicate 64 0) ((lgL m).take (n + 1 + 2)) = wrP 32 (wrL 32 (List.replicate 64 0) ((lgL m).take (n + 2))) (lgA (n + 2)) := by
      rw [hs]
      unfold wrL
      rw [List.foldl_append]
      rfl
    rw [hw, ih]
    by_cases hn : n % 2 = 0
    · rw [z_even n (n + 1) hn (by omega), gD_even _ _ _ (by omega), z_odd (n + 1) (n + 1 + 1) (by omega) (by omega)]
    · rw [z_odd n (n + 1) (by omega) (by omega), gD_odd _ _ _ (by omega), z_even (n + 1) (n + 1 + 1) (by omega) (by omega)]
theorem lgL_fits (n : Nat) : Fits 2 32 (lgL n) := fun x hx => by
  unfold lgL at hx
  obtain ⟨i, _, rfl⟩ := List.mem_map.1 hx
  refine ⟨?_, ?_, by simp [lgA]⟩
  · show (0 : Int) ≤ ((i % 2 : Nat) : Int)
    omega
  · show ((i % 2 : Nat) : Int) < ((2 : Nat) : Int)
    omega
theorem Fits.drop {n z i : Nat} {L : List (Int × List UInt8)} (h : Fits n z L) : Fits n z (L.drop i) := fun x hx => h x (List.mem_of_mem_drop hx)
theorem s_DiskLongs : SoundAt Try.prog 4 (lawC Try.prog 8 [3, 31]) :=
  con_keep (tb_sound (l := [(10, closed [] (.bool true)), (8, R_New), (12, R_RNew), (13, R_Write2), (16, R_RWrite), (14, R_Crash2), (17, R_RCrash), (15, R_reads2), (11, R_alike)]) (by simpa using ⟨s_known, s_New, s_RNew, s_Write2, s_RWrite, s_Crash2, s_RCrash, s_reads2, s_alike⟩)) mixed Try.func4 k4 c4 fun args s r s' h => by
    obtain ⟨hh, rfl, rfl⟩ := lawC_some h
    obtain ⟨y1, y2, rfl, k1, k2⟩ := rdas_2 hh
    obtain ⟨m, rfl, _⟩ := rda_int i64_under k1
    obtain ⟨wh, rfl, hwh⟩ := rda_u16 k2
    refine ⟨rfl, rfl, by simp [a4], fun env hlen ha => ?_⟩
    have h0 : E env 0 = _ := ha 0 _ rfl
    have h1 : E env 1 = _ := ha 1 _ rfl
    have hlen : elen env = _ := hlen
    simp only [a4] at hlen
    unfold a4
    try dsimp only [oO, oG]
    have n00 : ((0 : Int) = 0) = True := eq_true rfl
    have n55 : ((5 : Int) = 5) = True := eq_true rfl
    have n30 : ((3 : Int) = 0) = False := eq_false (by decide)
    have n33 : ((3 : Int) = 3) = True := eq_true rfl
    by_cases c1 : m < 9998
    · have z1 := eq_true c1
      simp (config := {contextual := true, maxDischargeDepth := 12, maxSteps := 4000000}) only [tb_at, h0, h1, hlen, z1, notV_bool, Bool.not_true, Bool.not_false, pickV_t, pickV_f, bin_eql, bin_neb, bin_npn, bin_np, n00, n30, n33, decide_true, decide_false, gcall_tt, ap_conv, beq_self_eq_true, Bool.true_and, Bool.and_true, ↓bD, bU, forall_const, bS, implies_true, isNx, eq_self, ↓wp_cond, ↓wp_loop, ↓reduceIte, reduceCtorEq, Nat.reduceEqDiff, Nat.reduceLT, Nat.reduceAdd, Nat.reduceMul, bT, ↓sg_bsl, ↓st_callf, bX, ar_b2s, bin_mulE, ap_mkfn, ↓wi_seq, ↓wi_base, ↓wi_block, ↓wi_cond, ↓wi_loop, ↓wi_rf, ↓wy_seq, ↓wy_base, ↓wy_block, ↓wy_cond, ↓wy_loop, ↓wy_yld, q_known, ↓sg_callf3, ↓st_appf, ↓sg_mksl]
      all_goals first | exact .refl s | skip
    have z1 := eq_false c1
    by_cases c2 : 10002 < m
    · have z2 := eq_true c2
      simp (config := {contextual := true, maxDischargeDepth := 12, maxSteps := 4000000}) only [tb_at, h0, h1, hlen, z1, z2, notV_bool, Bool.not_true, Bool.not_false, pickV_t, pickV_f, bin_eql, bin_neb, bin_npn, bin_np, n00, n30, n33, decide_true, decide_false, gcall_tt, ap_conv, beq_self_eq_true, Bool.true_and, Bool.and_true, ↓bD, bU, forall_const, bS, implies_true, isNx, eq_self, ↓wp_cond, ↓wp_loop, ↓reduceIte, reduceCtorEq, Nat.reduceEqDiff, Nat.reduceLT, Nat.reduceAdd, Nat.reduceMul, bT, ↓sg_bsl, ↓st_callf, bX, ar_b2s, bin_mulE, ap_mkfn, ↓wi_seq, ↓wi_base, ↓wi_block, ↓wi_cond, ↓wi_loop, ↓wi_rf, ↓wy_seq, ↓wy_base, ↓wy_block, ↓wy_cond, ↓wy_loop, ↓wy_yld, q_known, ↓sg_callf3, ↓st_appf, ↓sg_mksl]
      all_goals first | exact .refl s | skip
    have z2 := eq_false c2
    obtain ⟨m, rfl⟩ : ∃ n : Nat, m = (n : Int) := ⟨m.toNat, by omega⟩
    obtain ⟨id, jd, ta, q1, hd0, hid, hjd, hKa⟩ := q_NewF_ok (s := s) 2 32 ⟨by omega, by omega, by omega, by omega⟩ (by omega)
    obtain ⟨ic, jc, tb, q2, hc0, hic, hjc, hKb⟩ := q_NewF_ok (s := ta) 2 32 ⟨by omega, by omega, by omega, by omega⟩ (by omega)
    have q1 : acall R_New false [.int .i64 2, .int .i64 32] s = some (.tup [.ptr id 0, .int .i64 0], ta) := q1
    have q2 : acall R_New false [.int .i64 2, .int .i64 32] ta = some (.tup [.ptr ic 0, .int .i64 0], tb) := q2
    have hd0 : DkR ta id jd (some 64) 32 (List.replicate 64 0) := hd0
    have hc0 : DkR tb ic jc (some 64) 32 (List.replicate 64 0) := hc0
    have hdb := hd0.keep hKb
    have hmk := mksl_bw (n := m) (by omega)
    obtain ⟨tl0, htl0⟩ : ∃ tl0, tl0 = tb.push (.row ((List.replicate m (AV.int .i64 0, AV.nils)).flatMap fun x => [x.1, x.2]) true) := ⟨_, rfl⟩
    obtain ⟨jl, hjl⟩ : ∃ jl, jl = tb.next := ⟨_, rfl⟩
    have hK0 : Keep tb tl0 := by rw [htl0]; exact (Keep.refl tb).push _
    have hR0 : LgR tb tl0 jl m 0 (List.replicate m (AV.int .i64 0, AV.nils)) := ⟨by simp, by rw [htl0, hjl]; exact St.get_push_new _ _, by omega, fun k hk => by omega⟩
    simp (config := {contextual := true, maxDischargeDepth := 12, maxSteps := 4000000}) only [tb_at, h0, h1, hlen, z1, z2, q1, q2, aa_mksl, hmk, ← htl0, ← hjl, notV_bool, Bool.not_true, Bool.not_false, pickV_t, pickV_f, bin_eql, bin_neb, bin_npn, bin_np, n00, n30, n33, decide_true, decide_false, gcall_tt, ap_conv, beq_self_eq_true, Bool.true_and, Bool.and_true, ↓bD, bU, forall_const, bS, implies_true, isNx, eq_self, ↓wp_cond, ↓wp_loop, ↓reduceIte, reduceCtorEq, Nat.reduceEqDiff, Nat.reduceLT, Nat.reduceAdd, Nat.reduceMul, bT, ↓sg_bsl, ↓st_callf, bX, ar_b2s, bin_mulE, ap_mkfn, ↓wi_seq, ↓wi_base, ↓wi_block, ↓wi_cond, ↓wi_loop, ↓wi_rf, ↓wy_seq, ↓wy_base, ↓wy_block, ↓wy_cond, ↓wy_loop, ↓wy_yld, q_known, ↓sg_callf3, ↓st_appf, ↓sg_mksl]
    obtain ⟨I, hI⟩ : ∃ I : Nat → Env → St → Prop, ∀ n e t, I n e t = (Keep tb t ∧ ∃ (i : Nat) (rows : List (AV × AV)), n + i = m ∧ elen e = 130 ∧ E e 0 = .int .i64 (m : Int) ∧ E e 1 = .int .u16 (wh : Int) ∧ E e 5 = .ptr id 0 ∧ E e 7 = .ptr ic 0 ∧ E e 9 = .sl jl 0 m (some m) 2 ∧ E e 10 = .int .i64 (i : Int) ∧ LgR tb t jl m i rows) := ⟨fun n e t => (Keep tb t ∧ ∃ (i : Nat) (rows : List (AV × AV)), n + i = m ∧ elen e = 130 ∧ E e 0 = .int .i64 (m : Int) ∧ E e 1 = .int .u16 (wh : Int) ∧ E e 5 = .ptr id 0 ∧ E e 7 = .ptr ic 0 ∧ E e 9 = .sl jl 0 m (some m) 2 ∧ E e 10 = .int .i64 (i : Int) ∧ LgR tb t jl m i rows), fun _ _ _ => rfl⟩
    refine lwp_inv I (n := m) ?_ ?_
    · rw [hI]
      exact ⟨hK0, 0, _, by omega, (by simp only [bE, Nat.reduceEqDiff, bN, Nat.reduceLT, hlen]; try rfl), (by simp only [bE, Nat.reduceEqDiff, bN, Nat.reduceLT, hlen, h0]; try rfl), (by simp only [bE, Nat.reduceEqDiff, bN, Nat.reduceLT, hlen, h1]; try rfl), (by simp only [bE, Nat.reduceEqDiff, bN, Nat.reduceLT, hlen]; try rfl), (by simp only [bE, Nat.reduceEqDiff, bN, Nat.reduceLT, hlen]; try rfl), (by simp only [bE, Nat.reduceEqDiff, bN, Nat.reduceLT, hlen, ← hjl]; try rfl), (by simp only [bE, Nat.reduceEqDiff, bN, Nat.reduceLT, hlen]; try rfl), hR0⟩
    clear h0 h1 hlen ha q1 q2
    intro n e t hi
    rw [hI] at hi
    obtain ⟨hK, i, rows, hni, he, e0, e1, e5, e7, e9, e10, hR⟩ := hi
    by_cases hlt : i < m
    · have y1 := eq_true (show (i : Int) < (m : Int) by omega)
      have hw2 := wrap_add1 (n := i) (by omega)
      have hrm : binOp .rem .no (.int .i64 (i : Int)) (.int .i64 2) = some (.int .i64 ((i % 2 : Nat) : Int)) := bin_remN (a := i) (b := 2) (by omega)
      have hqu : binOp .quo .no (.int .i64 (i : Int)) (.int .i64 256) = some (.int .i64 ((i / 256 : Nat) : Int)) := bin_quoN (a := i) (b := 256) (by omega) (by omega)
      have hf1 := fB_wrap (i : Int)
      have hf2 := fB_wrap ((i / 256 : Nat) : Int)
      have hbs : bslV [.int .u8 0, .int .u8 0] 2 1 [(0, .int .u8 ((fB (i : Int)).toNat : Int)), (1, .int .u8 ((fB ((i / 256 : Nat) : Int)).toNat : Int))] = some (fun id => .sl id 0 2 (some 2) 1, .row (byC.cells (lgA i).2) true) := rfl
      have f0 := fstep_bw0 (x := .int .i64 ((i % 2 : Nat) : Int)) ⟨rfl, rfl⟩ (.int .i64 0) .nils
      have f1 := fstep_bw1 (x := .sl t.next 0 2 (some 2) 1) ⟨rfl, rfl⟩ (.int .i64 ((i % 2 : Nat) : Int)) .nils
      have hia : iadV 2 (.sl jl 0 m (some m) 2) (.int .i64 (i : Int)) = some (.ptr jl (0 + i * 2)) := iadV_nat hlt
      rw [Nat.zero_add] at hia
      obtain ⟨t', rows', hst, hR', hKf⟩ := hR.step hlt
      have hK' := hKf hK
      simp (config := {contextual := true, maxDischargeDepth := 12, maxSteps := 4000000}) only [tb_at, he, e0, e1, e5, e7, e9, e10, y1, hw2, hrm, hqu, ap_conv, hf1, hf2, aa_bsl, aa_bsl1, List.map_cons, hbs, ap_build, fillP_nil, fillP_cons, f0, f1, hia, hst, notV_bool, Bool.not_true, Bool.not_false, pickV_t, pickV_f, bin_eql, bin_neb, bin_npn, bin_np, n00, n30, n33, decide_true, decide_false, gcall_tt, ap_conv, beq_self_eq_true, Bool.true_and, Bool.and_true, ↓bD, bU, forall_const, bS, implies_true, isNx, eq_self, ↓wp_cond, ↓wp_loop, ↓reduceIte, reduceCtorEq, Nat.reduceEqDiff, Nat.reduceLT, Nat.reduceAdd, Nat.reduceMul, bT, ↓sg_bsl, ↓st_callf, bX, ar_b2s, bin_mulE, ap_mkfn, ↓wi_seq, ↓wi_base, ↓wi_block, ↓wi_cond, ↓wi_loop, ↓wi_rf, ↓wy_seq, ↓wy_base, ↓wy_block, ↓wy_cond, ↓wy_loop, ↓wy_yld, q_known, ↓sg_callf3, ↓st_appf, ↓sg_mksl]
      refine ⟨n - 1, by omega, ?_⟩
      rw [hI]
      exact ⟨hK', i + 1, rows', by omega, (by simp only [bE, Nat.reduceEqDiff, bN, Nat.reduceLT, he, e0, e1, e5, e7, e9, e10]; try rfl), (by simp only [bE, Nat.reduceEqDiff, bN, Nat.reduceLT, he, e0, e1, e5, e7, e9, e10]; try rfl), (by simp only [bE, Nat.reduceEqDiff, bN, Nat.reduceLT, he, e0, e1, e5, e7, e9, e10]; try rfl), (by simp only [bE, Nat.reduceEqDiff, bN, Nat.reduceLT, he, e0, e1, e5, e7, e9, e10]; try rfl), (by simp only [bE, Nat.reduceEqDiff, bN, Nat.reduceLT, he, e0, e1, e5, e7, e9, e10]; try rfl), (by simp only [bE, Nat.reduceEqDiff, bN, Nat.reduceLT, he, e0, e1, e5, e7, e9, e10]; try rfl), (by simp only [bE, Nat.reduceEqDiff, bN, Nat.reduceLT, he, e0, e1, e5, e7, e9, e10]; try rfl), hR'⟩
    obtain rfl : i = m := by omega
    have y1 := eq_false (show ¬ (i : Int) < (i : Int) by omega)
    have hKs : Keep s t := (hKa.trans hKb).trans hK
    have hd1 := hdb.keep hK
    have hc1 := hc0.keep hK
    have han := hKa.next
    have hbn := hKb.next
    have hjdn : jd < ta.next := St.get_lt hd0.dat
    have hidn : id < ta.next := St.get_lt hd0.box
    have hjcn : jc < tb.next := St.get_lt hc0.dat
    have hicn : ic < tb.next := St.get_lt hc0.box
    have htn := hK.next
    have hB : ∀ M : List Nat, (∀ x ∈ M, x < tb.next ∨ t.next ≤ x) → BwM M t (.sl jl 0 i (some i) 2) (lgL i) := fun M hM => hR.bwm hM
    have hl64 : (List.replicate 64 (0 : UInt8)).length = 64 := List.length_replicate
    have h642 : (List.replicate 64 (0 : UInt8)).length / 32 = 2 := by rw [hl64]
    by_cases hbig : 10000 < i
    · have y2 := eq_true (show (10000 : Int) < (i : Int) by omega)
      have hch : checkP 2 32 (lgL i) = 5 := by unfold checkP; rw [if_pos (by rw [lgL_len]; exact hbig)]
      obtain ⟨t1, q1, hd2, hC1⟩ := q_Write2 hd1 (hB [jd] (by simp; omega)).jay (by rw [lgL_len]; omega)
      rw [h642, hch] at q1
      have hS : wrS 32 (List.replicate 64 0) (lgL i) = List.replicate 64 0 := by unfold wrS; rw [h642, hch, if_neg (by decide)]
      rw [hS] at hd2
      have hc2 := hc1.chgM hC1 (by simp; omega) (by simp; omega)
      have hBc : BwM [jd, jc] t (.sl jl 0 i (some i) 2) (lgL i) := hB [jd, jc] (by simp; omega)
      have hB1 := (hBc.chg (hC1.mono (by simp))).mono (M' := [jc]) (by simp)
      have hce : crE 2 32 (lgL i) 0 0 = 5 := by unfold crE; rw [hch, if_pos (by decide)]
      have q2 := q_Crash2_e false hc2 hB1.jay (by rw [lgL_len]; omega) (w := 0) (m := 0) (by rw [h642, hce]; decide)
      rw [h642, hce] at q2
      have hmz := mkslB (n := 64) (by omega)
      have hmz : mkslV [.int .u8 0] 1 (.int .i64 64) (.int .i64 64) = some (fun id => .sl id 0 64 (some 64) 1, .row (byC.cells (List.replicate 64 0)) true) := hmz
      obtain ⟨t2, ht2⟩ : ∃ t2, t2 = t1.push (.row (byC.cells (List.replicate 64 0)) true) := ⟨_, rfl⟩
      have hK2 : Keep t1 t2 := by rw [ht2]; exact (Keep.refl t1).push _
      have hg2 : t2.get t1.next = some (.row (byC.cells (List.replicate 64 0)) true) := by rw [ht2]; exact St.get_push_new _ _
      have hrz : AM.read byC t2 (.sl t1.next 0 64 (some 64) 1) = some (List.replicate 64 0) := by
        have := read_part (cap := some 64) (o := 0) (m := 64) hg2 (by rw [hl64]; omega)
        have e : (List.drop 0 (List.replicate 64 (0 : UInt8))).take 64 = List.replicate 64 0 := by rfl
        rw [e] at this
        exact this
      have q3 := q_reads2 false (hd2.keep hK2) (k := 0) (m := 64) (by rw [h642]; omega) (by rw [hl64]; omega) hrz 0
      have e3 : ((List.replicate 64 (0 : UInt8)).drop (0 * 32)).take 64 = List.replicate 64 0 := by rfl
      rw [e3, decide_eq_true rfl, decide_eq_true rfl] at q3
      have q3 : acall R_reads2 false [.ptr id 0, .int .i64 0, .int .i64 64, .sl t1.next 0 64 (some 64) 1, .int .i64 0] t2 = some (.bool (true && true), t2) := q3
      have hKs2 : Keep s t2 := (hKs.chgn hC1 (by simp; omega)).trans hK2
      rw [ht2] at q3
      simp (config := {contextual := true, maxDischargeDepth := 12, maxSteps := 4000000}) only [tb_at, he, e0, e1, e5, e7, e9, e10, y1, y2, q1, q2, n55, aa_mksl, hmz, q3, Bool.and_self, notV_bool, Bool.not_true, Bool.not_false, pickV_t, pickV_f, bin_eql, bin_neb, bin_npn, bin_np, n00, n30, n33, decide_true, decide_false, gcall_tt, ap_conv, beq_self_eq_true, Bool.true_and, Bool.and_true, ↓bD, bU, forall_const, bS, implies_true, isNx, eq_self, ↓wp_cond, ↓wp_loop, ↓reduceIte, reduceCtorEq, Nat.reduceEqDiff, Nat.reduceLT, Nat.reduceAdd, Nat.reduceMul, bT, ↓sg_bsl, ↓st_callf, bX, ar_b2s, bin_mulE, ap_mkfn, ↓wi_seq, ↓wi_base, ↓wi_block, ↓wi_cond, ↓wi_loop, ↓wi_rf, ↓wy_seq, ↓wy_base, ↓wy_block, ↓wy_cond, ↓wy_loop, ↓wy_yld, q_known, ↓sg_callf3, ↓st_appf, ↓sg_mksl]
      rw [ht2] at hKs2
      all_goals first | exact hKs2 | skip
    have y2 := eq_false (show ¬ (10000 : Int) < (i : Int) by omega)
    have hfit := lgL_fits i
    have hch : checkP 2 32 (lgL i) = 0 := by unfold checkP; rw [if_neg (by rw [lgL_len]; omega)]; exact fits_chk hfit
    -- where the crash is
    have hws : IntKind.i64.wrap ((i : Int) - 2) = ((i - 2 : Nat) : Int) := by
      rw [show (i : Int) - 2 = ((i - 2 : Nat) : Int) by omega]
      exact wrapI (by omega) (by omega)
    have hcw : IntKind.i64.wrap (wh : Int) = (wh : Int) := wrapI (by omega) (by omega)
    have hrm := bin_remN (a := wh) (b := i - 2) (by omega)
    obtain ⟨K, hK_⟩ : ∃ K, K = wh % (i - 2) := ⟨_, rfl⟩
    have hKl : K < i - 2 := by rw [hK_]; exact Nat.mod_lt _ (by omega)
    rw [← hK_] at hrm
    have hk2 : IntKind.i64.wrap (2 + (K : Int)) = ((K + 2 : Nat) : Int) := by
      rw [show 2 + (K : Int) = ((K + 2 : Nat) : Int) by omega]
      exact wrapI (by omega) (by omega)
    have hk0 : IntKind.i64.wrap (((K + 2 : Nat) : Int) - 2) = (K : Int) := by
      rw [show ((K + 2 : Nat) : Int) - 2 = (K : Int) by omega]
      exact wrapI (by omega) (by omega)
    obtain ⟨t1, q1, hd2, hC1⟩ := q_Write2 hd1 (hB [jd] (by simp; omega)).jay (by rw [lgL_len]; omega)
    rw [h642, hch] at q1
    have hS : wrS 32 (List.replicate 64 0) (lgL i) = wrL 32 (List.replicate 64 0) (lgL i) := by unfold wrS; rw [h642, hch, if_pos rfl]
    rw [hS] at hd2
    have hc2 := hc1.chgM hC1 (by simp; omega) (by simp; omega)
    have hBc : BwM [jd, jc] t (.sl jl 0 i (some i) 2) (lgL i) := hB [jd, jc] (by simp; omega)
    have hB1 := (hBc.chg (hC1.mono (by simp))).mono (M' := [jc]) (by simp)
    have hnx : nxt (lgL i) (K + 2) = lgA (K + 2) := nxt_at (lgL_at (by omega))
    obtain ⟨t2, q2, hc3, hC2⟩ := q_Crash2 hc2 hB1.jay (by rw [lgL_len]; omega) (by rw [h642]; exact hch) (w := K + 2) (m := 1) (by rw [lgL_len]; omega) (by rw [hnx]; simp [lgA]) (by rw [h642]; omega)
    have q2 : acall R_Crash2 false [.ptr ic 0, .sl jl 0 i (some i) 2, .int .i64 ((K + 2 : Nat) : Int), .int .i64 1] t1 = some (.int .i64 0, t2) := q2
    have hd3 := hd2.chgM hC2 (by simp; omega) (by simp; omega)
    obtain ⟨jx, qx, t3, q3, hX3, hK3⟩ := q_RNewX (s := t2) 2 32 (by omega) (by omega) (by omega) (by omega)
    obtain ⟨jy, qy, t4, q4, hY4, hK4⟩ := q_RNewX (s := t3) 2 32 (by omega) (by omega) (by omega) (by omega)
    have q3 : acall R_RNew false [.int .i64 2, .int .i64 32] t2 = some (.ptr t2.next 0, t3) := q3
    have q4 : acall R_RNew false [.int .i64 2, .int .i64 32] t3 = some (.ptr t3.next 0, t4) := q4
    have n1 := hC1.next
    have n2 := hC2.next
    have n3 := hK3.next
    have n4 := hK4.next
    have hX4 := hX3.keep hK4
    have hMall : ∀ x ∈ [jd, jc] ++ qx ++ qy, x < tb.next ∨ t.next ≤ x := fun x hx => by
      simp only [List.mem_append, List.mem_cons, List.not_mem_nil, or_false] at hx
      rcases hx with (h | h) | h
      · omega
      · have := hX3.hqs x h; omega
      · have := hY4.hqs x h; omega
    have hBall := hB _ hMall
    have hC14 : Chg ([jd, jc] ++ qx ++ qy) t t4 := (((hC1.mono (by simp)).trans hC2 (by simp)).trans (hK3.chg []) (by simp)).trans (hK4.chg []) (by simp)
    have hB4 := hBall.chg hC14
    obtain ⟨vx, sx, hvx⟩ := (hB4.mono (M' := qx) (fun x hx => by simp [hx])).dropv (lo := i - 2) (by rw [lgL_len]; omega)
    obtain ⟨t5, q5, hX5, hC5⟩ := q_RWrite hX4 hvx (by rw [List.length_drop, lgL_len]; omega)
    have hltx : ∀ q ∈ qx, q < t3.next := fun q hq => by
      obtain ⟨_, _, h⟩ := hX3.mem hq
      exact St.get_lt h
    have hixl := St.get_lt hX3.box
    have hjxl := St.get_lt hX3.lst
    have hY5 := hY4.chg hC5 (fun h => by have := hltx _ h; omega) (fun h => by have := hltx _ h; have := hY4.hjx; omega) (fun q hq h => by have := hltx _ h; have := hY4.hqs q hq; omega)
    have hB5 := hB4.chg (hC5.mono (fun x hx => by simp [hx]))
    have hB5y := hB5.mono (M' := qy) (fun x hx => by simp [hx])
    obtain ⟨vy, sy, hvy⟩ := hB5y.sub (lo := K) (hi := K + 2) (by omega) (by rw [lgL_len]; omega)
    rw [lgL_two (by omega)] at hvy
    obtain ⟨t6, q6, hY6, hC6⟩ := q_RWrite hY5 hvy (by simp)
    have hX6 := hX5.chg hC6 (fun h => by have := hY4.hqs _ h; omega) (fun h => by have := hY4.hqs _ h; omega) (fun q hq h => by have := hltx _ hq; have := hY4.hqs _ h; omega)
    have hB6 := (hB5.chg (hC6.mono (fun x hx => by simp [hx]))).mono (M' := qy) (fun x hx => by simp [hx])
    obtain ⟨vz, sz, hvz⟩ := hB6.dropv (lo := K + 2) (by rw [lgL_len]; omega)
    have hfd : Fits 2 32 ((lgL i).drop (K + 2)) := hfit.drop
    have hf2 : Fits 2 32 [lgA K, lgA (K + 1)] := by rw [← lgL_two (n := K) (m := i) (by omega)]; exact hfit.take.drop
    have hl2 : (List.replicate 2 (List.replicate 32 (0 : UInt8))).length = 2 := List.length_replicate
    have hrw : ∀ l ∈ List.replicate 2 (List.replicate 32 (0 : UInt8)), l.length = 32 := hX3.rows
    have hfl : (List.replicate 2 (List.replicate 32 (0 : UInt8))).flatten = List.replicate 64 0 := List.flatten_replicate_replicate
    have hcy : checkP 2 32 [lgA K, lgA (K + 1)] = 0 := by unfold checkP; rw [if_neg (by simp)]; exact fits_chk hf2
    have hSy : wrRS 32 (List.replicate 2 (List.replicate 32 0)) [lgA K, lgA (K + 1)] = wrR (List.replicate 2 (List.replicate 32 0)) [lgA K, lgA (K + 1)] := by unfold wrRS; rw [hl2, hcy, if_pos rfl]
    rw [hSy] at hY6
    rw [hl2] at q5 q6
    have hly : (wrR (List.replicate 2 (List.replicate 32 (0 : UInt8))) [lgA K, lgA (K + 1)]).length = 2 := by rw [wrR_len, hl2]
    have hnz : nxt ((lgL i).drop (K + 2)) 0 = lgA (K + 2) := nxt_at (by rw [List.getElem?_drop, Nat.add_zero, lgL_at (by omega)])
    obtain ⟨t7, q7, hY7, hC7⟩ := q_RCrash hY6 hvz (by rw [List.length_drop, lgL_len]; omega) (w := 0) (m := 1) (by rw [hly]; unfold checkP; rw [if_neg (by rw [List.length_drop, lgL_len]; omega)]; exact fits_chk hfd) (by omega) (by rw [hnz]; simp [lgA])
    have q7 : acall R_RCrash false [.ptr t3.next 0, vz, .int .i64 0, .int .i64 1] t6 = some (.int .i64 0, t7) := q7
    have hX7 := hX6.chg hC7 (fun h => by have := hY4.hqs _ h; omega) (fun h => by have := hY4.hqs _ h; omega) (fun q hq h => by have := hltx _ hq; have := hY4.hqs _ h; omega)
    -- both disks at the end
    have hC47 : Chg (qx ++ qy) t4 t7 := ((hC5.mono (fun x hx => by simp [hx])).trans hC6 (fun x hx => by simp [hx])).trans hC7 (fun x hx => by simp [hx])
    have hnq : ∀ x, x < t2.next → x ∉ qx ++ qy := fun x hx h => by
      rcases List.mem_append.1 h with h | h
      · have := hX3.hqs _ h; omega
      · have := hY4.hqs _ h; omega
    have hd7 := ((hd3.keep hK3).keep hK4).chgM hC47 (hnq id (by omega)) (hnq jd (by omega))
    have hc7 := ((hc3.keep hK3).keep hK4).chgM hC47 (hnq ic (by omega)) (hnq jc (by omega))
    have hx2 : (lgL i).drop (i - 2) = [lgA (i - 2), lgA (i - 2 + 1)] := by
      have := lgL_two (n := i - 2) (m := i) (by omega)
      rw [show i - 2 + 2 = (lgL i).length by rw [lgL_len]; omega, List.take_length] at this
      exact this
    have hwx : (wrRS 32 (List.replicate 2 (List.replicate 32 0)) ((lgL i).drop (i - 2))).flatten = wrL 32 (List.replicate 64 0) (lgL i) := by
      rw [wrS_flat (by omega) hrw, hfl]
      have hc : checkP ((List.replicate 64 (0 : UInt8)).length / 32) 32 ((lgL i).drop (i - 2)) = 0 := by rw [h642]; unfold checkP; rw [if_neg (by rw [List.length_drop, lgL_len]; omega)]; exact fits_chk hfit.drop
      unfold wrS
      rw [if_pos hc, hx2, ← last_two (m := i) (i - 2) (by omega), show i - 2 + 2 = (lgL i).length by rw [lgL_len]; omega, List.take_length]
    have hwy : (crR (wrR (List.replicate 2 (List.replicate 32 0)) [lgA K, lgA (K + 1)]) ((lgL i).drop (K + 2)) 0 1).flatten = wrL 32 (List.replicate 64 0) (crL (lgL i) (K + 2) 1) := by
      have e1 := crR_flat (w := 0) (m := 1) (L := (lgL i).drop (K + 2)) (wrR_rows hrw (by rw [hl2]; exact hf2)) (by rw [hly]; exact hfd) (by omega) (by rw [hnz]; simp [lgA])
      have e2 := wrR_flat hrw (L := [lgA K, lgA (K + 1)]) (by rw [hl2]; exact hf2)
      rw [e1, e2, hfl]
      unfold crL
      rw [hnz, hnx, List.take_zero, List.nil_append, ← last_two (m := i) K (by omega)]
      unfold wrL
      rw [List.foldl_append]
    have hlx7 : (wrRS 32 (List.replicate 2 (List.replicate 32 (0 : UInt8))) ((lgL i).drop (i - 2))).length = 2 := by
      unfold wrRS
      split
      · rw [wrR_len, hl2]
      · exact hl2
    have hly7 : (crR (wrR (List.replicate 2 (List.replicate 32 (0 : UInt8))) [lgA K, lgA (K + 1)]) ((lgL i).drop (K + 2)) 0 1).length = 2 := by
      unfold crR
      split
      · rw [putR_len, wrR_len, hly]
      · rw [wrR_len, hly]
    have hfx := flat_len hX7.rows
    have hfy := flat_len hY7.rows
    rw [hlx7] at hfx
    rw [hly7] at hfy
    have qa := q_alike false hd7 hX7.rkr (by rw [hlx7]; omega) (fun k => by
      have := flat_take_le (wrRS 32 (List.replicate 2 (List.replicate 32 (0 : UInt8))) ((lgL i).drop (i - 2))) 0 k
      rw [List.drop_zero] at this
      omega) (by rw [← hwx, hfx, hlx7])
    rw [hwx, decide_eq_true rfl] at qa
    have qb := q_alike false hc7 hY7.rkr (by rw [hly7]; omega) (fun k => by
      have := flat_take_le (crR (wrR (List.replicate 2 (List.replicate 32 (0 : UInt8))) [lgA K, lgA (K + 1)]) ((lgL i).drop (K + 2)) 0 1) 0 k
      rw [List.drop_zero] at this
      omega) (by rw [← hwy, hfy, hly7])
    rw [hwy, decide_eq_true rfl] at qb
    have hKs2 : Keep s t2 := (hKs.chgn hC1 (by simp; omega)).chgn hC2 (by simp; omega)
    have hKs7 : Keep s t7 := ((hKs2.trans hK3).trans hK4).chgn hC47 (fun x hx => by
      have := hKs2.next
      rcases List.mem_append.1 hx with h | h
      · have := hX3.hqs _ h; omega
      · have := hY4.hqs _ h; omega)
    have hwd : IntKind.i64.wrap ((i : Int) - 2) = ((i - 2 : Nat) : Int) := hws
    simp (config := {contextual := true, maxDischargeDepth := 12, maxSteps := 4000000}) only [tb_at, he, e0, e1, e5, e7, e9, e10, y1, y2, ap_conv, hcw, hws, hrm, hk2, hk0, q1, q2, q3, q4, sx, q5, sy, q6, sz, q7, qa, qb, reserve0, notV_bool, Bool.not_true, Bool.not_false, pickV_t, pickV_f, bin_eql, bin_neb, bin_npn, bin_np, n00, n30, n33, decide_true, decide_false, gcall_tt, ap_conv, beq_self_eq_true, Bool.true_and, Bool.and_true, ↓bD, bU, forall_const, bS, implies_true, isNx, eq_self, ↓wp_cond, ↓wp_loop, ↓reduceIte, reduceCtorEq, Nat.reduceEqDiff, Nat.reduceLT, Nat.reduceAdd, Nat.reduceMul, bT, ↓sg_bsl, ↓st_callf, bX, ar_b2s, bin_mulE, ap_mkfn, ↓wi_seq, ↓wi_base, ↓wi_block, ↓wi_cond, ↓wi_loop, ↓wi_rf, ↓wy_seq, ↓wy_base, ↓wy_block, ↓wy_cond, ↓wy_loop, ↓wy_yld, q_known, ↓sg_callf3, ↓st_appf, ↓sg_mksl]
    all_goals first | exact hKs7 | skip

end Go.AM
end
