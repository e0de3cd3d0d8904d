/-
  AcksAll. Own work of this project; in part printed by a program of it.
-/
import Derived.Test.YtfigjolpmhlnpaaP3
set_option linter.unusedVariables false
set_option linter.unusedSimpArgs false
section
set_option maxRecDepth 100000
set_option maxHeartbeats 8000000
namespace Go.AM
open Go Go.Proofs

variable {s t u : St}

/-! ### Lists of 16-bit numbers -/
def u16C : Cod UInt16 where
  sz := 1
  enc := fun b => [.int .u16 (b.toNat : Int)]
  dec := fun cs => match cs with
    | [.int .u16 n] => if 0 ≤ n ∧ n < 65536 then some (UInt16.ofNat n.toNat) else none
    | _ => none
  pos := by decide
  len := fun _ => rfl
  plain := fun _ => rfl
  dec_enc := fun b => by
    have h := b.toNat_lt
    simp only
    rw [if_pos ⟨by omega, by omega⟩]
    simp
  enc_dec := fun cs x h => by
    split at h
    · split at h
      · rename_i n hn
        injection h with h
        subst h
        simp only [UInt16.toNat_ofNat']
        congr 2
        omega
      · cases h
    · cases h
theorem u16C_sz : u16C.sz = 1 := rfl
theorem u16_lods {v : AV} {l : List UInt16} (h : AM.read u16C s v = some l) {i : Nat} {b : UInt16} (hi : l[i]? = some b) : iadV 1 v (.int .i64 (i : Int)) = some (.ptr (bid v) (boff v + i)) ∧ lod1 s (.ptr (bid v) (boff v + i)) = some (.int .u16 (b.toNat : Int)) ∧ ltN (bid v) s := by
  have h1 := read_idx h hi .i64
  rw [u16C_sz, Nat.mul_one] at h1
  have hl := read_lt h (Keep.refl s) hi
  refine ⟨h1, ?_, hl⟩
  cases v with
  | nils => simp [AM.read] at h; subst h; simp at hi
  | sl id off n cap z =>
    obtain ⟨rfl, rfl, cs, own, hg, _, _, h5⟩ := read_sl h
    obtain ⟨k1, k2⟩ := h5 i b hi 0 1 (Nat.le_refl 1)
    rw [u16C_sz, Nat.mul_one, Nat.add_zero] at k1 k2
    show lod1 s (.ptr id (off + i)) = _
    simp only [lod1, hg]
    have e := congrArg (fun l => l[0]?) k2
    simpa [show u16C.enc b = [AV.int .u16 (b.toNat : Int)] from rfl] using e
  | _ => simp [AM.read] at h
theorem u16_under : Try.prog.underlying 36 = some (.int .u16) := by kernel_rfl
theorem u16s_under : Try.prog.underlying 33 = some (.slice 36) := by kernel_rfl
theorem u16_cells : Try.prog.cellsOf 36 = 1 := by kernel_rfl
theorem u16_of {n : Int} (h : (Lit.int .u16 n).wf = true) : ∃ b : UInt16, n = (b.toNat : Int) := by
  have h1 : 0 ≤ n ∧ n < 65536 := by
    have e1 : IntKind.u16.min = 0 := by decide
    have e2 : IntKind.u16.max = 65535 := by decide
    simp [Lit.wf, e1, e2] at h
    omega
  refine ⟨UInt16.ofNat n.toNat, ?_⟩
  simp only [UInt16.toNat_ofNat']
  omega
theorem u16s_of_rows {d : Nat} : ∀ {rows : List (List AV)}, (∀ r ∈ rows, RdT Try.prog s (d + 1) 36 r) → ∃ l : List UInt16, rows.flatten = u16C.cells l ∧ l.length = rows.length
  | [], _ => ⟨[], rfl, rfl⟩
  | r :: rows, h => by
    obtain ⟨n, rfl, hw⟩ := rd_int u16_under (h r (by simp))
    obtain ⟨b, rfl⟩ := u16_of hw
    obtain ⟨l, h1, h2⟩ := u16s_of_rows (rows := rows) fun r' hr' => h r' (by simp [hr'])
    exact ⟨b :: l, by rw [List.flatten_cons, h1, cells_cons]; rfl, by simp [h2]⟩
theorem rda_u16s {v : AV} (h : RdA Try.prog s 8 33 v) : ∃ l, read u16C s v = some l := by
  obtain ⟨vs, h1, rfl⟩ := h
  rcases rd_slice u16s_under h1 with rfl | ⟨id, n, cap, rows, rfl, h1, _, h3, h4, h5⟩
  · exact ⟨[], by simp [argAV, u16s_under]; rfl⟩
  · obtain ⟨l, e1, e2⟩ := u16s_of_rows fun r hr => (h5 r hr).1
    have e : argAV Try.prog 33 [.sl id 0 n (some cap) (Try.prog.cellsOf 36)] = .sl id 0 n (some cap) 1 := by simp [argAV, u16s_under, u16_cells]
    rw [e]
    refine ⟨l.take n, ?_⟩
    have hall : read u16C s (.sl id 0 cap (some cap) 1) = some l := by
      have hcl : (u16C.cells l).length = l.length * 1 := cells_len u16C l
      refine read_of (C := u16C) (by omega) h4 ?_ ?_
      · rw [e1, hcl]
        show 0 + cap * 1 ≤ _
        omega
      · rw [e1, List.drop_zero, show cap * u16C.sz = (u16C.cells l).length by rw [hcl]; show cap * 1 = _; omega, List.take_length]
    exact read_take hall n h1
theorem ap_conv16 {env : Env} (x : AO) : apure env (.conv .i64 x) = (match aev env x with
    | .int _ n => some (.int .i64 (IntKind.i64.wrap n))
    | _ => none) := nrfl rfl
/-! ### Plain -/
def dl (own : Int) : Nat → List Int
  | 0 => []
  | k + 1 => if 64 - (k : Int) = own then dl own k else dl own k ++ [64 - (k : Int)]
instance okL_dec (own : Int) (l : List Int) : Decidable (okL own l) := by unfold okL; infer_instance
theorem dl_fin : ∀ o : Fin 64, (dl ((o.val : Int) + 1) 64).length = 63 ∧ okL ((o.val : Int) + 1) (dl ((o.val : Int) + 1) 64) ∧ sortI (dl ((o.val : Int) + 1) 64) = (dl ((o.val : Int) + 1) 64).reverse := by decide +kernel
theorem dl_all {own : Int} (h : 1 ≤ own ∧ own ≤ 64) : (dl own 64).length = 63 ∧ okL own (dl own 64) ∧ sortI (dl own 64) = (dl own 64).reverse := by
  have := dl_fin ⟨(own - 1).toNat, by omega⟩
  rwa [show ((own - 1).toNat : Int) + 1 = own by omega] at this
def nn (U : List UInt16) (i : Nat) : Int := match U[i]? with
  | some b => (b.toNat : Int)
  | none => 65535
theorem nn_b (U : List UInt16) (i : Nat) : 0 ≤ nn U i ∧ nn U i ≤ 65535 := by
  unfold nn
  split
  · rename_i b _
    have := b.toNat_lt
    omega
  · omega
def lsP (U : List UInt16) : Nat → Int
  | 0 => 1099511627776
  | k + 1 => min (lsP U k) (nn U k)
theorem lsP_le {U : List UInt16} : ∀ {k i : Nat}, i < k → lsP U k ≤ nn U i
  | k + 1, i, h => by
    unfold lsP
    by_cases hi : i < k
    · have := lsP_le (U := U) hi
      omega
    · obtain rfl : i = k := by omega
      omega
theorem lsP_ge {U : List UInt16} {c : Int} (h0 : c ≤ 1099511627776) : ∀ {k : Nat}, (∀ i, i < k → c ≤ nn U i) → c ≤ lsP U k
  | 0, _ => h0
  | k + 1, h => by
    unfold lsP
    have h1 := lsP_ge h0 (k := k) fun i hi => h i (by omega)
    have h2 := h k (by omega)
    omega
theorem lsP_top {U : List UInt16} : ∀ k : Nat, lsP U k ≤ 1099511627776
  | 0 => Int.le_refl _
  | k + 1 => by
    unfold lsP
    have := lsP_top (U := U) k
    omega
theorem fold_le : ∀ (L : List Nb) (c : Int), L.foldl (fun n x => min n x.a) c ≤ c ∧ ∀ x ∈ L, L.foldl (fun n x => min n x.a) c ≤ x.a
  | [], c => ⟨Int.le_refl _, fun x h => by simp at h⟩
  | y :: L, c => by
    obtain ⟨h1, h2⟩ := fold_le L (min c y.a)
    refine ⟨?_, fun x hx => ?_⟩
    · show L.foldl (fun n x => min n x.a) (min c y.a) ≤ c
      omega
    · show L.foldl (fun n x => min n x.a) (min c y.a) ≤ x.a
      rcases List.mem_cons.1 hx with rfl | hx
      · omega
      · exact h2 x hx
theorem fold_ge {d : Int} : ∀ (L : List Nb) (c : Int), d ≤ c → (∀ x ∈ L, d ≤ x.a) → d ≤ L.foldl (fun n x => min n x.a) c
  | [], c, h, _ => h
  | y :: L, c, h, k => by
    have h1 := k y (by simp)
    exact fold_ge L (min c y.a) (by omega) fun x hx => k x (by simp [hx])
theorem needP_le {L : List Nb} {x : Nb} (h : x ∈ L) : needP L ≤ x.a := (fold_le L _).2 x h
theorem needP_top (L : List Nb) : needP L ≤ 1099511627776 := (fold_le L _).1
theorem needP_ge {L : List Nb} {d : Int} (h0 : d ≤ 1099511627776) (h : ∀ x ∈ L, d ≤ x.a) : d ≤ needP L := fold_ge L _ h0 h
theorem srt_fnd : ∀ {L : List Nb}, SrtB L → ∀ {i : Nat} {x : Nb}, L[i]? = some x → fndB L x.r = some i
  | [], _, i, x, h => by simp at h
  | y :: L, hs, 0, x, h => by
    simp at h
    subst h
    unfold fndB
    rw [if_pos rfl]
  | y :: L, hs, i + 1, x, h => by
    have h' : L[i]? = some x := by simpa using h
    unfold SrtB at hs
    rw [List.pairwise_cons] at hs
    have hlt := hs.1 x (List.mem_of_getElem? h')
    unfold fndB
    rw [if_neg (by omega), srt_fnd (L := L) hs.2 h']
    rfl
/-- What is known after k acknowledgements. -/
def Ak (D : List Int) (U : List UInt16) (k : Nat) (L : List Nb) : Prop := L.length = 63 ∧ ∀ i b, D[i]? = some b → L[62 - i]? = some ⟨b, 0, if i < k then nn U i else 0, 0⟩
theorem Ak.zero {D : List Int} {U : List UInt16} (hD : D.length = 63) (hs : sortI D = D.reverse) : Ak D U 0 ((sortI D).map nbI) := by
  refine ⟨by rw [List.length_map, sortI_len, hD], fun i b hb => ?_⟩
  have hi := getlt hb
  rw [List.getElem?_map, hs, List.getElem?_reverse (by omega), hD, show 63 - 1 - (62 - i) = i by omega, hb]
  rfl
theorem Ak.ack {D : List Int} {U : List UInt16} {k : Nat} {L : List Nb} {b : Int} (h : Ak D U k L) (hD : D.length = 63) (hs : SrtB L) (hb : D[k]? = some b) : (opL (ackF (nn U k) 65535) L b).1 = 0 ∧ Ak D U (k + 1) (opL (ackF (nn U k) 65535) L b).2 := by
  have hx := h.2 k b hb
  rw [if_neg (Nat.lt_irrefl k)] at hx
  have hk := getlt hb
  have hf : fndB L b = some (62 - k) := srt_fnd hs hx
  obtain ⟨n1, n2⟩ := nn_b U k
  have ha : ackF (nn U k) 65535 ⟨b, 0, 0, 0⟩ = (0, ⟨b, 0, nn U k, 0⟩) := by
    unfold ackF
    rw [if_neg (by unfold numI; simp; omega), if_neg (by omega)]
    simp only [Prod.mk.injEq, Nb.mk.injEq, true_and, and_true]
    omega
  rw [opL_hit hf hx, ha]
  refine ⟨rfl, by rw [List.length_set, h.1], fun i c hc => ?_⟩
  have hi := getlt hc
  by_cases hik : i = k
  · subst hik
    rw [hb] at hc
    injection hc with hc
    subst hc
    rw [if_pos (by omega)]
    exact List.getElem?_set_self (getlt hx)
  · rw [List.getElem?_set_ne (by omega), h.2 i c hc]
    congr 2
    by_cases hlt : i < k
    · rw [if_pos hlt, if_pos (by omega)]
    · rw [if_neg hlt, if_neg (by omega)]
theorem Ak.mem {D : List Int} {U : List UInt16} {k : Nat} {L : List Nb} {x : Nb} (h : Ak D U k L) (hD : D.length = 63) (hx : x ∈ L) : ∃ i, i < 63 ∧ x.a = if i < k then nn U i else 0 := by
  obtain ⟨j, hj⟩ := List.mem_iff_getElem?.1 hx
  have hjl := getlt hj
  rw [h.1] at hjl
  obtain ⟨b, hb⟩ := getsome (show 62 - j < D.length by omega)
  have := h.2 (62 - j) b hb
  rw [show 62 - (62 - j) = j by omega, hj] at this
  injection this with this
  refine ⟨62 - j, by omega, ?_⟩
  rw [this]
theorem Ak.need0 {D : List Int} {U : List UInt16} {k : Nat} {L : List Nb} (h : Ak D U k L) (hD : D.length = 63) (hk : k < 63) : needP L = 0 := by
  have h1 : 0 ≤ needP L := needP_ge (by omega) fun x hx => by
    obtain ⟨i, _, e⟩ := h.mem hD hx
    have := nn_b U i
    rw [e]
    split <;> omega
  obtain ⟨b, hb⟩ := getsome (show 62 < D.length by omega)
  have h2 := h.2 62 b hb
  rw [if_neg (by omega)] at h2
  have := needP_le (List.mem_of_getElem? h2)
  simp only at this
  omega
theorem Ak.need {D : List Int} {U : List UInt16} {L : List Nb} (h : Ak D U 63 L) (hD : D.length = 63) : needP L = lsP U 63 := by
  have h1 : lsP U 63 ≤ needP L := needP_ge (lsP_top 63) fun x hx => by
    obtain ⟨i, hi, e⟩ := h.mem hD hx
    rw [e, if_pos hi]
    exact lsP_le hi
  have h2 : needP L ≤ lsP U 63 := lsP_ge (needP_top L) fun i hi => by
    obtain ⟨b, hb⟩ := getsome (show i < D.length by omega)
    have h2 := h.2 i b hb
    rw [if_pos hi] at h2
    exact needP_le (List.mem_of_getElem? h2)
  omega
theorem s_AcksAll : SoundAt Try.prog 4 (lawC Try.prog 8 [3, 33]) :=
  con_keep (tb_sound (l := [(8, closed [] (.bool true)), (9, R_New), (12, R_All), (13, R_Ack), (14, R_Needed)]) (by simpa using ⟨s_known, s_New, s_All, s_Ack, s_Needed⟩)) mixed Try.func4 k4 c4 fun args s r s' h => by
    obtain ⟨hh, rfl, rfl⟩ := lawC_some h
    obtain ⟨y1, vu, rfl, k1, k2⟩ := rdas_2 hh
    obtain ⟨own, rfl, _⟩ := rda_int int_underK k1
    obtain ⟨U, hr⟩ := rda_u16s k2
    refine ⟨rfl, rfl, by simp [a4], fun env hlen ha => ?_⟩
    have h0 : E env 0 = _ := ha 0 _ rfl
    have h1 : E env 1 = _ := ha 1 _ rfl
    have hlen : elen env = _ := hlen
    simp only [a4] at hlen
    unfold a4
    try dsimp only [oO, oG]
    have hU := lenV_read hr
    by_cases c1 : own < 1
    · have z1 := eq_true c1
      simp (config := {contextual := true, maxDischargeDepth := 12, maxSteps := 4000000}) only [tb_at, h0, h1, hlen, hU, z1, gcall_ff, mmV_min, bin_neN, ap_conv16, notV_bool, Bool.not_true, Bool.not_false, pickV_t, pickV_f, bin_eql, bin_neq, bin_neb, bin_npn, bin_np, bin_npnx, gcall_tt, gpure_tf, beq_self_eq_true, Bool.true_and, Bool.and_true, decide_true, decide_false, ↓bD, bU, forall_const, bS, implies_true, isNx, eq_self, ↓wp_cond, ↓wp_loop, ↓reduceIte, reduceCtorEq, Nat.reduceEqDiff, Nat.reduceLT, Nat.reduceAdd, Nat.reduceMul, bT, ↓sg_bsl, ↓st_callf, bX, ap_mkfn, ap_conv, ↓wi_seq, ↓wi_base, ↓wi_block, ↓wi_cond, ↓wi_loop, ↓wi_rf, ↓wy_seq, ↓wy_base, ↓wy_block, ↓wy_cond, ↓wy_loop, ↓wy_yld, bin_shr1, q_known, ae_callvV, callvV_fn, List.append_nil, List.cons_append, List.nil_append, fs40, fs41, mmV_max2, ↓sg_callf3, q_known]
      all_goals first | exact .refl s | skip
    have z1 := eq_false c1
    by_cases c2 : 64 < own
    · have z2 := eq_true c2
      simp (config := {contextual := true, maxDischargeDepth := 12, maxSteps := 4000000}) only [tb_at, h0, h1, hlen, hU, z1, z2, gcall_ff, mmV_min, bin_neN, ap_conv16, notV_bool, Bool.not_true, Bool.not_false, pickV_t, pickV_f, bin_eql, bin_neq, bin_neb, bin_npn, bin_np, bin_npnx, gcall_tt, gpure_tf, beq_self_eq_true, Bool.true_and, Bool.and_true, decide_true, decide_false, ↓bD, bU, forall_const, bS, implies_true, isNx, eq_self, ↓wp_cond, ↓wp_loop, ↓reduceIte, reduceCtorEq, Nat.reduceEqDiff, Nat.reduceLT, Nat.reduceAdd, Nat.reduceMul, bT, ↓sg_bsl, ↓st_callf, bX, ap_mkfn, ap_conv, ↓wi_seq, ↓wi_base, ↓wi_block, ↓wi_cond, ↓wi_loop, ↓wi_rf, ↓wy_seq, ↓wy_base, ↓wy_block, ↓wy_cond, ↓wy_loop, ↓wy_yld, bin_shr1, q_known, ae_callvV, callvV_fn, List.append_nil, List.cons_append, List.nil_append, fs40, fs41, mmV_max2, ↓sg_callf3, q_known]
      all_goals first | exact .refl s | skip
    have z2 := eq_false c2
    by_cases c3 : (64 : Int) < (U.length : Int)
    · have z3 := eq_true c3
      simp (config := {contextual := true, maxDischargeDepth := 12, maxSteps := 4000000}) only [tb_at, h0, h1, hlen, hU, z1, z2, z3, gcall_ff, mmV_min, bin_neN, ap_conv16, notV_bool, Bool.not_true, Bool.not_false, pickV_t, pickV_f, bin_eql, bin_neq, bin_neb, bin_npn, bin_np, bin_npnx, gcall_tt, gpure_tf, beq_self_eq_true, Bool.true_and, Bool.and_true, decide_true, decide_false, ↓bD, bU, forall_const, bS, implies_true, isNx, eq_self, ↓wp_cond, ↓wp_loop, ↓reduceIte, reduceCtorEq, Nat.reduceEqDiff, Nat.reduceLT, Nat.reduceAdd, Nat.reduceMul, bT, ↓sg_bsl, ↓st_callf, bX, ap_mkfn, ap_conv, ↓wi_seq, ↓wi_base, ↓wi_block, ↓wi_cond, ↓wi_loop, ↓wi_rf, ↓wy_seq, ↓wy_base, ↓wy_block, ↓wy_cond, ↓wy_loop, ↓wy_yld, bin_shr1, q_known, ae_callvV, callvV_fn, List.append_nil, List.cons_append, List.nil_append, fs40, fs41, mmV_max2, ↓sg_callf3, q_known]
      all_goals first | exact .refl s | skip
    have z3 := eq_false c3
    obtain ⟨hD, hok, hsr⟩ := dl_all (own := own) (by omega)
    simp (config := {contextual := true, maxDischargeDepth := 12, maxSteps := 4000000}) only [tb_at, h0, h1, hlen, hU, z1, z2, z3, gcall_ff, mmV_min, bin_neN, ap_conv16, notV_bool, Bool.not_true, Bool.not_false, pickV_t, pickV_f, bin_eql, bin_neq, bin_neb, bin_npn, bin_np, bin_npnx, gcall_tt, gpure_tf, beq_self_eq_true, Bool.true_and, Bool.and_true, decide_true, decide_false, ↓bD, bU, forall_const, bS, implies_true, isNx, eq_self, ↓wp_cond, ↓wp_loop, ↓reduceIte, reduceCtorEq, Nat.reduceEqDiff, Nat.reduceLT, Nat.reduceAdd, Nat.reduceMul, bT, ↓sg_bsl, ↓st_callf, bX, ap_mkfn, ap_conv, ↓wi_seq, ↓wi_base, ↓wi_block, ↓wi_cond, ↓wi_loop, ↓wi_rf, ↓wy_seq, ↓wy_base, ↓wy_block, ↓wy_cond, ↓wy_loop, ↓wy_yld, bin_shr1, q_known, ae_callvV, callvV_fn, List.append_nil, List.cons_append, List.nil_append, fs40, fs41, mmV_max2, ↓sg_callf3, q_known]
    obtain ⟨I, hI⟩ : ∃ I : Nat → Env → St → Prop, ∀ n e t, I n e t = (Keep s t ∧ ∃ (i : Nat) (lv : AV), n + i = 64 ∧ elen e = 93 ∧ E e 0 = .int .i64 own ∧ E e 1 = vu ∧ E e 5 = lv ∧ E e 6 = .int .i64 (64 - (i : Int)) ∧ Own inC s t lv (dl own i)) := ⟨fun n e t => (Keep s t ∧ ∃ (i : Nat) (lv : AV), n + i = 64 ∧ elen e = 93 ∧ E e 0 = .int .i64 own ∧ E e 1 = vu ∧ E e 5 = lv ∧ E e 6 = .int .i64 (64 - (i : Int)) ∧ Own inC s t lv (dl own i)), fun _ _ _ => rfl⟩
    refine lwp_inv I (n := 64) ?_ ?_
    · rw [hI]
      exact ⟨.refl s, 0, .nils, by omega, (by simp only [bE, Nat.reduceEqDiff, bN, Nat.reduceLT, hlen]; try rfl), (by simp only [bE, Nat.reduceEqDiff, bN, Nat.reduceLT, hlen, h0]; try rfl), (by simp only [bE, Nat.reduceEqDiff, bN, Nat.reduceLT, hlen, h1]; try rfl), (by simp only [bE, Nat.reduceEqDiff, bN, Nat.reduceLT, hlen]; try rfl), (by simp only [bE, Nat.reduceEqDiff, bN, Nat.reduceLT, hlen]; try rfl), .nil _ _ _⟩
    clear h0 h1 hlen ha
    intro n e t hi
    rw [hI] at hi
    obtain ⟨hK, i, lv, hni, he, e0, e1, e5, e6, hO⟩ := hi
    by_cases hlt : i < 64
    · have y1 := eq_true (show (1 : Int) ≤ 64 - (i : Int) by omega)
      have hwk : IntKind.i64.wrap (64 - (i : Int) - 1) = 64 - ((i + 1 : Nat) : Int) := by
        rw [show 64 - (i : Int) - 1 = ((63 - i : Nat) : Int) by omega, show 64 - ((i + 1 : Nat) : Int) = ((63 - i : Nat) : Int) by omega]
        exact wrapI (by omega) (by omega)
      by_cases c4 : 64 - (i : Int) = own
      · have y2 := eq_true c4
        have hdl : dl own (i + 1) = dl own i := by rw [dl, if_pos c4]
        have hO2 : Own inC s t lv (dl own (i + 1)) := by rw [hdl]; exact hO
        simp (config := {contextual := true, maxDischargeDepth := 12, maxSteps := 4000000}) only [tb_at, he, e0, e1, e5, e6, y1, y2, hwk, gcall_ff, mmV_min, bin_neN, ap_conv16, notV_bool, Bool.not_true, Bool.not_false, pickV_t, pickV_f, bin_eql, bin_neq, bin_neb, bin_npn, bin_np, bin_npnx, gcall_tt, gpure_tf, beq_self_eq_true, Bool.true_and, Bool.and_true, decide_true, decide_false, ↓bD, bU, forall_const, bS, implies_true, isNx, eq_self, ↓wp_cond, ↓wp_loop, ↓reduceIte, reduceCtorEq, Nat.reduceEqDiff, Nat.reduceLT, Nat.reduceAdd, Nat.reduceMul, bT, ↓sg_bsl, ↓st_callf, bX, ap_mkfn, ap_conv, ↓wi_seq, ↓wi_base, ↓wi_block, ↓wi_cond, ↓wi_loop, ↓wi_rf, ↓wy_seq, ↓wy_base, ↓wy_block, ↓wy_cond, ↓wy_loop, ↓wy_yld, bin_shr1, q_known, ae_callvV, callvV_fn, List.append_nil, List.cons_append, List.nil_append, fs40, fs41, mmV_max2, ↓sg_callf3, q_known]
        refine ⟨n - 1, by omega, ?_⟩
        rw [hI]
        exact ⟨hK, i + 1, lv, by omega, (by simp only [bE, Nat.reduceEqDiff, bN, Nat.reduceLT, he, e0, e1, e5, e6]; try rfl), (by simp only [bE, Nat.reduceEqDiff, bN, Nat.reduceLT, he, e0, e1, e5, e6]; try rfl), (by simp only [bE, Nat.reduceEqDiff, bN, Nat.reduceLT, he, e0, e1, e5, e6]; try rfl), (by simp only [bE, Nat.reduceEqDiff, bN, Nat.reduceLT, he, e0, e1, e5, e6]; try rfl), (by simp only [bE, Nat.reduceEqDiff, bN, Nat.reduceLT, he, e0, e1, e5, e6]; try rfl), hO2⟩
      have y2 := eq_false c4
      have hdl : dl own (i + 1) = dl own i ++ [64 - (i : Int)] := by rw [dl, if_neg c4]
      have hdn : ∀ k, (dl own k).length ≤ k := fun k => by
        induction k with
        | zero => simp [dl]
        | succ k ih =>
          unfold dl
          split
          · omega
          · rw [List.length_append]
            simp
            omega
      have hdi := hdn i
      obtain ⟨lv', t', hap, hK', hO'⟩ := appV_one (C := inC) hK hO (64 - (i : Int)) 8 (by unfold roomBytes; omega)
      have hap : appV (t.push (.row [.int .i64 (64 - (i : Int))] true)) 1 8 lv (.sl t.next 0 1 (some 1) 1) = some (lv', t') := hap
      have hbs : bslV [.int .i64 0] 1 1 [(0, .int .i64 (64 - (i : Int)))] = some (fun id => .sl id 0 1 (some 1) 1, .row [.int .i64 (64 - (i : Int))] true) := rfl
      have ff1 : ∀ K : List AV → Option (List AV), fstep [.int .i64 0] 0 1 (.int .i64 (64 - (i : Int))) K = K [.int .i64 (64 - (i : Int))] := fun K => rfl
      rw [← hdl] at hO'
      simp (config := {contextual := true, maxDischargeDepth := 12, maxSteps := 4000000}) only [tb_at, he, e0, e1, e5, e6, y1, y2, hwk, aa_bsl1, hbs, ff1, hap, gcall_ff, mmV_min, bin_neN, ap_conv16, notV_bool, Bool.not_true, Bool.not_false, pickV_t, pickV_f, bin_eql, bin_neq, bin_neb, bin_npn, bin_np, bin_npnx, gcall_tt, gpure_tf, beq_self_eq_true, Bool.true_and, Bool.and_true, decide_true, decide_false, ↓bD, bU, forall_const, bS, implies_true, isNx, eq_self, ↓wp_cond, ↓wp_loop, ↓reduceIte, reduceCtorEq, Nat.reduceEqDiff, Nat.reduceLT, Nat.reduceAdd, Nat.reduceMul, bT, ↓sg_bsl, ↓st_callf, bX, ap_mkfn, ap_conv, ↓wi_seq, ↓wi_base, ↓wi_block, ↓wi_cond, ↓wi_loop, ↓wi_rf, ↓wy_seq, ↓wy_base, ↓wy_block, ↓wy_cond, ↓wy_loop, ↓wy_yld, bin_shr1, q_known, ae_callvV, callvV_fn, List.append_nil, List.cons_append, List.nil_append, fs40, fs41, mmV_max2, ↓sg_callf3, q_known]
      refine ⟨n - 1, by omega, ?_⟩
      rw [hI]
      exact ⟨hK', i + 1, lv', by omega, (by simp only [bE, Nat.reduceEqDiff, bN, Nat.reduceLT, he, e0, e1, e5, e6]; try rfl), (by simp only [bE, Nat.reduceEqDiff, bN, Nat.reduceLT, he, e0, e1, e5, e6]; try rfl), (by simp only [bE, Nat.reduceEqDiff, bN, Nat.reduceLT, he, e0, e1, e5, e6]; try rfl), (by simp only [bE, Nat.reduceEqDiff, bN, Nat.reduceLT, he, e0, e1, e5, e6]; try rfl), (by simp only [bE, Nat.reduceEqDiff, bN, Nat.reduceLT, he, e0, e1, e5, e6]; try rfl), hO'⟩
    obtain rfl : i = 64 := by omega
    have y1 := eq_false (show ¬ (1 : Int) ≤ 64 - ((64 : Nat) : Int) by omega)
    obtain ⟨id, j, cap, t1, q1, hA1, a1, a2, hK1⟩ := q_New_ok hO.read (by omega) hok
    have hjl : ∀ jl o n c z, lv = .sl jl o n c z → jl < t.next := by
      rcases hO with ⟨q, _⟩ | ⟨jl, q, _, _, h7⟩
      · intro _ _ _ _ _ q'; rw [q] at q'; cases q'
      · intro _ _ _ _ _ q'
        rw [q] at q'
        injection q' with q'
        subst q'
        exact St.get_lt h7
    have hrp : own ≠ 0 := (hA1.srtI hok).2
    obtain ⟨w1, t2, q2, hN2, hK2⟩ := q_All hA1 hrp
    have hw1 := lenV_read hN2.read
    rw [List.length_map, sortI_len, hD] at hw1
    have n00 : ((0 : Int) = 0) = True := eq_true rfl
    have n63 : (((63 : Nat) : Int) = 63) = True := eq_true rfl
    have hK2s := (hK.trans hK1).trans hK2
    have hO2 : Own inC s t2 lv (dl own 64) := hO.mono fun _ _ h => (hK1.trans hK2).blk h
    have hA2 := hA1.keep hK2
    have hS2 := (hA1.srtI hok).1
    simp (config := {contextual := true, maxDischargeDepth := 12, maxSteps := 4000000}) only [tb_at, he, e0, e1, e5, e6, y1, q1, q2, hw1, n00, n63, bin_npx, gcall_ff, mmV_min, bin_neN, ap_conv16, notV_bool, Bool.not_true, Bool.not_false, pickV_t, pickV_f, bin_eql, bin_neq, bin_neb, bin_npn, bin_np, bin_npnx, gcall_tt, gpure_tf, beq_self_eq_true, Bool.true_and, Bool.and_true, decide_true, decide_false, ↓bD, bU, forall_const, bS, implies_true, isNx, eq_self, ↓wp_cond, ↓wp_loop, ↓reduceIte, reduceCtorEq, Nat.reduceEqDiff, Nat.reduceLT, Nat.reduceAdd, Nat.reduceMul, bT, ↓sg_bsl, ↓st_callf, bX, ap_mkfn, ap_conv, ↓wi_seq, ↓wi_base, ↓wi_block, ↓wi_cond, ↓wi_loop, ↓wi_rf, ↓wy_seq, ↓wy_base, ↓wy_block, ↓wy_cond, ↓wy_loop, ↓wy_yld, bin_shr1, q_known, ae_callvV, callvV_fn, List.append_nil, List.cons_append, List.nil_append, fs40, fs41, mmV_max2, ↓sg_callf3, q_known]
    obtain ⟨J, hJ⟩ : ∃ I : Nat → Env → St → Prop, ∀ n e z_, I n e z_ = (Keep s z_ ∧ ∃ (i : Nat) (L : List Nb), n + i = 63 ∧ elen e = 93 ∧ E e 0 = .int .i64 own ∧ E e 1 = vu ∧ E e 5 = lv ∧ E e 7 = .ptr id 0 ∧ E e 9 = .int .i64 (lsP U i) ∧ E e 10 = .int .i64 (i : Int) ∧ Own inC s z_ lv (dl own 64) ∧ AkR z_ id j cap own L ∧ SrtB L ∧ Ak (dl own 64) U i L) := ⟨fun n e z_ => (Keep s z_ ∧ ∃ (i : Nat) (L : List Nb), n + i = 63 ∧ elen e = 93 ∧ E e 0 = .int .i64 own ∧ E e 1 = vu ∧ E e 5 = lv ∧ E e 7 = .ptr id 0 ∧ E e 9 = .int .i64 (lsP U i) ∧ E e 10 = .int .i64 (i : Int) ∧ Own inC s z_ lv (dl own 64) ∧ AkR z_ id j cap own L ∧ SrtB L ∧ Ak (dl own 64) U i L), fun _ _ _ => rfl⟩
    refine lwp_inv J (n := 63) ?_ ?_
    · rw [hJ]
      exact ⟨hK2s, 0, _, by omega, (by simp only [bE, Nat.reduceEqDiff, bN, Nat.reduceLT, he, e0, e1, e5]; try rfl), (by simp only [bE, Nat.reduceEqDiff, bN, Nat.reduceLT, he, e0]; try rfl), (by simp only [bE, Nat.reduceEqDiff, bN, Nat.reduceLT, he, e1]; try rfl), (by simp only [bE, Nat.reduceEqDiff, bN, Nat.reduceLT, he, e5]; try rfl), (by simp only [bE, Nat.reduceEqDiff, bN, Nat.reduceLT, he, e0, e1, e5]; try rfl), (by simp only [bE, Nat.reduceEqDiff, bN, Nat.reduceLT, he, e0, e1, e5]; try rfl), (by simp only [bE, Nat.reduceEqDiff, bN, Nat.reduceLT, he, e0, e1, e5]; try rfl), hO2, hA2, hS2, Ak.zero hD hsr⟩
    clear he e0 e1 e5 e6 hO q1 q2
    intro n1 e z_ hi
    rw [hJ] at hi
    obtain ⟨hKz, k, L, hnk, he, e0, e1, e5, e7, e9, e10, hO3, hA3, hS3, hQ3⟩ := hi
    by_cases hlt : k < 63
    · have y1 := eq_true (show (k : Int) < 63 by omega)
      have hw2 := wrap_add1 (n := k) (by omega)
      obtain ⟨b, hb⟩ := getsome (show k < (dl own 64).length by omega)
      obtain ⟨i1, i2, i3⟩ := in_lods hO3.read hb
      have hb63 := nn_b U k
      have hls : lsP U (k + 1) = min (lsP U k) (nn U k) := rfl
      obtain ⟨t3, q3, hA4, hC4⟩ := q_Ack hA3 hrp hS3 b (nn U k) 65535
      obtain ⟨hz0, hQ4⟩ := hQ3.ack hD hS3 hb
      rw [hz0] at q3
      have hS4 := opL_srt (ack_r (n := b) (nn U k) 65535) hS3
      have q4 := q_Needed false hA4 hrp
      have hKn : Keep s t3 := hKz.chgn hC4 (by simp; have := hK.next; omega)
      have hO4 : Own inC s t3 lv (dl own 64) := by
        rcases hO3 with q | ⟨jl, q, h5, h6, h7⟩
        · exact .inl q
        · rcases hO2 with ⟨q', _⟩ | ⟨jl', q', _, _, h8⟩
          · rw [q'] at q; cases q
          · refine .inr ⟨jl, q, h5, h6, hC4.blk h7 ?_⟩
            rw [q'] at q
            injection q with q
            subst q
            have hlt' := hjl _ _ _ _ _ q'
            simp only [List.mem_singleton]
            omega
      by_cases c5 : k < U.length
      · obtain ⟨ub, hub⟩ := getsome c5
        have hnn : nn U k = (ub.toNat : Int) := by unfold nn; rw [hub]
        have hul := ub.toNat_lt
        obtain ⟨u1, u2, u3⟩ := u16_lods (hKz.read hr) hub
        have y4 := eq_true (show (k : Int) < (U.length : Int) by omega)
        have hwu : IntKind.i64.wrap (ub.toNat : Int) = (ub.toNat : Int) := wrapI (by omega) (by omega)
        rw [hnn] at q3 hls hA4 hS4 hQ4 q4
        by_cases hk62 : (k : Int) < 62
        · have y3 := eq_true hk62
          have hn0 := hQ4.need0 hD (by omega)
          rw [hn0] at q4
          simp (config := {contextual := true, maxDischargeDepth := 12, maxSteps := 4000000}) only [tb_at, he, e0, e1, e5, e7, e9, e10, y1, hw2, i1, i2, i3, q3, q4, n00, y3, hU, y4, hwu, u1, u2, u3, gcall_ff, mmV_min, bin_neN, ap_conv16, notV_bool, Bool.not_true, Bool.not_false, pickV_t, pickV_f, bin_eql, bin_neq, bin_neb, bin_npn, bin_np, bin_npnx, gcall_tt, gpure_tf, beq_self_eq_true, Bool.true_and, Bool.and_true, decide_true, decide_false, ↓bD, bU, forall_const, bS, implies_true, isNx, eq_self, ↓wp_cond, ↓wp_loop, ↓reduceIte, reduceCtorEq, Nat.reduceEqDiff, Nat.reduceLT, Nat.reduceAdd, Nat.reduceMul, bT, ↓sg_bsl, ↓st_callf, bX, ap_mkfn, ap_conv, ↓wi_seq, ↓wi_base, ↓wi_block, ↓wi_cond, ↓wi_loop, ↓wi_rf, ↓wy_seq, ↓wy_base, ↓wy_block, ↓wy_cond, ↓wy_loop, ↓wy_yld, bin_shr1, q_known, ae_callvV, callvV_fn, List.append_nil, List.cons_append, List.nil_append, fs40, fs41, mmV_max2, ↓sg_callf3, q_known]
          refine ⟨n1 - 1, by omega, ?_⟩
          rw [hJ]
          exact ⟨hKn, k + 1, _, by omega, (by (try rw [hls]); simp only [bE, Nat.reduceEqDiff, bN, Nat.reduceLT, he, e0, e1, e5, e7, e9, e10]; try rfl), (by (try rw [hls]); simp only [bE, Nat.reduceEqDiff, bN, Nat.reduceLT, he, e0, e1, e5, e7, e9, e10]; try rfl), (by (try rw [hls]); simp only [bE, Nat.reduceEqDiff, bN, Nat.reduceLT, he, e0, e1, e5, e7, e9, e10]; try rfl), (by (try rw [hls]); simp only [bE, Nat.reduceEqDiff, bN, Nat.reduceLT, he, e0, e1, e5, e7, e9, e10]; try rfl), (by (try rw [hls]); simp only [bE, Nat.reduceEqDiff, bN, Nat.reduceLT, he, e0, e1, e5, e7, e9, e10]; try rfl), (by (try rw [hls]); simp only [bE, Nat.reduceEqDiff, bN, Nat.reduceLT, he, e0, e1, e5, e7, e9, e10]; try rfl), (by (try rw [hls]); simp only [bE, Nat.reduceEqDiff, bN, Nat.reduceLT, he, e0, e1, e5, e7, e9, e10]; try rfl), hO4, hA4, hS4, hQ4⟩
        have y3 := eq_false hk62
        simp (config := {contextual := true, maxDischargeDepth := 12, maxSteps := 4000000}) only [tb_at, he, e0, e1, e5, e7, e9, e10, y1, hw2, i1, i2, i3, q3, n00, y3, hU, y4, hwu, u1, u2, u3, gcall_ff, mmV_min, bin_neN, ap_conv16, notV_bool, Bool.not_true, Bool.not_false, pickV_t, pickV_f, bin_eql, bin_neq, bin_neb, bin_npn, bin_np, bin_npnx, gcall_tt, gpure_tf, beq_self_eq_true, Bool.true_and, Bool.and_true, decide_true, decide_false, ↓bD, bU, forall_const, bS, implies_true, isNx, eq_self, ↓wp_cond, ↓wp_loop, ↓reduceIte, reduceCtorEq, Nat.reduceEqDiff, Nat.reduceLT, Nat.reduceAdd, Nat.reduceMul, bT, ↓sg_bsl, ↓st_callf, bX, ap_mkfn, ap_conv, ↓wi_seq, ↓wi_base, ↓wi_block, ↓wi_cond, ↓wi_loop, ↓wi_rf, ↓wy_seq, ↓wy_base, ↓wy_block, ↓wy_cond, ↓wy_loop, ↓wy_yld, bin_shr1, q_known, ae_callvV, callvV_fn, List.append_nil, List.cons_append, List.nil_append, fs40, fs41, mmV_max2, ↓sg_callf3, q_known]
        refine ⟨n1 - 1, by omega, ?_⟩
        rw [hJ]
        exact ⟨hKn, k + 1, _, by omega, (by (try rw [hls]); simp only [bE, Nat.reduceEqDiff, bN, Nat.reduceLT, he, e0, e1, e5, e7, e9, e10]; try rfl), (by (try rw [hls]); simp only [bE, Nat.reduceEqDiff, bN, Nat.reduceLT, he, e0, e1, e5, e7, e9, e10]; try rfl), (by (try rw [hls]); simp only [bE, Nat.reduceEqDiff, bN, Nat.reduceLT, he, e0, e1, e5, e7, e9, e10]; try rfl), (by (try rw [hls]); simp only [bE, Nat.reduceEqDiff, bN, Nat.reduceLT, he, e0, e1, e5, e7, e9, e10]; try rfl), (by (try rw [hls]); simp only [bE, Nat.reduceEqDiff, bN, Nat.reduceLT, he, e0, e1, e5, e7, e9, e10]; try rfl), (by (try rw [hls]); simp only [bE, Nat.reduceEqDiff, bN, Nat.reduceLT, he, e0, e1, e5, e7, e9, e10]; try rfl), (by (try rw [hls]); simp only [bE, Nat.reduceEqDiff, bN, Nat.reduceLT, he, e0, e1, e5, e7, e9, e10]; try rfl), hO4, hA4, hS4, hQ4⟩
      have hnn : nn U k = 65535 := by unfold nn; rw [List.getElem?_eq_none (by omega)]
      have y4 := eq_false (show ¬ (k : Int) < (U.length : Int) by omega)
      rw [hnn] at q3 hls hA4 hS4 hQ4 q4
      by_cases hk62 : (k : Int) < 62
      · have y3 := eq_true hk62
        have hn0 := hQ4.need0 hD (by omega)
        rw [hn0] at q4
        simp (config := {contextual := true, maxDischargeDepth := 12, maxSteps := 4000000}) only [tb_at, he, e0, e1, e5, e7, e9, e10, y1, hw2, i1, i2, i3, q3, q4, n00, y3, hU, y4, gcall_ff, mmV_min, bin_neN, ap_conv16, notV_bool, Bool.not_true, Bool.not_false, pickV_t, pickV_f, bin_eql, bin_neq, bin_neb, bin_npn, bin_np, bin_npnx, gcall_tt, gpure_tf, beq_self_eq_true, Bool.true_and, Bool.and_true, decide_true, decide_false, ↓bD, bU, forall_const, bS, implies_true, isNx, eq_self, ↓wp_cond, ↓wp_loop, ↓reduceIte, reduceCtorEq, Nat.reduceEqDiff, Nat.reduceLT, Nat.reduceAdd, Nat.reduceMul, bT, ↓sg_bsl, ↓st_callf, bX, ap_mkfn, ap_conv, ↓wi_seq, ↓wi_base, ↓wi_block, ↓wi_cond, ↓wi_loop, ↓wi_rf, ↓wy_seq, ↓wy_base, ↓wy_block, ↓wy_cond, ↓wy_loop, ↓wy_yld, bin_shr1, q_known, ae_callvV, callvV_fn, List.append_nil, List.cons_append, List.nil_append, fs40, fs41, mmV_max2, ↓sg_callf3, q_known]
        refine ⟨n1 - 1, by omega, ?_⟩
        rw [hJ]
        exact ⟨hKn, k + 1, _, by omega, (by (try rw [hls]); simp only [bE, Nat.reduceEqDiff, bN, Nat.reduceLT, he, e0, e1, e5, e7, e9, e10]; try rfl), (by (try rw [hls]); simp only [bE, Nat.reduceEqDiff, bN, Nat.reduceLT, he, e0, e1, e5, e7, e9, e10]; try rfl), (by (try rw [hls]); simp only [bE, Nat.reduceEqDiff, bN, Nat.reduceLT, he, e0, e1, e5, e7, e9, e10]; try rfl), (by (try rw [hls]); simp only [bE, Nat.reduceEqDiff, bN, Nat.reduceLT, he, e0, e1, e5, e7, e9, e10]; try rfl), (by (try rw [hls]); simp only [bE, Nat.reduceEqDiff, bN, Nat.reduceLT, he, e0, e1, e5, e7, e9, e10]; try rfl), (by (try rw [hls]); simp only [bE, Nat.reduceEqDiff, bN, Nat.reduceLT, he, e0, e1, e5, e7, e9, e10]; try rfl), (by (try rw [hls]); simp only [bE, Nat.reduceEqDiff, bN, Nat.reduceLT, he, e0, e1, e5, e7, e9, e10]; try rfl), hO4, hA4, hS4, hQ4⟩
      have y3 := eq_false hk62
      simp (config := {contextual := true, maxDischargeDepth := 12, maxSteps := 4000000}) only [tb_at, he, e0, e1, e5, e7, e9, e10, y1, hw2, i1, i2, i3, q3, n00, y3, hU, y4, gcall_ff, mmV_min, bin_neN, ap_conv16, notV_bool, Bool.not_true, Bool.not_false, pickV_t, pickV_f, bin_eql, bin_neq, bin_neb, bin_npn, bin_np, bin_npnx, gcall_tt, gpure_tf, beq_self_eq_true, Bool.true_and, Bool.and_true, decide_true, decide_false, ↓bD, bU, forall_const, bS, implies_true, isNx, eq_self, ↓wp_cond, ↓wp_loop, ↓reduceIte, reduceCtorEq, Nat.reduceEqDiff, Nat.reduceLT, Nat.reduceAdd, Nat.reduceMul, bT, ↓sg_bsl, ↓st_callf, bX, ap_mkfn, ap_conv, ↓wi_seq, ↓wi_base, ↓wi_block, ↓wi_cond, ↓wi_loop, ↓wi_rf, ↓wy_seq, ↓wy_base, ↓wy_block, ↓wy_cond, ↓wy_loop, ↓wy_yld, bin_shr1, q_known, ae_callvV, callvV_fn, List.append_nil, List.cons_append, List.nil_append, fs40, fs41, mmV_max2, ↓sg_callf3, q_known]
      refine ⟨n1 - 1, by omega, ?_⟩
      rw [hJ]
      exact ⟨hKn, k + 1, _, by omega, (by (try rw [hls]); simp only [bE, Nat.reduceEqDiff, bN, Nat.reduceLT, he, e0, e1, e5, e7, e9, e10]; try rfl), (by (try rw [hls]); simp only [bE, Nat.reduceEqDiff, bN, Nat.reduceLT, he, e0, e1, e5, e7, e9, e10]; try rfl), (by (try rw [hls]); simp only [bE, Nat.reduceEqDiff, bN, Nat.reduceLT, he, e0, e1, e5, e7, e9, e10]; try rfl), (by (try rw [hls]); simp only [bE, Nat.reduceEqDiff, bN, Nat.reduceLT, he, e0, e1, e5, e7, e9, e10]; try rfl), (by (try rw [hls]); simp only [bE, Nat.reduceEqDiff, bN, Nat.reduceLT, he, e0, e1, e5, e7, e9, e10]; try rfl), (by (try rw [hls]); simp only [bE, Nat.reduceEqDiff, bN, Nat.reduceLT, he, e0, e1, e5, e7, e9, e10]; try rfl), (by (try rw [hls]); simp only [bE, Nat.reduceEqDiff, bN, Nat.reduceLT, he, e0, e1, e5, e7, e9, e10]; try rfl), hO4, hA4, hS4, hQ4⟩
    obtain rfl : k = 63 := by omega
    have y1 := eq_false (show ¬ ((63 : Nat) : Int) < 63 by omega)
    have q4 := q_Needed false hA3 hrp
    rw [hQ3.need hD] at q4
    have yy : (lsP U 63 = lsP U 63) = True := eq_true rfl
    simp (config := {contextual := true, maxDischargeDepth := 12, maxSteps := 4000000}) only [tb_at, he, e0, e1, e5, e7, e9, e10, y1, q4, yy, gcall_ff, mmV_min, bin_neN, ap_conv16, notV_bool, Bool.not_true, Bool.not_false, pickV_t, pickV_f, bin_eql, bin_neq, bin_neb, bin_npn, bin_np, bin_npnx, gcall_tt, gpure_tf, beq_self_eq_true, Bool.true_and, Bool.and_true, decide_true, decide_false, ↓bD, bU, forall_const, bS, implies_true, isNx, eq_self, ↓wp_cond, ↓wp_loop, ↓reduceIte, reduceCtorEq, Nat.reduceEqDiff, Nat.reduceLT, Nat.reduceAdd, Nat.reduceMul, bT, ↓sg_bsl, ↓st_callf, bX, ap_mkfn, ap_conv, ↓wi_seq, ↓wi_base, ↓wi_block, ↓wi_cond, ↓wi_loop, ↓wi_rf, ↓wy_seq, ↓wy_base, ↓wy_block, ↓wy_cond, ↓wy_loop, ↓wy_yld, bin_shr1, q_known, ae_callvV, callvV_fn, List.append_nil, List.cons_append, List.nil_append, fs40, fs41, mmV_max2, ↓sg_callf3, q_known]
    all_goals first | exact hKz | skip

end Go.AM
end
