/-
  Ordered maps: Copy. Own work of this project; in part printed by a program of it.
-/
import Derived.Test.YtmgfhkkcgdagpaaP3
import Derived.ProofKit
import Derived.Carry
import Derived.Deep.Slices
import Derived.HandedShaped
import Derived.OpenShut
import Derived.KernelRfl
set_option linter.unusedVariables false
set_option linter.unusedSimpArgs false
section
set_option maxRecDepth 100000
set_option maxHeartbeats 8000000
namespace Go.AM
open Go Go.Proofs

variable {s t u : St}

variable {id : Nat} {q : Option Nat} {d : Bool} {L : List PrS}
theorem SrtD.take (h : SrtD d L) (i : Nat) : SrtD d (L.take i) := List.Pairwise.sublist (List.take_sublist i L) h
theorem put_end (h : SrtD d L) {i : Nat} {y : PrS} (hy : L[i]? = some y) : putD d (L.take i) y.1 y.2 = L.take (i + 1) := by
  have hi := getlt hy
  have hlen : (L.take i).length = i := by rw [List.length_take]; omega
  have hrk : rkD d (L.take i) y.1 = i := rk_eq (by omega) (fun j z hj hz => by
    rw [List.getElem?_take_of_lt hj] at hz
    exact h.lt hz hy hj) (fun z hz => by
    have := getlt hz
    omega)
  have hg : gtD d (L.take i) y.1 = none := by
    unfold gtD
    rw [hrk, List.getElem?_eq_none (by omega)]
  unfold putD
  rw [hg, hrk, List.take_of_length_le (by omega), take_snoc hy]
  simp only [Option.isSome_none, Bool.false_eq_true, if_false]
  rw [List.drop_eq_nil_of_le (by omega)]
theorem emb_two' {s t : St} (h : Keep s t) {cs1 : List AV} {cs2 : Nat → List AV} {j1 j2 : Nat} (hne : j1 ≠ j2) (g1 : s.next ≤ j1) (g2 : s.next ≤ j2) (h1 : t.get j1 = some (.row cs1 true)) (hp : cs1.all AV.plain = true) (h2 : t.get j2 = some (.row (cs2 j1) true)) (hr : ∀ f : Nat → Nat, f s.next = j1 → AV.rens f (cs2 s.next) = cs2 j1) :
    ∃ f : Nat → Nat, f s.next = j1 ∧ f (s.next + 1) = j2 ∧ Emb f s ((s.lowed.push (.row cs1 true)).push (.row (cs2 s.next) true)) t := by
  have hn := h.next
  have hlow := h.low
  have hl1 := St.get_lt h1
  have hl2 := St.get_lt h2
  have e1 : ((s.lowed.push (.row cs1 true)).push (.row (cs2 s.next) true)).next = s.next + 2 := rfl
  have e2 : ∀ id, ((s.lowed.push (.row cs1 true)).push (.row (cs2 s.next) true)).get id = if id = s.next + 1 then some (.row (cs2 s.next) true) else if id = s.next then some (.row cs1 true) else s.get id := fun id => by
    rw [St.get_push, St.get_push]
    rfl
  obtain ⟨f, hf⟩ : ∃ f : Nat → Nat, ∀ id, f id = if id < s.next then id else if id = s.next then j1 else if id = s.next + 1 then j2 else t.next + id := ⟨_, fun _ => rfl⟩
  have fo : ∀ id, id < s.next → f id = id := fun id h => by rw [hf, if_pos h]
  have f0 : f s.next = j1 := by rw [hf, if_neg (by omega), if_pos rfl]
  have f1 : f (s.next + 1) = j2 := by rw [hf, if_neg (by omega), if_neg (by omega), if_pos rfl]
  have fb : ∀ id, s.next + 2 ≤ id → f id = t.next + id := fun id h => by rw [hf, if_neg (by omega), if_neg (by omega), if_neg (by omega)]
  refine ⟨f, f0, f1, ⟨by omega, hlow, fo, fun id hid => ?_, fun i k a b e => ?_, fun id b hb => ?_, fun id a b => ?_⟩⟩
  · rw [e1] at hid
    rw [fb id hid]
    omega
  · rw [e1] at a b
    have cases3 : ∀ x, x < s.next + 2 → x < s.next ∨ x = s.next ∨ x = s.next + 1 := fun x hx => by omega
    rcases cases3 i a with q | q | q <;> rcases cases3 k b with r | r | r
    · rw [fo i q, fo k r] at e; exact e
    · rw [fo i q, r, f0] at e; omega
    · rw [fo i q, r, f1] at e; omega
    · rw [fo k r, q, f0] at e; omega
    · omega
    · rw [q, r, f0, f1] at e; exact absurd e hne
    · rw [fo k r, q, f1] at e; omega
    · rw [q, r, f0, f1] at e; exact absurd e.symm hne
    · omega
  · rw [e2] at hb
    split at hb
    · rename_i hid
      subst hid
      injection hb with hb
      subst hb
      refine .inr (.inl ?_)
      rw [f1, h2, AB.ren, hr f f0]
    · split at hb
      · rename_i hid
        subst hid
        injection hb with hb
        subst hb
        refine .inr (.inl ?_)
        rw [f0, h1, AB.ren, plains_rens _ hp]
      · have hid := St.get_lt hb
        exact .inr (.inr ⟨hid, hb, h.blk hb⟩)
  · rw [e2, if_neg (by omega), if_neg (by omega)]
theorem atomsG (W : Option ByteArray) : ∃ a b, getV W = .tup [a, b] := by cases W <;> exact ⟨_, _, rfl⟩
open Classical in
noncomputable def mapOf (s : St) (p : AV) : Option (Bool × List PrS) := if h : ∃ D : Bool × List PrS, ∃ id q, p = .ptr id 0 ∧ MpR s id q D.1 D.2 ∧ SrtD D.1 D.2 ∧ D.2.length < 1000 then some (Classical.choose h) else none
theorem mapOf_some {p : AV} {D : Bool × List PrS} (h : mapOf s p = some D) : ∃ id q, p = .ptr id 0 ∧ MpR s id q D.1 D.2 ∧ SrtD D.1 D.2 ∧ D.2.length < 1000 := by
  unfold mapOf at h
  split at h
  · rename_i hx
    injection h with h
    subst h
    exact Classical.choose_spec hx
  · cases h
open Classical in
noncomputable def cCopy : Con := fun xs s => match xs with
  | [p] => if ZkM s p then some (.nilp, s.lowed) else match mapOf s p with
    | some D => if D.2 = [] then some (.ptr s.next 0, s.lowed.push (.row [ordV D.1, .nils] true)) else some (.ptr (s.next + 1) 0, (s.lowed.push (.row (prC.cells D.2) true)).push (.row [ordV D.1, .sl s.next 0 D.2.length none 2] true))
    | none => none
  | _ => none
theorem a_Copy_z {s : St} {p : AV} (hz : ZkM s p) : ∀ env : Env, elen env = ai32.ntmps → (∀ i x_, [p][i]? = some x_ → E env i = x_) → awpI (tb [(39, R_zero), (36, R_New), (13, R_All), (11, R_Set)]) ai32.body (fun x e t => (∀ i, x ≠ .exit i) ∧ aresults e t ai32.results = some .nilp ∧ Keep s t) env s := by
  intro env hlen ha
  have h0 : E env 0 = _ := ha 0 _ rfl
  have hlen : elen env = _ := hlen
  simp only [ai32] at hlen
  unfold ai32
  try dsimp only [oO, oG]
  have q1 := q_zero_z false hz
  simp (config := {contextual := true, maxDischargeDepth := 12, maxSteps := 4000000}) only [tb_at, h0, hlen, q1, notV_bool, Bool.not_true, Bool.not_false, pickV_t, pickV_f, bin_eql, bin_neq, bin_neb, bin_npn, bin_np, bin_npnx, gcall_tt, gpure_tf, beq_self_eq_true, Bool.true_and, Bool.and_true, decide_true, decide_false, ↓bD, bU, forall_const, bS, implies_true, isNx, eq_self, ↓wp_cond, ↓wp_loop, ↓reduceIte, reduceCtorEq, Nat.reduceEqDiff, Nat.reduceLT, Nat.reduceAdd, Nat.reduceMul, bT, ↓sg_bsl, ↓st_callf, bX, ap_mkfn, ap_conv, ↓wi_seq, ↓wi_base, ↓wi_block, ↓wi_cond, ↓wi_loop, ↓wi_rf, ↓wy_seq, ↓wy_base, ↓wy_block, ↓wy_cond, ↓wy_loop, ↓wy_yld, ae_callvV, callvV_fn, List.append_nil, List.cons_append, List.nil_append, bin_nff, bin_nfn, bin_nffx, bin_nfnx, bin_streq, bin_bo_same]
  all_goals first | exact .refl s | exact .refl _ | skip
theorem a_Copy {s : St} {id : Nat} {q : Option Nat} {d : Bool} {L : List PrS} (hk : MpR s id q d L) (hs : SrtD d L) (hn : L.length < 1000) : ∀ env : Env, elen env = ai32.ntmps → (∀ i x_, [.ptr id 0][i]? = some x_ → E env i = x_) → awpI (tb [(39, R_zero), (36, R_New), (13, R_All), (11, R_Set)]) ai32.body (fun x e t => (∀ i, x ≠ .exit i) ∧ Keep s t ∧ ∃ i q', aresults e t ai32.results = some (.ptr i 0) ∧ s.next ≤ i ∧ (∀ j, q' = some j → s.next ≤ j) ∧ MpR t i q' d L ∧ (L = [] → q' = none)) env s := by
  intro env hlen ha
  have h0 : E env 0 = _ := ha 0 _ rfl
  have hlen : elen env = _ := hlen
  simp only [ai32] at hlen
  unfold ai32
  try dsimp only [oO, oG]
  have q1 := q_zero false hk.box
  obtain ⟨b0, b1, blt⟩ := row2_lod hk.box
  obtain ⟨i, t1, q2, m1, m2, m3⟩ := q_New (s := s) d
  have g3 := St.get_push_new t1 (.row [.nilp] true)
  have st1 := row1_sto g3 (x := .ptr i 0) ⟨rfl, rfl⟩
  have lt1 := St.get_lt g3
  have hK3 : Keep s ((t1.push (.row [.nilp] true)).put t1.next (.row [.ptr i 0] true)) := (m3.push _).put _ m3.next lt1
  have hil := St.get_lt m2.box
  have hM3 : MpR ((t1.push (.row [.nilp] true)).put t1.next (.row [.ptr i 0] true)) i none d [] := m2.mono fun j b hb => by
    rw [St.get_put_ne _ _ lt1 (by have := St.get_lt hb; omega)]
    exact get_push_some _ hb
  have g3' : ((t1.push (.row [.nilp] true)).put t1.next (.row [.ptr i 0] true)).get t1.next = some (.row [.ptr i 0] true) := St.get_put_same g3
  obtain ⟨nb, hnb⟩ : ∃ nb, nb = t1.next := ⟨_, rfl⟩
  obtain ⟨t2, ht2⟩ : ∃ t2, t2 = (t1.push (.row [.nilp] true)).put t1.next (.row [.ptr i 0] true) := ⟨_, rfl⟩
  rw [← ht2] at st1 hK3 hM3 g3'
  obtain ⟨w, t3, q4, hI, hK4⟩ := q_All (hk.keep hK3)
  simp (config := {contextual := true, maxDischargeDepth := 12, maxSteps := 4000000}) only [tb_at, h0, hlen, q1, b0, blt, nchkV_ptr, q2, st1, lt1, q4, notV_bool, Bool.not_true, Bool.not_false, pickV_t, pickV_f, bin_eql, bin_neq, bin_neb, bin_npn, bin_np, bin_npnx, gcall_tt, gpure_tf, beq_self_eq_true, Bool.true_and, Bool.and_true, decide_true, decide_false, ↓bD, bU, forall_const, bS, implies_true, isNx, eq_self, ↓wp_cond, ↓wp_loop, ↓reduceIte, reduceCtorEq, Nat.reduceEqDiff, Nat.reduceLT, Nat.reduceAdd, Nat.reduceMul, bT, ↓sg_bsl, ↓st_callf, bX, ap_mkfn, ap_conv, ↓wi_seq, ↓wi_base, ↓wi_block, ↓wi_cond, ↓wi_loop, ↓wi_rf, ↓wy_seq, ↓wy_base, ↓wy_block, ↓wy_cond, ↓wy_loop, ↓wy_yld, ae_callvV, callvV_fn, List.append_nil, List.cons_append, List.nil_append, bin_nff, bin_nfn, bin_nffx, bin_nfnx, bin_streq, bin_bo_same]
  obtain ⟨b, w0, rfl, hb0, hb1, hw, _⟩ := hI
  rw [← hnb] at g3' hil
  refine rf_gen (fun e => elen e = 22 ∧ E e 3 = .ptr nb 0 ∧ E e 14 = .fn 63 [.ptr b 0]) ⟨(by simp only [bE, Nat.reduceEqDiff, bN, Nat.reduceLT, hlen, h0, hnb]; try rfl), (by simp only [bE, Nat.reduceEqDiff, bN, Nat.reduceLT, hlen, h0, hnb]; try rfl), (by simp only [bE, Nat.reduceEqDiff, bN, Nat.reduceLT, hlen, h0, hnb]; try rfl)⟩ ?_
  clear h0 ha hlen
  rintro e0 ⟨he0, x3, x14⟩
  have hK5 := hK3.trans hK4
  have hb0' := hK3.next
  refine rf_over (by rw [aev_t]; exact x14) (by omega) hb1 (fun n t => Keep s t ∧ AM.read prC t w0 = some L ∧ t.get nb = some (.row [.ptr i 0] true) ∧ ∃ q', MpR t i q' d (L.take n) ∧ (∀ j, q' = some j → s.next ≤ j ∧ j ≠ nb ∧ (∀ c m, w0 ≠ .sl j 0 m c 2)) ∧ (n = 0 → q' = none)) ⟨hK5, hw.rd, hK4.blk g3', none, hM3.keep hK4, (fun j e => by cases e), fun _ => rfl⟩ (fun n t h => h.2.1) (fun n y t t' hJ hy hKt => ?_) (fun t hJ => ?_)
  · obtain ⟨hK, hrd, hg, q', hM, hq, _⟩ := hJ
    have hset : ∀ a c, setPs e0 [15, 16] [a, c] = pE (pE e0 (some 15) a) (some 16) c := fun a c => by unfold pE; rfl
    rw [hset]
    have hg' := hKt.blk hg
    obtain ⟨c3, c3l⟩ := row1_lod hg'
    obtain ⟨t5, q5, ⟨q'', hM5, hq5⟩, hC5, hl5⟩ := q_Set (hM.keep hKt) (hs.take n) y.1 y.2 (by rw [List.length_take]; omega)
    rw [put_end hs hy] at hM5
    obtain ⟨r1, r2, r3⟩ := atomsG (gtD d (L.take n) y.1)
    rw [r3] at q5
    simp (config := {contextual := true, maxDischargeDepth := 12, maxSteps := 4000000}) only [tb_at, he0, x3, x14, c3, c3l, q5, notV_bool, Bool.not_true, Bool.not_false, pickV_t, pickV_f, bin_eql, bin_neq, bin_neb, bin_npn, bin_np, bin_npnx, gcall_tt, gpure_tf, beq_self_eq_true, Bool.true_and, Bool.and_true, decide_true, decide_false, ↓bD, bU, forall_const, bS, implies_true, isNx, eq_self, ↓wp_cond, ↓wp_loop, ↓reduceIte, reduceCtorEq, Nat.reduceEqDiff, Nat.reduceLT, Nat.reduceAdd, Nat.reduceMul, bT, ↓sg_bsl, ↓st_callf, bX, ap_mkfn, ap_conv, ↓wi_seq, ↓wi_base, ↓wi_block, ↓wi_cond, ↓wi_loop, ↓wi_rf, ↓wy_seq, ↓wy_base, ↓wy_block, ↓wy_cond, ↓wy_loop, ↓wy_yld, ae_callvV, callvV_fn, List.append_nil, List.cons_append, List.nil_append, bin_nff, bin_nfn, bin_nffx, bin_nfnx, bin_streq, bin_bo_same]
    have hnbi : nb ≠ i := by omega
    have hnq : ∀ j, q' = some j → j ≠ nb := fun j e => (hq j e).2.1
    have hnM : nb ∉ i :: q'.toList := by
      cases q' with
      | none => simp [hnbi]
      | some j => simp [hnbi, Ne.symm (hnq j rfl)]
    have hw0 : ∀ k m c, w0 = .sl k 0 m c 2 → k ∉ i :: q'.toList := fun k m c e => by
      have hki : k ≠ i := by
        rintro rfl
        rcases hw with ⟨e', _⟩ | ⟨j, cap, e', h1, _⟩
        · rw [e'] at e; cases e
        · rw [e'] at e
          injection e with e
          have : nb < t2.next := by rw [ht2, hnb]; simp
          omega
      cases q' with
      | none => simp [hki]
      | some j =>
        have : k ≠ j := by
          rintro rfl
          exact (hq k rfl).2.2 c m e
        simp [hki, this]
    refine ⟨?_, ?_, hC5.blk hg' hnM, q'', hM5, fun j e => ?_, fun e => by first | omega | exact e.elim | cases e⟩
    · refine (hK.trans hKt).chgn hC5 fun k hk' => ?_
      rcases List.mem_cons.1 hk' with rfl | hk'
      · omega
      · cases q' with
        | none => simp at hk'
        | some j =>
          simp at hk'
          subst hk'
          exact (hq k rfl).1
    · have hrd' := hKt.read hrd
      rcases hw with ⟨e', e''⟩ | ⟨j, cap, e', h1, h2⟩
      · rw [e', e'']; rfl
      · rw [e'] at hrd' ⊢
        obtain ⟨_, _, cs, own, hgj, k1, k2, _⟩ := read_sl hrd'
        exact read_of rfl (hC5.blk hgj (hw0 j _ _ e')) k1 k2
    · rcases hq5 j e with e' | e'
      · exact hq j e'
      · have hKn := (hK.trans hKt).next
        have h7 := St.get_lt hg'
        refine ⟨by omega, by omega, fun c m e2 => ?_⟩
        rw [e2] at hrd
        obtain ⟨_, _, cs, own, hgj, _⟩ := read_sl hrd
        have := St.get_lt hgj
        have := hKt.next
        omega
  · obtain ⟨hK, hrd, hg, q', hM, hq, h0q⟩ := hJ
    rw [List.take_length] at hM
    obtain ⟨c3, c3l⟩ := row1_lod hg
    simp (config := {contextual := true, maxDischargeDepth := 12, maxSteps := 4000000}) only [tb_at, he0, x3, x14, c3, c3l, notV_bool, Bool.not_true, Bool.not_false, pickV_t, pickV_f, bin_eql, bin_neq, bin_neb, bin_npn, bin_np, bin_npnx, gcall_tt, gpure_tf, beq_self_eq_true, Bool.true_and, Bool.and_true, decide_true, decide_false, ↓bD, bU, forall_const, bS, implies_true, isNx, eq_self, ↓wp_cond, ↓wp_loop, ↓reduceIte, reduceCtorEq, Nat.reduceEqDiff, Nat.reduceLT, Nat.reduceAdd, Nat.reduceMul, bT, ↓sg_bsl, ↓st_callf, bX, ap_mkfn, ap_conv, ↓wi_seq, ↓wi_base, ↓wi_block, ↓wi_cond, ↓wi_loop, ↓wi_rf, ↓wy_seq, ↓wy_base, ↓wy_block, ↓wy_cond, ↓wy_loop, ↓wy_yld, ae_callvV, callvV_fn, List.append_nil, List.cons_append, List.nil_append, bin_nff, bin_nfn, bin_nffx, bin_nfnx, bin_streq, bin_bo_same]
    exact ⟨hK, i, q', rfl, m1, (fun j e => (hq j e).1), hM, fun e => h0q (by rw [e]; rfl)⟩
theorem s_Copy : SoundAt Try.prog 32 cCopy :=
  con_soundI (tb_sound (l := [(39, R_zero), (36, R_New), (13, R_All), (11, R_Set)]) (by simpa using ⟨s_zero, s_New, s_All, s_Set⟩)) mixed Try.func32 ki32 ci32 fun args s r s' h => by
    have hnl : ∀ x : AV, [x].length ≤ ai32.ntmps := fun _ => by simp [ai32]
    unfold cCopy at h
    split at h
    · rename_i p
      split at h
      · rename_i hz
        injection h with h
        obtain ⟨rfl, rfl⟩ := Prod.mk.inj h
        refine ⟨gk_lowed s, start_env (hnl _) fun env h1 h2 => awpI_mono _ (fun x e t k => ?_) (a_Copy_z hz env h1 h2)⟩
        obtain ⟨f, _, hf⟩ := emb_keep k.2.2
        exact ⟨k.1, f, k.2.1, hf⟩
      · split at h
        · rename_i D hD
          obtain ⟨d, L⟩ := D
          obtain ⟨id, q, rfl, hk, hs, hn⟩ := mapOf_some hD
          simp only at h hk hs hn
          split at h
          · rename_i hL
            subst hL
            injection h with h
            obtain ⟨rfl, rfl⟩ := Prod.mk.inj h
            refine ⟨gk_push (gk_lowed s) _, start_env (hnl _) fun env h1 h2 => awpI_mono _ (fun x e t k => ?_) (a_Copy hk hs hn env h1 h2)⟩
            obtain ⟨k1, hK, i, q', k2, k3, _, k4, k5⟩ := k
            obtain rfl := k5 rfl
            have hb := k4.box
            obtain ⟨f, f0, hf⟩ := emb_one hK k3 hb (fun f => by cases d <;> simp [ordV, mpV, AV.ren, AV.rens])
            exact ⟨k1, f, by rw [k2]; simp [AV.ren, f0], hf⟩
          · rename_i hL
            injection h with h
            obtain ⟨rfl, rfl⟩ := Prod.mk.inj h
            refine ⟨gk_push (gk_push (gk_lowed s) _) _, start_env (hnl _) fun env h1 h2 => awpI_mono _ (fun x e t k => ?_) (a_Copy hk hs hn env h1 h2)⟩
            obtain ⟨k1, hK, i, q', k2, k3, k3', k4, _⟩ := k
            cases q' with
            | none => exact absurd (k4.nol rfl) hL
            | some j =>
              obtain ⟨hne, hd⟩ := k4.dat j rfl
              obtain ⟨f, f0, f1, hE⟩ := emb_two' hK (cs2 := fun j => [ordV d, .sl j 0 L.length none 2]) hne (k3' j rfl) k3 hd (cells_plain prC L) k4.box (fun f hf => by cases d <;> simp [ordV, AV.ren, AV.rens, hf])
              exact ⟨k1, f, by rw [k2]; simp [AV.ren, f1], hE⟩
        · cases h
    · cases h
theorem q_Copy_z (cl : Bool) {p : AV} (hz : ZkM s p) : acall cCopy cl [p] s = some (.nilp, s) := by
  have e : cCopy [p] (lowd s) = some (.nilp, (lowd s).lowed) := by
    simp only [cCopy, if_pos hz.low]
  exact acall_same e (keep_lowed _) rfl

end Go.AM
end
/-
  The chapter's examples: 'known' answers true. Own work of this project; in part printed by a program of it.
-/
section
set_option maxRecDepth 100000
set_option maxHeartbeats 8000000
namespace Go.AM
open Go Go.Proofs

variable {s t u : St}

def tabK : Nat → AFun
  | 9 => .code a9
  | 10 => .code a10
  | 30 => .code a30
  | 28 => .code a28
  | 27 => .code a27
  | 34 => .code a34
  | 35 => .code a35
  | 50 => .code a50
  | 38 => .code a38
  | 15 => .code a15
  | 36 => .code a36
  | 11 => .code a11
  | 51 => .code a51
  | 17 => .code a17
  | 25 => .code a25
  | 49 => .code a49
  | 26 => .code a26
  | 55 => .code a55
  | 56 => .code a56
  | 13 => .code a13
  | 14 => .code a14
  | 40 => .code a40
  | 39 => .code a39
  | 58 => .code a58
  | 43 => .code a43
  | 62 => .code a62
  | 57 => .code a57
  | 16 => .con (conF prC pPairs)
  | 41 => .con (conIns)
  | 44 => .con (conDel)
  | _ => .no
theorem tabK_ok : ∀ f, FunOk Try.prog f (tabK f) := by
  intro f
  unfold tabK
  split
  · exact ⟨k9, _, Try.func9, c9⟩
  · exact ⟨k10, _, Try.func10, c10⟩
  · exact ⟨k30, _, Try.func30, c30⟩
  · exact ⟨k28, _, Try.func28, c28⟩
  · exact ⟨k27, _, Try.func27, c27⟩
  · exact ⟨k34, _, Try.func34, c34⟩
  · exact ⟨k35, _, Try.func35, c35⟩
  · exact ⟨k50, _, Try.func50, c50⟩
  · exact ⟨k38, _, Try.func38, c38⟩
  · exact ⟨k15, _, Try.func15, c15⟩
  · exact ⟨k36, _, Try.func36, c36⟩
  · exact ⟨k11, _, Try.func11, c11⟩
  · exact ⟨k51, _, Try.func51, c51⟩
  · exact ⟨k17, _, Try.func17, c17⟩
  · exact ⟨k25, _, Try.func25, c25⟩
  · exact ⟨k49, _, Try.func49, c49⟩
  · exact ⟨k26, _, Try.func26, c26⟩
  · exact ⟨k55, _, Try.func55, c55⟩
  · exact ⟨k56, _, Try.func56, c56⟩
  · exact ⟨k13, _, Try.func13, c13⟩
  · exact ⟨k14, _, Try.func14, c14⟩
  · exact ⟨k40, _, Try.func40, c40⟩
  · exact ⟨k39, _, Try.func39, c39⟩
  · exact ⟨k58, _, Try.func58, c58⟩
  · exact ⟨k43, _, Try.func43, c43⟩
  · exact ⟨k62, _, Try.func62, c62⟩
  · exact ⟨k57, _, Try.func57, c57⟩
  · exact s_pairs
  · exact s_cInsI
  · exact s_cDelI
  · trivial
theorem known_run : isTrue (acalls tabK 1000 16 9 [] St.empty) = true := by kernel_rfl
theorem s_known : SoundAt Try.prog 9 (closed [] (.bool true)) := by
  obtain ⟨s, hs⟩ := isTrue_ex known_run
  exact closed_sound (acalls_sound mixed tabK_ok 16 _) hs rfl
theorem q_known (cl : Bool) {s : St} : acall (closed [] (.bool true)) cl [] s = some (.bool true, s) := by simp [acall, closed, AV.ground, AV.plain, AV.plains]

end Go.AM
end
/-
  The row's last part: a call that leaves what was there alone, and answers true. Own work of this project.
-/
section
namespace Go.AM
open Go Go.ChangeShapes Go.WideShapes Go.ChangeAt Go.RowKit

variable {H : Type} {enc : TypeId × Value → H} {P : Program}

theorem Clean.below {W W' : World} (h : Clean W W') : Below W.heap.size W W' := ⟨h.os, h.tape, h.output, h.size, h.block⟩
theorem Clean.frozen {W W' : World} (h : Clean W W') {a : Addr} (ha : a.block < W.heap.size) : W'.frozen? a = W.frozen? a := h.below.frozen ha

theorem trodAll_clean (hl : laidOutB P = true) {W W' : World} (hc : Clean W W') (sp : Nat → Bool) : ∀ {ts : List TypeId} {vs : List Value} {ds : List (DataW H)} {ps : List MemPlace}, (∀ t ∈ ts, P.readableRec t = true ∧ t < P.types.size) →
    DataW.TrodAll enc P W 0 (fun _ => true) true ts vs ds ps → (∀ p ∈ ps, sp p.block = true) → DataW.TrodAll enc P W' 0 sp true ts vs ds ps
  | [], vs, ds, ps, _, h, _ => by
    obtain ⟨rfl, rfl, rfl⟩ := trodAll_nil h
    rfl
  | t :: ts, vs, ds, ps, hr, h, hs => by
    obtain ⟨v, vs1, d, ds1, a, b, rfl, rfl, rfl, h1, h2⟩ := trodAll_cons h
    have hlt := DataW.TrodAll.lt h
    refine ⟨a, b, ?_, trodAll_clean hl hc sp (fun t ht => hr t (by simp [ht])) h2 fun p hp => hs p (by simp [hp]), rfl⟩
    exact WideElems.Trod_stays hl (hr t (by simp)).1 (hr t (by simp)).2 h1 (fun x hx => hc.below.same (hlt x (by simp [hx]))) fun x hx => hs x (by simp [hx])

theorem post_of_clean {f : Func} {s : ChangeSpec} {apart fresh handsOn again : Bool} {W W' : World} {args : Array Value} {ds gs : List (DataW H)} {before : List MemPlace} {tb : TypeId} (hl : laidOutB P = true)
    (hread : ∀ t ∈ f.params.toList, P.readableRec t = true ∧ t < P.types.size) (hW : DataW.Whole enc P f.params.toList s.vars apart W args.toList ds gs before) (hv : s.vars = [])
    (hres : (s.fn H (ds ++ gs)).results = [.lit (.bool true)]) (hargs : (s.fn H (ds ++ gs)).args = ds) (hvars : (s.fn H (ds ++ gs)).vars = []) (hrt : f.resultTypes = #[tb]) (hb : P.underlying tb = some .bool) (hc : Clean W W') :
    s.post enc P f apart fresh handsOn again W args (.bool true) W' := by
  have hlt : ∀ p ∈ before, p.block < W.heap.size := hW.lt
  have hW0 := hW
  obtain ⟨pa, pv, hA, hV, rfl, hz, hn⟩ := hW
  have hpv : pv = [] := by
    rw [hv] at hV
    cases gs with
    | nil => exact hV
    | cons g gs => exact hV.elim
  subst hpv
  simp only [List.append_nil] at hW0 hlt hz hn
  have hR : ∀ (b : Nat) (sp : Nat → Bool) (hd : Bool), DataW.TrodAll enc P W' b sp hd [tb] [.bool true] [.lit (.bool true)] [] := fun b sp hd => trodAll_mk1 (shut_bool hb true)
  have hrl : (Value.bool true).resultList f.resultTypes.size = [.bool true] := by simp [hrt, Value.resultList]
  refine ⟨ds, gs, pa, [], pa, [], hW0, ?_, ?_, ?_, ?_, fun _ => ⟨fun j t r h1 h2 => ?_, ?_⟩⟩
  · rw [hrl, hres, hrt]
    exact hR _ _ _
  · rw [hargs]
    exact trodAll_clean hl hc _ hread hA fun p hp => by simpa using hlt p hp
  · rw [hvars, hv]
    rfl
  · exact hc.below.frame _
  · rw [hrl] at h2
    rw [hrt] at h1
    cases j with
    | zero =>
      simp at h1 h2
      subst h1; subst h2
      simp [Value.okWide, hb, Cell.okWide, Cell.ok]
    | succ j => simp at h1
  · refine ⟨[.lit (.bool true)] ++ ds, [], pa, ⟨[] ++ pa, [], ?_, ?_, by simp, ?_, ?_⟩, fun p hp _ => hp⟩
    · rw [hrl, hrt]
      exact trodAll_append (trodAll_clean hl hc _ hread hA fun _ _ => rfl) (hR _ _ _)
    · rw [hv]
      rfl
    · intro b off hp
      rw [hc.frozen (hlt _ hp)]
      exact hz b off hp
    · intro ha
      simpa using hn ha

end Go.AM
end
/-
  From a row's reading of an argument to the abstract machine's memory. Own work of this project.
-/
section
namespace Go.AM
open Go Go.ChangeShapes Go.WideShapes Go.ChangeAt Go.RowKit Go.Deep

/-- The kinds of plain cells. -/
inductive CK where
  | b | i (k : IntKind) | s
def CK.ok : CK → AV → Prop
  | .b, v => ∃ x, v = .bool x
  | .i k, v => ∃ n, v = .int k n ∧ (Lit.int k n).wf = true
  | .s, v => ∃ x, v = .str x
def CKs : List CK → List AV → Prop
  | [], vs => vs = []
  | k :: ks, vs => ∃ v r, vs = v :: r ∧ k.ok v ∧ CKs ks r
theorem CKs.append : ∀ {ks ks' : List CK} {vs vs' : List AV}, CKs ks vs → CKs ks' vs' → CKs (ks ++ ks') (vs ++ vs')
  | [], ks', vs, vs', h, h' => by simp only [CKs] at h; subst h; exact h'
  | k :: ks, ks', vs, vs', h, h' => by
    simp only [CKs] at h
    obtain ⟨v, r, rfl, h1, h2⟩ := h
    exact ⟨v, r ++ vs', rfl, h1, CKs.append h2 h'⟩
theorem CKs.len : ∀ {ks : List CK} {vs : List AV}, CKs ks vs → vs.length = ks.length
  | [], vs, h => by simp only [CKs] at h; subst h; rfl
  | k :: ks, vs, h => by
    simp only [CKs] at h
    obtain ⟨v, r, rfl, h1, h2⟩ := h
    simp [CKs.len h2]
theorem CK.ok_one {k : CK} {v : AV} (h : k.ok v) : v.one = true := by
  cases k <;> simp only [CK.ok] at h
  · obtain ⟨x, rfl⟩ := h; rfl
  · obtain ⟨x, rfl, _⟩ := h; rfl
  · obtain ⟨x, rfl⟩ := h; rfl
theorem CKs.one : ∀ {ks : List CK} {vs : List AV}, CKs ks vs → vs.all AV.one = true
  | [], vs, h => by simp only [CKs] at h; subst h; rfl
  | k :: ks, vs, h => by
    simp only [CKs] at h
    obtain ⟨v, r, rfl, h1, h2⟩ := h
    simp [CK.ok_one h1, CKs.one h2]

variable (P : Program)
variable {P}
variable {H : Type} {enc : TypeId × Value → H} {w : World} {base : Nat} {spare : Nat → Bool} {held : Bool}
theorem cell_some {a : Addr} {v : Value} (h : w.cell? a = some v) : ∃ cells el fr, w.heap[a.block]? = some (.cells cells el fr) ∧ a.spot = none := by
  unfold World.cell? at h
  split at h
  · rename_i c el fr hh
    split at h
    · cases h
    · rename_i hs
      exact ⟨c, el, fr, hh, by simpa using hs⟩
  · cases h
theorem addr_block (a : Addr) (i : Nat) : (a.add i).block = a.block := by unfold Addr.add; split <;> rfl
theorem addr_spot (a : Addr) (i : Nat) (h : (a.add i).spot = none) (h0 : i = 0 ∨ True) : i = 0 → a.spot = none := by
  intro hi
  subst hi
  unfold Addr.add at h
  simpa using h

/-- Cells, each kind in its turn, again and again. -/
def Rows (ks : List CK) (rows : List (List AV)) : Prop := ∀ r ∈ rows, CKs ks r
end Go.AM
end
/-
  Arguments with slices in slices and in structs, opened into the abstract machine's memory. Own work of this project.
-/
section
set_option maxRecDepth 100000
namespace Go.AM
open Go Go.ChangeShapes Go.WideShapes Go.ChangeAt Go.RowKit Go.Deep

/-- Some block of cells is there. -/
def HasCellsD (W : World) : Prop := ∃ (b : Nat) (cs : Array Value) (e : TypeId) (fr : Nat × Nat), W.heap[b]? = some (Obj.cells cs e fr)
theorem dummyD {W : World} (h : HasCellsD W) : ∃ L : Loc, L.b < W.heap.size ∧ ∀ ρ, BlkOk ρ L W (.row [] false) := by
  obtain ⟨b, cs, e, fr, hb⟩ := h
  refine ⟨⟨b, 0, cs.size⟩, (Array.getElem?_eq_some_iff.1 hb).1, fun ρ => ?_⟩
  simp only [BlkOk]
  exact ⟨cs, e, fr, hb, rfl, by simp, fun i v h => by simp at h, by simp, rfl⟩

section
variable (P : Program)
/-- What the memory shows at cells of a type. -/
def RdF (ok : TypeId → List AV → Prop) : List Field → List AV → Prop
  | [], vs => vs = []
  | f :: r, vs => ∃ a b, vs = a ++ b ∧ ok f.type a ∧ RdF ok r b
def RdT (s : St) : Nat → TypeId → List AV → Prop
  | 0, _, _ => False
  | d + 1, t, vs => match P.underlying t with
    | some .bool => ∃ x, vs = [.bool x]
    | some (.int k) => ∃ n, vs = [.int k n] ∧ (Lit.int k n).wf = true
    | some .string => ∃ x, vs = [.str x]
    | some (.struct fs) => RdF (RdT s d) fs.toList vs
    | some (.slice e) => vs = [.nils] ∨ ∃ (id n cap : Nat) (rows : List (List AV)), vs = [.sl id 0 n (some cap) (P.cellsOf e)] ∧ n ≤ cap ∧ cap ≤ maxLen ∧ rows.length = cap ∧ s.get id = some (.row rows.flatten false) ∧ ∀ r ∈ rows, RdT s d e r ∧ r.length = P.cellsOf e
    | _ => False
def okF (ok : TypeId → Bool) : List Field → Nat → Nat → Bool
  | [], at_, sz => decide (sz = at_)
  | f :: r, at_, sz => decide (f.offset = at_) && ok f.type && okF ok r (at_ + P.cellsOf f.type) sz
def okT : Nat → TypeId → Bool
  | 0, _ => false
  | d + 1, t => match P.underlying t with
    | some .bool | some (.int _) | some .string => true
    | some (.struct fs) => okF P (okT d) fs.toList 0 (P.cellsOf t)
    | some (.slice e) => decide (P.cellsOf e ≠ 0) && okT d e
    | _ => false
end

variable {P : Program} {H : Type} {enc : TypeId × Value → H} {W : World} {base : Nat} {held : Bool}
/-- Cells, and the blocks that they reach, numbered from 'start' on. -/
structure Opn (W : World) (Q : St → List AV → Prop) (start : Nat) (cs : List Value) (vs : List AV) (bl : List (AB × Loc)) : Prop where
  lt : ∀ p ∈ bl, p.2.b < W.heap.size
  own : ∀ p ∈ bl, p.1.owned = false
  vr : ∀ ρ : Ren, (∀ i p, bl[i]? = some p → ρ (start + i) = some p.2) → VRs ρ vs cs ∧ ∀ p ∈ bl, BlkOk ρ p.2 W p.1
  rd : ∀ s : St, (∀ i p, bl[i]? = some p → s.get (start + i) = some p.1) → Q s vs
  one : vs.all AV.one = true
  len : vs.length = cs.length
theorem Opn.plain {Q : St → List AV → Prop} {start : Nat} {cs : List Value} {vs : List AV} (h : ∀ ρ, VRs ρ vs cs) (hq : ∀ s, Q s vs) (ho : vs.all AV.one = true) (hl : vs.length = cs.length) : Opn W Q start cs vs [] :=
  ⟨by simp, by simp, fun ρ _ => ⟨h ρ, by simp⟩, fun s _ => hq s, ho, hl⟩
theorem Opn.app {Q1 Q2 : St → List AV → Prop} {start : Nat} {c1 c2 : List Value} {v1 v2 : List AV} {b1 b2 : List (AB × Loc)} (h : Opn W Q1 start c1 v1 b1) (k : Opn W Q2 (start + b1.length) c2 v2 b2) :
    Opn W (fun s _ => Q1 s v1 ∧ Q2 s v2) start (c1 ++ c2) (v1 ++ v2) (b1 ++ b2) := by
  have e1 : ∀ {i : Nat} {p}, b1[i]? = some p → (b1 ++ b2)[i]? = some p := fun {i p} hp => by
    rw [List.getElem?_append_left (List.getElem?_eq_some_iff.1 hp).1]; exact hp
  have e2 : ∀ {i : Nat} {p}, b2[i]? = some p → (b1 ++ b2)[b1.length + i]? = some p := fun {i p} hp => by
    rw [List.getElem?_append_right (by omega), Nat.add_sub_cancel_left]; exact hp
  refine ⟨fun p hp => ?_, fun p hp => ?_, fun ρ hρ => ?_, fun s hs => ⟨h.rd s fun i p hp => hs i p (e1 hp), k.rd s fun i p hp => ?_⟩, by simp [h.one, k.one], by simp [h.len, k.len]⟩
  · rcases List.mem_append.1 hp with q | q
    · exact h.lt p q
    · exact k.lt p q
  · rcases List.mem_append.1 hp with q | q
    · exact h.own p q
    · exact k.own p q
  · obtain ⟨r1, r2⟩ := h.vr ρ fun i p hp => hρ i p (e1 hp)
    obtain ⟨r3, r4⟩ := k.vr ρ fun i p hp => by have := hρ _ p (e2 hp); rwa [← Nat.add_assoc] at this
    refine ⟨r1.append r3, fun p hp => ?_⟩
    rcases List.mem_append.1 hp with q | q
    · exact r2 p q
    · exact r4 p q
  · have := hs _ p (e2 hp)
    rwa [← Nat.add_assoc] at this
theorem Opn.imp {Q Q' : St → List AV → Prop} {start : Nat} {cs : List Value} {vs : List AV} {bl : List (AB × Loc)} (h : Opn W Q start cs vs bl) (k : ∀ s, Q s vs → Q' s vs) : Opn W Q' start cs vs bl :=
  ⟨h.lt, h.own, h.vr, fun s hs => k s (h.rd s hs), h.one, h.len⟩

/-- A slice's place, its elements as they are read one by one. -/
theorem slice_geo {t e : TypeId} {fuel : Nat} {cs : List Value} {x : DataW H × List MemPlace} (hu : P.underlying t = some (.slice e)) (h0 : P.cellsOf e ≠ 0)
    (h : DataW.trod enc P W base (fun _ => true) held fuel t cs = some x) : cs = [.slice none 0 0] ∨ (∃ a, cs = [.slice (some a) 0 0]) ∨
    ∃ (b off len cap : Nat) (cells : Array Value) (el : TypeId) (fr : Nat × Nat) (n : Nat), cs = [.slice (some ⟨b, off, none⟩) len cap] ∧ 0 < cap ∧ len ≤ cap ∧ cap ≤ maxLen ∧ W.heap[b]? = some (.cells cells el fr) ∧ off + cap * P.cellsOf e ≤ cells.size ∧
      ∀ i, i < cap → ∃ x, DataW.trod enc P W base (fun _ => true) held n e ((cells.toList.drop (off + i * P.cellsOf e)).take (P.cellsOf e)) = some x := by
  rcases open_slice hu h with ⟨rfl, _⟩ | ⟨a, len, cap, m, n, D, Pl, rfl, hb, hl, hm, hmm, _, hx⟩
  · exact .inl rfl
  right
  simp only [if_true] at hmm
  subst hmm
  by_cases hc : m = 0
  · left
    subst hc
    have : len = 0 := by omega
    subst this
    exact ⟨a, rfl⟩
  right
  obtain ⟨cs0, h1, _⟩ := hx 0 (by omega)
  obtain ⟨_, hl0, hat0⟩ := World.cells?_some h1
  have hc0 := hat0 0 (by omega)
  obtain ⟨b, off, spot⟩ := a
  have hsome : ∃ v, cs0[0]? = some v := ⟨cs0[0]'(by omega), by simp⟩
  obtain ⟨v0, hv0⟩ := hsome
  rw [hv0] at hc0
  obtain ⟨cells, el, fr, hh, hsp⟩ := cell_some hc0
  rw [addr_block, addr_block] at hh
  simp only at hh
  have hspot : spot = none := by
    have h2 := addr_spot _ 0 hsp (.inl rfl) rfl
    have h3 := addr_spot _ (0 * P.cellsOf e) h2 (.inr trivial) (by simp)
    exact h3
  subst hspot
  have hat : ∀ i, i < m → off + (i + 1) * P.cellsOf e ≤ cells.size ∧ ∃ x, DataW.trod enc P W base (fun _ => true) held n e ((cells.toList.drop (off + i * P.cellsOf e)).take (P.cellsOf e)) = some x := by
    intro i hi
    obtain ⟨cs', e1, e2⟩ := hx i hi
    obtain ⟨_, hl', hat'⟩ := World.cells?_some e1
    have hget : ∀ j, j < P.cellsOf e → cells[off + i * P.cellsOf e + j]? = cs'[j]? := by
      intro j hj
      have := hat' j hj
      rw [addr_add, addr_add, cell_at hh] at this
      exact this
    have hsz : off + (i + 1) * P.cellsOf e ≤ cells.size := by
      have hj : P.cellsOf e - 1 < P.cellsOf e := by omega
      have := hget _ hj
      rw [List.getElem?_eq_getElem (by omega)] at this
      have hlt := (Array.getElem?_eq_some_iff.1 this).1
      rw [Nat.succ_mul]
      omega
    refine ⟨hsz, (D i, Pl i), ?_⟩
    have : (cells.toList.drop (off + i * P.cellsOf e)).take (P.cellsOf e) = cs' := by
      apply List.ext_getElem?
      intro j
      by_cases hj : j < P.cellsOf e
      · rw [List.getElem?_take_of_lt hj, List.getElem?_drop]
        have := hget j (by omega)
        simpa using this
      · rw [List.getElem?_eq_none (by simp; omega), List.getElem?_eq_none (by omega)]
    rw [this]
    exact e2
  obtain ⟨q2, _⟩ := hat (m - 1) (by omega)
  rw [show m - 1 + 1 = m by omega] at q2
  exact ⟨b, off, len, m, cells, el, fr, n, rfl, by omega, hl, hm, hh, q2, fun i hi => (hat i hi).2⟩

def DeepOk (P : Program) (enc : TypeId × Value → H) (W : World) (base : Nat) (held : Bool) (d : Nat) (t : TypeId) : Prop :=
  ∀ (fuel : Nat) (cs : List Value) (x : DataW H × List MemPlace), DataW.trod enc P W base (fun _ => true) held fuel t cs = some x → ∀ start, ∃ vs bl, Opn W (fun s vs => RdT P s d t vs) start cs vs bl

theorem deep_fields {d : Nat} (IH : ∀ t, okT P d t = true → DeepOk P enc W base held d t) {n : Nat} {cs : List Value} {sz : Nat} (hcs : cs.length = sz) : ∀ (fs : List Field) (at_ : Nat), okF P (okT P d) fs at_ sz = true →
    (∀ f ∈ fs, ∃ x, DataW.trod enc P W base (fun _ => true) held n f.type ((cs.drop f.offset).take (P.cellsOf f.type)) = some x) → ∀ start, ∃ vs bl, Opn W (fun s vs => RdF (RdT P s d) fs vs) start (cs.drop at_) vs bl
  | [], at_, h, _, start => by
    simp only [okF, decide_eq_true_eq] at h
    rw [List.drop_eq_nil_of_le (by omega)]
    exact ⟨[], [], .plain (fun _ => VRs_nil) (fun _ => rfl) rfl rfl⟩
  | f :: r, at_, h, hx, start => by
    simp only [okF, Bool.and_eq_true, decide_eq_true_eq] at h
    obtain ⟨⟨hoff, hok⟩, hr⟩ := h
    obtain ⟨x, hxf⟩ := hx f (by simp)
    obtain ⟨v1, b1, o1⟩ := IH f.type hok n _ x hxf start
    obtain ⟨v2, b2, o2⟩ := deep_fields IH hcs r (at_ + P.cellsOf f.type) hr (fun g hg => hx g (by simp [hg])) (start + b1.length)
    refine ⟨v1 ++ v2, b1 ++ b2, ?_⟩
    have := o1.app o2
    rw [hoff, ← List.drop_drop, List.take_append_drop] at this
    exact this.imp fun s q => ⟨v1, v2, rfl, q⟩
theorem deep_rows {d : Nat} {e : TypeId} {n : Nat} (IH : DeepOk P enc W base held d e) (cells : List Value) (off : Nat) : ∀ (k : Nat), off + k * P.cellsOf e ≤ cells.length →
    (∀ i, i < k → ∃ x, DataW.trod enc P W base (fun _ => true) held n e ((cells.drop (off + i * P.cellsOf e)).take (P.cellsOf e)) = some x) → ∀ start, ∃ (rows : List (List AV)) (bl : List (AB × Loc)), rows.length = k ∧
      Opn W (fun s _ => ∀ r ∈ rows, RdT P s d e r ∧ r.length = P.cellsOf e) start ((cells.drop off).take (k * P.cellsOf e)) rows.flatten bl
  | 0, _, _, start => ⟨[], [], rfl, .plain (fun _ => by simpa using VRs_nil) (fun _ r hr => by simp at hr) rfl (by simp)⟩
  | k + 1, hle, hx, start => by
    obtain ⟨rows, b1, h1, o1⟩ := deep_rows IH cells off k (by rw [Nat.succ_mul] at hle; omega) (fun i hi => hx i (by omega)) start
    obtain ⟨x, hxk⟩ := hx k (by omega)
    obtain ⟨v2, b2, o2⟩ := IH n _ x hxk (start + b1.length)
    refine ⟨rows ++ [v2], b1 ++ b2, by simp [h1], ?_⟩
    have hl2 : v2.length = P.cellsOf e := by
      rw [o2.len, List.length_take, List.length_drop]
      rw [Nat.succ_mul] at hle
      omega
    have := o1.app o2
    rw [List.flatten_append, List.flatten_singleton, Nat.succ_mul, List.take_add, List.drop_drop]
    refine this.imp fun s hq r hr => ?_
    rcases List.mem_append.1 hr with q | q
    · exact hq.1 r q
    · simp at q
      subst q
      exact ⟨hq.2, hl2⟩
theorem VRs.cell {ρ : Ren} {vs : List AV} {cs : List Value} (h : VRs ρ vs cs) {i : Nat} {v : AV} (hi : vs[i]? = some v) : ∃ c, cs[i]? = some c ∧ VR ρ v c := VRs.at_ i h hi
theorem deep_open (hc : HasCellsD W) : ∀ (d : Nat) (t : TypeId), okT P d t = true → DeepOk P enc W base held d t
  | 0, t, h => by simp [okT] at h
  | d + 1, t, h => by
    intro fuel cs x hx start
    simp only [okT] at h
    split at h
    · rename_i hu
      obtain ⟨b, rfl, _⟩ := DataW.trod_bool hu hx
      exact ⟨[.bool b], [], .plain (fun ρ => VRs_cons.2 ⟨by simp [VR], VRs_nil⟩) (fun s => by simp only [RdT, hu]; exact ⟨b, rfl⟩) rfl rfl⟩
    · rename_i k hu
      obtain ⟨b, rfl, _, hw⟩ := DataW.trod_int hu hx
      exact ⟨[.int k b], [], .plain (fun ρ => VRs_cons.2 ⟨by simp [VR], VRs_nil⟩) (fun s => by simp only [RdT, hu]; exact ⟨b, rfl, hw⟩) rfl rfl⟩
    · rename_i hu
      obtain ⟨b, rfl, _⟩ := DataW.trod_string hu hx
      exact ⟨[.str b], [], .plain (fun ρ => VRs_cons.2 ⟨by simp [VR], VRs_nil⟩) (fun s => by simp only [RdT, hu]; exact ⟨b, rfl⟩) rfl rfl⟩
    · rename_i fs hu
      obtain ⟨xs, n, _, _, hl, hxl, hf⟩ := DataW.trod_struct hu hx
      obtain ⟨vs, bl, ho⟩ := deep_fields (fun t hk => deep_open hc d t hk) hl fs.toList 0 h (n := n) (fun f hmem => by
        obtain ⟨i, hi⟩ := List.getElem?_of_mem hmem
        have hi' : fs[i]? = some f := by simpa using hi
        have hlt : i < xs.length := by
          have := (Array.getElem?_eq_some_iff.1 hi').1
          omega
        exact ⟨xs[i], by rw [hf i f hi']; simp [hlt]⟩) start
      rw [List.drop_zero] at ho
      exact ⟨vs, bl, ho.imp fun s q => by simp only [RdT, hu]; exact q⟩
    · rename_i e hu
      simp only [Bool.and_eq_true, decide_eq_true_eq] at h
      obtain ⟨L, hL1, hL2⟩ := dummyD hc
      rcases slice_geo hu h.1 hx with rfl | ⟨a, rfl⟩ | ⟨b, off, len, cap, cells, el, fr, n, rfl, h2, h3, h4, h5, h6, h7⟩
      · exact ⟨[.nils], [], .plain (fun ρ => VRs_cons.2 ⟨by simp [VR], VRs_nil⟩) (fun s => by simp only [RdT, hu]; exact .inl (by trivial)) rfl rfl⟩
      · refine ⟨[.sl start 0 0 (some 0) (P.cellsOf e)], [(.row [] false, L)], ?_, ?_, fun ρ hρ => ⟨VRs_cons.2 ⟨?_, VRs_nil⟩, ?_⟩, fun s hs => ?_, rfl, rfl⟩
        · intro p hp
          simp at hp
          subst hp
          exact hL1
        · intro p hp
          simp at hp
          subst hp
          rfl
        · simp only [VR]
          exact ⟨L, a, 0, hρ 0 _ rfl, rfl, Nat.le_refl _, fun k hk => by injection hk, .inl rfl⟩
        · intro p hp
          simp at hp
          subst hp
          exact hL2 ρ
        · simp only [RdT, hu]
          exact .inr ⟨start, 0, 0, [], rfl, Nat.le_refl _, Nat.zero_le _, rfl, hs 0 _ rfl, fun r hr => by simp at hr⟩
      · have hlt := (Array.getElem?_eq_some_iff.1 h5).1
        obtain ⟨rows, bl, hr1, ho⟩ := deep_rows (deep_open hc d e h.2) cells.toList off cap (by simpa using h6) h7 (start + 1)
        have hfl : rows.flatten.length = cap * P.cellsOf e := by
          rw [ho.len, List.length_take, List.length_drop]
          simp
          omega
        have hup : ∀ {ρ : Ren}, (∀ i p, ((AB.row rows.flatten false, (⟨b, off, cells.size⟩ : Loc)) :: bl)[i]? = some p → ρ (start + i) = some p.2) → ∀ i p, bl[i]? = some p → ρ (start + 1 + i) = some p.2 := fun hρ i p hp => by
          have := hρ (i + 1) p (by simpa using hp)
          rwa [show start + (i + 1) = start + 1 + i by omega] at this
        refine ⟨[.sl start 0 len (some cap) (P.cellsOf e)], (.row rows.flatten false, ⟨b, off, cells.size⟩) :: bl, ?_, ?_, fun ρ hρ => ?_, fun s hs => ?_, rfl, rfl⟩
        · intro p hp
          rcases List.mem_cons.1 hp with rfl | hp
          · exact hlt
          · exact ho.lt p hp
        · intro p hp
          rcases List.mem_cons.1 hp with rfl | hp
          · rfl
          · exact ho.own p hp
        · obtain ⟨r1, r2⟩ := ho.vr ρ (hup hρ)
          refine ⟨VRs_cons.2 ⟨?_, VRs_nil⟩, fun p hp => ?_⟩
          · simp only [VR]
            exact ⟨⟨b, off, cells.size⟩, ⟨b, off, none⟩, cap, hρ 0 _ rfl, rfl, h3, fun k hk => by injection hk, .inr ⟨by simp, by simpa using h6⟩⟩
          · rcases List.mem_cons.1 hp with rfl | hp
            · simp only [BlkOk]
              refine ⟨cells, el, fr, h5, rfl, by rw [hfl]; exact h6, fun i v hi => ?_, by simp, ho.one⟩
              have hi' := (List.getElem?_eq_some_iff.1 hi).1
              obtain ⟨c, hc1, hc2⟩ := r1.cell hi
              refine ⟨c, ?_, hc2⟩
              rw [List.getElem?_take_of_lt (by omega), List.getElem?_drop] at hc1
              simpa using hc1
            · exact r2 p hp
        · simp only [RdT, hu]
          refine .inr ⟨start, len, cap, rows, rfl, h3, h4, hr1, hs 0 _ rfl, ?_⟩
          refine ho.rd s fun i p hp => ?_
          have := hs (i + 1) p (by simpa using hp)
          rwa [show start + (i + 1) = start + 1 + i by omega] at this
    · cases h

/-! ### All arguments of a call -/
def argAV (P : Program) (t : TypeId) (vs : List AV) : AV := match P.underlying t with
  | some (.struct _) => .agg vs
  | _ => vs.headD .und
def RdA (P : Program) (s : St) (d : Nat) (t : TypeId) (v : AV) : Prop := ∃ vs, RdT P s d t vs ∧ v = argAV P t vs
def RdAs (P : Program) (s : St) (d : Nat) : List TypeId → List AV → Prop
  | [], xs => xs = []
  | t :: ts, xs => ∃ v r, xs = v :: r ∧ RdA P s d t v ∧ RdAs P s d ts r
structure OpnA (W : World) (Q : St → List AV → Prop) (start : Nat) (cs : List Value) (vs : List AV) (bl : List (AB × Loc)) : Prop where
  lt : ∀ p ∈ bl, p.2.b < W.heap.size
  own : ∀ p ∈ bl, p.1.owned = false
  vr : ∀ ρ : Ren, (∀ i p, bl[i]? = some p → ρ (start + i) = some p.2) → VRs ρ vs cs ∧ ∀ p ∈ bl, BlkOk ρ p.2 W p.1
  rd : ∀ s : St, (∀ i p, bl[i]? = some p → s.get (start + i) = some p.1) → Q s vs
theorem OpnA.cons {Q1 Q2 : St → List AV → Prop} {start : Nat} {c : Value} {cs : List Value} {v : AV} {vs : List AV} {b1 b2 : List (AB × Loc)} (h : OpnA W Q1 start [c] [v] b1) (k : OpnA W Q2 (start + b1.length) cs vs b2) :
    OpnA W (fun s _ => Q1 s [v] ∧ Q2 s vs) start (c :: cs) (v :: vs) (b1 ++ b2) := by
  have e1 : ∀ {i : Nat} {p}, b1[i]? = some p → (b1 ++ b2)[i]? = some p := fun {i p} hp => by
    rw [List.getElem?_append_left (List.getElem?_eq_some_iff.1 hp).1]; exact hp
  have e2 : ∀ {i : Nat} {p}, b2[i]? = some p → (b1 ++ b2)[b1.length + i]? = some p := fun {i p} hp => by
    rw [List.getElem?_append_right (by omega), Nat.add_sub_cancel_left]; exact hp
  refine ⟨fun p hp => ?_, fun p hp => ?_, fun ρ hρ => ?_, fun s hs => ⟨h.rd s fun i p hp => hs i p (e1 hp), k.rd s fun i p hp => ?_⟩⟩
  · rcases List.mem_append.1 hp with q | q
    · exact h.lt p q
    · exact k.lt p q
  · rcases List.mem_append.1 hp with q | q
    · exact h.own p q
    · exact k.own p q
  · obtain ⟨r1, r2⟩ := h.vr ρ fun i p hp => hρ i p (e1 hp)
    obtain ⟨r3, r4⟩ := k.vr ρ fun i p hp => by have := hρ _ p (e2 hp); rwa [← Nat.add_assoc] at this
    refine ⟨r1.append r3, fun p hp => ?_⟩
    rcases List.mem_append.1 hp with q | q
    · exact r2 p q
    · exact r4 p q
  · have := hs _ p (e2 hp)
    rwa [← Nat.add_assoc] at this
theorem arg_deep (hc : HasCellsD W) {d : Nat} {t : TypeId} (hok : okT P (d + 1) t = true) {v : Value} {x : DataW H} {p : List MemPlace} (h : DataW.Trod enc P W base (fun _ => true) held t v x p) {b0 : Nat} (hval : Value.okWide P W .any b0 t v) (start : Nat) :
    ∃ a bl, OpnA W (fun s _ => RdA P s (d + 1) t a) start [v] [a] bl := by
  obtain ⟨fuel, h⟩ := h
  obtain ⟨vs, bl, ho⟩ := deep_open hc (d + 1) t hok fuel _ _ h start
  have hone : ∀ (hv : v.cells.toList = [v]) (ha : argAV P t vs = vs.headD .und), ∃ a bl, OpnA W (fun s _ => RdA P s (d + 1) t a) start [v] [a] bl := by
    intro hv ha
    have hl := ho.len
    rw [hv] at hl
    match vs, hl with
    | [a], _ =>
      refine ⟨a, bl, ho.lt, ho.own, fun ρ hρ => ?_, fun s hs => ⟨[a], ho.rd s hs, by rw [ha]; rfl⟩⟩
      have := ho.vr ρ hρ
      rw [hv] at this
      exact this
  simp only [okT] at hok
  split at hok
  · rename_i hu
    obtain ⟨b, rfl⟩ := okWide_bool hu hval
    exact hone rfl (by simp [argAV, hu])
  · rename_i k hu
    obtain ⟨b, rfl⟩ := okWide_int hu hval
    exact hone rfl (by simp [argAV, hu])
  · rename_i hu
    obtain ⟨b, rfl⟩ := okWide_string hu hval
    exact hone rfl (by simp [argAV, hu])
  · rename_i fs hu
    obtain ⟨cs, rfl, _⟩ := okWide_struct hu hval
    refine ⟨.agg vs, bl, ho.lt, ho.own, fun ρ hρ => ?_, fun s hs => ⟨vs, ho.rd s hs, by simp [argAV, hu]⟩⟩
    obtain ⟨r1, r2⟩ := ho.vr ρ hρ
    refine ⟨VRs_cons.2 ⟨?_, VRs_nil⟩, r2⟩
    simp only [VR]
    exact ⟨cs.toList, by simp, r1⟩
  · rename_i e hu
    obtain ⟨a, len, cap, rfl⟩ := okWide_slice hu hval
    exact hone rfl (by simp [argAV, hu])
  · cases hok
theorem args_deep (hc : HasCellsD W) {d : Nat} : ∀ {ts : List TypeId} {vs : List Value} {ds : List (DataW H)} {ps : List MemPlace}, (∀ t ∈ ts, okT P (d + 1) t = true) → DataW.TrodAll enc P W base (fun _ => true) held ts vs ds ps →
    (∀ (j : Nat) t v, ts[j]? = some t → vs[j]? = some v → ∃ b0, Value.okWide P W .any b0 t v) → ∀ start, ∃ xs bl, OpnA W (fun s _ => RdAs P s (d + 1) ts xs) start vs xs bl
  | [], vs, ds, ps, _, h, _, start => by
    obtain ⟨rfl, rfl, rfl⟩ := trodAll_nil h
    exact ⟨[], [], by simp, by simp, fun ρ _ => ⟨VRs_nil, by simp⟩, fun s _ => rfl⟩
  | t :: ts, vs, ds, ps, hok, h, hval, start => by
    obtain ⟨v, vs1, x, ds1, a, b, rfl, rfl, rfl, h1, h2⟩ := trodAll_cons h
    obtain ⟨b0, hv⟩ := hval 0 t v rfl rfl
    obtain ⟨av, bl1, o1⟩ := arg_deep hc (hok t (by simp)) h1 hv start
    obtain ⟨xs, bl2, o2⟩ := args_deep hc (fun t' ht => hok t' (by simp [ht])) h2 (fun j t' v' e1 e2 => hval (j + 1) t' v' (by simpa using e1) (by simpa using e2)) (start + bl1.length)
    have := o1.cons o2
    exact ⟨av :: xs, bl1 ++ bl2, this.lt, this.own, this.vr, fun s hs => ⟨av, xs, rfl, this.rd s hs⟩⟩
open Classical in
noncomputable def lawC (P : Program) (d : Nat) (ts : List TypeId) : List AV → St → Option (AV × St) := fun xs s => if RdAs P s d ts xs then some (.bool true, { heap := s.heap, next := s.next, low := min s.low s.next }) else none
theorem deep_call {d : Nat} {ts : List TypeId} {args : List Value} {xs : List AV} {bl : List (AB × Loc)} (ho : OpnA W (fun s _ => RdAs P s d ts xs) 0 args xs bl) {f : Nat} (hs : SoundAt P f (lawC P d ts)) : Calls P f args.toArray W fun e W' => e = .returned (.bool true) ∧ Clean W W' := by
  obtain ⟨s0, hs0⟩ : ∃ s0 : St, s0 = ⟨(bl.map (·.1)).reverse, bl.length, 0⟩ := ⟨_, rfl⟩
  have hnx : s0.next = bl.length := by rw [hs0]
  have hget : ∀ i, s0.get i = (bl[i]?).map (·.1) := by
    intro i
    subst hs0
    unfold St.get
    simp only
    split
    · rename_i h
      rw [List.getElem?_reverse (by simp; omega)]
      simp only [List.length_map, List.getElem?_map]
      rw [show bl.length - 1 - (bl.length - 1 - i) = i by omega]
    · rename_i h
      rw [List.getElem?_eq_none (by omega)]
      rfl
  have hown : ∀ i b, s0.get i = some b → b.owned = false := by
    intro i b h
    rw [hget] at h
    obtain ⟨p, hp, rfl⟩ := Option.map_eq_some_iff.1 h
    exact ho.own p (List.mem_of_getElem? hp)
  obtain ⟨ρ, hρ⟩ : ∃ ρ : Ren, ρ = fun i => (bl[i]?).map (·.2) := ⟨_, rfl⟩
  have hρ1 : ∀ i p, bl[i]? = some p → ρ (0 + i) = some p.2 := fun i p hp => by rw [hρ, Nat.zero_add]; simp [hp]
  obtain ⟨hv, hb⟩ := ho.vr ρ hρ1
  have hR : R s0 ρ W := by
    refine ⟨fun i L h => ?_, fun i b L h1 h2 => ?_, fun i j L M bi bj _ _ _ e3 _ e5 _ => ?_⟩
    · rw [hρ] at h
      obtain ⟨p, hp, rfl⟩ := Option.map_eq_some_iff.1 h
      exact ho.lt p (List.mem_of_getElem? hp)
    · rw [hget] at h1
      rw [hρ] at h2
      obtain ⟨p, hp, rfl⟩ := Option.map_eq_some_iff.1 h1
      simp [hp] at h2
      subst h2
      exact hb p (List.mem_of_getElem? hp)
    · rw [hown i bi e3] at e5; cases e5
  have hrd := ho.rd s0 fun i p hp => by rw [Nat.zero_add, hget, hp]; rfl
  obtain ⟨_, _, h⟩ := hs xs s0 _ _ (by unfold lawC; rw [if_pos hrd])
  have := h ρ W args (fun i hi => by rw [hρ]; simp; omega) hR hv
  refine this.mono fun e W' hp => ?_
  obtain ⟨ρ', v, rfl, hv', hst, _⟩ := hp
  simp only [VR] at hv'
  subst hv'
  exact ⟨rfl, hst.size, hst.os, hst.tape, hst.output, hst.drawn, fun b hb => hst.frame b hb fun id L blk _ _ h1 h2 => by rw [hown id blk h1] at h2; cases h2⟩
theorem trodAll_len : ∀ {ts : List TypeId} {vs : List Value} {ds : List (DataW H)} {ps : List MemPlace}, DataW.TrodAll enc P W base (fun _ => true) held ts vs ds ps → ds.length = ts.length
  | [], vs, ds, ps, h => by
    obtain ⟨rfl, rfl, rfl⟩ := trodAll_nil h
    rfl
  | t :: ts, vs, ds, ps, h => by
    obtain ⟨v, vs1, x, ds1, a, b, rfl, rfl, rfl, h1, h2⟩ := trodAll_cons h
    simp [trodAll_len h2]
end Go.AM
end
/-
  What the arguments of the statements show: numbers, nodes, states, lists of states. Own work of this project.
-/
section
set_option maxRecDepth 100000
namespace Go.AM
open Go Go.Proofs

variable {P : Program} {s : St}
theorem rd_int {d : Nat} {t : TypeId} {k : IntKind} {vs : List AV} (hu : P.underlying t = some (.int k)) (h : RdT P s (d + 1) t vs) : ∃ n, vs = [.int k n] ∧ (Lit.int k n).wf = true := by
  simp only [RdT, hu] at h
  exact h
theorem rda_int {d : Nat} {t : TypeId} {k : IntKind} {v : AV} (hu : P.underlying t = some (.int k)) (h : RdA P s (d + 1) t v) : ∃ n, v = .int k n ∧ (Lit.int k n).wf = true := by
  obtain ⟨vs, h1, rfl⟩ := h
  obtain ⟨n, rfl, hw⟩ := rd_int hu h1
  exact ⟨n, by simp [argAV, hu], hw⟩
theorem lawC_some {d : Nat} {ts : List TypeId} {xs : List AV} {r : AV} {s' : St} (h : lawC P d ts xs s = some (r, s')) : RdAs P s d ts xs ∧ r = .bool true ∧ s' = s.lowed := by
  unfold lawC at h
  split at h
  · rename_i hr
    injection h with h
    obtain ⟨rfl, rfl⟩ := Prod.mk.inj h
    exact ⟨hr, rfl, rfl⟩
  · cases h
theorem rdas_1 {d : Nat} {t : TypeId} {xs : List AV} (h : RdAs P s d [t] xs) : ∃ v, xs = [v] ∧ RdA P s d t v := by
  obtain ⟨v, r, rfl, h1, h2⟩ := h
  simp only [RdAs] at h2
  subst h2
  exact ⟨v, rfl, h1⟩
theorem rdas_2 {d : Nat} {t1 t2 : TypeId} {xs : List AV} (h : RdAs P s d [t1, t2] xs) : ∃ v w, xs = [v, w] ∧ RdA P s d t1 v ∧ RdA P s d t2 w := by
  obtain ⟨v, r, rfl, h1, h2⟩ := h
  obtain ⟨w, rfl, h3⟩ := rdas_1 h2
  exact ⟨v, w, rfl, h1, h3⟩
end Go.AM
end
/-
  OmapNil. Own work of this project; in part printed by a program of it.
-/
section
set_option maxRecDepth 100000
set_option maxHeartbeats 8000000
namespace Go.AM
open Go Go.Proofs

variable {s t u : St}
theorem s_OmapNil : SoundAt Try.prog 7 (lawC Try.prog 8 [3, 3]) :=
  con_keep (tb_sound (l := [(9, closed [] (.bool true)), (30, R_sets), (28, R_gets), (17, R_Delete), (25, R_Len), (27, R_lat), (26, R_Rank), (34, R_lfloor), (35, R_lceil), (13, R_All), (14, R_From), (16, conF prC pPairs), (32, cCopy)]) (by simpa using ⟨s_known, s_sets, s_gets, s_Delete, s_Len, s_lat, s_Rank, s_lfloor, s_lceil, s_All, s_From, s_pairs, s_Copy⟩)) mixed Try.func7 k7 c7 fun args s r s' h => by
    obtain ⟨hh, rfl, rfl⟩ := lawC_some h
    obtain ⟨y1, y2, rfl, k1, k2⟩ := rdas_2 hh
    obtain ⟨a1, rfl, _⟩ := rda_int (show Try.prog.underlying 3 = some (.int .i64) by kernel_rfl) k1
    obtain ⟨a2, rfl, _⟩ := rda_int (show Try.prog.underlying 3 = some (.int .i64) by kernel_rfl) k2
    refine ⟨rfl, rfl, by simp [a7], fun env hlen ha => ?_⟩
    have h0 : E env 0 = _ := ha 0 _ rfl
    have h1 : E env 1 = _ := ha 1 _ rfl
    have hlen : elen env = _ := hlen
    simp only [a7] at hlen
    unfold a7
    try dsimp only [oO, oG]
    have hbx : boxV 2 (.agg [.nilf, .nils]) = some (fun id => .ptr id 0, .row [.nilf, .nils] true) := rfl
    have hbs : bslV [.nilp, .nilp] 2 1 [(0, .nilp), (1, .ptr (s.push (.row [.int .i64 0, .str ⟨#[]⟩] true)).next 0)] = some (fun id => .sl id 0 2 (some 2) 1, .row [.nilp, .ptr (s.push (.row [.int .i64 0, .str ⟨#[]⟩] true)).next 0] true) := rfl
    have hl2 : lenV (.sl ((s.push (.row [.int .i64 0, .str ⟨#[]⟩] true)).push (.row [.nilf, .nils] true)).next 0 2 (some 2) 1) = some (.int .i64 2) := rfl
    have hK3 : Keep s (((s.push (.row [.int .i64 0, .str ⟨#[]⟩] true)).push (.row [.nilf, .nils] true)).push (.row [.nilp, .ptr (s.push (.row [.int .i64 0, .str ⟨#[]⟩] true)).next 0] true)) := (((Keep.refl s).push _).push _).push _
    simp (config := {contextual := true, maxDischargeDepth := 12, maxSteps := 4000000}) only [tb_at, h0, h1, hlen, ap_build, fillP_nil, hbx, hbs, hl2, notV_bool, Bool.not_true, Bool.not_false, pickV_t, pickV_f, bin_eql, bin_neq, bin_neb, bin_npn, bin_np, bin_npnx, gcall_tt, gpure_tf, beq_self_eq_true, Bool.true_and, Bool.and_true, decide_true, decide_false, ↓bD, bU, forall_const, bS, implies_true, isNx, eq_self, ↓wp_cond, ↓wp_loop, ↓reduceIte, reduceCtorEq, Nat.reduceEqDiff, Nat.reduceLT, Nat.reduceAdd, Nat.reduceMul, bT, ↓sg_bsl, ↓st_callf, bX, ap_mkfn, ap_conv, ↓wi_seq, ↓wi_base, ↓wi_block, ↓wi_cond, ↓wi_loop, ↓wi_rf, ↓wy_seq, ↓wy_base, ↓wy_block, ↓wy_cond, ↓wy_loop, ↓wy_yld, ae_callvV, callvV_fn, List.append_nil, List.cons_append, List.nil_append, bin_nff, bin_nfn, bin_nffx, bin_nfnx, bin_streq, bin_bo_same, q_known]
    obtain ⟨I, hI⟩ : ∃ I : Nat → Env → St → Prop, ∀ n e t, I n e t = (Keep (((s.push (.row [.int .i64 0, .str ⟨#[]⟩] true)).push (.row [.nilf, .nils] true)).push (.row [.nilp, .ptr (s.push (.row [.int .i64 0, .str ⟨#[]⟩] true)).next 0] true)) t ∧ ∃ i : Nat, n + i = 2 ∧ elen e = 104 ∧ E e 0 = .int .i64 a1 ∧ E e 1 = .int .i64 a2 ∧ E e 6 = .ptr s.next 0 ∧ E e 12 = .sl ((s.push (.row [.int .i64 0, .str ⟨#[]⟩] true)).push (.row [.nilf, .nils] true)).next 0 2 (some 2) 1 ∧ E e 13 = .int .i64 2 ∧ E e 14 = .int .i64 (i : Int)) := ⟨fun n e t => (Keep (((s.push (.row [.int .i64 0, .str ⟨#[]⟩] true)).push (.row [.nilf, .nils] true)).push (.row [.nilp, .ptr (s.push (.row [.int .i64 0, .str ⟨#[]⟩] true)).next 0] true)) t ∧ ∃ i : Nat, n + i = 2 ∧ elen e = 104 ∧ E e 0 = .int .i64 a1 ∧ E e 1 = .int .i64 a2 ∧ E e 6 = .ptr s.next 0 ∧ E e 12 = .sl ((s.push (.row [.int .i64 0, .str ⟨#[]⟩] true)).push (.row [.nilf, .nils] true)).next 0 2 (some 2) 1 ∧ E e 13 = .int .i64 2 ∧ E e 14 = .int .i64 (i : Int)), fun _ _ _ => rfl⟩
    refine lwp_inv I (n := 2) ?_ ?_
    · rw [hI]
      exact ⟨.refl _, 0, by omega, (by simp only [bE, Nat.reduceEqDiff, bN, Nat.reduceLT, hlen]; try rfl), (by simp only [bE, Nat.reduceEqDiff, bN, Nat.reduceLT, hlen, h0]; try rfl), (by simp only [bE, Nat.reduceEqDiff, bN, Nat.reduceLT, hlen, h1]; try rfl), (by simp only [bE, Nat.reduceEqDiff, bN, Nat.reduceLT, hlen]; try rfl), (by simp only [bE, Nat.reduceEqDiff, bN, Nat.reduceLT, hlen]; try rfl), (by simp only [bE, Nat.reduceEqDiff, bN, Nat.reduceLT, hlen]; try rfl), (by simp only [bE, Nat.reduceEqDiff, bN, Nat.reduceLT, hlen]; try rfl)⟩
    clear h0 h1 hlen
    intro n e t hi
    rw [hI] at hi
    obtain ⟨hK, i, hni, he, e0, e1, e6, e12, e13, e14⟩ := hi
    have hgl : t.get ((s.push (.row [.int .i64 0, .str ⟨#[]⟩] true)).push (.row [.nilf, .nils] true)).next = some (.row [.nilp, .ptr (s.push (.row [.int .i64 0, .str ⟨#[]⟩] true)).next 0] true) := hK.blk (St.get_push_new ((s.push (.row [.int .i64 0, .str ⟨#[]⟩] true)).push (.row [.nilf, .nils] true)) _)
    have hgz : t.get (s.push (.row [.int .i64 0, .str ⟨#[]⟩] true)).next = some (.row [.nilf, .nils] true) := hK.blk (get_push_some _ (St.get_push_new (s.push (.row [.int .i64 0, .str ⟨#[]⟩] true)) _))
    have hgn : t.get s.next = some (.row [.int .i64 0, .str ⟨#[]⟩] true) := hK.blk (get_push_some _ (get_push_some _ (St.get_push_new s _)))
    have hKt := hK3.trans hK
    by_cases hlt : i < 2
    · obtain ⟨p, hld, hz⟩ : ∃ p, lod1 t (.ptr ((s.push (.row [.int .i64 0, .str ⟨#[]⟩] true)).push (.row [.nilf, .nils] true)).next i) = some p ∧ ZkM t p := by
        rcases (by omega : i = 0 ∨ i = 1) with rfl | rfl
        · exact ⟨.nilp, by unfold lod1; simp only [hgl]; rfl, .inl rfl⟩
        · exact ⟨.ptr (s.push (.row [.int .i64 0, .str ⟨#[]⟩] true)).next 0, by unfold lod1; simp only [hgl]; rfl, .inr ⟨_, _, _, rfl, hgz⟩⟩
      have hltb := St.get_lt hgl
      have z1 := eq_true (show (i : Int) < 2 by omega)
      have hw2 := wrap_add1 (n := i) (by omega)
      have i1 : iadV 1 (.sl ((s.push (.row [.int .i64 0, .str ⟨#[]⟩] true)).push (.row [.nilf, .nils] true)).next 0 2 (some 2) 1) (.int .i64 (i : Int)) = some (.ptr ((s.push (.row [.int .i64 0, .str ⟨#[]⟩] true)).push (.row [.nilf, .nils] true)).next i) := by
        have := iadV_nat (sz := 1) (id := ((s.push (.row [.int .i64 0, .str ⟨#[]⟩] true)).push (.row [.nilf, .nils] true)).next) (off := 0) (cap := some 2) (k := .i64) hlt
        rwa [Nat.zero_add, Nat.mul_one] at this
      have ln2 : lod t 2 (.ptr s.next 0) = some (.agg [.int .i64 0, .str ⟨#[]⟩]) := by simp [lod, hgn]
      have lnt := St.get_lt hgn
      have q1 := q_sets_z false hz a1 ⟨#[120]⟩
      have q2 := q_gets_z false hz a1
      have q3 := q_Delete_z false hz a1
      have q4 := q_Len_z false hz
      have q5 := q_lat_z false hz a2
      have q5b := q_lat_z false hz 0
      have q6 := q_Rank_z false hz a1
      have q7 := q_lfloor_z false hz a1
      have q8 := q_lceil_z false hz a1
      obtain ⟨w1, t1, q9, hI1, hK1⟩ := q_All_z hz
      obtain ⟨b1, w1', rfl, _⟩ := hI1
      obtain ⟨w2, t2, q10, hI2, hK2⟩ := q_From_z (hz.keep hK1) a1
      obtain ⟨b2, w2', rfl, _⟩ := hI2
      have hK2t := hK1.trans hK2
      obtain ⟨w3, t3, q11, hI3, hK3'⟩ := q_All_z (hz.keep hK2t)
      have hK3t := hK2t.trans hK3'
      obtain ⟨v4, t4, q12, hO4, hK4⟩ := q_pairs hI3 (by simp) (m := 9)
      have hK4t := hK3t.trans hK4
      obtain ⟨w5, t5, q13, hI5, hK5⟩ := q_From_z (hz.keep hK4t) a1
      have hK5t := hK4t.trans hK5
      obtain ⟨v6, t6, q14, hO6, hK6⟩ := q_pairs hI5 (by simp) (m := 9)
      have hK6t := hK5t.trans hK6
      have q15 := q_Copy_z false (hz.keep hK6t)
      have L4 := lenV_read hO4.read
      have L6 := lenV_read hO6.read
      rw [if_neg (by decide)] at L4 L6
      have n0 : (([] : List PrS).take (Int.toNat 9)).length = 0 := rfl
      rw [n0] at L4 L6
      have n00 : ((0 : Int) = 0) = True := eq_true rfl
      have n0c : (((0 : Nat) : Int) = 0) = True := eq_true rfl
      have hKf := hK.trans hK6t
      simp (config := {contextual := true, maxDischargeDepth := 12, maxSteps := 4000000}) only [tb_at, he, e0, e1, e6, e12, e13, e14, z1, hw2, i1, hld, hltb, ln2, lnt, q1, q2, q3, q4, q5, q5b, q6, q7, q8, q9, q10, q11, q12, q13, q14, q15, L4, L6, n00, n0c, gcall_ff, notV_bool, Bool.not_true, Bool.not_false, pickV_t, pickV_f, bin_eql, bin_neq, bin_neb, bin_npn, bin_np, bin_npnx, gcall_tt, gpure_tf, beq_self_eq_true, Bool.true_and, Bool.and_true, decide_true, decide_false, ↓bD, bU, forall_const, bS, implies_true, isNx, eq_self, ↓wp_cond, ↓wp_loop, ↓reduceIte, reduceCtorEq, Nat.reduceEqDiff, Nat.reduceLT, Nat.reduceAdd, Nat.reduceMul, bT, ↓sg_bsl, ↓st_callf, bX, ap_mkfn, ap_conv, ↓wi_seq, ↓wi_base, ↓wi_block, ↓wi_cond, ↓wi_loop, ↓wi_rf, ↓wy_seq, ↓wy_base, ↓wy_block, ↓wy_cond, ↓wy_loop, ↓wy_yld, ae_callvV, callvV_fn, List.append_nil, List.cons_append, List.nil_append, bin_nff, bin_nfn, bin_nffx, bin_nfnx, bin_streq, bin_bo_same, q_known]
      refine ⟨n - 1, by omega, ?_⟩
      rw [hI]
      exact ⟨hKf, i + 1, by omega, (by simp only [bE, Nat.reduceEqDiff, bN, Nat.reduceLT, he, e0, e1, e6, e12, e13, e14]; try rfl), (by simp only [bE, Nat.reduceEqDiff, bN, Nat.reduceLT, he, e0, e1, e6, e12, e13, e14]; try rfl), (by simp only [bE, Nat.reduceEqDiff, bN, Nat.reduceLT, he, e0, e1, e6, e12, e13, e14]; try rfl), (by simp only [bE, Nat.reduceEqDiff, bN, Nat.reduceLT, he, e0, e1, e6, e12, e13, e14]; try rfl), (by simp only [bE, Nat.reduceEqDiff, bN, Nat.reduceLT, he, e0, e1, e6, e12, e13, e14]; try rfl), (by simp only [bE, Nat.reduceEqDiff, bN, Nat.reduceLT, he, e0, e1, e6, e12, e13, e14]; try rfl), (by simp only [bE, Nat.reduceEqDiff, bN, Nat.reduceLT, he, e0, e1, e6, e12, e13, e14]; try rfl)⟩
    · obtain rfl : i = 2 := by omega
      have z1 := eq_false (show ¬ ((2 : Nat) : Int) < 2 by omega)
      simp (config := {contextual := true, maxDischargeDepth := 12, maxSteps := 4000000}) only [tb_at, he, e0, e1, e6, e12, e13, e14, z1, notV_bool, Bool.not_true, Bool.not_false, pickV_t, pickV_f, bin_eql, bin_neq, bin_neb, bin_npn, bin_np, bin_npnx, gcall_tt, gpure_tf, beq_self_eq_true, Bool.true_and, Bool.and_true, decide_true, decide_false, ↓bD, bU, forall_const, bS, implies_true, isNx, eq_self, ↓wp_cond, ↓wp_loop, ↓reduceIte, reduceCtorEq, Nat.reduceEqDiff, Nat.reduceLT, Nat.reduceAdd, Nat.reduceMul, bT, ↓sg_bsl, ↓st_callf, bX, ap_mkfn, ap_conv, ↓wi_seq, ↓wi_base, ↓wi_block, ↓wi_cond, ↓wi_loop, ↓wi_rf, ↓wy_seq, ↓wy_base, ↓wy_block, ↓wy_cond, ↓wy_loop, ↓wy_yld, ae_callvV, callvV_fn, List.append_nil, List.cons_append, List.nil_append, bin_nff, bin_nfn, bin_nffx, bin_nfnx, bin_streq, bin_bo_same, q_known]
      all_goals first | exact hKt | skip

end Go.AM
end
