/-
  The contract of slices.SortFunc at a new list of nodes, sorted by their dots. Own work of this project.
-/
import Derived.Test.YtnojanlkminpaaaP3
import Derived.Shelf.SlSortCmp.NoneTotal
section
set_option linter.unusedVariables false
set_option linter.unusedSimpArgs false
set_option maxHeartbeats 1000000
namespace Go.AM
open Go Go.Proofs
open Go.Sort (HoldsK putRowK flatK get_flatK size_flatK)

instance : Inhabited Nd := ⟨nd0⟩
def toVal : AV → Value
  | .int k n => .int k n
  | _ => undef
def nvals (x : Nd) : List Value := (Nd.av x).map toVal
theorem nvals_len (x : Nd) : (nvals x).length = 6 := rfl
theorem nvals_one (x : Nd) : ∀ v ∈ nvals x, v.oneCell' = true := by
  intro v hv
  simp only [nvals, Nd.av, List.map_cons, List.map_nil, toVal, List.mem_cons, List.not_mem_nil, or_false] at hv
  rcases hv with rfl | rfl | rfl | rfl | rfl | rfl <;> rfl
theorem nd_val {ρ : Ren} {x : Nd} {i : Nat} {v : AV} {c : Value} (h : (Nd.av x)[i]? = some v) (k : VR ρ v c) : (nvals x)[i]? = some c := by
  simp only [nvals, List.getElem?_map, h, Option.map_some, Option.some.injEq]
  have : v ∈ Nd.av x := List.mem_of_getElem? h
  simp only [Nd.av, List.mem_cons, List.not_mem_nil, or_false] at this
  rcases this with rfl | rfl | rfl | rfl | rfl | rfl <;> (simp only [VR] at k; rw [k]; rfl)
theorem nd_VR {ρ : Ren} {x : Nd} {i : Nat} {v : AV} (h : (Nd.av x)[i]? = some v) : ∃ c, (nvals x)[i]? = some c ∧ VR ρ v c := by
  refine ⟨toVal v, by simp [nvals, h], ?_⟩
  have : v ∈ Nd.av x := List.mem_of_getElem? h
  simp only [Nd.av, List.mem_cons, List.not_mem_nil, or_false] at this
  rcases this with rfl | rfl | rfl | rfl | rfl | rfl <;> simp [VR, toVal]
theorem cells_get : ∀ (l : List Nd) (t : Nat), (ndC.cells l)[t]? = (l[t / 6]?).bind fun x => (Nd.av x)[t % 6]?
  | [], t => by simp [cells_nil]
  | x :: l, t => by
    rw [cells_cons]
    have hl : (ndC.enc x).length = 6 := rfl
    by_cases h : t < 6
    · rw [List.getElem?_append_left (by omega), Nat.div_eq_of_lt h, Nat.mod_eq_of_lt h]
      rfl
    · rw [List.getElem?_append_right (by omega), hl, cells_get l (t - 6)]
      have e1 : t / 6 = (t - 6) / 6 + 1 := by omega
      have e2 : t % 6 = (t - 6) % 6 := by omega
      rw [e1, e2]
      rfl
theorem before_irr (a : Dot) : a.before a = false := by simp [Dot.before]
theorem swo : Sort.SWO (ltOf fun x y : Nd => dcmp x.d y.d) := by
  have e : ∀ x y : Nd, ltOf (fun x y : Nd => dcmp x.d y.d) x y = x.d.before y.d := by
    intro x y
    unfold ltOf
    rcases dcmp_cases x.d y.d with ⟨h, h1, _⟩ | ⟨h, h1, _⟩ | ⟨h, h1, _⟩ <;> simp only [h, h1] <;> decide
  refine ⟨fun x => by rw [e]; exact before_irr _, fun x y z => ?_, fun x y z => ?_⟩
  · rw [e, e, e]
    obtain ⟨⟨_, _⟩, _, _, _⟩ := x
    obtain ⟨⟨_, _⟩, _, _, _⟩ := y
    obtain ⟨⟨_, _⟩, _, _, _⟩ := z
    simp only [Dot.before, Bool.or_eq_true, Bool.and_eq_true, decide_eq_true_eq]
    omega
  · rw [e, e, e]
    obtain ⟨⟨_, _⟩, _, _, _⟩ := x
    obtain ⟨⟨_, _⟩, _, _, _⟩ := y
    obtain ⟨⟨_, _⟩, _, _, _⟩ := z
    simp only [Dot.before, Bool.or_eq_false_iff, Bool.and_eq_false_iff, decide_eq_false_iff_not]
    omega
theorem clean_grow {W W' : World} (h : Clean W W') : ∃ q os, W' = Sort.grow (W.drewN q) os := by
  refine ⟨W'.drawn - W.drawn, W'.heap.extract W.heap.size W'.heap.size, ?_⟩
  have hd := h.drawn
  have hh : W'.heap = W.heap ++ W'.heap.extract W.heap.size W'.heap.size := by
    have hs := h.size
    apply Array.ext_getElem?
    intro i
    rw [Array.getElem?_append]
    split
    · exact h.block i (by assumption)
    · rw [Array.getElem?_extract]
      by_cases hi : i < W'.heap.size
      · rw [if_pos (by omega)]
        congr 1
        omega
      · rw [if_neg (by omega), Array.getElem?_eq_none (by omega)]
  have h1 := h.os
  have h2 := h.tape
  have h3 := h.output
  cases W'
  cases W
  simp only [Sort.grow, World.drewN] at *
  subst h1; subst h2; subst h3
  congr 1
  omega
theorem cmp_lays (w : World) (blk off size : Nat) : CmpLays Try.prog 57 #[] nvals 6 (fun x y : Nd => dcmp x.d y.d) blk off size w := by
  intro m os dk hdk x y
  obtain ⟨_, _, h⟩ := s_nodeCmp [.agg (Nd.av x), .agg (Nd.av y)] St.empty (.int .i64 (dcmp x.d y.d)) St.empty rfl
  have hv : ∀ x : Nd, VRs (fun _ => none) (Nd.av x) (nvals x) := fun x => by
    simp [Nd.av, nvals, toVal, VRs, VR]
  have := h (fun _ => none) (sortWorldK nvals 6 w blk off m dk os) [.agg (nvals x).toArray, .agg (nvals y).toArray] (fun _ _ => rfl) (R_empty _) (by
    rw [VRs_cons, VRs_cons]
    exact ⟨by simp only [VR]; exact ⟨_, rfl, hv x⟩, by simp only [VR]; exact ⟨_, rfl, hv y⟩, VRs_nil⟩)
  refine Calls.mono (by simpa using this) fun e w' hp => ?_
  obtain ⟨ρ', v, rfl, hv, hst, _⟩ := hp
  simp only [VR] at hv
  subst hv
  exact ⟨rfl, clean_grow (hst.clean (by simp [St.empty]))⟩
/-! ### Sorting nodes -/
def insN (x : Nd) : List Nd → List Nd
  | [] => [x]
  | y :: r => if x.d.before y.d = true then x :: y :: r else y :: insN x r
def sortN : List Nd → List Nd
  | [] => []
  | x :: r => insN x (sortN r)
def ltP (x y : Nd) : Prop := x.d.before y.d = true
theorem insN_perm (x : Nd) : ∀ l, (insN x l).Perm (x :: l)
  | [] => .refl _
  | y :: r => by
    unfold insN
    split
    · exact .refl _
    · exact ((insN_perm x r).cons y).trans (.swap x y r)
theorem sortN_perm : ∀ l, (sortN l).Perm l
  | [] => .refl _
  | x :: r => (insN_perm x _).trans ((sortN_perm r).cons x)
theorem sortN_len (l : List Nd) : (sortN l).length = l.length := (sortN_perm l).length_eq
theorem ltP_trans {x y z : Nd} (h : ltP x y) (k : ltP y z) : ltP x z := by
  unfold ltP at *
  obtain ⟨⟨_, _⟩, _, _, _⟩ := x
  obtain ⟨⟨_, _⟩, _, _, _⟩ := y
  obtain ⟨⟨_, _⟩, _, _, _⟩ := z
  simp only [Dot.before, Bool.or_eq_true, Bool.and_eq_true, decide_eq_true_eq] at *
  omega
theorem ltP_asymm {x y : Nd} (h : ltP x y) (k : ltP y x) : False := by
  have := ltP_trans h k
  unfold ltP at this
  rw [before_irr] at this
  cases this
theorem ltP_tri (x y : Nd) (h : x.d ≠ y.d) : ltP x y ∨ ltP y x := by
  unfold ltP
  rcases dcmp_cases x.d y.d with ⟨_, h1, _⟩ | ⟨_, _, h1⟩ | ⟨_, _, _, h1⟩
  · exact .inl h1
  · exact .inr h1
  · exact absurd h1 h
theorem insN_sorted (x : Nd) : ∀ l : List Nd, l.Pairwise ltP → (∀ y ∈ l, x.d ≠ y.d) → (insN x l).Pairwise ltP
  | [], _, _ => by simp [insN]
  | y :: r, h, hx => by
    unfold insN
    rw [List.pairwise_cons] at h
    split
    · rename_i hb
      rw [List.pairwise_cons, List.pairwise_cons]
      refine ⟨fun z hz => ?_, h⟩
      rcases List.mem_cons.1 hz with rfl | hz
      · exact hb
      · exact ltP_trans hb (h.1 z hz)
    · rename_i hb
      have hyx : ltP y x := (ltP_tri x y (hx y (by simp))).resolve_left hb
      rw [List.pairwise_cons]
      refine ⟨fun z hz => ?_, insN_sorted x r h.2 fun y hy => hx y (by simp [hy])⟩
      rcases List.mem_cons.1 ((insN_perm x r).mem_iff.1 hz) with rfl | hz
      · exact hyx
      · exact h.1 z hz
theorem sortN_sorted : ∀ l : List Nd, (l.map Nd.d).Nodup → (sortN l).Pairwise ltP
  | [], _ => by simp [sortN]
  | x :: r, h => by
    simp only [List.map_cons, List.nodup_cons] at h
    refine insN_sorted x _ (sortN_sorted r h.2) fun y hy e => h.1 ?_
    rw [e]
    exact List.mem_map_of_mem ((sortN_perm r).mem_iff.1 hy)
theorem sorted_unique : ∀ (l m : List Nd), l.Perm m → l.Pairwise ltP → m.Pairwise ltP → l = m
  | [], m, h, _, _ => (List.nil_perm.1 h).symm
  | x :: l, [], h, _, _ => absurd h.length_eq (by simp)
  | x :: l, y :: m, h, h1, h2 => by
    rw [List.pairwise_cons] at h1 h2
    have e : x = y := by
      by_cases e : x = y
      · exact e
      · have hx : x ∈ m := by
          rcases List.mem_cons.1 (h.mem_iff.1 (List.mem_cons_self ..)) with q | q
          · exact absurd q e
          · exact q
        have hy : y ∈ l := by
          rcases List.mem_cons.1 (h.mem_iff.2 (List.mem_cons_self ..)) with q | q
          · exact absurd q.symm e
          · exact q
        exact (ltP_asymm (h1.1 y hy) (h2.1 x hx)).elim
    subst e
    rw [sorted_unique l m h.cons_inv h1.2 h2.2]
def cSort (g : Nat) : Con := fun xs s => match xs with
  | [.nils, .fn g' []] => if g' = g then some (.tup [], s.lowed) else none
  | [.sl j 0 n none 6, .fn g' []] => if g' = g then match s.get j with
      | some (.row cs true) => match decL ndC n cs with
        | some l => if cs.length = n * 6 ∧ (l.map Nd.d).Nodup ∧ 0 < n ∧ n ≤ lim then some (.tup [], s.put j (.row (ndC.cells (sortN l)) true)) else none
        | none => none
      | _ => none
    else none
  | _ => none
theorem holds_of {ρ : Ren} {L : Loc} {w : World} {l : List Nd} (h : BlkOk ρ L w (.row (ndC.cells l) true)) : HoldsK nvals 6 w L.b L.o l.toArray := by
  simp only [BlkOk] at h
  obtain ⟨cs, e, fr, h1, h2, h3, h4, h5, _⟩ := h
  rw [cells_len] at h3
  intro j hj
  have hj : j < l.length * 6 := by simpa using hj
  obtain ⟨x, hx⟩ := getsome (l := l) (i := j / 6) (by omega)
  have h6 : (Nd.av x).length = 6 := rfl
  obtain ⟨v, hv⟩ : ∃ v, (Nd.av x)[j % 6]? = some v := ⟨(Nd.av x)[j % 6]'(by omega), by simp⟩
  obtain ⟨c, hc, hr⟩ := h4 j v (by rw [cells_get, hx]; exact hv)
  have hn := nd_val hv hr
  have e1 : (flatK nvals 6 l.toArray)[j]! = c := by
    rw [get_flatK _ _ _ _ (by simpa using hj)]
    have : l.toArray[j / 6]! = x := by simp [hx]
    rw [this]
    simp [hn]
  have h66 : ndC.sz = 6 := rfl
  rw [h66] at h3
  have hfr := h5 trivial (L.o + j) (by omega)
  constructor
  · simp only [World.cell?, h1, id, e1]
    simpa using hc
  · simp only [World.frozen?, h1]
    exact hfr
theorem blk_after {ρ : Ren} {L : Loc} {w : World} {l m : List Nd} (h : BlkOk ρ L w (.row (ndC.cells l) true)) (hm : m.length = l.length) (n : Nat) : BlkOk ρ L (putRowK nvals 6 (Sort.ahead w n) L.b L.o m.toArray) (.row (ndC.cells m) true) := by
  simp only [BlkOk] at h ⊢
  obtain ⟨cs, e, fr, h1, h2, h3, h4, h5, _⟩ := h
  rw [cells_len] at h3
  have h6 : ndC.sz = 6 := rfl
  refine ⟨Sort.putCells id L.o (flatK nvals 6 m.toArray) cs, e, fr, ?_, by simp [Sort.putCells, h2], by rw [cells_len, hm]; exact h3, fun i v hv => ?_, h5, cells_one' ndC m⟩
  · simp only [putRowK, Sort.putRow, Sort.mapBlock, Sort.ahead]
    rw [Array.getElem?_modify]
    simp [h1, Sort.onCells]
  · have hi := (List.getElem?_eq_some_iff.1 hv).1
    rw [cells_len] at hi
    rw [cells_get] at hv
    rw [h6] at hi
    obtain ⟨x, hx⟩ := getsome (l := m) (i := i / 6) (by omega)
    rw [hx] at hv
    obtain ⟨c, hc, hr⟩ := nd_VR (ρ := ρ) hv
    refine ⟨c, ?_, hr⟩
    have e1 : (flatK nvals 6 m.toArray)[i]! = c := by
      rw [get_flatK _ _ _ _ (by simp; omega)]
      have : m.toArray[i / 6]! = x := by simp [hx]
      rw [this]
      simp [hc]
    simp only [Sort.putCells, Array.getElem?_mapIdx]
    have hlt : L.o + i < cs.size := by
      rw [h6, ← hm] at h3
      rw [h2]
      omega
    rw [Array.getElem?_eq_getElem hlt]
    simp only [Option.map_some, size_flatK, List.size_toArray]
    rw [if_pos (by omega)]
    simp [e1]
theorem s_sort : SoundAt Try.prog 56 (cSort 57) := by
  intro xs s r s' h
  have hk : callable Try.prog 56 = true := k56
  have hf : Try.sortNode_ren.f 6 = 56 := rfl
  unfold cSort at h
  split at h
  · split at h
    · rename_i e
      subst e
      injection h with h
      obtain ⟨rfl, rfl⟩ := Prod.mk.inj h
      refine ⟨hk, gk_lowed s, fun ρ w cargs hfree hR hargs => ?_⟩
      obtain ⟨a1, r1, rfl, v1, w1⟩ : ∃ c r, cargs = c :: r ∧ VR ρ .nils c ∧ VRs ρ [.fn 57 []] r := by simpa only [VRs] using hargs
      obtain ⟨a2, r2, rfl, v2, w2⟩ : ∃ c r, r1 = c :: r ∧ VR ρ (.fn 57 []) c ∧ VRs ρ [] r := by simpa only [VRs] using w1
      simp only [VRs] at w2
      subst w2
      simp only [VR] at v1
      subst v1
      refine (AnyF.slices_SortFunc_none Try.sortNode none 0 a2 w).mono fun e w' hp => ?_
      obtain ⟨rfl, rfl⟩ := hp
      have hst := Step.refl s ρ w'
      exact ⟨ρ, _, rfl, by simp [VR, VRs], ⟨Nat.le_refl _, Nat.min_le_left _ _, hst.ren, hst.size, rfl, rfl, rfl, hst.drawn, fun b hb H => rfl, hst.old, fun id L blk e1 _ e3 _ => absurd (St.get_lt e3) (by rw [lowed_next]; omega), fun _ _ _ => rfl⟩, ⟨hR.bound, hR.blk, hR.inj⟩⟩
    · cases h
  · rename_i j n g'
    split at h
    · rename_i e
      subst e
      split at h
      · rename_i cs hg
        split at h
        · rename_i l hd
          split at h
          · rename_i hc
            obtain ⟨hc1, hnd, hpos, hlim⟩ := hc
            injection h with h
            obtain ⟨rfl, rfl⟩ := Prod.mk.inj h
            obtain ⟨d1, d2, d3⟩ := decL_some hd
            have hcs : cs = ndC.cells l := by rw [← d3, show n * ndC.sz = cs.length from hc1.symm]; simp
            subst hcs
            refine ⟨hk, ⟨grow_put _ hg, keeps_put _ hg⟩, fun ρ w cargs hfree hR hargs => ?_⟩
            obtain ⟨a1, r1, rfl, v1, w1⟩ : ∃ c r, cargs = c :: r ∧ VR ρ (.sl j 0 n none 6) c ∧ VRs ρ [.fn 57 []] r := by simpa only [VRs] using hargs
            obtain ⟨a2, r2, rfl, v2, w2⟩ : ∃ c r, r1 = c :: r ∧ VR ρ (.fn 57 []) c ∧ VRs ρ [] r := by simpa only [VRs] using w1
            simp only [VRs] at w2
            subst w2
            simp only [VR] at v1 v2
            obtain ⟨L, a, c, hL, rfl, hle, _, hca⟩ := v1
            obtain ⟨cb, rfl, hcb⟩ := v2
            simp only [VRs] at hcb
            subst hcb
            rcases hca with rfl | ⟨rfl, hcap⟩
            · omega
            have hb := hR.blk j _ L hg hL
            have hH := holds_of hb
            have hlt := hR.bound j L hL
            have hsz : l.toArray.size = n := by simpa using d1
            have main := AnyQ.slices_SortFunc Try.sortNode 6 Try.isAgg64 Try.sizeOf64 nvals nvals_len nvals_one (fun x y : Nd => dcmp x.d y.d) swo 57 #[] L.b L.o c l.toArray w (enters_of Try.func57 (by kernel_rfl) rfl) (cmp_lays w L.b L.o l.toArray.size) hH hlt (by rw [hsz]; unfold lim at hlim; omega)
            rw [hsz] at main
            have main : Calls Try.prog 56 _ w _ := main
            refine main.mono fun e w' hp => ?_
            obtain ⟨rfl, d', nn, os, ⟨p1, _, p2⟩, hsrt, rfl⟩ := hp
            have hsz' : d'.size = n := by rw [p1, hsz]
            have hd' : d'.toList = sortN l := by
              have hp : d'.toList.Perm l := by
                have e1 : d'.extract 0 n = d' := by rw [← hsz']; simp
                have e2 : l.toArray.extract 0 n = l.toArray := by rw [← hsz]; simp
                rw [e1, e2] at p2
                exact p2
              refine sorted_unique _ _ (hp.trans (sortN_perm l).symm) ?_ (sortN_sorted l hnd)
              rw [List.pairwise_iff_getElem]
              intro i j hi hj hij
              have h1 := hsrt i j (Nat.zero_le _) hij (by simpa [hsz'] using hj)
              have hnd' : (d'.toList.map Nd.d).Nodup := (hp.map Nd.d).nodup_iff.2 hnd
              have hne : d'.toList[i].d ≠ d'.toList[j].d := by
                have := List.pairwise_iff_getElem.1 hnd' i j (by simpa using hi) (by simpa using hj) hij
                simpa using this
              have e1 : d'[i]! = d'.toList[i] := by
                simp at hi
                simp [hi]
              have e2 : d'[j]! = d'.toList[j] := by
                simp at hj
                simp [hj]
              rw [e1, e2] at h1
              rcases ltP_tri _ _ hne with q | q
              · exact q
              · unfold ltP at q
                unfold ltOf at h1
                rcases dcmp_cases d'.toList[j].d d'.toList[i].d with ⟨hh, _, _⟩ | ⟨hh, hh2, _⟩ | ⟨hh, hh2, _⟩
                · simp only [hh] at h1; exact absurd h1 (by decide)
                · rw [hh2] at q; cases q
                · rw [hh2] at q; cases q
            have hd'' : d' = (sortN l).toArray := by rw [← hd']
            subst hd''
            obtain ⟨hR1, hS1⟩ := R.put (b := .row (ndC.cells (sortN l)) true) hR hg rfl hL (blk_after hb (sortN_len l) nn) (by simp [putRowK, Sort.putRow, Sort.mapBlock, Sort.ahead]) rfl rfl rfl (by show w.drawn ≤ w.drawn + nn; omega) (by
              intro k hk'
              simp only [putRowK, Sort.putRow, Sort.mapBlock, Sort.ahead]
              rw [Array.getElem?_modify, if_neg (Ne.symm hk')])
            have hcl : Clean (putRowK nvals 6 (Sort.ahead w nn) L.b L.o (sortN l).toArray) (sortWorldK nvals 6 w L.b L.o nn (sortN l).toArray os) := by
              refine ⟨by simp [sortWorldK, Sort.grow], rfl, rfl, rfl, Nat.le_refl _, fun b hb => ?_⟩
              simp only [sortWorldK, Sort.grow]
              rw [Array.getElem?_append_left hb]
            exact ⟨ρ, _, rfl, by simp [VR, VRs], hS1.trans (hcl.step _ ρ), hR1.clean hcl⟩
          · cases h
        · cases h
      · cases h
    · cases h
  · cases h
end Go.AM
end
/-
  store.Of. Own work of this project; in part printed by a program of it.
-/
section
set_option linter.unusedVariables false
set_option linter.unusedSimpArgs false
set_option maxRecDepth 100000
set_option maxHeartbeats 8000000
namespace Go.AM
open Go Go.Proofs

variable {s t : St}
theorem lt_put {n id : Nat} {t : St} (h : ltN n t) (c : AB) : ltN n (t.put id c) = True := eq_true h
theorem same_put {n id : Nat} {t : St} (h : sameN n t) (c : AB) : sameN n (t.put id c) = True := eq_true h
theorem gt_push {id : Nat} (h : ltN id t) (b : AB) : (t.push b).get id = t.get id := St.get_push_old _ _ h
theorem sto_over {n : Nat} {s : St} (h : sameN n s) (x y : Nd) : sto (s.push (.row (Nd.av x) true)) 6 (.ptr n 0) (.agg (Nd.av y)) = some (.und, s.lowed.push (.row (Nd.av y) true)) := by
  unfold sameN at h
  subst h
  simp only [sto, St.get_push_new, push_put]
  rfl
theorem sto_lowed (n : Nat) (a x : AV) : sto s.lowed n a x = (sto s n a x).map fun r => (r.1, r.2.lowed) := by
  simp only [sto, lowed_get, put_lowed]
  repeat' split
  all_goals rfl
theorem cs_dead (p : Prop) [Decidable p] (A B : Prop) : cstep (.bool (!decide p)) A B = cstep (.bool (decide p)) B A := cs_not _ _ _
/-- What is there of the nodes so far: merged, and alive. -/
def ofStep (M A : List Nd) (n : Nd) : Option (List Nd × List Nd) :=
  if (match lookN A n.d with
    | some (_, x) => x.clash n
    | none => false) = true then none
  else match lookN M n.d with
    | some (_, old) => if old.clash n = true then none else some (updN M (old.merge n), if n.x = 0 then A else updN A n)
    | none => some (updN M n, if n.x = 0 then A else updN A n)
def ofFold : List Nd → List Nd → List Nd → Option (List Nd)
  | [], M, _ => some M
  | n :: r, M, A => match ofStep M A n with
    | some (M', A') => ofFold r M' A'
    | none => none
def gOf (l : List Nd) : Option (List Nd × Option AV) :=
  if l.all Nd.valid = true then match ofFold l [] [] with
    | some M => some (sortN M, some (.int .i64 0))
    | none => some ([], some (.int .i64 15))
  else some ([], some (.int .i64 2))
theorem gOf_plain {a : List Nd} {l : List Nd} {e : Option AV} (h : gOf a = some (l, e)) : ∀ x, e = some x → x.plain = true := by
  unfold gOf at h
  repeat' split at h
  all_goals
    injection h with h
    obtain ⟨_, rfl⟩ := Prod.mk.inj h
    intro x hx
    injection hx with hx
    subst hx
    rfl
theorem updN_mem {l : List Nd} {x y : Nd} (h : y ∈ updN l x) : y = x ∨ y ∈ l := by
  unfold updN at h
  split at h
  · rcases List.mem_or_eq_of_mem_set h with h | h
    · exact .inr h
    · exact .inl h
  · rcases List.mem_append.1 h with h | h
    · exact .inr h
    · exact .inl (by simpa using h)
theorem updN_len (l : List Nd) (x : Nd) : (updN l x).length ≤ l.length + 1 := by
  unfold updN
  split <;> simp
theorem updN_nodup {l : List Nd} {x : Nd} (h : (l.map Nd.d).Nodup) : ((updN l x).map Nd.d).Nodup := by
  unfold updN
  split
  · rename_i j y hj
    obtain ⟨h1, h2⟩ := lookN_some hj
    rw [List.map_set, ← h2]
    have : (l.map Nd.d).set j y.d = l.map Nd.d := by
      apply List.ext_getElem?
      intro k
      rw [List.getElem?_set]
      split
      · rename_i e
        subst e
        split
        · simp [h1]
        · rename_i hk
          have := getlt h1
          simp at hk
          omega
      · rfl
    rw [this]
    exact h
  · rename_i hj
    rw [List.map_append, List.nodup_append]
    refine ⟨h, by simp, ?_⟩
    intro a ha b hb e
    simp at hb
    subst hb
    subst e
    obtain ⟨y, hy, e⟩ := List.mem_map.1 ha
    exact lookN_none hj y hy e
theorem merge_valid {a b : Nd} (ha : a.valid = true) (hb : b.valid = true) : (a.merge b).valid = true := by
  unfold Nd.merge
  split <;> assumption
theorem merge_d {a b : Nd} (h : a.d = b.d) : (a.merge b).d = b.d := by
  unfold Nd.merge
  split <;> simp [h]
theorem aappend_frame {t t' : St} {sz bytes k : Nat} {v v' : AV} {new : List AV} (h : aappend t sz bytes v new k = some (v', t')) {id : Nat} {b : AB} (hne : ∀ o n c z, v ≠ .sl id o n c z) (hg : t.get id = some b) : t'.get id = some b := by
  unfold aappend at h
  split at h
  · split at h
    · injection h with h; obtain ⟨_, rfl⟩ := Prod.mk.inj h; exact hg
    · split at h
      · injection h with h; obtain ⟨_, rfl⟩ := Prod.mk.inj h; exact get_push_some _ hg
      · cases h
  · rename_i id' off len cap z
    have hid : id ≠ id' := fun e => hne off len cap z (by rw [e])
    split at h
    · split at h
      · rename_i cs own hg'
        have hlt := St.get_lt hg'
        split at h
        · injection h with h; obtain ⟨_, rfl⟩ := Prod.mk.inj h; exact hg
        · split at h
          · split at h
            · split at h
              · split at h
                · injection h with h; obtain ⟨_, rfl⟩ := Prod.mk.inj h
                  rw [St.get_put_ne _ _ hlt hid]; exact hg
                · cases h
              · injection h with h; obtain ⟨_, rfl⟩ := Prod.mk.inj h; exact get_push_some _ hg
            · split at h
              · injection h with h; obtain ⟨_, rfl⟩ := Prod.mk.inj h
                refine get_push_some _ ?_
                rw [St.get_put_ne _ _ hlt hid]; exact hg
              · cases h
          · cases h
      · cases h
    · cases h
  · cases h
theorem appV_frame {t t' : St} {sz bytes : Nat} {v v' x : AV} (h : appV t sz bytes v x = some (v', t')) {id : Nat} {b : AB} (hne : ∀ o n c z, v ≠ .sl id o n c z) (hg : t.get id = some b) : t'.get id = some b := by
  unfold appV at h
  split at h
  · exact aappend_frame h hne hg
  · cases h
theorem pigeon : ∀ (n : Nat) (l : List Nat), l.Nodup → (∀ x ∈ l, x < n) → l.length ≤ n
  | 0, l, _, h => by
    cases l with
    | nil => simp
    | cons x r => exact absurd (h x (by simp)) (by omega)
  | n + 1, l, hd, h => by
    by_cases hn : n ∈ l
    · have := pigeon n (l.erase n) (hd.erase n) fun x hx => by
        have := (hd.mem_erase_iff.1 hx)
        have := h x this.2
        omega
      rw [List.length_erase_of_mem hn] at this
      omega
    · have := pigeon n l hd fun x hx => by
        have := h x hx
        have : x ≠ n := fun e => hn (e ▸ hx)
        omega
      omega
theorem room_left {seen : List Nat} {n i : Nat} (hd : seen.Nodup) (hl : ∀ x ∈ seen, x < n) (hi : i < n) (hn : i ∉ seen) : seen.length < n := by
  have := pigeon n (i :: seen) (List.nodup_cons.2 ⟨hn, hd⟩) fun x hx => by
    rcases List.mem_cons.1 hx with rfl | hx
    · exact hi
    · exact hl x hx
  simp at this
  omega
theorem range_get (M : List Nd) : (List.range M.length).map (fun i => M[i]?) = M.map some := by
  apply List.ext_getElem?
  intro i
  rw [List.getElem?_map, List.getElem?_map]
  by_cases h : i < M.length
  · rw [List.getElem?_range h]
    simp [h]
  · rw [List.getElem?_eq_none (by simpa using h), List.getElem?_eq_none (by omega)]
    rfl
theorem seen_perm {M acc : List Nd} {seen : List Nat} (h1 : seen.Nodup) (h2 : ∀ i ∈ seen, i < M.length) (h3 : acc.map some = seen.map fun i => M[i]?) (h4 : ∀ i, i < M.length → i ∈ seen) : acc.Perm M := by
  have hp : seen.Perm (List.range M.length) := (List.perm_ext_iff_of_nodup h1 List.nodup_range).2 fun i => by
    rw [List.mem_range]
    exact ⟨h2 i, h4 i⟩
  have h5 := hp.map fun i => M[i]?
  rw [← h3, range_get] at h5
  have h6 := h5.filterMap (fun x => x)
  have e : ∀ l : List Nd, (l.map some).filterMap (fun x => x) = l := by
    intro l
    induction l with
    | nil => rfl
    | cons x r ih => simp [ih]
  rwa [e, e] at h6
theorem sort_own {v : AV} {acc : List Nd} (hK : Keep s t) (hO : Own ndC s t v acc) (hnd : (acc.map Nd.d).Nodup) (hl : acc.length ≤ lim) (g : Nat) : ∃ t3, acall (cSort g) false [v, .fn g []] t = some (.tup [], t3) ∧ Keep s t3 ∧ Own ndC s t3 v (sortN acc) := by
  rcases hO with ⟨rfl, rfl⟩ | ⟨j, rfl, h0, h1, h⟩
  · exact ⟨t, acall_rol (by simp [cSort]) rfl, hK, .nil _ _ _⟩
  · have hpos : 0 < acc.length := List.length_pos_iff.2 h0
    have hd : decL ndC acc.length (ndC.cells acc) = some acc := by
      have := decL_cells ndC acc []
      rwa [List.append_nil] at this
    have h6 : ndC.sz = 6 := rfl
    have hlen : (ndC.cells acc).length = acc.length * 6 := by rw [cells_len, h6]
    have hc : cSort g [.sl j 0 acc.length none ndC.sz, .fn g []] { heap := t.heap, next := t.next, low := t.next } = some (.tup [], ({ heap := t.heap, next := t.next, low := t.next } : St).put j (.row (ndC.cells (sortN acc)) true)) := by
      have hg : ({ heap := t.heap, next := t.next, low := t.next } : St).get j = some (.row (ndC.cells acc) true) := h
      rw [h6]
      simp only [cSort, if_true, hg, hd, hlen, hnd, hpos, hl, and_self]
    have hlt := St.get_lt h
    refine ⟨t.put j (.row (ndC.cells (sortN acc)) true), ?_, hK.put _ h1 hlt, .inr ⟨j, by rw [sortN_len], ?_, h1, St.get_put_same h⟩⟩
    · simp only [acall, hc]
      have e : (AV.tup []).ground = true := rfl
      have e3 : decide (t.next ≤ (({ heap := t.heap, next := t.next, low := t.next } : St).put j (.row (ndC.cells (sortN acc)) true)).low) = false := decide_eq_false (by simp only [St.low_put]; omega)
      rw [e, e3]
      simp only [Bool.and_false, Bool.false_eq_true, if_false, St.put]
      congr 3
      omega
    · intro e
      have := sortN_len acc
      rw [e] at this
      simp at this
      omega
theorem s_Of : SoundAt Try.prog 40 (conF ndC (pL ndC gOf)) :=
  con_fresh (tb_sound (l := [(54, conLfn fHasBad 55), (39, conNN fMerge), (53, conN fDead), (56, cSort 57)]) (by simpa using ⟨s_HasBad, s_Merge, s_Dead, s_sort⟩)) mixed Try.func40 k40 c40 fun args s r ee h => by
    obtain ⟨v, l, rfl, hr, hl, hp⟩ := pL_some h
    refine ⟨gOf_plain hp, by simp [a40], fun env hlen ha => ?_⟩
    have h0 : E env 0 = _ := ha 0 _ rfl
    have hlen : elen env = _ := hlen
    simp only [a40] at hlen
    unfold a40
    have hL := lenV_read hr
    have q1 := q_HasBad false hr hl
    unfold gOf at hp
    cases hv : l.all Nd.valid
    · rw [hv] at hp q1
      simp only [Bool.false_eq_true, if_false] at hp
      injection hp with hp
      obtain ⟨rfl, rfl⟩ := Prod.mk.inj hp
      simp (config := {contextual := true, maxDischargeDepth := 12}) only [tb, q1, h0, hlen, ↓bD0, ↓bD1, ↓bD2, ↓bD3, ↓bD4, ↓bD5, ↓bD6, bU0, bU1, bU2, bU3, bU4, bU5, bU6, bU7, bU8, bU9, bU10, bU11, bU12, bU13, forall_const, List.all_cons, List.all_nil, Option.map_some, List.map_cons, List.map_nil, ne_eq, implies_true, isNx, cs_dec, cs_not, cs_and, cs_or, cs_valid, eq_self, ↓wp_cond, ↓wp_loop, ↓reduceIte, reduceCtorEq, Nat.reduceEqDiff, Nat.reduceLT, Nat.reduceAdd, Nat.reduceMul, Int.ofNat_lt, Int.ofNat_le, exists_const, ae_app, ap_slc, Option.map_none, mkR_none, mkR_some, ar_look, ae_mset, ae_rng, ae_mkmap0, ar_ent, lookV_push, lookV_lowed, msetV_push, msetV_lowed, lt_put, same_put, sto_over, sto_lowed, cs_dead, Option.map_some]
      exact ⟨_, rfl, .nil _ _ _⟩
    · rw [hv] at hp q1
      simp only [if_true] at hp
      have hA : ∀ x ∈ l, x.valid = true := by simpa using hv
      simp (config := {contextual := true, maxDischargeDepth := 12}) only [tb, q1, h0, hlen, hL, ↓bD0, ↓bD1, ↓bD2, ↓bD3, ↓bD4, ↓bD5, ↓bD6, bU0, bU1, bU2, bU3, bU4, bU5, bU6, bU7, bU8, bU9, bU10, bU11, bU12, bU13, forall_const, List.all_cons, List.all_nil, Option.map_some, List.map_cons, List.map_nil, ne_eq, implies_true, isNx, cs_dec, cs_not, cs_and, cs_or, cs_valid, eq_self, ↓wp_cond, ↓wp_loop, ↓reduceIte, reduceCtorEq, Nat.reduceEqDiff, Nat.reduceLT, Nat.reduceAdd, Nat.reduceMul, Int.ofNat_lt, Int.ofNat_le, exists_const, ae_app, ap_slc, Option.map_none, mkR_none, mkR_some, ar_look, ae_mset, ae_rng, ae_mkmap0, ar_ent, lookV_push, lookV_lowed, msetV_push, msetV_lowed, lt_put, same_put, sto_over, sto_lowed, cs_dead, Option.map_some]
      obtain ⟨mM, hmM⟩ : ∃ mM, mM = s.next := ⟨_, rfl⟩
      obtain ⟨mA, hmA⟩ : ∃ mA, mA = (s.push (.map [] 0)).next := ⟨_, rfl⟩
      obtain ⟨I, hI⟩ : ∃ I : Nat → Env → St → Prop, ∀ n e t, I n e t = (Keep s t ∧ ∃ (i : Nat) (M A : List Nd), n + i = l.length ∧ elen e = 89 ∧ E e 23 = v ∧ E e 24 = .int .i64 (l.length : Int) ∧ E e 25 = .int .i64 (i : Int) ∧ E e 4 = .mp mM ∧ E e 5 = .mp mA ∧ t.get mM = some (mapN M) ∧ t.get mA = some (mapN A) ∧ ofFold l [] [] = ofFold (l.drop i) M A ∧ (∀ x ∈ M, x.valid = true) ∧ (∀ x ∈ A, x.valid = true) ∧ M.length ≤ i ∧ (M.map Nd.d).Nodup) := ⟨fun n e t => (Keep s t ∧ ∃ (i : Nat) (M A : List Nd), n + i = l.length ∧ elen e = 89 ∧ E e 23 = v ∧ E e 24 = .int .i64 (l.length : Int) ∧ E e 25 = .int .i64 (i : Int) ∧ E e 4 = .mp mM ∧ E e 5 = .mp mA ∧ t.get mM = some (mapN M) ∧ t.get mA = some (mapN A) ∧ ofFold l [] [] = ofFold (l.drop i) M A ∧ (∀ x ∈ M, x.valid = true) ∧ (∀ x ∈ A, x.valid = true) ∧ M.length ≤ i ∧ (M.map Nd.d).Nodup), fun _ _ _ => rfl⟩
      refine lwp_inv I (n := l.length) ?_ ?_
      · rw [hI]
        refine ⟨((Keep.refl s).push _).push _, 0, [], [], by omega, by simp only [E_pne, E_psame, elen_put, Nat.reduceEqDiff, ne_eq, not_false_eq_true, Nat.reduceLT, hlen], by simp only [E_pne, E_psame, elen_put, Nat.reduceEqDiff, ne_eq, not_false_eq_true, Nat.reduceLT, hlen], by simp only [E_pne, E_psame, elen_put, Nat.reduceEqDiff, ne_eq, not_false_eq_true, Nat.reduceLT, hlen], by simp only [E_pne, E_psame, elen_put, Nat.reduceEqDiff, ne_eq, not_false_eq_true, Nat.reduceLT, hlen]; rfl, by rw [hmM]; simp only [E_pne, E_psame, elen_put, Nat.reduceEqDiff, ne_eq, not_false_eq_true, Nat.reduceLT, hlen], by rw [hmA]; simp only [E_pne, E_psame, elen_put, Nat.reduceEqDiff, ne_eq, not_false_eq_true, Nat.reduceLT, hlen], ?_, ?_, rfl, by simp, by simp, by simp, by simp⟩
        · rw [hmM]
          rw [St.get_push_old _ _ (Nat.lt_succ_self _), St.get_push_new]
          rfl
        · rw [hmA, St.get_push_new]
          rfl
      intro n e t hi
      rw [hI] at hi
      obtain ⟨hK, i, M, A, hn, he, e23, e24, e25, e4, e5, gM, gA, hfold, hvM, hvA, hMi, hnd⟩ := hi
      have lM := lt_of_get gM
      have lA := lt_of_get gA
      have hmA' : s.next ≤ mA := by rw [hmA]; simp
      have hmM' : s.next ≤ mM := by rw [hmM]; exact Nat.le_refl _
      have hne : mM ≠ mA := by rw [hmM, hmA]; simp
      by_cases hlt : i < l.length
      · obtain ⟨x, hx⟩ := getsome hlt
        have hw2 := wrap_add1 (n := i) (by unfold lim at hl; omega)
        obtain ⟨a1, _⟩ := nd_lods hr hK hx
        have i1 := nd_idx hr hx .i64
        have vx := hA x (List.mem_of_getElem? hx)
        have hdr : l.drop i = x :: l.drop (i + 1) := by
          rw [List.drop_eq_getElem_cons hlt]
          congr 1
          have := (List.getElem?_eq_some_iff.1 hx).2
          exact this
        rw [hdr, ofFold, ofStep] at hfold
        have h15 : ((15 : Int) = 0) = False := by decide
        cases ha2 : lookN A x.d with
        | none =>
          have lkA := look_miss gA ha2 (.agg [.int .i64 0, .int .i64 0, .int .i64 0, .int .i64 0, .int .i64 0, .int .i32 0])
          rw [ha2] at hfold
          simp only [Bool.false_eq_true, if_false] at hfold
          by_cases hd : x.x = 0
          · have tAe : ∃ tA, tA = t := ⟨_, rfl⟩
            obtain ⟨tA, htA⟩ := tAe
            have hx0 : (x.x = 0) = True := eq_true hd
            have gMA : tA.get mM = some (mapN M) := by rw [htA]; exact gM
            have gAA : tA.get mA = some (mapN A) := by rw [htA]; exact gA
            have hKA : Keep s tA := by rw [htA]; exact hK
            have hs1 : sameN t.next tA := by rw [htA]; rfl
            have hvA2 := hvA
            rw [if_pos hd] at hfold
            have lMA := lt_of_get gMA
            cases hm : lookN M x.d with
            | none =>
              have lkM := look_miss gMA hm (.agg [.int .i64 0, .int .i64 0, .int .i64 0, .int .i64 0, .int .i64 0, .int .i32 0])
              have mM2 := mset_map gMA x
              rw [hm] at hfold
              simp only at hfold
              obtain ⟨tB, htB⟩ : ∃ tB, tB = tA.put mM (mapN (updN M x)) := ⟨_, rfl⟩
              rw [← htB] at mM2
              have gMB : tB.get mM = some (mapN (updN M x)) := by rw [htB]; exact St.get_put_same gMA
              have gAB : tB.get mA = some (mapN A) := by rw [htB, St.get_put_ne _ _ lMA (Ne.symm hne)]; exact gAA
              have hKB : Keep s tB := by rw [htB]; exact hKA.put _ hmM' lMA
              have lMB := lt_of_get gMB
              have lAB := lt_of_get gAB
              have hs2 : sameN t.next tB := by rw [htB]; exact hs1
              subst htA
              simp (config := {contextual := true, maxDischargeDepth := 12}) only [tb, q_Merge, q_Dead, e23, e24, e25, e4, e5, he, hlt, hw2, a1, i1, lM, lA, lkA, hx0, lkM, mM2, hs1, hs2, lMA, lMB, lAB, ↓bD0, ↓bD1, ↓bD2, ↓bD3, ↓bD4, ↓bD5, ↓bD6, bU0, bU1, bU2, bU3, bU4, bU5, bU6, bU7, bU8, bU9, bU10, bU11, bU12, bU13, forall_const, List.all_cons, List.all_nil, Option.map_some, List.map_cons, List.map_nil, ne_eq, implies_true, isNx, cs_dec, cs_not, cs_and, cs_or, cs_valid, eq_self, ↓wp_cond, ↓wp_loop, ↓reduceIte, reduceCtorEq, Nat.reduceEqDiff, Nat.reduceLT, Nat.reduceAdd, Nat.reduceMul, Int.ofNat_lt, Int.ofNat_le, exists_const, ae_app, ap_slc, Option.map_none, mkR_none, mkR_some, ar_look, ae_mset, ae_rng, ae_mkmap0, ar_ent, lookV_push, lookV_lowed, msetV_push, msetV_lowed, lt_put, same_put, sto_over, sto_lowed, cs_dead, Option.map_some]
              refine ⟨n - 1, by omega, ?_⟩
              rw [hI]
              refine ⟨by simp (config := {maxDischargeDepth := 12}) only [kt_push, kt_lowed, hKB], i + 1, updN M x, A, by omega, by simp only [E_pne, E_psame, elen_put, Nat.reduceEqDiff, ne_eq, not_false_eq_true, Nat.reduceLT, he], by simp only [E_pne, E_psame, elen_put, Nat.reduceEqDiff, ne_eq, not_false_eq_true, Nat.reduceLT, e23], by simp only [E_pne, E_psame, elen_put, Nat.reduceEqDiff, ne_eq, not_false_eq_true, Nat.reduceLT, e24], by simp only [E_pne, E_psame, elen_put, Nat.reduceEqDiff, ne_eq, not_false_eq_true, Nat.reduceLT, he], by simp only [E_pne, E_psame, elen_put, Nat.reduceEqDiff, ne_eq, not_false_eq_true, Nat.reduceLT, e4], by simp only [E_pne, E_psame, elen_put, Nat.reduceEqDiff, ne_eq, not_false_eq_true, Nat.reduceLT, e5], ?_, ?_, hfold, fun y hy => ?_, hvA2, by have := updN_len M x; omega, updN_nodup hnd⟩
              · simp (config := {maxDischargeDepth := 12}) only [gt_push, lt_push, lt_lowed, lowed_get, lMB, gMB]
              · simp (config := {maxDischargeDepth := 12}) only [gt_push, lt_push, lt_lowed, lowed_get, lAB, gAB]
              · rcases updN_mem hy with rfl | hy
                · exact vx
                · exact hvM y hy
            | some p =>
              obtain ⟨jj, old⟩ := p
              obtain ⟨ho1, ho2⟩ := lookN_some hm
              have vo := hvM old (List.mem_of_getElem? ho1)
              have lkM := look_hit gMA hm (.agg [.int .i64 0, .int .i64 0, .int .i64 0, .int .i64 0, .int .i64 0, .int .i32 0])
              rw [hm] at hfold
              simp only at hfold
              by_cases hc2 : old.clash x = true
              · have hg2 : mergeV old x = .tup [.agg (Nd.av nd0), .int .i64 15] := by simp [mergeV, vo, vx, hc2]
                rw [if_pos hc2] at hfold
                simp only at hfold
                rw [hfold] at hp
                injection hp with hp
                obtain ⟨rfl, rfl⟩ := Prod.mk.inj hp
                subst htA
                simp (config := {contextual := true, maxDischargeDepth := 12}) only [tb, q_Merge, q_Dead, e23, e24, e25, e4, e5, he, hlt, hw2, a1, i1, lM, lA, lkA, hx0, lkM, hg2, h15, hs1, lMA, ↓bD0, ↓bD1, ↓bD2, ↓bD3, ↓bD4, ↓bD5, ↓bD6, bU0, bU1, bU2, bU3, bU4, bU5, bU6, bU7, bU8, bU9, bU10, bU11, bU12, bU13, forall_const, List.all_cons, List.all_nil, Option.map_some, List.map_cons, List.map_nil, ne_eq, implies_true, isNx, cs_dec, cs_not, cs_and, cs_or, cs_valid, eq_self, ↓wp_cond, ↓wp_loop, ↓reduceIte, reduceCtorEq, Nat.reduceEqDiff, Nat.reduceLT, Nat.reduceAdd, Nat.reduceMul, Int.ofNat_lt, Int.ofNat_le, exists_const, ae_app, ap_slc, Option.map_none, mkR_none, mkR_some, ar_look, ae_mset, ae_rng, ae_mkmap0, ar_ent, lookV_push, lookV_lowed, msetV_push, msetV_lowed, lt_put, same_put, sto_over, sto_lowed, cs_dead, Option.map_some]
                exact ⟨by simp (config := {maxDischargeDepth := 12}) only [kt_push, kt_lowed, hKA], _, rfl, .nil _ _ _⟩
              · have hg2 : mergeV old x = .tup [.agg (Nd.av (old.merge x)), .int .i64 0] := by simp [mergeV, vo, vx, hc2]
                rw [if_neg hc2] at hfold
                simp only at hfold
                have mM2 := mset_map gMA (old.merge x)
                obtain ⟨tB, htB⟩ : ∃ tB, tB = tA.put mM (mapN (updN M (old.merge x))) := ⟨_, rfl⟩
                rw [← htB] at mM2
                have gMB : tB.get mM = some (mapN (updN M (old.merge x))) := by rw [htB]; exact St.get_put_same gMA
                have gAB : tB.get mA = some (mapN A) := by rw [htB, St.get_put_ne _ _ lMA (Ne.symm hne)]; exact gAA
                have hKB : Keep s tB := by rw [htB]; exact hKA.put _ hmM' lMA
                have lMB := lt_of_get gMB
                have lAB := lt_of_get gAB
                have hs2 : sameN t.next tB := by rw [htB]; exact hs1
                subst htA
                simp (config := {contextual := true, maxDischargeDepth := 12}) only [tb, q_Merge, q_Dead, e23, e24, e25, e4, e5, he, hlt, hw2, a1, i1, lM, lA, lkA, hx0, hg2, lkM, mM2, hs1, hs2, lMA, lMB, lAB, ↓bD0, ↓bD1, ↓bD2, ↓bD3, ↓bD4, ↓bD5, ↓bD6, bU0, bU1, bU2, bU3, bU4, bU5, bU6, bU7, bU8, bU9, bU10, bU11, bU12, bU13, forall_const, List.all_cons, List.all_nil, Option.map_some, List.map_cons, List.map_nil, ne_eq, implies_true, isNx, cs_dec, cs_not, cs_and, cs_or, cs_valid, eq_self, ↓wp_cond, ↓wp_loop, ↓reduceIte, reduceCtorEq, Nat.reduceEqDiff, Nat.reduceLT, Nat.reduceAdd, Nat.reduceMul, Int.ofNat_lt, Int.ofNat_le, exists_const, ae_app, ap_slc, Option.map_none, mkR_none, mkR_some, ar_look, ae_mset, ae_rng, ae_mkmap0, ar_ent, lookV_push, lookV_lowed, msetV_push, msetV_lowed, lt_put, same_put, sto_over, sto_lowed, cs_dead, Option.map_some]
                refine ⟨n - 1, by omega, ?_⟩
                rw [hI]
                refine ⟨by simp (config := {maxDischargeDepth := 12}) only [kt_push, kt_lowed, hKB], i + 1, updN M (old.merge x), A, by omega, by simp only [E_pne, E_psame, elen_put, Nat.reduceEqDiff, ne_eq, not_false_eq_true, Nat.reduceLT, he], by simp only [E_pne, E_psame, elen_put, Nat.reduceEqDiff, ne_eq, not_false_eq_true, Nat.reduceLT, e23], by simp only [E_pne, E_psame, elen_put, Nat.reduceEqDiff, ne_eq, not_false_eq_true, Nat.reduceLT, e24], by simp only [E_pne, E_psame, elen_put, Nat.reduceEqDiff, ne_eq, not_false_eq_true, Nat.reduceLT, he], by simp only [E_pne, E_psame, elen_put, Nat.reduceEqDiff, ne_eq, not_false_eq_true, Nat.reduceLT, e4], by simp only [E_pne, E_psame, elen_put, Nat.reduceEqDiff, ne_eq, not_false_eq_true, Nat.reduceLT, e5], ?_, ?_, hfold, fun y hy => ?_, hvA2, by have := updN_len M (old.merge x); omega, updN_nodup hnd⟩
                · simp (config := {maxDischargeDepth := 12}) only [gt_push, lt_push, lt_lowed, lowed_get, lMB, gMB]
                · simp (config := {maxDischargeDepth := 12}) only [gt_push, lt_push, lt_lowed, lowed_get, lAB, gAB]
                · rcases updN_mem hy with rfl | hy
                  · exact (merge_valid vo vx)
                  · exact hvM y hy
          · have tAe : ∃ tA, tA = t.put mA (mapN (updN A x)) := ⟨_, rfl⟩
            obtain ⟨tA, htA⟩ := tAe
            have hx0 : (x.x = 0) = False := eq_false hd
            have gMA : tA.get mM = some (mapN M) := by rw [htA, St.get_put_ne _ _ lA hne]; exact gM
            have gAA : tA.get mA = some (mapN (updN A x)) := by rw [htA]; exact St.get_put_same gA
            have hKA : Keep s tA := by rw [htA]; exact hK.put _ hmA' lA
            have hs1 : sameN t.next tA := by rw [htA]; rfl
            have mS := mset_map gA x
            rw [← htA] at mS
            have hvA2 : ∀ y ∈ updN A x, y.valid = true := fun y hy => by
              rcases updN_mem hy with rfl | hy
              · exact vx
              · exact hvA y hy
            rw [if_neg hd] at hfold
            have lMA := lt_of_get gMA
            cases hm : lookN M x.d with
            | none =>
              have lkM := look_miss gMA hm (.agg [.int .i64 0, .int .i64 0, .int .i64 0, .int .i64 0, .int .i64 0, .int .i32 0])
              have mM2 := mset_map gMA x
              rw [hm] at hfold
              simp only at hfold
              obtain ⟨tB, htB⟩ : ∃ tB, tB = tA.put mM (mapN (updN M x)) := ⟨_, rfl⟩
              rw [← htB] at mM2
              have gMB : tB.get mM = some (mapN (updN M x)) := by rw [htB]; exact St.get_put_same gMA
              have gAB : tB.get mA = some (mapN (updN A x)) := by rw [htB, St.get_put_ne _ _ lMA (Ne.symm hne)]; exact gAA
              have hKB : Keep s tB := by rw [htB]; exact hKA.put _ hmM' lMA
              have lMB := lt_of_get gMB
              have lAB := lt_of_get gAB
              have hs2 : sameN t.next tB := by rw [htB]; exact hs1
              simp (config := {contextual := true, maxDischargeDepth := 12}) only [tb, q_Merge, q_Dead, e23, e24, e25, e4, e5, he, hlt, hw2, a1, i1, lM, lA, lkA, hx0, mS, lkM, mM2, hs1, hs2, lMA, lMB, lAB, ↓bD0, ↓bD1, ↓bD2, ↓bD3, ↓bD4, ↓bD5, ↓bD6, bU0, bU1, bU2, bU3, bU4, bU5, bU6, bU7, bU8, bU9, bU10, bU11, bU12, bU13, forall_const, List.all_cons, List.all_nil, Option.map_some, List.map_cons, List.map_nil, ne_eq, implies_true, isNx, cs_dec, cs_not, cs_and, cs_or, cs_valid, eq_self, ↓wp_cond, ↓wp_loop, ↓reduceIte, reduceCtorEq, Nat.reduceEqDiff, Nat.reduceLT, Nat.reduceAdd, Nat.reduceMul, Int.ofNat_lt, Int.ofNat_le, exists_const, ae_app, ap_slc, Option.map_none, mkR_none, mkR_some, ar_look, ae_mset, ae_rng, ae_mkmap0, ar_ent, lookV_push, lookV_lowed, msetV_push, msetV_lowed, lt_put, same_put, sto_over, sto_lowed, cs_dead, Option.map_some]
              refine ⟨n - 1, by omega, ?_⟩
              rw [hI]
              refine ⟨by simp (config := {maxDischargeDepth := 12}) only [kt_push, kt_lowed, hKB], i + 1, updN M x, (updN A x), by omega, by simp only [E_pne, E_psame, elen_put, Nat.reduceEqDiff, ne_eq, not_false_eq_true, Nat.reduceLT, he], by simp only [E_pne, E_psame, elen_put, Nat.reduceEqDiff, ne_eq, not_false_eq_true, Nat.reduceLT, e23], by simp only [E_pne, E_psame, elen_put, Nat.reduceEqDiff, ne_eq, not_false_eq_true, Nat.reduceLT, e24], by simp only [E_pne, E_psame, elen_put, Nat.reduceEqDiff, ne_eq, not_false_eq_true, Nat.reduceLT, he], by simp only [E_pne, E_psame, elen_put, Nat.reduceEqDiff, ne_eq, not_false_eq_true, Nat.reduceLT, e4], by simp only [E_pne, E_psame, elen_put, Nat.reduceEqDiff, ne_eq, not_false_eq_true, Nat.reduceLT, e5], ?_, ?_, hfold, fun y hy => ?_, hvA2, by have := updN_len M x; omega, updN_nodup hnd⟩
              · simp (config := {maxDischargeDepth := 12}) only [gt_push, lt_push, lt_lowed, lowed_get, lMB, gMB]
              · simp (config := {maxDischargeDepth := 12}) only [gt_push, lt_push, lt_lowed, lowed_get, lAB, gAB]
              · rcases updN_mem hy with rfl | hy
                · exact vx
                · exact hvM y hy
            | some p =>
              obtain ⟨jj, old⟩ := p
              obtain ⟨ho1, ho2⟩ := lookN_some hm
              have vo := hvM old (List.mem_of_getElem? ho1)
              have lkM := look_hit gMA hm (.agg [.int .i64 0, .int .i64 0, .int .i64 0, .int .i64 0, .int .i64 0, .int .i32 0])
              rw [hm] at hfold
              simp only at hfold
              by_cases hc2 : old.clash x = true
              · have hg2 : mergeV old x = .tup [.agg (Nd.av nd0), .int .i64 15] := by simp [mergeV, vo, vx, hc2]
                rw [if_pos hc2] at hfold
                simp only at hfold
                rw [hfold] at hp
                injection hp with hp
                obtain ⟨rfl, rfl⟩ := Prod.mk.inj hp
                simp (config := {contextual := true, maxDischargeDepth := 12}) only [tb, q_Merge, q_Dead, e23, e24, e25, e4, e5, he, hlt, hw2, a1, i1, lM, lA, lkA, hx0, mS, lkM, hg2, h15, hs1, lMA, ↓bD0, ↓bD1, ↓bD2, ↓bD3, ↓bD4, ↓bD5, ↓bD6, bU0, bU1, bU2, bU3, bU4, bU5, bU6, bU7, bU8, bU9, bU10, bU11, bU12, bU13, forall_const, List.all_cons, List.all_nil, Option.map_some, List.map_cons, List.map_nil, ne_eq, implies_true, isNx, cs_dec, cs_not, cs_and, cs_or, cs_valid, eq_self, ↓wp_cond, ↓wp_loop, ↓reduceIte, reduceCtorEq, Nat.reduceEqDiff, Nat.reduceLT, Nat.reduceAdd, Nat.reduceMul, Int.ofNat_lt, Int.ofNat_le, exists_const, ae_app, ap_slc, Option.map_none, mkR_none, mkR_some, ar_look, ae_mset, ae_rng, ae_mkmap0, ar_ent, lookV_push, lookV_lowed, msetV_push, msetV_lowed, lt_put, same_put, sto_over, sto_lowed, cs_dead, Option.map_some]
                exact ⟨by simp (config := {maxDischargeDepth := 12}) only [kt_push, kt_lowed, hKA], _, rfl, .nil _ _ _⟩
              · have hg2 : mergeV old x = .tup [.agg (Nd.av (old.merge x)), .int .i64 0] := by simp [mergeV, vo, vx, hc2]
                rw [if_neg hc2] at hfold
                simp only at hfold
                have mM2 := mset_map gMA (old.merge x)
                obtain ⟨tB, htB⟩ : ∃ tB, tB = tA.put mM (mapN (updN M (old.merge x))) := ⟨_, rfl⟩
                rw [← htB] at mM2
                have gMB : tB.get mM = some (mapN (updN M (old.merge x))) := by rw [htB]; exact St.get_put_same gMA
                have gAB : tB.get mA = some (mapN (updN A x)) := by rw [htB, St.get_put_ne _ _ lMA (Ne.symm hne)]; exact gAA
                have hKB : Keep s tB := by rw [htB]; exact hKA.put _ hmM' lMA
                have lMB := lt_of_get gMB
                have lAB := lt_of_get gAB
                have hs2 : sameN t.next tB := by rw [htB]; exact hs1
                simp (config := {contextual := true, maxDischargeDepth := 12}) only [tb, q_Merge, q_Dead, e23, e24, e25, e4, e5, he, hlt, hw2, a1, i1, lM, lA, lkA, hx0, mS, hg2, lkM, mM2, hs1, hs2, lMA, lMB, lAB, ↓bD0, ↓bD1, ↓bD2, ↓bD3, ↓bD4, ↓bD5, ↓bD6, bU0, bU1, bU2, bU3, bU4, bU5, bU6, bU7, bU8, bU9, bU10, bU11, bU12, bU13, forall_const, List.all_cons, List.all_nil, Option.map_some, List.map_cons, List.map_nil, ne_eq, implies_true, isNx, cs_dec, cs_not, cs_and, cs_or, cs_valid, eq_self, ↓wp_cond, ↓wp_loop, ↓reduceIte, reduceCtorEq, Nat.reduceEqDiff, Nat.reduceLT, Nat.reduceAdd, Nat.reduceMul, Int.ofNat_lt, Int.ofNat_le, exists_const, ae_app, ap_slc, Option.map_none, mkR_none, mkR_some, ar_look, ae_mset, ae_rng, ae_mkmap0, ar_ent, lookV_push, lookV_lowed, msetV_push, msetV_lowed, lt_put, same_put, sto_over, sto_lowed, cs_dead, Option.map_some]
                refine ⟨n - 1, by omega, ?_⟩
                rw [hI]
                refine ⟨by simp (config := {maxDischargeDepth := 12}) only [kt_push, kt_lowed, hKB], i + 1, updN M (old.merge x), (updN A x), by omega, by simp only [E_pne, E_psame, elen_put, Nat.reduceEqDiff, ne_eq, not_false_eq_true, Nat.reduceLT, he], by simp only [E_pne, E_psame, elen_put, Nat.reduceEqDiff, ne_eq, not_false_eq_true, Nat.reduceLT, e23], by simp only [E_pne, E_psame, elen_put, Nat.reduceEqDiff, ne_eq, not_false_eq_true, Nat.reduceLT, e24], by simp only [E_pne, E_psame, elen_put, Nat.reduceEqDiff, ne_eq, not_false_eq_true, Nat.reduceLT, he], by simp only [E_pne, E_psame, elen_put, Nat.reduceEqDiff, ne_eq, not_false_eq_true, Nat.reduceLT, e4], by simp only [E_pne, E_psame, elen_put, Nat.reduceEqDiff, ne_eq, not_false_eq_true, Nat.reduceLT, e5], ?_, ?_, hfold, fun y hy => ?_, hvA2, by have := updN_len M (old.merge x); omega, updN_nodup hnd⟩
                · simp (config := {maxDischargeDepth := 12}) only [gt_push, lt_push, lt_lowed, lowed_get, lMB, gMB]
                · simp (config := {maxDischargeDepth := 12}) only [gt_push, lt_push, lt_lowed, lowed_get, lAB, gAB]
                · rcases updN_mem hy with rfl | hy
                  · exact (merge_valid vo vx)
                  · exact hvM y hy
        | some p =>
          obtain ⟨j0, x0⟩ := p
          obtain ⟨ho3, ho4⟩ := lookN_some ha2
          have v0 := hvA x0 (List.mem_of_getElem? ho3)
          have lkA := look_hit gA ha2 (.agg [.int .i64 0, .int .i64 0, .int .i64 0, .int .i64 0, .int .i64 0, .int .i32 0])
          rw [ha2] at hfold
          simp only at hfold
          by_cases hc1 : x0.clash x = true
          · have hg1 : mergeV x0 x = .tup [.agg (Nd.av nd0), .int .i64 15] := by simp [mergeV, v0, vx, hc1]
            rw [if_pos hc1] at hfold
            simp only at hfold
            rw [hfold] at hp
            injection hp with hp
            obtain ⟨rfl, rfl⟩ := Prod.mk.inj hp
            simp (config := {contextual := true, maxDischargeDepth := 12}) only [tb, q_Merge, q_Dead, e23, e24, e25, e4, e5, he, hlt, hw2, a1, i1, lM, lA, lkA, hg1, h15, ↓bD0, ↓bD1, ↓bD2, ↓bD3, ↓bD4, ↓bD5, ↓bD6, bU0, bU1, bU2, bU3, bU4, bU5, bU6, bU7, bU8, bU9, bU10, bU11, bU12, bU13, forall_const, List.all_cons, List.all_nil, Option.map_some, List.map_cons, List.map_nil, ne_eq, implies_true, isNx, cs_dec, cs_not, cs_and, cs_or, cs_valid, eq_self, ↓wp_cond, ↓wp_loop, ↓reduceIte, reduceCtorEq, Nat.reduceEqDiff, Nat.reduceLT, Nat.reduceAdd, Nat.reduceMul, Int.ofNat_lt, Int.ofNat_le, exists_const, ae_app, ap_slc, Option.map_none, mkR_none, mkR_some, ar_look, ae_mset, ae_rng, ae_mkmap0, ar_ent, lookV_push, lookV_lowed, msetV_push, msetV_lowed, lt_put, same_put, sto_over, sto_lowed, cs_dead, Option.map_some]
            exact ⟨by simp (config := {maxDischargeDepth := 12}) only [kt_push, kt_lowed, hK], _, rfl, .nil _ _ _⟩
          · have hg1 : mergeV x0 x = .tup [.agg (Nd.av (x0.merge x)), .int .i64 0] := by simp [mergeV, v0, vx, hc1]
            rw [if_neg hc1] at hfold
            by_cases hd : x.x = 0
            · have tAe : ∃ tA, tA = t := ⟨_, rfl⟩
              obtain ⟨tA, htA⟩ := tAe
              have hx0 : (x.x = 0) = True := eq_true hd
              have gMA : tA.get mM = some (mapN M) := by rw [htA]; exact gM
              have gAA : tA.get mA = some (mapN A) := by rw [htA]; exact gA
              have hKA : Keep s tA := by rw [htA]; exact hK
              have hs1 : sameN t.next tA := by rw [htA]; rfl
              have hvA2 := hvA
              rw [if_pos hd] at hfold
              have lMA := lt_of_get gMA
              cases hm : lookN M x.d with
              | none =>
                have lkM := look_miss gMA hm (.agg [.int .i64 0, .int .i64 0, .int .i64 0, .int .i64 0, .int .i64 0, .int .i32 0])
                have mM2 := mset_map gMA x
                rw [hm] at hfold
                simp only at hfold
                obtain ⟨tB, htB⟩ : ∃ tB, tB = tA.put mM (mapN (updN M x)) := ⟨_, rfl⟩
                rw [← htB] at mM2
                have gMB : tB.get mM = some (mapN (updN M x)) := by rw [htB]; exact St.get_put_same gMA
                have gAB : tB.get mA = some (mapN A) := by rw [htB, St.get_put_ne _ _ lMA (Ne.symm hne)]; exact gAA
                have hKB : Keep s tB := by rw [htB]; exact hKA.put _ hmM' lMA
                have lMB := lt_of_get gMB
                have lAB := lt_of_get gAB
                have hs2 : sameN t.next tB := by rw [htB]; exact hs1
                subst htA
                simp (config := {contextual := true, maxDischargeDepth := 12}) only [tb, q_Merge, q_Dead, e23, e24, e25, e4, e5, he, hlt, hw2, a1, i1, lM, lA, lkA, hg1, hx0, lkM, mM2, hs1, hs2, lMA, lMB, lAB, ↓bD0, ↓bD1, ↓bD2, ↓bD3, ↓bD4, ↓bD5, ↓bD6, bU0, bU1, bU2, bU3, bU4, bU5, bU6, bU7, bU8, bU9, bU10, bU11, bU12, bU13, forall_const, List.all_cons, List.all_nil, Option.map_some, List.map_cons, List.map_nil, ne_eq, implies_true, isNx, cs_dec, cs_not, cs_and, cs_or, cs_valid, eq_self, ↓wp_cond, ↓wp_loop, ↓reduceIte, reduceCtorEq, Nat.reduceEqDiff, Nat.reduceLT, Nat.reduceAdd, Nat.reduceMul, Int.ofNat_lt, Int.ofNat_le, exists_const, ae_app, ap_slc, Option.map_none, mkR_none, mkR_some, ar_look, ae_mset, ae_rng, ae_mkmap0, ar_ent, lookV_push, lookV_lowed, msetV_push, msetV_lowed, lt_put, same_put, sto_over, sto_lowed, cs_dead, Option.map_some]
                refine ⟨n - 1, by omega, ?_⟩
                rw [hI]
                refine ⟨by simp (config := {maxDischargeDepth := 12}) only [kt_push, kt_lowed, hKB], i + 1, updN M x, A, by omega, by simp only [E_pne, E_psame, elen_put, Nat.reduceEqDiff, ne_eq, not_false_eq_true, Nat.reduceLT, he], by simp only [E_pne, E_psame, elen_put, Nat.reduceEqDiff, ne_eq, not_false_eq_true, Nat.reduceLT, e23], by simp only [E_pne, E_psame, elen_put, Nat.reduceEqDiff, ne_eq, not_false_eq_true, Nat.reduceLT, e24], by simp only [E_pne, E_psame, elen_put, Nat.reduceEqDiff, ne_eq, not_false_eq_true, Nat.reduceLT, he], by simp only [E_pne, E_psame, elen_put, Nat.reduceEqDiff, ne_eq, not_false_eq_true, Nat.reduceLT, e4], by simp only [E_pne, E_psame, elen_put, Nat.reduceEqDiff, ne_eq, not_false_eq_true, Nat.reduceLT, e5], ?_, ?_, hfold, fun y hy => ?_, hvA2, by have := updN_len M x; omega, updN_nodup hnd⟩
                · simp (config := {maxDischargeDepth := 12}) only [gt_push, lt_push, lt_lowed, lowed_get, lMB, gMB]
                · simp (config := {maxDischargeDepth := 12}) only [gt_push, lt_push, lt_lowed, lowed_get, lAB, gAB]
                · rcases updN_mem hy with rfl | hy
                  · exact vx
                  · exact hvM y hy
              | some p =>
                obtain ⟨jj, old⟩ := p
                obtain ⟨ho1, ho2⟩ := lookN_some hm
                have vo := hvM old (List.mem_of_getElem? ho1)
                have lkM := look_hit gMA hm (.agg [.int .i64 0, .int .i64 0, .int .i64 0, .int .i64 0, .int .i64 0, .int .i32 0])
                rw [hm] at hfold
                simp only at hfold
                by_cases hc2 : old.clash x = true
                · have hg2 : mergeV old x = .tup [.agg (Nd.av nd0), .int .i64 15] := by simp [mergeV, vo, vx, hc2]
                  rw [if_pos hc2] at hfold
                  simp only at hfold
                  rw [hfold] at hp
                  injection hp with hp
                  obtain ⟨rfl, rfl⟩ := Prod.mk.inj hp
                  subst htA
                  simp (config := {contextual := true, maxDischargeDepth := 12}) only [tb, q_Merge, q_Dead, e23, e24, e25, e4, e5, he, hlt, hw2, a1, i1, lM, lA, lkA, hg1, hx0, lkM, hg2, h15, hs1, lMA, ↓bD0, ↓bD1, ↓bD2, ↓bD3, ↓bD4, ↓bD5, ↓bD6, bU0, bU1, bU2, bU3, bU4, bU5, bU6, bU7, bU8, bU9, bU10, bU11, bU12, bU13, forall_const, List.all_cons, List.all_nil, Option.map_some, List.map_cons, List.map_nil, ne_eq, implies_true, isNx, cs_dec, cs_not, cs_and, cs_or, cs_valid, eq_self, ↓wp_cond, ↓wp_loop, ↓reduceIte, reduceCtorEq, Nat.reduceEqDiff, Nat.reduceLT, Nat.reduceAdd, Nat.reduceMul, Int.ofNat_lt, Int.ofNat_le, exists_const, ae_app, ap_slc, Option.map_none, mkR_none, mkR_some, ar_look, ae_mset, ae_rng, ae_mkmap0, ar_ent, lookV_push, lookV_lowed, msetV_push, msetV_lowed, lt_put, same_put, sto_over, sto_lowed, cs_dead, Option.map_some]
                  exact ⟨by simp (config := {maxDischargeDepth := 12}) only [kt_push, kt_lowed, hKA], _, rfl, .nil _ _ _⟩
                · have hg2 : mergeV old x = .tup [.agg (Nd.av (old.merge x)), .int .i64 0] := by simp [mergeV, vo, vx, hc2]
                  rw [if_neg hc2] at hfold
                  simp only at hfold
                  have mM2 := mset_map gMA (old.merge x)
                  obtain ⟨tB, htB⟩ : ∃ tB, tB = tA.put mM (mapN (updN M (old.merge x))) := ⟨_, rfl⟩
                  rw [← htB] at mM2
                  have gMB : tB.get mM = some (mapN (updN M (old.merge x))) := by rw [htB]; exact St.get_put_same gMA
                  have gAB : tB.get mA = some (mapN A) := by rw [htB, St.get_put_ne _ _ lMA (Ne.symm hne)]; exact gAA
                  have hKB : Keep s tB := by rw [htB]; exact hKA.put _ hmM' lMA
                  have lMB := lt_of_get gMB
                  have lAB := lt_of_get gAB
                  have hs2 : sameN t.next tB := by rw [htB]; exact hs1
                  subst htA
                  simp (config := {contextual := true, maxDischargeDepth := 12}) only [tb, q_Merge, q_Dead, e23, e24, e25, e4, e5, he, hlt, hw2, a1, i1, lM, lA, lkA, hg1, hx0, hg2, lkM, mM2, hs1, hs2, lMA, lMB, lAB, ↓bD0, ↓bD1, ↓bD2, ↓bD3, ↓bD4, ↓bD5, ↓bD6, bU0, bU1, bU2, bU3, bU4, bU5, bU6, bU7, bU8, bU9, bU10, bU11, bU12, bU13, forall_const, List.all_cons, List.all_nil, Option.map_some, List.map_cons, List.map_nil, ne_eq, implies_true, isNx, cs_dec, cs_not, cs_and, cs_or, cs_valid, eq_self, ↓wp_cond, ↓wp_loop, ↓reduceIte, reduceCtorEq, Nat.reduceEqDiff, Nat.reduceLT, Nat.reduceAdd, Nat.reduceMul, Int.ofNat_lt, Int.ofNat_le, exists_const, ae_app, ap_slc, Option.map_none, mkR_none, mkR_some, ar_look, ae_mset, ae_rng, ae_mkmap0, ar_ent, lookV_push, lookV_lowed, msetV_push, msetV_lowed, lt_put, same_put, sto_over, sto_lowed, cs_dead, Option.map_some]
                  refine ⟨n - 1, by omega, ?_⟩
                  rw [hI]
                  refine ⟨by simp (config := {maxDischargeDepth := 12}) only [kt_push, kt_lowed, hKB], i + 1, updN M (old.merge x), A, by omega, by simp only [E_pne, E_psame, elen_put, Nat.reduceEqDiff, ne_eq, not_false_eq_true, Nat.reduceLT, he], by simp only [E_pne, E_psame, elen_put, Nat.reduceEqDiff, ne_eq, not_false_eq_true, Nat.reduceLT, e23], by simp only [E_pne, E_psame, elen_put, Nat.reduceEqDiff, ne_eq, not_false_eq_true, Nat.reduceLT, e24], by simp only [E_pne, E_psame, elen_put, Nat.reduceEqDiff, ne_eq, not_false_eq_true, Nat.reduceLT, he], by simp only [E_pne, E_psame, elen_put, Nat.reduceEqDiff, ne_eq, not_false_eq_true, Nat.reduceLT, e4], by simp only [E_pne, E_psame, elen_put, Nat.reduceEqDiff, ne_eq, not_false_eq_true, Nat.reduceLT, e5], ?_, ?_, hfold, fun y hy => ?_, hvA2, by have := updN_len M (old.merge x); omega, updN_nodup hnd⟩
                  · simp (config := {maxDischargeDepth := 12}) only [gt_push, lt_push, lt_lowed, lowed_get, lMB, gMB]
                  · simp (config := {maxDischargeDepth := 12}) only [gt_push, lt_push, lt_lowed, lowed_get, lAB, gAB]
                  · rcases updN_mem hy with rfl | hy
                    · exact (merge_valid vo vx)
                    · exact hvM y hy
            · have tAe : ∃ tA, tA = t.put mA (mapN (updN A x)) := ⟨_, rfl⟩
              obtain ⟨tA, htA⟩ := tAe
              have hx0 : (x.x = 0) = False := eq_false hd
              have gMA : tA.get mM = some (mapN M) := by rw [htA, St.get_put_ne _ _ lA hne]; exact gM
              have gAA : tA.get mA = some (mapN (updN A x)) := by rw [htA]; exact St.get_put_same gA
              have hKA : Keep s tA := by rw [htA]; exact hK.put _ hmA' lA
              have hs1 : sameN t.next tA := by rw [htA]; rfl
              have mS := mset_map gA x
              rw [← htA] at mS
              have hvA2 : ∀ y ∈ updN A x, y.valid = true := fun y hy => by
                rcases updN_mem hy with rfl | hy
                · exact vx
                · exact hvA y hy
              rw [if_neg hd] at hfold
              have lMA := lt_of_get gMA
              cases hm : lookN M x.d with
              | none =>
                have lkM := look_miss gMA hm (.agg [.int .i64 0, .int .i64 0, .int .i64 0, .int .i64 0, .int .i64 0, .int .i32 0])
                have mM2 := mset_map gMA x
                rw [hm] at hfold
                simp only at hfold
                obtain ⟨tB, htB⟩ : ∃ tB, tB = tA.put mM (mapN (updN M x)) := ⟨_, rfl⟩
                rw [← htB] at mM2
                have gMB : tB.get mM = some (mapN (updN M x)) := by rw [htB]; exact St.get_put_same gMA
                have gAB : tB.get mA = some (mapN (updN A x)) := by rw [htB, St.get_put_ne _ _ lMA (Ne.symm hne)]; exact gAA
                have hKB : Keep s tB := by rw [htB]; exact hKA.put _ hmM' lMA
                have lMB := lt_of_get gMB
                have lAB := lt_of_get gAB
                have hs2 : sameN t.next tB := by rw [htB]; exact hs1
                simp (config := {contextual := true, maxDischargeDepth := 12}) only [tb, q_Merge, q_Dead, e23, e24, e25, e4, e5, he, hlt, hw2, a1, i1, lM, lA, lkA, hg1, hx0, mS, lkM, mM2, hs1, hs2, lMA, lMB, lAB, ↓bD0, ↓bD1, ↓bD2, ↓bD3, ↓bD4, ↓bD5, ↓bD6, bU0, bU1, bU2, bU3, bU4, bU5, bU6, bU7, bU8, bU9, bU10, bU11, bU12, bU13, forall_const, List.all_cons, List.all_nil, Option.map_some, List.map_cons, List.map_nil, ne_eq, implies_true, isNx, cs_dec, cs_not, cs_and, cs_or, cs_valid, eq_self, ↓wp_cond, ↓wp_loop, ↓reduceIte, reduceCtorEq, Nat.reduceEqDiff, Nat.reduceLT, Nat.reduceAdd, Nat.reduceMul, Int.ofNat_lt, Int.ofNat_le, exists_const, ae_app, ap_slc, Option.map_none, mkR_none, mkR_some, ar_look, ae_mset, ae_rng, ae_mkmap0, ar_ent, lookV_push, lookV_lowed, msetV_push, msetV_lowed, lt_put, same_put, sto_over, sto_lowed, cs_dead, Option.map_some]
                refine ⟨n - 1, by omega, ?_⟩
                rw [hI]
                refine ⟨by simp (config := {maxDischargeDepth := 12}) only [kt_push, kt_lowed, hKB], i + 1, updN M x, (updN A x), by omega, by simp only [E_pne, E_psame, elen_put, Nat.reduceEqDiff, ne_eq, not_false_eq_true, Nat.reduceLT, he], by simp only [E_pne, E_psame, elen_put, Nat.reduceEqDiff, ne_eq, not_false_eq_true, Nat.reduceLT, e23], by simp only [E_pne, E_psame, elen_put, Nat.reduceEqDiff, ne_eq, not_false_eq_true, Nat.reduceLT, e24], by simp only [E_pne, E_psame, elen_put, Nat.reduceEqDiff, ne_eq, not_false_eq_true, Nat.reduceLT, he], by simp only [E_pne, E_psame, elen_put, Nat.reduceEqDiff, ne_eq, not_false_eq_true, Nat.reduceLT, e4], by simp only [E_pne, E_psame, elen_put, Nat.reduceEqDiff, ne_eq, not_false_eq_true, Nat.reduceLT, e5], ?_, ?_, hfold, fun y hy => ?_, hvA2, by have := updN_len M x; omega, updN_nodup hnd⟩
                · simp (config := {maxDischargeDepth := 12}) only [gt_push, lt_push, lt_lowed, lowed_get, lMB, gMB]
                · simp (config := {maxDischargeDepth := 12}) only [gt_push, lt_push, lt_lowed, lowed_get, lAB, gAB]
                · rcases updN_mem hy with rfl | hy
                  · exact vx
                  · exact hvM y hy
              | some p =>
                obtain ⟨jj, old⟩ := p
                obtain ⟨ho1, ho2⟩ := lookN_some hm
                have vo := hvM old (List.mem_of_getElem? ho1)
                have lkM := look_hit gMA hm (.agg [.int .i64 0, .int .i64 0, .int .i64 0, .int .i64 0, .int .i64 0, .int .i32 0])
                rw [hm] at hfold
                simp only at hfold
                by_cases hc2 : old.clash x = true
                · have hg2 : mergeV old x = .tup [.agg (Nd.av nd0), .int .i64 15] := by simp [mergeV, vo, vx, hc2]
                  rw [if_pos hc2] at hfold
                  simp only at hfold
                  rw [hfold] at hp
                  injection hp with hp
                  obtain ⟨rfl, rfl⟩ := Prod.mk.inj hp
                  simp (config := {contextual := true, maxDischargeDepth := 12}) only [tb, q_Merge, q_Dead, e23, e24, e25, e4, e5, he, hlt, hw2, a1, i1, lM, lA, lkA, hg1, hx0, mS, lkM, hg2, h15, hs1, lMA, ↓bD0, ↓bD1, ↓bD2, ↓bD3, ↓bD4, ↓bD5, ↓bD6, bU0, bU1, bU2, bU3, bU4, bU5, bU6, bU7, bU8, bU9, bU10, bU11, bU12, bU13, forall_const, List.all_cons, List.all_nil, Option.map_some, List.map_cons, List.map_nil, ne_eq, implies_true, isNx, cs_dec, cs_not, cs_and, cs_or, cs_valid, eq_self, ↓wp_cond, ↓wp_loop, ↓reduceIte, reduceCtorEq, Nat.reduceEqDiff, Nat.reduceLT, Nat.reduceAdd, Nat.reduceMul, Int.ofNat_lt, Int.ofNat_le, exists_const, ae_app, ap_slc, Option.map_none, mkR_none, mkR_some, ar_look, ae_mset, ae_rng, ae_mkmap0, ar_ent, lookV_push, lookV_lowed, msetV_push, msetV_lowed, lt_put, same_put, sto_over, sto_lowed, cs_dead, Option.map_some]
                  exact ⟨by simp (config := {maxDischargeDepth := 12}) only [kt_push, kt_lowed, hKA], _, rfl, .nil _ _ _⟩
                · have hg2 : mergeV old x = .tup [.agg (Nd.av (old.merge x)), .int .i64 0] := by simp [mergeV, vo, vx, hc2]
                  rw [if_neg hc2] at hfold
                  simp only at hfold
                  have mM2 := mset_map gMA (old.merge x)
                  obtain ⟨tB, htB⟩ : ∃ tB, tB = tA.put mM (mapN (updN M (old.merge x))) := ⟨_, rfl⟩
                  rw [← htB] at mM2
                  have gMB : tB.get mM = some (mapN (updN M (old.merge x))) := by rw [htB]; exact St.get_put_same gMA
                  have gAB : tB.get mA = some (mapN (updN A x)) := by rw [htB, St.get_put_ne _ _ lMA (Ne.symm hne)]; exact gAA
                  have hKB : Keep s tB := by rw [htB]; exact hKA.put _ hmM' lMA
                  have lMB := lt_of_get gMB
                  have lAB := lt_of_get gAB
                  have hs2 : sameN t.next tB := by rw [htB]; exact hs1
                  simp (config := {contextual := true, maxDischargeDepth := 12}) only [tb, q_Merge, q_Dead, e23, e24, e25, e4, e5, he, hlt, hw2, a1, i1, lM, lA, lkA, hg1, hx0, mS, hg2, lkM, mM2, hs1, hs2, lMA, lMB, lAB, ↓bD0, ↓bD1, ↓bD2, ↓bD3, ↓bD4, ↓bD5, ↓bD6, bU0, bU1, bU2, bU3, bU4, bU5, bU6, bU7, bU8, bU9, bU10, bU11, bU12, bU13, forall_const, List.all_cons, List.all_nil, Option.map_some, List.map_cons, List.map_nil, ne_eq, implies_true, isNx, cs_dec, cs_not, cs_and, cs_or, cs_valid, eq_self, ↓wp_cond, ↓wp_loop, ↓reduceIte, reduceCtorEq, Nat.reduceEqDiff, Nat.reduceLT, Nat.reduceAdd, Nat.reduceMul, Int.ofNat_lt, Int.ofNat_le, exists_const, ae_app, ap_slc, Option.map_none, mkR_none, mkR_some, ar_look, ae_mset, ae_rng, ae_mkmap0, ar_ent, lookV_push, lookV_lowed, msetV_push, msetV_lowed, lt_put, same_put, sto_over, sto_lowed, cs_dead, Option.map_some]
                  refine ⟨n - 1, by omega, ?_⟩
                  rw [hI]
                  refine ⟨by simp (config := {maxDischargeDepth := 12}) only [kt_push, kt_lowed, hKB], i + 1, updN M (old.merge x), (updN A x), by omega, by simp only [E_pne, E_psame, elen_put, Nat.reduceEqDiff, ne_eq, not_false_eq_true, Nat.reduceLT, he], by simp only [E_pne, E_psame, elen_put, Nat.reduceEqDiff, ne_eq, not_false_eq_true, Nat.reduceLT, e23], by simp only [E_pne, E_psame, elen_put, Nat.reduceEqDiff, ne_eq, not_false_eq_true, Nat.reduceLT, e24], by simp only [E_pne, E_psame, elen_put, Nat.reduceEqDiff, ne_eq, not_false_eq_true, Nat.reduceLT, he], by simp only [E_pne, E_psame, elen_put, Nat.reduceEqDiff, ne_eq, not_false_eq_true, Nat.reduceLT, e4], by simp only [E_pne, E_psame, elen_put, Nat.reduceEqDiff, ne_eq, not_false_eq_true, Nat.reduceLT, e5], ?_, ?_, hfold, fun y hy => ?_, hvA2, by have := updN_len M (old.merge x); omega, updN_nodup hnd⟩
                  · simp (config := {maxDischargeDepth := 12}) only [gt_push, lt_push, lt_lowed, lowed_get, lMB, gMB]
                  · simp (config := {maxDischargeDepth := 12}) only [gt_push, lt_push, lt_lowed, lowed_get, lAB, gAB]
                  · rcases updN_mem hy with rfl | hy
                    · exact (merge_valid vo vx)
                    · exact hvM y hy
      · obtain rfl : i = l.length := by omega
        rw [List.drop_length, ofFold] at hfold
        rw [hfold] at hp
        simp only at hp
        injection hp with hp
        obtain ⟨rfl, rfl⟩ := Prod.mk.inj hp
        have hrg := rng_map gM
        simp (config := {contextual := true, maxDischargeDepth := 12}) only [tb, e23, e24, e25, e4, e5, he, hlt, lM, lA, hrg, ↓st_nxt, ↓bD0, ↓bD1, ↓bD2, ↓bD3, ↓bD4, ↓bD5, ↓bD6, bU0, bU1, bU2, bU3, bU4, bU5, bU6, bU7, bU8, bU9, bU10, bU11, bU12, bU13, forall_const, List.all_cons, List.all_nil, Option.map_some, List.map_cons, List.map_nil, ne_eq, implies_true, isNx, cs_dec, cs_not, cs_and, cs_or, cs_valid, eq_self, ↓wp_cond, ↓wp_loop, ↓reduceIte, reduceCtorEq, Nat.reduceEqDiff, Nat.reduceLT, Nat.reduceAdd, Nat.reduceMul, Int.ofNat_lt, Int.ofNat_le, exists_const, ae_app, ap_slc, Option.map_none, mkR_none, mkR_some, ar_look, ae_mset, ae_rng, ae_mkmap0, ar_ent, lookV_push, lookV_lowed, msetV_push, msetV_lowed, lt_put, same_put, sto_over, sto_lowed, cs_dead, Option.map_some]
        obtain ⟨pI, hpI⟩ : ∃ pI, pI = t.next := ⟨_, rfl⟩
        obtain ⟨I2, hI2⟩ : ∃ I : Nat → Env → St → Prop, ∀ n e t, I n e t = (Keep s t ∧ ∃ (seen : List Nat) (acc : List Nd), n + seen.length = M.length ∧ elen e = 89 ∧ E e 77 = .ptr pI 0 ∧ t.get mM = some (mapN M) ∧ t.get pI = some (.iter (some mM) M.length seen M.length) ∧ Own ndC s t (E e 16) acc ∧ seen.Nodup ∧ (∀ i ∈ seen, i < M.length) ∧ acc.map some = seen.map fun i => M[i]?) := ⟨fun n e t => (Keep s t ∧ ∃ (seen : List Nat) (acc : List Nd), n + seen.length = M.length ∧ elen e = 89 ∧ E e 77 = .ptr pI 0 ∧ t.get mM = some (mapN M) ∧ t.get pI = some (.iter (some mM) M.length seen M.length) ∧ Own ndC s t (E e 16) acc ∧ seen.Nodup ∧ (∀ i ∈ seen, i < M.length) ∧ acc.map some = seen.map fun i => M[i]?), fun _ _ _ => rfl⟩
        refine lwp_inv I2 (n := M.length) ?_ ?_
        · rw [hI2]
          refine ⟨hK.push _, [], [], by simp, by simp only [E_pne, E_psame, elen_put, Nat.reduceEqDiff, ne_eq, not_false_eq_true, Nat.reduceLT, he], by rw [hpI]; simp only [E_pne, E_psame, elen_put, Nat.reduceEqDiff, ne_eq, not_false_eq_true, Nat.reduceLT, he], ?_, ?_, ?_, by simp, by simp, rfl⟩
          · rw [gt_push lM]; exact gM
          · rw [hpI]; exact St.get_push_new _ _
          · simp only [E_pne, E_psame, elen_put, Nat.reduceEqDiff, ne_eq, not_false_eq_true, Nat.reduceLT, he]; exact .nil _ _ _
        clear e23 e24 e25 e4 e5 he gM gA lM lA
        intro n2 e2 t2 hi2
        rw [hI2] at hi2
        obtain ⟨hK2, seen, acc, hn2, he2, e77, gM2, gI2, hO2, hsd, hsl, hac⟩ := hi2
        have hpI' : s.next ≤ pI := by rw [hpI]; exact hK.next
        have lI2 := lt_of_get gI2
        have lM2 := lt_of_get gM2
        have hMp : mM ≠ pI := by
          intro e
          rw [e, gI2] at gM2
          cases gM2
        simp only [↓wp_seq, ↓wp_reg, ↓st_nxt, aev_t, e77]
        refine next_map gM2 gI2 (fun hall => ?_) (fun i x hx hns => ?_)
        · have hpm := seen_perm hsd hsl hac hall
          have hal : acc.length ≤ lim := by rw [hpm.length_eq]; omega
          have hnd2 : (acc.map Nd.d).Nodup := (hpm.map Nd.d).nodup_iff.2 hnd
          obtain ⟨t3, hsrt, hK3, hO3⟩ := sort_own hK2 hO2 hnd2 hal 57
          have hsm : sortN acc = sortN M := sorted_unique _ _ ((sortN_perm acc).trans (hpm.trans (sortN_perm M).symm)) (sortN_sorted acc hnd2) (sortN_sorted M hnd)
          rw [hsm] at hO3
          simp (config := {contextual := true, maxDischargeDepth := 12}) only [tb, he2, e77, hsrt, ↓bD0, ↓bD1, ↓bD2, ↓bD3, ↓bD4, ↓bD5, ↓bD6, bU0, bU1, bU2, bU3, bU4, bU5, bU6, bU7, bU8, bU9, bU10, bU11, bU12, bU13, forall_const, List.all_cons, List.all_nil, Option.map_some, List.map_cons, List.map_nil, ne_eq, implies_true, isNx, cs_dec, cs_not, cs_and, cs_or, cs_valid, eq_self, ↓wp_cond, ↓wp_loop, ↓reduceIte, reduceCtorEq, Nat.reduceEqDiff, Nat.reduceLT, Nat.reduceAdd, Nat.reduceMul, Int.ofNat_lt, Int.ofNat_le, exists_const, ae_app, ap_slc, Option.map_none, mkR_none, mkR_some, ar_look, ae_mset, ae_rng, ae_mkmap0, ar_ent, lookV_push, lookV_lowed, msetV_push, msetV_lowed, lt_put, same_put, sto_over, sto_lowed, cs_dead, Option.map_some]
          exact ⟨hK3, _, rfl, hO3⟩
        · obtain ⟨t4, ht4⟩ : ∃ t4, t4 = t2.put pI (.iter (some mM) M.length (seen ++ [i]) M.length) := ⟨_, rfl⟩
          rw [← ht4]
          have gM4 : t4.get mM = some (mapN M) := by rw [ht4, St.get_put_ne _ _ lI2 hMp]; exact gM2
          have gI4 : t4.get pI = some (.iter (some mM) M.length (seen ++ [i]) M.length) := by rw [ht4]; exact St.get_put_same gI2
          have hK4 : Keep s t4 := by rw [ht4]; exact hK2.put _ hpI' lI2
          have hO4 : Own ndC s t4 (E e2 16) acc := by
            rcases hO2 with q | ⟨j, q1, q2, q3, q4⟩
            · exact .inl q
            · refine .inr ⟨j, q1, q2, q3, ?_⟩
              have : j ≠ pI := by
                intro e
                rw [e, gI2] at q4
                cases q4
              rw [ht4, St.get_put_ne _ _ lI2 this]
              exact q4
          have lI4 := lt_of_get gI4
          have lM4 := lt_of_get gM4
          have hen := ent_map gM4 gI4 hx
          obtain ⟨u, t5, hap, hK5, hO5⟩ := appV_one (C := ndC) (hK4.lowed.push (.row (Nd.av x) true)) (hO4.lowed.push _) x 48 (by
            have : acc.length = seen.length := by have := congrArg List.length hac; simpa using this
            unfold lim at *
            simp [roomBytes]
            omega)
          have hap : appV ((t4.lowed.push (.row (Nd.av x) true)).push (.row (Nd.av x) true)) 6 48 (E e2 16) (.sl (t4.lowed.push (.row (Nd.av x) true)).next 0 1 (some 1) 6) = some (u, t5) := hap
          simp (config := {contextual := true, maxDischargeDepth := 12}) only [tb, he2, e77, hen, hap, ↓bD0, ↓bD1, ↓bD2, ↓bD3, ↓bD4, ↓bD5, ↓bD6, bU0, bU1, bU2, bU3, bU4, bU5, bU6, bU7, bU8, bU9, bU10, bU11, bU12, bU13, forall_const, List.all_cons, List.all_nil, Option.map_some, List.map_cons, List.map_nil, ne_eq, implies_true, isNx, cs_dec, cs_not, cs_and, cs_or, cs_valid, eq_self, ↓wp_cond, ↓wp_loop, ↓reduceIte, reduceCtorEq, Nat.reduceEqDiff, Nat.reduceLT, Nat.reduceAdd, Nat.reduceMul, Int.ofNat_lt, Int.ofNat_le, exists_const, ae_app, ap_slc, Option.map_none, mkR_none, mkR_some, ar_look, ae_mset, ae_rng, ae_mkmap0, ar_ent, lookV_push, lookV_lowed, msetV_push, msetV_lowed, lt_put, same_put, sto_over, sto_lowed, cs_dead, Option.map_some]
          have hne1 : ∀ o n c z, E e2 16 ≠ .sl mM o n c z := by
            intro o n c z e
            rcases hO4 with ⟨q, _⟩ | ⟨j, q1, q2, q3, q4⟩
            · rw [q] at e; cases e
            · rw [q1] at e
              injection e with e
              rw [e, gM4] at q4
              cases q4
          have hne2 : ∀ o n c z, E e2 16 ≠ .sl pI o n c z := by
            intro o n c z e
            rcases hO4 with ⟨q, _⟩ | ⟨j, q1, q2, q3, q4⟩
            · rw [q] at e; cases e
            · rw [q1] at e
              injection e with e
              rw [e, gI4] at q4
              cases q4
          have hil := getlt hx
          refine ⟨n2 - 1, by
            have := room_left hsd hsl hil hns
            omega, ?_⟩
          rw [hI2]
          refine ⟨hK5, seen ++ [i], acc ++ [x], ?_, by simp only [E_pne, E_psame, elen_put, Nat.reduceEqDiff, ne_eq, not_false_eq_true, Nat.reduceLT, he2], by simp only [E_pne, E_psame, elen_put, Nat.reduceEqDiff, ne_eq, not_false_eq_true, Nat.reduceLT, e77], ?_, ?_, by simp only [E_pne, E_psame, elen_put, Nat.reduceEqDiff, ne_eq, not_false_eq_true, Nat.reduceLT, he2]; exact hO5, ?_, ?_, ?_⟩
          · have := room_left hsd hsl hil hns
            simp
            omega
          · exact appV_frame hap hne1 (get_push_some _ (get_push_some _ gM4))
          · exact appV_frame hap hne2 (get_push_some _ (get_push_some _ gI4))
          · rw [List.nodup_append]
            exact ⟨hsd, by simp, fun a ha b hb e => by simp at hb; subst hb; subst e; exact hns ha⟩
          · intro k hk
            rcases List.mem_append.1 hk with hk | hk
            · exact hsl k hk
            · simp at hk; omega
          · rw [List.map_append, List.map_append, hac]
            simp [hx]

end Go.AM
end
/-
  Clone, Copy, Stain; the statement JoinValid in the abstract machine. Own work of this project; in part printed by a program of it.
-/
section
set_option linter.unusedVariables false
set_option linter.unusedSimpArgs false
set_option maxRecDepth 100000
set_option maxHeartbeats 8000000
namespace Go.AM
open Go Go.Proofs

theorem con_emb {P : Program} {call : Nat → List AV → St → Option (AV × St)} (hS : Sound P call) (hm : P.follows .mixedOrders = true) {g : Nat} {fn : Func} {afn : AFn} (hf : P.funcs[g]? = some fn) (hcal : callable P g = true) (hc : cfn P fn = some afn)
    {c : Con} (h : ∀ args s r s', c args s = some (r, s') → (Grow s s' ∧ Keeps s s') ∧ args.length ≤ afn.ntmps ∧ ∀ env : Env, elen env = afn.ntmps → (∀ i v, args[i]? = some v → E env i = v) →
      awp call afn.body (fun x env t => (∀ i, x ≠ .exit i) ∧ ∃ f, aresults env t afn.results = some (r.ren f) ∧ Emb f s s' t) env s) : SoundAt P g c := by
  refine con_sound hS hm hf hcal hc fun args s r s' hh => ?_
  obtain ⟨hg, hl, k⟩ := h args s r s' hh
  exact ⟨hg, start_env hl fun env h1 h2 => k env h1 h2⟩
/-- A row of plain cells of its own. -/
theorem emb_row {s t : St} (h : Keep s t) {cells : List AV} (hp : cells.all AV.plain = true) {j : Nat} (h1 : s.next ≤ j) (hj : t.get j = some (.row cells true)) : ∃ f : Nat → Nat, (∀ id, id < s.next → f id = id) ∧ Emb f s (s.lowed.push (.row cells true)) t ∧ f s.next = j := by
  have hn := h.next
  have hlow := h.low
  have hlt := St.get_lt hj
  have e2 : ∀ id, (s.lowed.push (.row cells true)).get id = if id = s.next then some (.row cells true) else s.get id := fun id => by rw [St.get_push]; rfl
  refine ⟨fun id => if id < s.next then id else if id = s.next then j else t.next + id, fun id hid => by simp [hid], ⟨by simp [lowed_next], ?_, fun id hid => by simp [hid], fun id hid => ?_, fun i k h1 h2 e => ?_, fun id b hb => ?_, fun id h1 h2 => ?_⟩, by simp⟩
  · exact hlow
  · simp only [St.next_push, lowed_next] at hid
    rw [if_neg (by omega), if_neg (by omega)]
    omega
  · simp only [St.next_push, lowed_next] at h1 h2
    by_cases a1 : i < s.next
    · by_cases a2 : k < s.next
      · rw [if_pos a1, if_pos a2] at e; exact e
      · rw [if_pos a1, if_neg a2, if_pos (by omega)] at e; omega
    · by_cases a2 : k < s.next
      · rw [if_neg a1, if_pos a2, if_pos (by omega)] at e; omega
      · omega
  · rw [e2] at hb
    split at hb
    · rename_i hid
      injection hb with hb
      subst hb
      refine .inr (.inl ?_)
      rw [if_neg (by omega), if_pos hid, hj, AB.ren, plains_rens _ hp]
    · have hid := St.get_lt hb
      exact .inr (.inr ⟨hid, hb, h.blk hb⟩)
  · rw [e2, if_neg (by omega)]
/-- What Clone answers. -/
def cloneC : Con := fun xs s => match xs with
  | [.nils] => some (.nils, s.lowed)
  | [.sl id off n cap z] => match read ndC s (.sl id off n cap z) with
    | some l => if l.length ≤ lim then
        if l.isEmpty then some (.sl s.next 0 0 (some 0) 6, s.lowed.push (.row [] true))
        else some (.sl s.next 0 l.length none 6, s.lowed.push (.row (ndC.cells l) true))
      else none
    | none => none
  | _ => none
theorem push_row_get (s : St) (b : AB) : (s.lowed.push b).get s.next = some b := St.get_push_new s.lowed b
theorem s_clone : SoundAt Try.prog 48 cloneC :=
  con_emb (tb_sound (l := []) (by simp)) mixed Try.func48 k48 c48 fun args s r s' h => by
    unfold cloneC at h
    split at h
    · injection h with h
      obtain ⟨rfl, rfl⟩ := Prod.mk.inj h
      refine ⟨gk_lowed s, by simp [a48], fun env hlen ha => ?_⟩
      have h0 : E env 0 = _ := ha 0 _ rfl
      simp only [a48] at hlen
      unfold a48
      have hb : binOp .eql .ns .nils .nils = some (.bool true) := rfl
      simp (config := {contextual := true, maxDischargeDepth := 12}) only [tb, h0, hlen, hb, ↓bD0, ↓bD1, ↓bD2, ↓bD3, ↓bD4, ↓bD5, ↓bD6, bU0, bU1, bU2, bU3, bU4, bU5, bU6, bU7, bU8, bU9, bU10, bU11, bU12, bU13, forall_const, List.all_cons, List.all_nil, Option.map_some, List.map_cons, List.map_nil, ne_eq, implies_true, isNx, cs_dec, cs_not, cs_and, cs_or, cs_valid, eq_self, ↓wp_cond, ↓wp_loop, ↓reduceIte, reduceCtorEq, Nat.reduceEqDiff, Nat.reduceLT, Nat.reduceAdd, Nat.reduceMul, Int.ofNat_lt, Int.ofNat_le, exists_const, ae_app, ap_slc, Option.map_none, mkR_none, mkR_some, ar_look, ae_mset, ae_rng, ae_mkmap0, ar_ent, lookV_push, lookV_lowed, msetV_push, msetV_lowed, lt_put, same_put, sto_over, sto_lowed, cs_dead, Option.map_some]
      obtain ⟨f, h1, h2⟩ := emb_keep (Keep.refl s)
      exact ⟨f, by simp [AV.ren], h2⟩
    · rename_i id off n cap z
      split at h
      · rename_i l hr
        split at h
        · rename_i hl
          have hb : binOp .eql .ns (.sl id off n cap z) .nils = some (.bool false) := rfl
          have hbs : ∀ (env : Env), aalloc env (.bsl [] 0 6 []) = some (fun id => .sl id 0 0 (some 0) 6, .row [] true) := fun _ => nrfl rfl
          split at h
          · rename_i he
            have hl0 : l = [] := by simpa using he
            subst hl0
            injection h with h
            obtain ⟨rfl, rfl⟩ := Prod.mk.inj h
            refine ⟨gk_push (gk_lowed s) _, by simp [a48], fun env hlen ha => ?_⟩
            have h0 : E env 0 = _ := ha 0 _ rfl
            simp only [a48] at hlen
            unfold a48
            have hap : appV (s.push (.row [] true)) 6 48 (.sl s.next 0 0 (some 0) 6) (.sl id off n cap z) = some (.sl s.next 0 0 (some 0) 6, s.push (.row [] true)) := by
              have hr2 : read ndC (s.push (.row [] true)) (.sl id off n cap z) = some [] := ((Keep.refl s).push _).read hr
              have e1 : shown (s.push (.row [] true)) 6 (.sl id off n cap z) = some [] := read_shown hr2
              have e2 : lenOf (.sl id off n cap z) = some 0 := read_len hr2
              simp only [appV, e1, e2, aappend, if_true, St.get_push_new]
            simp (config := {contextual := true, maxDischargeDepth := 12}) only [tb, h0, hlen, hb, hbs, hap, ↓bD0, ↓bD1, ↓bD2, ↓bD3, ↓bD4, ↓bD5, ↓bD6, bU0, bU1, bU2, bU3, bU4, bU5, bU6, bU7, bU8, bU9, bU10, bU11, bU12, bU13, forall_const, List.all_cons, List.all_nil, Option.map_some, List.map_cons, List.map_nil, ne_eq, implies_true, isNx, cs_dec, cs_not, cs_and, cs_or, cs_valid, eq_self, ↓wp_cond, ↓wp_loop, ↓reduceIte, reduceCtorEq, Nat.reduceEqDiff, Nat.reduceLT, Nat.reduceAdd, Nat.reduceMul, Int.ofNat_lt, Int.ofNat_le, exists_const, ae_app, ap_slc, Option.map_none, mkR_none, mkR_some, ar_look, ae_mset, ae_rng, ae_mkmap0, ar_ent, lookV_push, lookV_lowed, msetV_push, msetV_lowed, lt_put, same_put, sto_over, sto_lowed, cs_dead, Option.map_some]
            obtain ⟨f, h1, h2, h3⟩ := emb_row ((Keep.refl s).push (.row [] true)) (cells := []) rfl (Nat.le_refl _) (St.get_push_new _ _)
            exact ⟨f, by simp [AV.ren, h3], h2⟩
          · rename_i he
            have hl0 : l ≠ [] := by simpa using he
            injection h with h
            obtain ⟨rfl, rfl⟩ := Prod.mk.inj h
            refine ⟨gk_push (gk_lowed s) _, by simp [a48], fun env hlen ha => ?_⟩
            have h0 : E env 0 = _ := ha 0 _ rfl
            simp only [a48] at hlen
            unfold a48
            have hap : appV (s.push (.row [] true)) 6 48 (.sl s.next 0 0 (some 0) 6) (.sl id off n cap z) = some (.sl (s.push (.row [] true)).next 0 l.length none 6, (s.push (.row [] true)).push (.row (ndC.cells l) true)) := by
              have hr2 : read ndC (s.push (.row [] true)) (.sl id off n cap z) = some l := ((Keep.refl s).push _).read hr
              have e1 : shown (s.push (.row [] true)) 6 (.sl id off n cap z) = some (ndC.cells l) := read_shown hr2
              have e2 : lenOf (.sl id off n cap z) = some l.length := read_len hr2
              have e3 : l.length ≠ 0 := by simpa using hl0
              simp only [appV, e1, e2, aappend, if_true, St.get_push_new, if_neg e3]
              rw [if_pos ⟨by simp, by unfold lim at hl; simp [roomBytes]; omega⟩, if_neg (by omega)]
              simp
            simp (config := {contextual := true, maxDischargeDepth := 12}) only [tb, h0, hlen, hb, hbs, hap, ↓bD0, ↓bD1, ↓bD2, ↓bD3, ↓bD4, ↓bD5, ↓bD6, bU0, bU1, bU2, bU3, bU4, bU5, bU6, bU7, bU8, bU9, bU10, bU11, bU12, bU13, forall_const, List.all_cons, List.all_nil, Option.map_some, List.map_cons, List.map_nil, ne_eq, implies_true, isNx, cs_dec, cs_not, cs_and, cs_or, cs_valid, eq_self, ↓wp_cond, ↓wp_loop, ↓reduceIte, reduceCtorEq, Nat.reduceEqDiff, Nat.reduceLT, Nat.reduceAdd, Nat.reduceMul, Int.ofNat_lt, Int.ofNat_le, exists_const, ae_app, ap_slc, Option.map_none, mkR_none, mkR_some, ar_look, ae_mset, ae_rng, ae_mkmap0, ar_ent, lookV_push, lookV_lowed, msetV_push, msetV_lowed, lt_put, same_put, sto_over, sto_lowed, cs_dead, Option.map_some]
            obtain ⟨f, h1, h2, h3⟩ := emb_row (((Keep.refl s).push (.row [] true)).push (.row (ndC.cells l) true)) (cells_plain ndC l) (j := (s.push (.row [] true)).next) (by simp) (St.get_push_new _ _)
            exact ⟨f, by simp [AV.ren, h3], h2⟩
        · cases h
      · cases h
    · cases h
theorem acall_clone {s : St} {v : AV} {l : List Nd} (hr : read ndC s v = some l) (hl : l.length ≤ lim) :
    (v = .nils ∧ acall cloneC false [v] s = some (.nils, s)) ∨ (∃ id off n cap z, v = .sl id off n cap z) ∧ (l = [] ∧ acall cloneC false [v] s = some (.sl s.next 0 0 (some 0) 6, s.lowed.push (.row [] true)) ∨ l ≠ [] ∧ acall cloneC false [v] s = some (.sl s.next 0 l.length none 6, s.lowed.push (.row (ndC.cells l) true))) := by
  cases v with
  | nils => exact .inl ⟨rfl, acall_rol rfl rfl⟩
  | sl id off n cap z =>
    refine .inr ⟨⟨id, off, n, cap, z, rfl⟩, ?_⟩
    have hr' : read ndC { heap := s.heap, next := s.next, low := s.next } (.sl id off n cap z) = some l := hr
    by_cases h0 : l = []
    · subst h0
      refine .inl ⟨rfl, ?_⟩
      simp [acall, cloneC, hr', AV.ground, AV.plain, St.push, St.lowed]
    · have he : l.isEmpty = false := by simpa using h0
      refine .inr ⟨h0, ?_⟩
      simp [acall, cloneC, hr', hl, h0, AV.ground, AV.plain, St.push, St.lowed]
  | _ => simp [read] at hr
theorem s_jcopy : SoundAt Try.prog 37 cloneC :=
  con_emb (tb_sound (l := [(48, cloneC)]) (by simpa using s_clone)) mixed Try.func37 k37 c37 fun args s r s' h => by
    unfold cloneC at h
    split at h
    · injection h with h
      obtain ⟨rfl, rfl⟩ := Prod.mk.inj h
      refine ⟨gk_lowed s, by simp [a37], fun env hlen ha => ?_⟩
      have h0 : E env 0 = _ := ha 0 _ rfl
      simp only [a37] at hlen
      unfold a37
      have hc : acall cloneC false [.nils] s = some (.nils, s) := acall_rol rfl rfl
      simp (config := {contextual := true, maxDischargeDepth := 12}) only [tb, h0, hlen, hc, ↓bD0, ↓bD1, ↓bD2, ↓bD3, ↓bD4, ↓bD5, ↓bD6, bU0, bU1, bU2, bU3, bU4, bU5, bU6, bU7, bU8, bU9, bU10, bU11, bU12, bU13, forall_const, List.all_cons, List.all_nil, Option.map_some, List.map_cons, List.map_nil, ne_eq, implies_true, isNx, cs_dec, cs_not, cs_and, cs_or, cs_valid, eq_self, ↓wp_cond, ↓wp_loop, ↓reduceIte, reduceCtorEq, Nat.reduceEqDiff, Nat.reduceLT, Nat.reduceAdd, Nat.reduceMul, Int.ofNat_lt, Int.ofNat_le, exists_const, ae_app, ap_slc, Option.map_none, mkR_none, mkR_some, ar_look, ae_mset, ae_rng, ae_mkmap0, ar_ent, lookV_push, lookV_lowed, msetV_push, msetV_lowed, lt_put, same_put, sto_over, sto_lowed, cs_dead, Option.map_some]
      obtain ⟨f, h1, h2⟩ := emb_keep (Keep.refl s)
      exact ⟨f, by simp [AV.ren], h2⟩
    · rename_i id off n cap z
      split at h
      · rename_i l hr
        split at h
        · rename_i hl
          rcases acall_clone hr hl with ⟨q, _⟩ | ⟨_, ⟨h0, hc⟩ | ⟨h0, hc⟩⟩
          · cases q
          · subst h0
            simp only [List.isEmpty_nil, if_true] at h
            injection h with h
            obtain ⟨rfl, rfl⟩ := Prod.mk.inj h
            refine ⟨gk_push (gk_lowed s) _, by simp [a37], fun env hlen ha => ?_⟩
            have h0 : E env 0 = _ := ha 0 _ rfl
            simp only [a37] at hlen
            unfold a37
            simp (config := {contextual := true, maxDischargeDepth := 12}) only [tb, h0, hlen, hc, ↓bD0, ↓bD1, ↓bD2, ↓bD3, ↓bD4, ↓bD5, ↓bD6, bU0, bU1, bU2, bU3, bU4, bU5, bU6, bU7, bU8, bU9, bU10, bU11, bU12, bU13, forall_const, List.all_cons, List.all_nil, Option.map_some, List.map_cons, List.map_nil, ne_eq, implies_true, isNx, cs_dec, cs_not, cs_and, cs_or, cs_valid, eq_self, ↓wp_cond, ↓wp_loop, ↓reduceIte, reduceCtorEq, Nat.reduceEqDiff, Nat.reduceLT, Nat.reduceAdd, Nat.reduceMul, Int.ofNat_lt, Int.ofNat_le, exists_const, ae_app, ap_slc, Option.map_none, mkR_none, mkR_some, ar_look, ae_mset, ae_rng, ae_mkmap0, ar_ent, lookV_push, lookV_lowed, msetV_push, msetV_lowed, lt_put, same_put, sto_over, sto_lowed, cs_dead, Option.map_some]
            exact ⟨_root_.id, by rw [AV.ren_id], Emb.refl ((keep_lowed s).push _).grow⟩
          · have he : l.isEmpty = false := by simpa using h0
            simp only [he, Bool.false_eq_true, if_false] at h
            injection h with h
            obtain ⟨rfl, rfl⟩ := Prod.mk.inj h
            refine ⟨gk_push (gk_lowed s) _, by simp [a37], fun env hlen ha => ?_⟩
            have h0 : E env 0 = _ := ha 0 _ rfl
            simp only [a37] at hlen
            unfold a37
            simp (config := {contextual := true, maxDischargeDepth := 12}) only [tb, h0, hlen, hc, ↓bD0, ↓bD1, ↓bD2, ↓bD3, ↓bD4, ↓bD5, ↓bD6, bU0, bU1, bU2, bU3, bU4, bU5, bU6, bU7, bU8, bU9, bU10, bU11, bU12, bU13, forall_const, List.all_cons, List.all_nil, Option.map_some, List.map_cons, List.map_nil, ne_eq, implies_true, isNx, cs_dec, cs_not, cs_and, cs_or, cs_valid, eq_self, ↓wp_cond, ↓wp_loop, ↓reduceIte, reduceCtorEq, Nat.reduceEqDiff, Nat.reduceLT, Nat.reduceAdd, Nat.reduceMul, Int.ofNat_lt, Int.ofNat_le, exists_const, ae_app, ap_slc, Option.map_none, mkR_none, mkR_some, ar_look, ae_mset, ae_rng, ae_mkmap0, ar_ent, lookV_push, lookV_lowed, msetV_push, msetV_lowed, lt_put, same_put, sto_over, sto_lowed, cs_dead, Option.map_some]
            exact ⟨_root_.id, by rw [AV.ren_id], Emb.refl ((keep_lowed s).push _).grow⟩
        · cases h
      · cases h
    · cases h

/-! ### Stain -/
def stainN (x : Nd) : Nd := { x with t := IntKind.i64.wrap (x.t + 1), x := 88 }
theorem setAt_set {cs : List AV} {o : Nat} {v : AV} (h : o < cs.length) : setAt cs o [v] = cs.set o v := by
  simp only [setAt, List.length_singleton]
  rw [List.set_eq_take_append_cons_drop, if_pos h]
  simp
theorem cells_set {l : List Nd} {i k : Nat} {x y : Nd} {v : AV} (hx : l[i]? = some x) (hk : k < 6) (hy : Nd.av y = (Nd.av x).set k v) : (ndC.cells l).set (i * 6 + k) v = ndC.cells (l.set i y) := by
  have hil := getlt hx
  have hcl : (ndC.cells l).length = l.length * 6 := cells_len ndC l
  apply List.ext_getElem?
  intro t
  rw [List.getElem?_set, cells_get, cells_get, List.getElem?_set]
  by_cases ht : i * 6 + k = t
  · subst ht
    have e1 : (i * 6 + k) / 6 = i := by omega
    have e2 : (i * 6 + k) % 6 = k := by omega
    have h6 : (Nd.av x).length = 6 := rfl
    rw [if_pos rfl, if_pos (by rw [hcl]; omega), e1, e2, if_pos rfl, if_pos hil, Option.bind_some, hy, List.getElem?_set_self (by omega)]
  · rw [if_neg ht]
    by_cases hti : i = t / 6
    · subst hti
      have hne : k ≠ t % 6 := by omega
      rw [if_pos rfl, if_pos hil, hx, Option.bind_some, Option.bind_some, hy, List.getElem?_set_ne hne]
    · rw [if_neg hti]
theorem put_put (s : St) (j : Nat) (a b : AB) : (s.put j a).put j b = s.put j b := by
  simp only [St.put, List.set_set]
  congr 1
  omega
theorem sto_field {t : St} {j i k : Nat} {l : List Nd} {x y : Nd} {v : AV} (hg : t.get j = some (.row (ndC.cells l) true)) (hx : l[i]? = some x) (hk : k < 6) (hy : Nd.av y = (Nd.av x).set k v) (hv : v.one = true) (hc : v.cells = [v]) :
    sto t 1 (.ptr j (i * 6 + k)) v = some (.und, t.put j (.row (ndC.cells (l.set i y)) true)) := by
  have hil := getlt hx
  have hcl : (ndC.cells l).length = l.length * 6 := cells_len ndC l
  simp only [sto, hg, hc, List.length_singleton, List.all_cons, hv, List.all_nil, Bool.and_self, true_and]
  rw [if_pos (by omega), setAt_set (by omega), cells_set hx hk hy]
def stainC : Con := fun xs s => match xs with
  | [.nils] => some (.tup [], s.lowed)
  | [.sl j 0 n cap 6] => if n = 0 then some (.tup [], s.lowed) else match s.get j with
    | some (.row cs true) => match decL ndC n cs with
      | some l => if cs.length = n * 6 ∧ n ≤ lim then some (.tup [], s.put j (.row (ndC.cells (l.map stainN)) true)) else none
      | none => none
    | _ => none
  | _ => none
def stainTo (i : Nat) (l : List Nd) : List Nd := (l.take i).map stainN ++ l.drop i
theorem stainTo_at {l : List Nd} {i : Nat} {x : Nd} (hx : l[i]? = some x) : (stainTo i l)[i]? = some x := by
  have hil := getlt hx
  have h : ((l.take i).map stainN).length = i := by simp; omega
  unfold stainTo
  rw [List.getElem?_append_right (by omega), h, Nat.sub_self, List.getElem?_drop]
  simpa using hx
theorem stainTo_succ {l : List Nd} {i : Nat} {x : Nd} (hx : l[i]? = some x) : (stainTo i l).set i (stainN x) = stainTo (i + 1) l := by
  have hil := getlt hx
  have h : ((l.take i).map stainN).length = i := by simp; omega
  unfold stainTo
  have hd : l.drop i = x :: l.drop (i + 1) := by
    rw [List.drop_eq_getElem_cons hil]
    congr 1
    exact (List.getElem?_eq_some_iff.1 hx).2
  rw [hd, take_snoc hx, List.set_append_right _ _ (by omega), h, Nat.sub_self]
  simp
theorem s_stain : SoundAt Try.prog 28 stainC :=
  con_emb (tb_sound (l := []) (by simp)) mixed Try.func28 k28 c28 fun args s r s' h => by
    have none : ∀ (v : AV), lenV v = some (.int .i64 0) → args = [v] → r = .tup [] → s' = s.lowed → (Grow s s' ∧ Keeps s s') ∧ args.length ≤ a28.ntmps ∧ ∀ env : Env, elen env = a28.ntmps → (∀ i v, args[i]? = some v → E env i = v) →
        awp (tb []) a28.body (fun x env t => (∀ i, x ≠ .exit i) ∧ ∃ f, aresults env t a28.results = some (r.ren f) ∧ Emb f s s' t) env s := by
      rintro v hL rfl rfl rfl
      refine ⟨gk_lowed s, by simp [a28], fun env hlen ha => ?_⟩
      have h0 : E env 0 = _ := ha 0 _ rfl
      simp only [a28] at hlen
      unfold a28
      simp (config := {contextual := true, maxDischargeDepth := 12}) only [tb, h0, hlen, ↓bD0, ↓bD1, ↓bD2, ↓bD3, ↓bD4, ↓bD5, ↓bD6, bU0, bU1, bU2, bU3, bU4, bU5, bU6, bU7, bU8, bU9, bU10, bU11, bU12, bU13, forall_const, List.all_cons, List.all_nil, Option.map_some, List.map_cons, List.map_nil, ne_eq, implies_true, isNx, cs_dec, cs_not, cs_and, cs_or, cs_valid, eq_self, ↓wp_cond, ↓wp_loop, ↓reduceIte, reduceCtorEq, Nat.reduceEqDiff, Nat.reduceLT, Nat.reduceAdd, Nat.reduceMul, Int.ofNat_lt, Int.ofNat_le, exists_const, ae_app, ap_slc, Option.map_none, mkR_none, mkR_some, ar_look, ae_mset, ae_rng, ae_mkmap0, ar_ent, lookV_push, lookV_lowed, msetV_push, msetV_lowed, lt_put, same_put, sto_over, sto_lowed, cs_dead, Option.map_some]
      refine lwp_inv (fun n e t => t = s ∧ elen e = 21 ∧ E e 0 = v ∧ E e 2 = .int .i64 0) (n := 0) ⟨rfl, by simp only [E_pne, E_psame, elen_put, Nat.reduceEqDiff, ne_eq, not_false_eq_true, Nat.reduceLT, hlen], by simp only [E_pne, E_psame, elen_put, Nat.reduceEqDiff, ne_eq, not_false_eq_true, Nat.reduceLT, h0], by simp only [E_pne, E_psame, elen_put, Nat.reduceEqDiff, ne_eq, not_false_eq_true, Nat.reduceLT, hlen]⟩ ?_
      rintro n e t ⟨rfl, he, e0, e2⟩
      have hz : ((0 : Int) < 0) = False := by decide
      simp (config := {contextual := true, maxDischargeDepth := 12}) only [tb, e0, e2, he, hL, hz, ↓bD0, ↓bD1, ↓bD2, ↓bD3, ↓bD4, ↓bD5, ↓bD6, bU0, bU1, bU2, bU3, bU4, bU5, bU6, bU7, bU8, bU9, bU10, bU11, bU12, bU13, forall_const, List.all_cons, List.all_nil, Option.map_some, List.map_cons, List.map_nil, ne_eq, implies_true, isNx, cs_dec, cs_not, cs_and, cs_or, cs_valid, eq_self, ↓wp_cond, ↓wp_loop, ↓reduceIte, reduceCtorEq, Nat.reduceEqDiff, Nat.reduceLT, Nat.reduceAdd, Nat.reduceMul, Int.ofNat_lt, Int.ofNat_le, exists_const, ae_app, ap_slc, Option.map_none, mkR_none, mkR_some, ar_look, ae_mset, ae_rng, ae_mkmap0, ar_ent, lookV_push, lookV_lowed, msetV_push, msetV_lowed, lt_put, same_put, sto_over, sto_lowed, cs_dead, Option.map_some]
      obtain ⟨f, h1, h2⟩ := emb_keep (Keep.refl t)
      exact ⟨f, by simp [AV.ren, AV.rens], h2⟩
    unfold stainC at h
    split at h
    · injection h with h
      obtain ⟨rfl, rfl⟩ := Prod.mk.inj h
      exact none .nils rfl rfl rfl rfl
    · rename_i j n cap
      split at h
      · rename_i hn
        subst hn
        injection h with h
        obtain ⟨rfl, rfl⟩ := Prod.mk.inj h
        exact none _ rfl rfl rfl rfl
      · rename_i hn
        split at h
        · rename_i cs hg
          split at h
          · rename_i l hd
            split at h
            · rename_i hc
              obtain ⟨hc1, hlim⟩ := hc
              injection h with h
              obtain ⟨rfl, rfl⟩ := Prod.mk.inj h
              obtain ⟨d1, d2, d3⟩ := decL_some hd
              have hcs : cs = ndC.cells l := by rw [← d3, show n * ndC.sz = cs.length from hc1.symm]; simp
              subst hcs
              subst d1
              refine ⟨⟨grow_put _ hg, keeps_put _ hg⟩, by simp [a28], fun env hlen ha => ?_⟩
              have h0 : E env 0 = _ := ha 0 _ rfl
              simp only [a28] at hlen
              unfold a28
              simp (config := {contextual := true, maxDischargeDepth := 12}) only [tb, h0, hlen, ↓bD0, ↓bD1, ↓bD2, ↓bD3, ↓bD4, ↓bD5, ↓bD6, bU0, bU1, bU2, bU3, bU4, bU5, bU6, bU7, bU8, bU9, bU10, bU11, bU12, bU13, forall_const, List.all_cons, List.all_nil, Option.map_some, List.map_cons, List.map_nil, ne_eq, implies_true, isNx, cs_dec, cs_not, cs_and, cs_or, cs_valid, eq_self, ↓wp_cond, ↓wp_loop, ↓reduceIte, reduceCtorEq, Nat.reduceEqDiff, Nat.reduceLT, Nat.reduceAdd, Nat.reduceMul, Int.ofNat_lt, Int.ofNat_le, exists_const, ae_app, ap_slc, Option.map_none, mkR_none, mkR_some, ar_look, ae_mset, ae_rng, ae_mkmap0, ar_ent, lookV_push, lookV_lowed, msetV_push, msetV_lowed, lt_put, same_put, sto_over, sto_lowed, cs_dead, Option.map_some]
              obtain ⟨I, hI⟩ : ∃ I : Nat → Env → St → Prop, ∀ n e t, I n e t = (∃ i : Nat, n + i = l.length ∧ elen e = 21 ∧ E e 0 = .sl j 0 l.length cap 6 ∧ E e 2 = .int .i64 (i : Int) ∧ t.get j = some (.row (ndC.cells (stainTo i l)) true) ∧ (i = 0 ∧ t = s ∨ 0 < i ∧ t = s.put j (.row (ndC.cells (stainTo i l)) true))) := ⟨fun n e t => (∃ i : Nat, n + i = l.length ∧ elen e = 21 ∧ E e 0 = .sl j 0 l.length cap 6 ∧ E e 2 = .int .i64 (i : Int) ∧ t.get j = some (.row (ndC.cells (stainTo i l)) true) ∧ (i = 0 ∧ t = s ∨ 0 < i ∧ t = s.put j (.row (ndC.cells (stainTo i l)) true))), fun _ _ _ => rfl⟩
              refine lwp_inv I (n := l.length) ?_ ?_
              · rw [hI]
                exact ⟨0, by omega, by simp only [E_pne, E_psame, elen_put, Nat.reduceEqDiff, ne_eq, not_false_eq_true, Nat.reduceLT, hlen], by simp only [E_pne, E_psame, elen_put, Nat.reduceEqDiff, ne_eq, not_false_eq_true, Nat.reduceLT, h0], by simp only [E_pne, E_psame, elen_put, Nat.reduceEqDiff, ne_eq, not_false_eq_true, Nat.reduceLT, hlen]; rfl, by simpa [stainTo] using hg, .inl ⟨rfl, rfl⟩⟩
              intro n e t hi
              rw [hI] at hi
              obtain ⟨i, hni, he, e0, e2, gj, ht⟩ := hi
              have hL : lenV (.sl j 0 l.length cap 6) = some (.int .i64 (l.length : Int)) := rfl
              by_cases hlt : i < l.length
              · obtain ⟨x, hx⟩ := getsome hlt
                have hw2 := wrap_add1 (n := i) (by unfold lim at hlim; omega)
                have i1 : iadV 6 (.sl j 0 l.length cap 6) (.int .i64 (i : Int)) = some (.ptr j (i * 6)) := by
                  have := iadV_nat (sz := 6) (id := j) (off := 0) (cap := cap) (k := .i64) hlt
                  rwa [Nat.zero_add] at this
                have hsx := stainTo_at hx
                have hl1 : lod1 t (.ptr j (i * 6 + 4)) = some (.int .i64 x.t) := by
                  simp only [lod1, gj]
                  rw [cells_get, show (i * 6 + 4) / 6 = i by omega, show (i * 6 + 4) % 6 = 4 by omega, hsx]
                  rfl
                have s1 := sto_field (y := { x with t := IntKind.i64.wrap (x.t + 1) }) (v := .int .i64 (IntKind.i64.wrap (x.t + 1))) gj hsx (k := 4) (by omega) rfl rfl rfl
                obtain ⟨t1, ht1⟩ : ∃ t1, t1 = t.put j (.row (ndC.cells ((stainTo i l).set i { x with t := IntKind.i64.wrap (x.t + 1) })) true) := ⟨_, rfl⟩
                rw [← ht1] at s1
                have g1 : t1.get j = some (.row (ndC.cells ((stainTo i l).set i { x with t := IntKind.i64.wrap (x.t + 1) })) true) := by rw [ht1]; exact St.get_put_same gj
                have hsx1 : ((stainTo i l).set i { x with t := IntKind.i64.wrap (x.t + 1) })[i]? = some { x with t := IntKind.i64.wrap (x.t + 1) } := List.getElem?_set_self (getlt hsx)
                have s2 := sto_field (y := stainN x) (v := .int .i32 88) g1 hsx1 (k := 5) (by omega) rfl rfl rfl
                rw [List.set_set, stainTo_succ hx] at s2
                obtain ⟨t2, ht2⟩ : ∃ t2, t2 = t1.put j (.row (ndC.cells (stainTo (i + 1) l)) true) := ⟨_, rfl⟩
                rw [← ht2] at s2
                simp (config := {contextual := true, maxDischargeDepth := 12}) only [tb, e0, e2, he, hL, hlt, hw2, i1, hl1, s1, s2, ↓bD0, ↓bD1, ↓bD2, ↓bD3, ↓bD4, ↓bD5, ↓bD6, bU0, bU1, bU2, bU3, bU4, bU5, bU6, bU7, bU8, bU9, bU10, bU11, bU12, bU13, forall_const, List.all_cons, List.all_nil, Option.map_some, List.map_cons, List.map_nil, ne_eq, implies_true, isNx, cs_dec, cs_not, cs_and, cs_or, cs_valid, eq_self, ↓wp_cond, ↓wp_loop, ↓reduceIte, reduceCtorEq, Nat.reduceEqDiff, Nat.reduceLT, Nat.reduceAdd, Nat.reduceMul, Int.ofNat_lt, Int.ofNat_le, exists_const, ae_app, ap_slc, Option.map_none, mkR_none, mkR_some, ar_look, ae_mset, ae_rng, ae_mkmap0, ar_ent, lookV_push, lookV_lowed, msetV_push, msetV_lowed, lt_put, same_put, sto_over, sto_lowed, cs_dead, Option.map_some]
                refine ⟨n - 1, by omega, ?_⟩
                rw [hI]
                refine ⟨i + 1, by omega, by simp only [E_pne, E_psame, elen_put, Nat.reduceEqDiff, ne_eq, not_false_eq_true, Nat.reduceLT, he], by simp only [E_pne, E_psame, elen_put, Nat.reduceEqDiff, ne_eq, not_false_eq_true, Nat.reduceLT, e0], by simp only [E_pne, E_psame, elen_put, Nat.reduceEqDiff, ne_eq, not_false_eq_true, Nat.reduceLT, he], by rw [ht2]; exact St.get_put_same g1, .inr ⟨by omega, ?_⟩⟩
                rw [ht2, ht1, put_put]
                rcases ht with ⟨_, rfl⟩ | ⟨_, rfl⟩
                · rfl
                · rw [put_put]
              · obtain rfl : i = l.length := by omega
                rcases ht with ⟨q, _⟩ | ⟨_, rfl⟩
                · omega
                simp (config := {contextual := true, maxDischargeDepth := 12}) only [tb, e0, e2, he, hL, hlt, ↓bD0, ↓bD1, ↓bD2, ↓bD3, ↓bD4, ↓bD5, ↓bD6, bU0, bU1, bU2, bU3, bU4, bU5, bU6, bU7, bU8, bU9, bU10, bU11, bU12, bU13, forall_const, List.all_cons, List.all_nil, Option.map_some, List.map_cons, List.map_nil, ne_eq, implies_true, isNx, cs_dec, cs_not, cs_and, cs_or, cs_valid, eq_self, ↓wp_cond, ↓wp_loop, ↓reduceIte, reduceCtorEq, Nat.reduceEqDiff, Nat.reduceLT, Nat.reduceAdd, Nat.reduceMul, Int.ofNat_lt, Int.ofNat_le, exists_const, ae_app, ap_slc, Option.map_none, mkR_none, mkR_some, ar_look, ae_mset, ae_rng, ae_mkmap0, ar_ent, lookV_push, lookV_lowed, msetV_push, msetV_lowed, lt_put, same_put, sto_over, sto_lowed, cs_dead, Option.map_some]
                have e1 : stainTo l.length l = l.map stainN := by simp [stainTo]
                rw [e1]
                exact ⟨_root_.id, by simp [AV.ren, AV.rens], Emb.refl (grow_put _ hg)⟩
            · cases h
          · cases h
        · cases h
    · cases h

end Go.AM
end
/-
  The reference's Agree, put, Join; the program's Agree and Within; the helpers of the statements. Own work of this project; in part printed by a program of it.
-/
section
set_option linter.unusedVariables false
set_option linter.unusedSimpArgs false
set_option maxRecDepth 100000
set_option maxHeartbeats 8000000
namespace Go.AM
open Go Go.Proofs

theorem q_known (cl : Bool) (s : St) : acall (closed [] (.bool true)) cl [] s = some (.bool true, s) := acall_ro (by simp [closed]) rfl
theorem cs_true (A B : Prop) : cstep (.bool (decide True)) A B = A := by simp [cstep]

theorem cs_false (A B : Prop) : cstep (.bool (decide False)) A B = B := by simp [cstep]
theorem cs_ref (a b : Bool) (A B : Prop) : cstep (.bool (a && b)) A B = ((a = true ∧ b = true → A) ∧ ((a && b) = false → B)) := cs_and a b A B
theorem findL_look (l : List Nd) (d : Dot) : findL l d = match lookN l d with
    | some (j, _) => (j : Int)
    | none => -1 := by
  induction l with
  | nil => rfl
  | cons x r ih =>
    simp only [findL, lookN]
    by_cases h : x.d = d
    · simp [h]
    · simp only [h, if_false]
      rw [ih]
      cases hr : lookN r d with
      | none => simp
      | some p =>
        obtain ⟨j, y⟩ := p
        simp only [Option.map_some]
        rw [if_neg (by omega)]
        simp
def agreeL (l m : List Nd) : Bool := l.all fun x => match lookN m x.d with
  | some (_, y) => !x.clash y
  | none => true
theorem agreeL_cons (x : Nd) (l m : List Nd) : agreeL (x :: l) m = ((match lookN m x.d with
  | some (_, y) => !x.clash y
  | none => true) && agreeL l m) := rfl
def fAgree (l m : List Nd) : AV := .bool (agreeL l m)
theorem s_RAgree : SoundAt Try.prog 32 (conLL ndC ndC fAgree) :=
  con_keep (tb_sound (l := [(44, conLD ndC fFind), (45, conNN fRefMerge)]) (by simpa using ⟨s_Find, s_RefMerge⟩)) mixed Try.func32 k32 c32 fun args s r s' h => by
    obtain ⟨v, w, l, m, rfl, hr, hw, hl, hm, rfl, rfl⟩ := conLL_some h
    refine ⟨rfl, rfl, by simp [a32], fun env hlen ha => ?_⟩
    have h0 : E env 0 = _ := ha 0 _ rfl
    have h1 : E env 1 = _ := ha 1 _ rfl
    have hlen : elen env = _ := hlen
    simp only [a32] at hlen
    unfold a32
    have hL := lenV_read hr
    simp (config := {contextual := true, maxDischargeDepth := 12}) only [tb, h0, h1, hlen, hL, ↓bD0, ↓bD1, ↓bD2, ↓bD3, ↓bD4, ↓bD5, ↓bD6, bU0, bU1, bU2, bU3, bU4, bU5, bU6, bU7, bU8, bU9, bU10, bU11, bU12, bU13, forall_const, List.all_cons, List.all_nil, Option.map_some, List.map_cons, List.map_nil, ne_eq, implies_true, isNx, cs_dec, cs_not, cs_and, cs_or, cs_valid, eq_self, ↓wp_cond, ↓wp_loop, ↓reduceIte, reduceCtorEq, Nat.reduceEqDiff, Nat.reduceLT, Nat.reduceAdd, Nat.reduceMul, Int.ofNat_lt, Int.ofNat_le, exists_const, ae_app, ap_slc, Option.map_none, mkR_none, mkR_some, ar_look, ae_mset, ae_rng, ae_mkmap0, ar_ent, lookV_push, lookV_lowed, msetV_push, msetV_lowed, lt_put, same_put, sto_over, sto_lowed, cs_dead, Option.map_some, beq_self_eq_true, decide_true, cs_true, cs_false]
    obtain ⟨I, hI⟩ : ∃ I : Nat → Env → St → Prop, ∀ n e t, I n e t = (Keep s t ∧ ∃ i : Nat, n + i = l.length ∧ elen e = 38 ∧ E e 0 = v ∧ E e 1 = w ∧ E e 5 = .int .i64 (i : Int) ∧ (agreeL (l.drop i) m = agreeL l m)) := ⟨fun n e t => (Keep s t ∧ ∃ i : Nat, n + i = l.length ∧ elen e = 38 ∧ E e 0 = v ∧ E e 1 = w ∧ E e 5 = .int .i64 (i : Int) ∧ (agreeL (l.drop i) m = agreeL l m)), fun _ _ _ => rfl⟩
    refine lwp_inv I (n := l.length) ?_ ?_
    · rw [hI]
      exact ⟨.refl s, 0, by omega, by simp only [E_pne, E_psame, elen_put, Nat.reduceEqDiff, ne_eq, not_false_eq_true, Nat.reduceLT, hlen], by simp only [E_pne, E_psame, elen_put, Nat.reduceEqDiff, ne_eq, not_false_eq_true, Nat.reduceLT, h0], by simp only [E_pne, E_psame, elen_put, Nat.reduceEqDiff, ne_eq, not_false_eq_true, Nat.reduceLT, h1], by simp only [E_pne, E_psame, elen_put, Nat.reduceEqDiff, ne_eq, not_false_eq_true, Nat.reduceLT, hlen]; rfl, rfl⟩
    intro n e t hi
    rw [hI] at hi
    obtain ⟨hK, i, hn, he, e0, e1, e5, hag⟩ := hi
    by_cases hlt : i < l.length
    · obtain ⟨x, hx⟩ := getsome hlt
      have hw2 := wrap_add1 (n := i) (by unfold lim at hl; omega)
      obtain ⟨a1, a2, _, _, _, al⟩ := nd_lods hr hK hx
      have i1 := nd_idx hr hx .i64
      have hdr : l.drop i = x :: l.drop (i + 1) := by
        rw [List.drop_eq_getElem_cons hlt]
        congr 1
        exact (List.getElem?_eq_some_iff.1 hx).2
      rw [hdr] at hag
      rw [agreeL_cons] at hag
      have qf := q_Find false (hK.read hw) hm x.d
      rw [findL_look] at qf
      cases hf : lookN m x.d with
      | none =>
        rw [hf] at qf hag
        simp only [Bool.true_and] at qf hag
        have hz : ((0 : Int) ≤ -1) = False := by decide
        simp (config := {contextual := true, maxDischargeDepth := 12}) only [tb, e0, e1, e5, he, hL, hlt, hw2, a1, a2, al, i1, qf, hz, ↓bD0, ↓bD1, ↓bD2, ↓bD3, ↓bD4, ↓bD5, ↓bD6, bU0, bU1, bU2, bU3, bU4, bU5, bU6, bU7, bU8, bU9, bU10, bU11, bU12, bU13, forall_const, List.all_cons, List.all_nil, Option.map_some, List.map_cons, List.map_nil, ne_eq, implies_true, isNx, cs_dec, cs_not, cs_and, cs_or, cs_valid, eq_self, ↓wp_cond, ↓wp_loop, ↓reduceIte, reduceCtorEq, Nat.reduceEqDiff, Nat.reduceLT, Nat.reduceAdd, Nat.reduceMul, Int.ofNat_lt, Int.ofNat_le, exists_const, ae_app, ap_slc, Option.map_none, mkR_none, mkR_some, ar_look, ae_mset, ae_rng, ae_mkmap0, ar_ent, lookV_push, lookV_lowed, msetV_push, msetV_lowed, lt_put, same_put, sto_over, sto_lowed, cs_dead, Option.map_some, beq_self_eq_true, decide_true, cs_true, cs_false]
        refine ⟨n - 1, by omega, ?_⟩
        rw [hI]
        exact ⟨hK, i + 1, by omega, by simp only [E_pne, E_psame, elen_put, Nat.reduceEqDiff, ne_eq, not_false_eq_true, Nat.reduceLT, he], by simp only [E_pne, E_psame, elen_put, Nat.reduceEqDiff, ne_eq, not_false_eq_true, Nat.reduceLT, e0], by simp only [E_pne, E_psame, elen_put, Nat.reduceEqDiff, ne_eq, not_false_eq_true, Nat.reduceLT, e1], by simp only [E_pne, E_psame, elen_put, Nat.reduceEqDiff, ne_eq, not_false_eq_true, Nat.reduceLT, he], hag⟩
      | some p =>
        obtain ⟨j, y⟩ := p
        obtain ⟨hy, hyd⟩ := lookN_some hf
        rw [hf] at qf hag
        simp only at qf hag
        have hz : ((0 : Int) ≤ (j : Int)) = True := eq_true (by omega)
        obtain ⟨b1, _, _, _, _, bl⟩ := nd_lods hw hK hy
        have i2 := nd_idx hw hy .i64
        by_cases hc : x.clash y = true
        · have hMg : refMergeV x y = .tup [.agg (Nd.av nd0), .bool false] := by simp [refMergeV, hc]
          have hres : agreeL l m = false := by
            rw [← hag, hc]
            rfl
          simp (config := {contextual := true, maxDischargeDepth := 12}) only [tb, q_RefMerge, e0, e1, e5, he, hL, hlt, hw2, a1, a2, al, i1, qf, hz, b1, bl, i2, hMg, ↓bD0, ↓bD1, ↓bD2, ↓bD3, ↓bD4, ↓bD5, ↓bD6, bU0, bU1, bU2, bU3, bU4, bU5, bU6, bU7, bU8, bU9, bU10, bU11, bU12, bU13, forall_const, List.all_cons, List.all_nil, Option.map_some, List.map_cons, List.map_nil, ne_eq, implies_true, isNx, cs_dec, cs_not, cs_and, cs_or, cs_valid, eq_self, ↓wp_cond, ↓wp_loop, ↓reduceIte, reduceCtorEq, Nat.reduceEqDiff, Nat.reduceLT, Nat.reduceAdd, Nat.reduceMul, Int.ofNat_lt, Int.ofNat_le, exists_const, ae_app, ap_slc, Option.map_none, mkR_none, mkR_some, ar_look, ae_mset, ae_rng, ae_mkmap0, ar_ent, lookV_push, lookV_lowed, msetV_push, msetV_lowed, lt_put, same_put, sto_over, sto_lowed, cs_dead, Option.map_some, beq_self_eq_true, decide_true, cs_true, cs_false]
          exact ⟨by simp [fAgree, hres], hK.lowed.push _⟩
        · have hMg : refMergeV x y = .tup [.agg (Nd.av (x.merge y)), .bool true] := by simp [refMergeV, hc]
          have hc' : x.clash y = false := by simpa using hc
          rw [hc'] at hag
          simp only [Bool.not_false, Bool.true_and] at hag
          simp (config := {contextual := true, maxDischargeDepth := 12}) only [tb, q_RefMerge, e0, e1, e5, he, hL, hlt, hw2, a1, a2, al, i1, qf, hz, b1, bl, i2, hMg, ↓bD0, ↓bD1, ↓bD2, ↓bD3, ↓bD4, ↓bD5, ↓bD6, bU0, bU1, bU2, bU3, bU4, bU5, bU6, bU7, bU8, bU9, bU10, bU11, bU12, bU13, forall_const, List.all_cons, List.all_nil, Option.map_some, List.map_cons, List.map_nil, ne_eq, implies_true, isNx, cs_dec, cs_not, cs_and, cs_or, cs_valid, eq_self, ↓wp_cond, ↓wp_loop, ↓reduceIte, reduceCtorEq, Nat.reduceEqDiff, Nat.reduceLT, Nat.reduceAdd, Nat.reduceMul, Int.ofNat_lt, Int.ofNat_le, exists_const, ae_app, ap_slc, Option.map_none, mkR_none, mkR_some, ar_look, ae_mset, ae_rng, ae_mkmap0, ar_ent, lookV_push, lookV_lowed, msetV_push, msetV_lowed, lt_put, same_put, sto_over, sto_lowed, cs_dead, Option.map_some, beq_self_eq_true, decide_true, cs_true, cs_false]
          refine ⟨n - 1, by omega, ?_⟩
          rw [hI]
          exact ⟨hK.lowed.push _, i + 1, by omega, by simp only [E_pne, E_psame, elen_put, Nat.reduceEqDiff, ne_eq, not_false_eq_true, Nat.reduceLT, he], by simp only [E_pne, E_psame, elen_put, Nat.reduceEqDiff, ne_eq, not_false_eq_true, Nat.reduceLT, e0], by simp only [E_pne, E_psame, elen_put, Nat.reduceEqDiff, ne_eq, not_false_eq_true, Nat.reduceLT, e1], by simp only [E_pne, E_psame, elen_put, Nat.reduceEqDiff, ne_eq, not_false_eq_true, Nat.reduceLT, he], hag⟩
    · have : agreeL l m = true := by
        rw [← hag, List.drop_eq_nil_of_le (by omega)]
        rfl
      simp (config := {contextual := true, maxDischargeDepth := 12}) only [tb, e0, e1, e5, he, hL, hlt, ↓bD0, ↓bD1, ↓bD2, ↓bD3, ↓bD4, ↓bD5, ↓bD6, bU0, bU1, bU2, bU3, bU4, bU5, bU6, bU7, bU8, bU9, bU10, bU11, bU12, bU13, forall_const, List.all_cons, List.all_nil, Option.map_some, List.map_cons, List.map_nil, ne_eq, implies_true, isNx, cs_dec, cs_not, cs_and, cs_or, cs_valid, eq_self, ↓wp_cond, ↓wp_loop, ↓reduceIte, reduceCtorEq, Nat.reduceEqDiff, Nat.reduceLT, Nat.reduceAdd, Nat.reduceMul, Int.ofNat_lt, Int.ofNat_le, exists_const, ae_app, ap_slc, Option.map_none, mkR_none, mkR_some, ar_look, ae_mset, ae_rng, ae_mkmap0, ar_ent, lookV_push, lookV_lowed, msetV_push, msetV_lowed, lt_put, same_put, sto_over, sto_lowed, cs_dead, Option.map_some, beq_self_eq_true, decide_true, cs_true, cs_false]
      exact ⟨by simp [fAgree, this], hK⟩
theorem q_RAgree (cl : Bool) {v w : AV} {l m : List Nd} {s : St} (h : read ndC s v = some l) (k : read ndC s w = some m) (hl : l.length ≤ lim) (hm : m.length ≤ lim) : acall (conLL ndC ndC fAgree) cl [v, w] s = some (.bool (agreeL l m), s) := conLL_call (fun _ _ => rfl) h k hl hm cl

def agreeV (l m : List Nd) : AV := match gJoin l m with
  | some (_, some (.int .i64 0)) => .tup [.bool true, .int .i64 0]
  | some (_, some (.int .i64 15)) => .tup [.bool false, .int .i64 0]
  | _ => .tup [.bool false, .int .i64 2]
def withinV (l m : List Nd) : AV := match gJoin l m with
  | some (j, some (.int .i64 0)) => .tup [.bool (decide (j = m)), .int .i64 0]
  | some (_, some (.int .i64 15)) => .tup [.bool false, .int .i64 15]
  | _ => .tup [.bool false, .int .i64 2]
theorem gJoin_cases (l m : List Nd) : (∃ j, storeL l = true ∧ storeL m = true ∧ joinL l m = some j ∧ gJoin l m = some (j, some (.int .i64 0))) ∨ (storeL l = true ∧ storeL m = true ∧ joinL l m = none ∧ gJoin l m = some ([], some (.int .i64 15))) ∨ (¬ (storeL l = true ∧ storeL m = true) ∧ gJoin l m = some ([], some (.int .i64 2))) := by
  unfold gJoin
  by_cases h : storeL l = true ∧ storeL m = true
  · rw [if_pos h]
    cases hj : joinL l m with
    | none => exact .inr (.inl ⟨h.1, h.2, rfl, rfl⟩)
    | some j => exact .inl ⟨j, h.1, h.2, rfl, rfl⟩
  · rw [if_neg h]
    exact .inr (.inr ⟨h, rfl⟩)
theorem joinL_len : ∀ (l m : List Nd) (j : List Nd), joinL l m = some j → j.length ≤ l.length + m.length := by
  intro l m
  induction l, m using joinL.induct with
  | case1 b => intro j h; simp [joinL] at h; subst h; simp
  | case2 x a => intro j h; simp [joinL] at h; subst h; simp
  | case3 x a y b h1 ih =>
    intro j h
    rw [joinL, if_pos h1, Option.map_eq_some_iff] at h
    obtain ⟨j', h2, rfl⟩ := h
    have := ih j' h2
    simp at this ⊢
    omega
  | case4 x a y b h1 h2 ih =>
    intro j h
    rw [joinL, if_neg h1, if_pos h2, Option.map_eq_some_iff] at h
    obtain ⟨j', h2, rfl⟩ := h
    have := ih j' h2
    simp at this ⊢
    omega
  | case5 x a y b h1 h2 h3 =>
    intro j h
    simp [joinL, h1, h2, h3] at h
  | case6 x a y b h1 h2 h3 ih =>
    intro j h
    rw [joinL, if_neg h1, if_neg h2, if_neg h3, Option.map_eq_some_iff] at h
    obtain ⟨j', h2, rfl⟩ := h
    have := ih j' h2
    simp at this ⊢
    omega
theorem agreeV_ground (l m : List Nd) : (agreeV l m).ground = true := by
  rcases gJoin_cases l m with ⟨j, _, _, _, h⟩ | ⟨_, _, _, h⟩ | ⟨_, h⟩ <;> (unfold agreeV; rw [h]; rfl)
theorem withinV_ground (l m : List Nd) : (withinV l m).ground = true := by
  rcases gJoin_cases l m with ⟨j, _, _, _, h⟩ | ⟨_, _, _, h⟩ | ⟨_, h⟩ <;> (unfold withinV; rw [h]; rfl)
/-- Two lists, each short. -/
def conLLs (f : List Nd → List Nd → AV) : Con := fun xs s => match xs with
  | [v, w] => match read ndC s v, read ndC s w with
    | some l, some m => if l.length ≤ 100000 ∧ m.length ≤ 100000 then some (f l m, s.lowed) else none
    | _, _ => none
  | _ => none
theorem conLLs_some {f : List Nd → List Nd → AV} {xs : List AV} {s : St} {r : AV} {s' : St} (h : conLLs f xs s = some (r, s')) : ∃ v w l m, xs = [v, w] ∧ read ndC s v = some l ∧ read ndC s w = some m ∧ l.length ≤ 100000 ∧ m.length ≤ 100000 ∧ r = f l m ∧ s' = s.lowed := by
  unfold conLLs at h
  split at h
  · split at h
    · split at h
      · rename_i v w _ _ l m hr hw hl
        injection h with h
        obtain ⟨rfl, rfl⟩ := Prod.mk.inj h
        exact ⟨v, w, l, m, rfl, hr, hw, hl.1, hl.2, rfl, rfl⟩
      · cases h
    · cases h
  · cases h
theorem conLLs_call {f : List Nd → List Nd → AV} (hf : ∀ l m, (f l m).ground = true) {s : St} {v w : AV} {l m : List Nd} (h : read ndC s v = some l) (k : read ndC s w = some m) (hl : l.length ≤ 100000) (hm : m.length ≤ 100000) (cl : Bool) : acall (conLLs f) cl [v, w] s = some (f l m, s) :=
  acall_rol (by simp only [conLLs, read_low, h, k, hl, hm, and_self, if_true]) (hf l m)
theorem s_Agree : SoundAt Try.prog 36 (conLLs agreeV) :=
  con_keep (tb_sound (l := [(23, conF ndC (pLL ndC ndC gJoin))]) (by simpa using s_Join)) mixed Try.func36 k36 c36 fun args s r s' h => by
    obtain ⟨v, w, l, m, rfl, hr, hw, hls, hms, rfl, rfl⟩ := conLLs_some h
    refine ⟨rfl, agreeV_ground _ _, by simp [a36], fun env hlen ha => ?_⟩
    have h0 : E env 0 = _ := ha 0 _ rfl
    have h1 : E env 1 = _ := ha 1 _ rfl
    have hlen : elen env = _ := hlen
    simp only [a36] at hlen
    unfold a36
    have hl : l.length ≤ lim := by unfold lim; omega
    have hm : m.length ≤ lim := by unfold lim; omega
    have k1 : ((2 : Int) = 0) = False := by decide
    have k2 : ((15 : Int) = 0) = False := by decide
    have k3 : ((2 : Int) = 15) = False := by decide
    have k4 : ((0 : Int) = 15) = False := by decide
    rcases gJoin_cases l m with ⟨j, hv1, hv2, hj, hg⟩ | ⟨hv1, hv2, hj, hg⟩ | ⟨hv, hg⟩
    all_goals
      obtain ⟨u, t, hc, hK, hO⟩ := fresh_LL (D := ndC) (f := gJoin) hr hw hl hm hg (gJoin_plain hg)
      rw [mkR_some] at hc
    · have qe := q_JEqual false hO.read (hK.read hw) (by have := joinL_len _ _ _ hj; unfold lim; omega) hm
      simp (config := {contextual := true, maxDischargeDepth := 12}) only [tb, h0, h1, hlen, hc, k1, k2, k3, k4, qe, ↓bD0, ↓bD1, ↓bD2, ↓bD3, ↓bD4, ↓bD5, ↓bD6, bU0, bU1, bU2, bU3, bU4, bU5, bU6, bU7, bU8, bU9, bU10, bU11, bU12, bU13, forall_const, List.all_cons, List.all_nil, Option.map_some, List.map_cons, List.map_nil, ne_eq, implies_true, isNx, cs_dec, cs_not, cs_and, cs_or, cs_valid, eq_self, ↓wp_cond, ↓wp_loop, ↓reduceIte, reduceCtorEq, Nat.reduceEqDiff, Nat.reduceLT, Nat.reduceAdd, Nat.reduceMul, Int.ofNat_lt, Int.ofNat_le, exists_const, ae_app, ap_slc, Option.map_none, mkR_none, mkR_some, ar_look, ae_mset, ae_rng, ae_mkmap0, ar_ent, lookV_push, lookV_lowed, msetV_push, msetV_lowed, lt_put, same_put, sto_over, sto_lowed, cs_dead, Option.map_some, beq_self_eq_true, decide_true, cs_true, cs_false]
      exact ⟨by unfold agreeV; rw [hg]; rfl, hK⟩
    · have qe := trivial
      simp (config := {contextual := true, maxDischargeDepth := 12}) only [tb, h0, h1, hlen, hc, k1, k2, k3, k4, ↓bD0, ↓bD1, ↓bD2, ↓bD3, ↓bD4, ↓bD5, ↓bD6, bU0, bU1, bU2, bU3, bU4, bU5, bU6, bU7, bU8, bU9, bU10, bU11, bU12, bU13, forall_const, List.all_cons, List.all_nil, Option.map_some, List.map_cons, List.map_nil, ne_eq, implies_true, isNx, cs_dec, cs_not, cs_and, cs_or, cs_valid, eq_self, ↓wp_cond, ↓wp_loop, ↓reduceIte, reduceCtorEq, Nat.reduceEqDiff, Nat.reduceLT, Nat.reduceAdd, Nat.reduceMul, Int.ofNat_lt, Int.ofNat_le, exists_const, ae_app, ap_slc, Option.map_none, mkR_none, mkR_some, ar_look, ae_mset, ae_rng, ae_mkmap0, ar_ent, lookV_push, lookV_lowed, msetV_push, msetV_lowed, lt_put, same_put, sto_over, sto_lowed, cs_dead, Option.map_some, beq_self_eq_true, decide_true, cs_true, cs_false]
      exact ⟨by unfold agreeV; rw [hg]; rfl, hK⟩
    · have qe := trivial
      simp (config := {contextual := true, maxDischargeDepth := 12}) only [tb, h0, h1, hlen, hc, k1, k2, k3, k4, ↓bD0, ↓bD1, ↓bD2, ↓bD3, ↓bD4, ↓bD5, ↓bD6, bU0, bU1, bU2, bU3, bU4, bU5, bU6, bU7, bU8, bU9, bU10, bU11, bU12, bU13, forall_const, List.all_cons, List.all_nil, Option.map_some, List.map_cons, List.map_nil, ne_eq, implies_true, isNx, cs_dec, cs_not, cs_and, cs_or, cs_valid, eq_self, ↓wp_cond, ↓wp_loop, ↓reduceIte, reduceCtorEq, Nat.reduceEqDiff, Nat.reduceLT, Nat.reduceAdd, Nat.reduceMul, Int.ofNat_lt, Int.ofNat_le, exists_const, ae_app, ap_slc, Option.map_none, mkR_none, mkR_some, ar_look, ae_mset, ae_rng, ae_mkmap0, ar_ent, lookV_push, lookV_lowed, msetV_push, msetV_lowed, lt_put, same_put, sto_over, sto_lowed, cs_dead, Option.map_some, beq_self_eq_true, decide_true, cs_true, cs_false]
      exact ⟨by unfold agreeV; rw [hg]; rfl, hK⟩
theorem q_Agree (cl : Bool) {v w : AV} {l m : List Nd} {s : St} (h : read ndC s v = some l) (k : read ndC s w = some m) (hl : l.length ≤ 100000) (hm : m.length ≤ 100000) : acall (conLLs agreeV) cl [v, w] s = some (agreeV l m, s) := conLLs_call agreeV_ground h k hl hm cl
theorem q_Within (cl : Bool) {v w : AV} {l m : List Nd} {s : St} (h : read ndC s v = some l) (k : read ndC s w = some m) (hl : l.length ≤ 100000) (hm : m.length ≤ 100000) : acall (conLLs withinV) cl [v, w] s = some (withinV l m, s) := conLLs_call withinV_ground h k hl hm cl

end Go.AM
end
/-
  The reference's put and Join. Own work of this project; in part printed by a program of it.
-/
section
set_option linter.unusedVariables false
set_option linter.unusedSimpArgs false
set_option maxRecDepth 100000
set_option maxHeartbeats 8000000
namespace Go.AM
open Go Go.Proofs

/-- Where a node goes: behind all that come before it, from the start on. -/
def posL (x : Nd) : List Nd → Nat
  | [] => 0
  | y :: r => if y.d.before x.d = true then posL x r + 1 else 0
def putL (l : List Nd) (x : Nd) : List Nd := l.take (posL x l) ++ x :: l.drop (posL x l)
theorem posL_le (x : Nd) : ∀ l, posL x l ≤ l.length
  | [] => Nat.le_refl _
  | y :: r => by
    have := posL_le x r
    simp only [posL]
    split <;> simp <;> omega
theorem posL_eq (x : Nd) : ∀ (l : List Nd) (i : Nat), i ≤ l.length → (∀ k y, k < i → l[k]? = some y → y.d.before x.d = true) → (∀ y, l[i]? = some y → y.d.before x.d = false) → posL x l = i
  | [], i, h, _, _ => by simp at h; subst h; rfl
  | y :: r, 0, _, _, h => by
    have := h y rfl
    simp [posL, this]
  | y :: r, i + 1, hi, hp, hs => by
    have h1 := hp 0 y (by omega) rfl
    have := posL_eq x r i (by simpa using hi) (fun k z hk hz => hp (k + 1) z (by omega) (by simpa using hz)) fun z hz => hs z (by simpa using hz)
    simp [posL, h1, this]
/-- Appending to a slice of one element without room. -/
theorem app_cap1 {s t : St} {x : Nd} {v : AV} {m : List Nd} (hK : Keep s t) (hr : read ndC t v = some m) (hm : m.length ≤ lim) : ∃ u t', appV (t.push (.row (Nd.av x) true)) 6 48 (.sl t.next 0 1 (some 1) 6) v = some (u, t') ∧ Keep s t' ∧ read ndC t' u = some (x :: m) ∧ Keep t t' := by
  have hr1 : read ndC (t.push (.row (Nd.av x) true)) v = some m := ((Keep.refl t).push _).read hr
  have e1 : shown (t.push (.row (Nd.av x) true)) 6 v = some (ndC.cells m) := read_shown hr1
  have e2 : lenOf v = some m.length := read_len hr1
  have hg := St.get_push_new t (.row (Nd.av x) true)
  by_cases h0 : m = []
  · subst h0
    refine ⟨.sl t.next 0 1 (some 1) 6, t.push (.row (Nd.av x) true), ?_, hK.push _, ?_, (Keep.refl t).push _⟩
    · simp only [appV, e1, e2, aappend, if_true, hg, List.length_nil]
    · exact read_of (C := ndC) (n := 1) rfl hg (by simp [ndC, Nd.av]) rfl
  · have h0' : m.length ≠ 0 := by simpa using h0
    refine ⟨.sl (t.push (.row (Nd.av x) true)).next 0 (1 + m.length) none 6, (t.push (.row (Nd.av x) true)).push (.row (Nd.av x ++ ndC.cells m) true), ?_, (hK.push _).push _, ?_, ((Keep.refl t).push _).push _⟩
    · simp only [appV, e1, e2, aappend, if_true, hg, if_neg h0']
      rw [if_pos ⟨by simp [Nd.av], by unfold lim at hm; simp [roomBytes]; omega⟩, if_neg (by omega)]
      simp [Nd.av]
    · have hc : Nd.av x ++ ndC.cells m = ndC.cells (x :: m) := rfl
      rw [hc]
      refine read_of (C := ndC) (by simp; omega) (St.get_push_new _ _) ?_ ?_
      · rw [cells_len, List.length_cons, Nat.add_comm 1]; omega
      · have : (1 + m.length) * ndC.sz = (ndC.cells (x :: m)).length := by rw [cells_len, List.length_cons, Nat.add_comm]
        rw [this]
        simp
def capNone : AV → Bool
  | .sl _ _ _ (some _) _ => false
  | _ => true
def pPut : List AV → St → Option (List Nd × Option AV) := fun xs s => match xs with
  | [v, .agg cs] => match read ndC s v, ndC.dec cs with
    | some l, some x => if l.length ≤ 100000 ∧ capNone v = true then some (putL l x, none) else none
    | _, _ => none
  | _ => none
theorem capNone_slc {v : AV} (h : capNone v = true) : ∀ id off n c z, v = .sl id off n (some c) z → n ≤ c := by
  rintro id off n c z rfl
  cases h
theorem pPut_some {xs : List AV} {s : St} {r : List Nd × Option AV} (h : pPut xs s = some r) : ∃ v l x, xs = [v, .agg (Nd.av x)] ∧ read ndC s v = some l ∧ l.length ≤ 100000 ∧ capNone v = true ∧ r = (putL l x, none) := by
  unfold pPut at h
  split at h
  · split at h
    · split at h
      · rename_i v _ _ _ l x hr hx hc
        injection h with h
        have := ndC.enc_dec _ _ hx
        exact ⟨v, l, x, by rw [this]; rfl, hr, hc.1, hc.2, h.symm⟩
      · cases h
    · cases h
  · cases h
theorem s_Put : SoundAt Try.prog 46 (conF ndC pPut) :=
  con_fresh (tb_sound (l := [(43, conDD fBefore)]) (by simpa using s_Before)) mixed Try.func46 k46 c46 fun args s r ee h => by
    obtain ⟨v, l, x, rfl, hr, hls, hcap, hres⟩ := pPut_some h
    obtain ⟨rfl, rfl⟩ := Prod.mk.inj hres
    refine ⟨by simp, by simp [a46], fun env hlen ha => ?_⟩
    have h0 : E env 0 = _ := ha 0 _ rfl
    have h1 : E env 1 = _ := ha 1 _ rfl
    have hlen : elen env = _ := hlen
    simp only [a46] at hlen
    unfold a46
    have hl : l.length ≤ lim := by unfold lim; omega
    have hL := lenV_read hr
    simp (config := {contextual := true, maxDischargeDepth := 12}) only [tb, h0, h1, hlen, hL, ↓bD0, ↓bD1, ↓bD2, ↓bD3, ↓bD4, ↓bD5, ↓bD6, bU0, bU1, bU2, bU3, bU4, bU5, bU6, bU7, bU8, bU9, bU10, bU11, bU12, bU13, forall_const, List.all_cons, List.all_nil, Option.map_some, List.map_cons, List.map_nil, ne_eq, implies_true, isNx, cs_dec, cs_not, cs_and, cs_or, cs_valid, eq_self, ↓wp_cond, ↓wp_loop, ↓reduceIte, reduceCtorEq, Nat.reduceEqDiff, Nat.reduceLT, Nat.reduceAdd, Nat.reduceMul, Int.ofNat_lt, Int.ofNat_le, exists_const, ae_app, ap_slc, Option.map_none, mkR_none, mkR_some, ar_look, ae_mset, ae_rng, ae_mkmap0, ar_ent, lookV_push, lookV_lowed, msetV_push, msetV_lowed, lt_put, same_put, sto_over, sto_lowed, cs_dead, Option.map_some, beq_self_eq_true, decide_true, cs_true, cs_false]
    obtain ⟨I, hI⟩ : ∃ I : Nat → Env → St → Prop, ∀ n e t, I n e t = (t = s.push (.row (Nd.av x) true) ∧ ∃ i : Nat, n + i = l.length ∧ elen e = 35 ∧ E e 0 = v ∧ E e 3 = .ptr s.next 0 ∧ E e 5 = .int .i64 (i : Int) ∧ ∀ k y, k < i → l[k]? = some y → y.d.before x.d = true) := ⟨fun n e t => (t = s.push (.row (Nd.av x) true) ∧ ∃ i : Nat, n + i = l.length ∧ elen e = 35 ∧ E e 0 = v ∧ E e 3 = .ptr s.next 0 ∧ E e 5 = .int .i64 (i : Int) ∧ ∀ k y, k < i → l[k]? = some y → y.d.before x.d = true), fun _ _ _ => rfl⟩
    refine lwp_inv I (n := l.length) ?_ ?_
    · rw [hI]
      exact ⟨rfl, 0, by omega, by simp only [E_pne, E_psame, elen_put, Nat.reduceEqDiff, ne_eq, not_false_eq_true, Nat.reduceLT, hlen], by simp only [E_pne, E_psame, elen_put, Nat.reduceEqDiff, ne_eq, not_false_eq_true, Nat.reduceLT, h0], by simp only [E_pne, E_psame, elen_put, Nat.reduceEqDiff, ne_eq, not_false_eq_true, Nat.reduceLT, hlen], by simp only [E_pne, E_psame, elen_put, Nat.reduceEqDiff, ne_eq, not_false_eq_true, Nat.reduceLT, hlen]; rfl, fun k y hk => by omega⟩
    intro n e t hi
    rw [hI] at hi
    obtain ⟨rfl, i, hn, he, e0, e3, e5, hpre⟩ := hi
    by_cases hlt : i < l.length
    · obtain ⟨y, hy⟩ := getsome hlt
      have hw2 := wrap_add1 (n := i) (by omega)
      obtain ⟨a1, a2, _, _, _, al⟩ := nd_lods hr (.refl _) hy
      have i1 := nd_idx hr hy .i64
      cases hb : y.d.before x.d
      · have hpos : posL x l = i := posL_eq x l i (by omega) hpre (fun z hz => by rw [hy] at hz; cases hz; exact hb)
        obtain ⟨v1, hs1, hr1⟩ := slc_lo hr (k := .i64) (i := (i : Int)) (n := i) rfl (by omega)
        obtain ⟨v2, hs2, hr2⟩ := slc_hi hr (capNone_slc hcap) (k := .i64) (i := (i : Int)) (n := i) rfl (by omega)
        have hs1 : slcV 6 v (some (.int .i64 (i : Int))) none = some v1 := hs1
        have hs2 : slcV 6 v none (some (.int .i64 (i : Int))) = some v2 := hs2
        have hKb := (Keep.refl s).push (.row (Nd.av x) true)
        obtain ⟨u, t1, hap1, hK1, hru, hKt⟩ := app_cap1 (x := x) hKb (hr1 _ hKb) (by simp; omega)
        obtain ⟨u2, t2, hap2, hK2, hO2⟩ := appV_list (.refl t1) (.nil ndC t1 t1) (hr2 _ hK1) 48 (by simp [roomBytes]; omega)
        obtain ⟨u3, t3, hap3, hK3, hO3⟩ := appV_list (hK1.trans hK2) (hO2.from hK1.next) (hK2.read hru) 48 (by simp [roomBytes]; omega)
        have hap1 : appV ((s.push (.row (Nd.av x) true)).push (.row (Nd.av x) true)) 6 48 (.sl (s.push (.row (Nd.av x) true)).next 0 1 (some 1) 6) v1 = some (u, t1) := hap1
        have hap2 : appV t1 6 48 .nils v2 = some (u2, t2) := hap2
        have hap3 : appV t2 6 48 u2 u = some (u3, t3) := hap3
        simp (config := {contextual := true, maxDischargeDepth := 12}) only [tb, q_Before, e0, e3, e5, he, hL, hlt, hw2, a2, al, i1, hb, hs1, hs2, hap1, hap2, hap3, ↓bD0, ↓bD1, ↓bD2, ↓bD3, ↓bD4, ↓bD5, ↓bD6, bU0, bU1, bU2, bU3, bU4, bU5, bU6, bU7, bU8, bU9, bU10, bU11, bU12, bU13, forall_const, List.all_cons, List.all_nil, Option.map_some, List.map_cons, List.map_nil, ne_eq, implies_true, isNx, cs_dec, cs_not, cs_and, cs_or, cs_valid, eq_self, ↓wp_cond, ↓wp_loop, ↓reduceIte, reduceCtorEq, Nat.reduceEqDiff, Nat.reduceLT, Nat.reduceAdd, Nat.reduceMul, Int.ofNat_lt, Int.ofNat_le, exists_const, ae_app, ap_slc, Option.map_none, mkR_none, mkR_some, ar_look, ae_mset, ae_rng, ae_mkmap0, ar_ent, lookV_push, lookV_lowed, msetV_push, msetV_lowed, lt_put, same_put, sto_over, sto_lowed, cs_dead, Option.map_some, beq_self_eq_true, decide_true, cs_true, cs_false]
        exact ⟨hK3, _, rfl, by simpa [putL, hpos] using hO3⟩
      · skip
        simp (config := {contextual := true, maxDischargeDepth := 12}) only [tb, q_Before, e0, e3, e5, he, hL, hlt, hw2, a2, al, i1, hb, ↓bD0, ↓bD1, ↓bD2, ↓bD3, ↓bD4, ↓bD5, ↓bD6, bU0, bU1, bU2, bU3, bU4, bU5, bU6, bU7, bU8, bU9, bU10, bU11, bU12, bU13, forall_const, List.all_cons, List.all_nil, Option.map_some, List.map_cons, List.map_nil, ne_eq, implies_true, isNx, cs_dec, cs_not, cs_and, cs_or, cs_valid, eq_self, ↓wp_cond, ↓wp_loop, ↓reduceIte, reduceCtorEq, Nat.reduceEqDiff, Nat.reduceLT, Nat.reduceAdd, Nat.reduceMul, Int.ofNat_lt, Int.ofNat_le, exists_const, ae_app, ap_slc, Option.map_none, mkR_none, mkR_some, ar_look, ae_mset, ae_rng, ae_mkmap0, ar_ent, lookV_push, lookV_lowed, msetV_push, msetV_lowed, lt_put, same_put, sto_over, sto_lowed, cs_dead, Option.map_some, beq_self_eq_true, decide_true, cs_true, cs_false]
        refine ⟨n - 1, by omega, ?_⟩
        rw [hI]
        refine ⟨rfl, i + 1, by omega, by simp only [E_pne, E_psame, elen_put, Nat.reduceEqDiff, ne_eq, not_false_eq_true, Nat.reduceLT, he], by simp only [E_pne, E_psame, elen_put, Nat.reduceEqDiff, ne_eq, not_false_eq_true, Nat.reduceLT, e0], by simp only [E_pne, E_psame, elen_put, Nat.reduceEqDiff, ne_eq, not_false_eq_true, Nat.reduceLT, e3], by simp only [E_pne, E_psame, elen_put, Nat.reduceEqDiff, ne_eq, not_false_eq_true, Nat.reduceLT, he], fun k z hk hz => ?_⟩
        by_cases hki : k = i
        · subst hki
          rw [hy] at hz; cases hz
          exact hb
        · exact hpre k z (by omega) hz
    · have hpos : posL x l = i := posL_eq x l i (by omega) hpre (fun z hz => by have := getlt hz; omega)
      obtain ⟨v1, hs1, hr1⟩ := slc_lo hr (k := .i64) (i := (i : Int)) (n := i) rfl (by omega)
      obtain ⟨v2, hs2, hr2⟩ := slc_hi hr (capNone_slc hcap) (k := .i64) (i := (i : Int)) (n := i) rfl (by omega)
      have hs1 : slcV 6 v (some (.int .i64 (i : Int))) none = some v1 := hs1
      have hs2 : slcV 6 v none (some (.int .i64 (i : Int))) = some v2 := hs2
      have hKb := (Keep.refl s).push (.row (Nd.av x) true)
      obtain ⟨u, t1, hap1, hK1, hru, hKt⟩ := app_cap1 (x := x) hKb (hr1 _ hKb) (by simp; omega)
      obtain ⟨u2, t2, hap2, hK2, hO2⟩ := appV_list (.refl t1) (.nil ndC t1 t1) (hr2 _ hK1) 48 (by simp [roomBytes]; omega)
      obtain ⟨u3, t3, hap3, hK3, hO3⟩ := appV_list (hK1.trans hK2) (hO2.from hK1.next) (hK2.read hru) 48 (by simp [roomBytes]; omega)
      have hap1 : appV ((s.push (.row (Nd.av x) true)).push (.row (Nd.av x) true)) 6 48 (.sl (s.push (.row (Nd.av x) true)).next 0 1 (some 1) 6) v1 = some (u, t1) := hap1
      have hap2 : appV t1 6 48 .nils v2 = some (u2, t2) := hap2
      have hap3 : appV t2 6 48 u2 u = some (u3, t3) := hap3
      simp (config := {contextual := true, maxDischargeDepth := 12}) only [tb, q_Before, e0, e3, e5, he, hL, hlt, hs1, hs2, hap1, hap2, hap3, ↓bD0, ↓bD1, ↓bD2, ↓bD3, ↓bD4, ↓bD5, ↓bD6, bU0, bU1, bU2, bU3, bU4, bU5, bU6, bU7, bU8, bU9, bU10, bU11, bU12, bU13, forall_const, List.all_cons, List.all_nil, Option.map_some, List.map_cons, List.map_nil, ne_eq, implies_true, isNx, cs_dec, cs_not, cs_and, cs_or, cs_valid, eq_self, ↓wp_cond, ↓wp_loop, ↓reduceIte, reduceCtorEq, Nat.reduceEqDiff, Nat.reduceLT, Nat.reduceAdd, Nat.reduceMul, Int.ofNat_lt, Int.ofNat_le, exists_const, ae_app, ap_slc, Option.map_none, mkR_none, mkR_some, ar_look, ae_mset, ae_rng, ae_mkmap0, ar_ent, lookV_push, lookV_lowed, msetV_push, msetV_lowed, lt_put, same_put, sto_over, sto_lowed, cs_dead, Option.map_some, beq_self_eq_true, decide_true, cs_true, cs_false]
      exact ⟨hK3, _, rfl, by simpa [putL, hpos] using hO3⟩

/-! ### The reference's Join -/
def rmerge (x y : Nd) : Nd := if x.clash y = true then nd0 else x.merge y
def jstep (out : List Nd) (y : Nd) : List Nd := match lookN out y.d with
  | some (k, x) => out.set k (rmerge x y)
  | none => putL out y
def refJ (l m : List Nd) : List Nd := m.foldl jstep l
theorem putL_len (l : List Nd) (x : Nd) : (putL l x).length = l.length + 1 := by
  have := posL_le x l
  simp [putL]
  omega
theorem jstep_len (l : List Nd) (x : Nd) : (jstep l x).length ≤ l.length + 1 := by
  unfold jstep
  split
  · simp
  · rw [putL_len]; exact Nat.le_refl _
theorem cells_take (l : List Nd) (k : Nat) (hk : k ≤ l.length) : (ndC.cells l).take (k * 6) = ndC.cells (l.take k) := by
  conv => lhs; rw [← List.take_append_drop k l, cells_append]
  have : k * 6 = (ndC.cells (l.take k)).length := by rw [cells_len, List.length_take, Nat.min_eq_left (by omega)]; rfl
  rw [this, List.take_left]
theorem cells_drop (l : List Nd) (k : Nat) (hk : k ≤ l.length) : (ndC.cells l).drop (k * 6) = ndC.cells (l.drop k) := by
  conv => lhs; rw [← List.take_append_drop k l, cells_append]
  have : k * 6 = (ndC.cells (l.take k)).length := by rw [cells_len, List.length_take, Nat.min_eq_left (by omega)]; rfl
  rw [this, List.drop_left]
theorem cells_setAt {l : List Nd} {k : Nat} (hk : k < l.length) (z : Nd) : setAt (ndC.cells l) (k * 6) (Nd.av z) = ndC.cells (l.set k z) := by
  have e : k * 6 + (Nd.av z).length = (k + 1) * 6 := by
    have : (Nd.av z).length = 6 := rfl
    omega
  rw [setAt, e, cells_take l k (by omega), cells_drop l (k + 1) (by omega), List.set_eq_take_append_cons_drop, if_pos hk, cells_append, cells_cons, List.append_assoc]
  rfl
theorem own_set {s t : St} {v : AV} {out : List Nd} (hK : Keep s t) (hO : Own ndC s t v out) {k : Nat} (hk : k < out.length) (z : Nd) : ∃ t', sto t 6 (.ptr (bid v) (boff v + k * 6)) (.agg (Nd.av z)) = some (.und, t') ∧ Keep s t' ∧ Own ndC s t' v (out.set k z) := by
  rcases hO with ⟨rfl, rfl⟩ | ⟨j, rfl, h0, h1, h⟩
  · simp at hk
  · refine ⟨t.put j (.row (ndC.cells (out.set k z)) true), ?_, hK.put _ h1 (St.get_lt h), .inr ⟨j, by simp, by intro e; exact h0 (by have := congrArg List.length e; simpa using this), h1, St.get_put_same h⟩⟩
    have hcl : (ndC.cells out).length = out.length * 6 := cells_len ndC out
    have h6 : (Nd.av z).length = 6 := rfl
    have ho : (Nd.av z).all AV.one = true := rfl
    simp only [bid, boff, Nat.zero_add, sto, h, AV.cells, h6, ho, true_and]
    rw [if_pos (by omega), cells_setAt hk]
theorem own_capNone {s t : St} {v : AV} {out : List Nd} (hO : Own ndC s t v out) : capNone v = true := by
  rcases hO with ⟨rfl, rfl⟩ | ⟨j, rfl, _⟩ <;> rfl
def gRJoin (l m : List Nd) : Option (List Nd × Option AV) := if l.length ≤ 10000 ∧ m.length ≤ 10000 then some (refJ l m, none) else none
theorem s_RJoin : SoundAt Try.prog 33 (conF ndC (pLL ndC ndC gRJoin)) :=
  con_fresh (tb_sound (l := [(44, conLD ndC fFind), (45, conNN fRefMerge), (46, conF ndC pPut)]) (by simpa using ⟨s_Find, s_RefMerge, s_Put⟩)) mixed Try.func33 k33 c33 fun args s r ee h => by
    obtain ⟨v, w, l, m, rfl, hr, hw, hl, hm, hp⟩ := pLL_some h
    unfold gRJoin at hp
    split at hp
    rotate_left
    · cases hp
    rename_i hs
    injection hp with hp
    obtain ⟨rfl, rfl⟩ := Prod.mk.inj hp
    refine ⟨by simp, by simp [a33], fun env hlen ha => ?_⟩
    have h0 : E env 0 = _ := ha 0 _ rfl
    have h1 : E env 1 = _ := ha 1 _ rfl
    have hlen : elen env = _ := hlen
    simp only [a33] at hlen
    unfold a33
    have hL := lenV_read hr
    have hM := lenV_read hw
    obtain ⟨u0, t0, hap0, hK0, hO0⟩ := appV_list (.refl s) (.nil ndC s s) hr 48 (by unfold lim at hl; simp [roomBytes]; omega)
    have hap0 : appV s 6 48 .nils v = _ := hap0
    simp (config := {contextual := true, maxDischargeDepth := 12}) only [tb, h0, h1, hlen, hL, hap0, ↓bD0, ↓bD1, ↓bD2, ↓bD3, ↓bD4, ↓bD5, ↓bD6, bU0, bU1, bU2, bU3, bU4, bU5, bU6, bU7, bU8, bU9, bU10, bU11, bU12, bU13, forall_const, List.all_cons, List.all_nil, Option.map_some, List.map_cons, List.map_nil, ne_eq, implies_true, isNx, cs_dec, cs_not, cs_and, cs_or, cs_valid, eq_self, ↓wp_cond, ↓wp_loop, ↓reduceIte, reduceCtorEq, Nat.reduceEqDiff, Nat.reduceLT, Nat.reduceAdd, Nat.reduceMul, Int.ofNat_lt, Int.ofNat_le, exists_const, ae_app, ap_slc, Option.map_none, mkR_none, mkR_some, ar_look, ae_mset, ae_rng, ae_mkmap0, ar_ent, lookV_push, lookV_lowed, msetV_push, msetV_lowed, lt_put, same_put, sto_over, sto_lowed, cs_dead, Option.map_some, beq_self_eq_true, decide_true, cs_true, cs_false]
    obtain ⟨I, hI⟩ : ∃ I : Nat → Env → St → Prop, ∀ n e t, I n e t = (Keep s t ∧ ∃ (i : Nat) (out : List Nd), n + i = m.length ∧ elen e = 47 ∧ E e 1 = w ∧ E e 6 = .int .i64 (i : Int) ∧ Own ndC s t (E e 5) out ∧ out.length ≤ l.length + i ∧ refJ out (m.drop i) = refJ l m) := ⟨fun n e t => (Keep s t ∧ ∃ (i : Nat) (out : List Nd), n + i = m.length ∧ elen e = 47 ∧ E e 1 = w ∧ E e 6 = .int .i64 (i : Int) ∧ Own ndC s t (E e 5) out ∧ out.length ≤ l.length + i ∧ refJ out (m.drop i) = refJ l m), fun _ _ _ => rfl⟩
    refine lwp_inv I (n := m.length) ?_ ?_
    · rw [hI]
      exact ⟨hK0, 0, l, by omega, by simp only [E_pne, E_psame, elen_put, Nat.reduceEqDiff, ne_eq, not_false_eq_true, Nat.reduceLT, hlen], by simp only [E_pne, E_psame, elen_put, Nat.reduceEqDiff, ne_eq, not_false_eq_true, Nat.reduceLT, h1], by simp only [E_pne, E_psame, elen_put, Nat.reduceEqDiff, ne_eq, not_false_eq_true, Nat.reduceLT, hlen]; rfl, by simp only [E_pne, E_psame, elen_put, Nat.reduceEqDiff, ne_eq, not_false_eq_true, Nat.reduceLT, hlen]; simpa using hO0, by omega, rfl⟩
    intro n e t hi
    rw [hI] at hi
    obtain ⟨hK, i, out, hn, he, e1, e6, hO, hol, hrj⟩ := hi
    by_cases hlt : i < m.length
    · obtain ⟨y, hy⟩ := getsome hlt
      have hw2 := wrap_add1 (n := i) (by omega)
      obtain ⟨a1, a2, _, _, _, al⟩ := nd_lods hw hK hy
      have i1 := nd_idx hw hy .i64
      have hdr : m.drop i = y :: m.drop (i + 1) := by
        rw [List.drop_eq_getElem_cons hlt]
        congr 1
        exact (List.getElem?_eq_some_iff.1 hy).2
      rw [hdr] at hrj
      have hrj : refJ (jstep out y) (m.drop (i + 1)) = refJ l m := hrj
      have hro := hO.read
      have qf := q_Find false hro (by unfold lim; omega) y.d
      rw [findL_look] at qf
      cases hf : lookN out y.d with
      | none =>
        rw [hf] at qf
        simp only at qf
        have hz : ((0 : Int) ≤ -1) = False := by decide
        have hj : jstep out y = putL out y := by unfold jstep; rw [hf]
        rw [hj] at hrj
        obtain ⟨u, t1, hc, hK1, hO1⟩ := acall_fresh (D := ndC) (p := pPut) (xs := [E e 5, .agg (Nd.av y)]) (s := t) (l := putL out y) (e := none) (by
          have e1 : read ndC { heap := t.heap, next := t.next, low := t.next } (E e 5) = some out := hro
          have e2 : ndC.dec (Nd.av y) = some y := rfl
          simp only [pPut, e1, e2, own_capNone hO]
          rw [if_pos ⟨by omega, trivial⟩]) (by simp)
        rw [mkR_none] at hc
        simp (config := {contextual := true, maxDischargeDepth := 12}) only [tb, e1, e6, he, hL, hM, hlt, hw2, a1, a2, al, i1, qf, hz, hc, ↓bD0, ↓bD1, ↓bD2, ↓bD3, ↓bD4, ↓bD5, ↓bD6, bU0, bU1, bU2, bU3, bU4, bU5, bU6, bU7, bU8, bU9, bU10, bU11, bU12, bU13, forall_const, List.all_cons, List.all_nil, Option.map_some, List.map_cons, List.map_nil, ne_eq, implies_true, isNx, cs_dec, cs_not, cs_and, cs_or, cs_valid, eq_self, ↓wp_cond, ↓wp_loop, ↓reduceIte, reduceCtorEq, Nat.reduceEqDiff, Nat.reduceLT, Nat.reduceAdd, Nat.reduceMul, Int.ofNat_lt, Int.ofNat_le, exists_const, ae_app, ap_slc, Option.map_none, mkR_none, mkR_some, ar_look, ae_mset, ae_rng, ae_mkmap0, ar_ent, lookV_push, lookV_lowed, msetV_push, msetV_lowed, lt_put, same_put, sto_over, sto_lowed, cs_dead, Option.map_some, beq_self_eq_true, decide_true, cs_true, cs_false]
        refine ⟨n - 1, by omega, ?_⟩
        rw [hI]
        exact ⟨hK.trans hK1, i + 1, putL out y, by omega, by simp only [E_pne, E_psame, elen_put, Nat.reduceEqDiff, ne_eq, not_false_eq_true, Nat.reduceLT, he], by simp only [E_pne, E_psame, elen_put, Nat.reduceEqDiff, ne_eq, not_false_eq_true, Nat.reduceLT, e1], by simp only [E_pne, E_psame, elen_put, Nat.reduceEqDiff, ne_eq, not_false_eq_true, Nat.reduceLT, he], by simp only [E_pne, E_psame, elen_put, Nat.reduceEqDiff, ne_eq, not_false_eq_true, Nat.reduceLT, he]; exact hO1.from hK.next, by rw [putL_len]; omega, hrj⟩
      | some p =>
        obtain ⟨k, x⟩ := p
        obtain ⟨hx, hxd⟩ := lookN_some hf
        rw [hf] at qf
        simp only at qf
        have hz : ((0 : Int) ≤ (k : Int)) = True := eq_true (by omega)
        obtain ⟨b1, _, _, _, _, bl⟩ := nd_lods hro (.refl _) hx
        have i2 := nd_idx hro hx .i64
        have hj : jstep out y = out.set k (rmerge x y) := by unfold jstep; rw [hf]
        rw [hj] at hrj
        obtain ⟨b, hMg⟩ : ∃ b, refMergeV x y = .tup [.agg (Nd.av (rmerge x y)), .bool b] := by
          unfold refMergeV rmerge
          split
          · exact ⟨_, rfl⟩
          · exact ⟨_, rfl⟩
        obtain ⟨t1, hst, hK1, hO1⟩ := own_set hK hO (getlt hx) (rmerge x y)
        simp (config := {contextual := true, maxDischargeDepth := 12}) only [tb, q_RefMerge, e1, e6, he, hL, hM, hlt, hw2, a1, a2, al, i1, qf, hz, b1, bl, i2, hMg, hst, ↓bD0, ↓bD1, ↓bD2, ↓bD3, ↓bD4, ↓bD5, ↓bD6, bU0, bU1, bU2, bU3, bU4, bU5, bU6, bU7, bU8, bU9, bU10, bU11, bU12, bU13, forall_const, List.all_cons, List.all_nil, Option.map_some, List.map_cons, List.map_nil, ne_eq, implies_true, isNx, cs_dec, cs_not, cs_and, cs_or, cs_valid, eq_self, ↓wp_cond, ↓wp_loop, ↓reduceIte, reduceCtorEq, Nat.reduceEqDiff, Nat.reduceLT, Nat.reduceAdd, Nat.reduceMul, Int.ofNat_lt, Int.ofNat_le, exists_const, ae_app, ap_slc, Option.map_none, mkR_none, mkR_some, ar_look, ae_mset, ae_rng, ae_mkmap0, ar_ent, lookV_push, lookV_lowed, msetV_push, msetV_lowed, lt_put, same_put, sto_over, sto_lowed, cs_dead, Option.map_some, beq_self_eq_true, decide_true, cs_true, cs_false]
        refine ⟨n - 1, by omega, ?_⟩
        rw [hI]
        exact ⟨hK1, i + 1, out.set k (rmerge x y), by omega, by simp only [E_pne, E_psame, elen_put, Nat.reduceEqDiff, ne_eq, not_false_eq_true, Nat.reduceLT, he], by simp only [E_pne, E_psame, elen_put, Nat.reduceEqDiff, ne_eq, not_false_eq_true, Nat.reduceLT, e1], by simp only [E_pne, E_psame, elen_put, Nat.reduceEqDiff, ne_eq, not_false_eq_true, Nat.reduceLT, he], by simp only [E_pne, E_psame, elen_put, Nat.reduceEqDiff, ne_eq, not_false_eq_true, Nat.reduceLT, he]; exact hO1, by simp; omega, hrj⟩
    · obtain rfl : i = m.length := by omega
      rw [List.drop_length] at hrj
      have hrj : out = refJ l m := hrj
      simp (config := {contextual := true, maxDischargeDepth := 12}) only [tb, e1, e6, he, hL, hM, hlt, ↓bD0, ↓bD1, ↓bD2, ↓bD3, ↓bD4, ↓bD5, ↓bD6, bU0, bU1, bU2, bU3, bU4, bU5, bU6, bU7, bU8, bU9, bU10, bU11, bU12, bU13, forall_const, List.all_cons, List.all_nil, Option.map_some, List.map_cons, List.map_nil, ne_eq, implies_true, isNx, cs_dec, cs_not, cs_and, cs_or, cs_valid, eq_self, ↓wp_cond, ↓wp_loop, ↓reduceIte, reduceCtorEq, Nat.reduceEqDiff, Nat.reduceLT, Nat.reduceAdd, Nat.reduceMul, Int.ofNat_lt, Int.ofNat_le, exists_const, ae_app, ap_slc, Option.map_none, mkR_none, mkR_some, ar_look, ae_mset, ae_rng, ae_mkmap0, ar_ent, lookV_push, lookV_lowed, msetV_push, msetV_lowed, lt_put, same_put, sto_over, sto_lowed, cs_dead, Option.map_some, beq_self_eq_true, decide_true, cs_true, cs_false]
      exact ⟨hK, _, rfl, by rw [← hrj]; exact hO⟩

end Go.AM
end
/-
  Plain laws: the program's join is the reference's. Own work of this project.
-/
section
set_option linter.unusedVariables false
set_option linter.unusedSimpArgs false
namespace Go.AM
open Go Go.Proofs

theorem chain_pairwise : ∀ {l : List Nd}, chain ndLt l = true → l.Pairwise ltP
  | [], _ => .nil
  | [x], _ => by simp
  | x :: y :: r, h => by
    rw [chain, Bool.and_eq_true] at h
    have ih := chain_pairwise (l := y :: r) h.2
    have hxy : ltP x y := h.1
    rw [List.pairwise_cons]
    refine ⟨fun z hz => ?_, ih⟩
    rcases List.mem_cons.1 hz with rfl | hz
    · exact hxy
    · exact ltP_trans hxy ((List.pairwise_cons.1 ih).1 z hz)
theorem pairwise_chain : ∀ {l : List Nd}, l.Pairwise ltP → chain ndLt l = true
  | [], _ => rfl
  | [x], _ => rfl
  | x :: y :: r, h => by
    rw [List.pairwise_cons] at h
    rw [chain, Bool.and_eq_true]
    exact ⟨h.1 y (by simp), pairwise_chain h.2⟩
theorem ltP_ne {x y : Nd} (h : ltP x y) : x.d ≠ y.d := by
  intro e
  unfold ltP at h
  rw [e, before_irr] at h
  cases h
theorem look_cons_ne {x : Nd} {r : List Nd} {d : Dot} (h : x.d ≠ d) : lookN (x :: r) d = (lookN r d).map fun p => (p.1 + 1, p.2) := by
  simp [lookN, h]
theorem look_cons_eq {x : Nd} {r : List Nd} {d : Dot} (h : x.d = d) : lookN (x :: r) d = some (0, x) := by
  simp [lookN, h]
theorem look_above {l : List Nd} {x : Nd} (h : ∀ y ∈ l, ltP x y) : lookN l x.d = none := by
  induction l with
  | nil => rfl
  | cons y r ih =>
    rw [look_cons_ne (Ne.symm (ltP_ne (h y (by simp)))), ih fun z hz => h z (by simp [hz])]
    rfl
theorem jstep_above {x : Nd} {a : List Nd} {y : Nd} (h : ltP x y) : jstep (x :: a) y = x :: jstep a y := by
  unfold jstep
  rw [look_cons_ne (ltP_ne h)]
  cases hl : lookN a y.d with
  | none =>
    have hb : x.d.before y.d = true := h
    simp [putL, posL, hb]
  | some p => simp
theorem refJ_above {x : Nd} : ∀ {m a : List Nd}, (∀ y ∈ m, ltP x y) → refJ (x :: a) m = x :: refJ a m
  | [], a, _ => rfl
  | y :: r, a, h => by
    show refJ (jstep (x :: a) y) r = x :: refJ (jstep a y) r
    rw [jstep_above (h y (by simp)), refJ_above fun z hz => h z (by simp [hz])]
theorem jstep_below {x y : Nd} {a : List Nd} (h : ∀ z ∈ x :: a, ltP y z) : jstep (x :: a) y = y :: x :: a := by
  have hx := h x (by simp)
  have hb : x.d.before y.d = false := by
    cases hh : x.d.before y.d
    · rfl
    · exact (ltP_asymm hx hh).elim
  unfold jstep
  rw [look_above h]
  simp [putL, posL, hb]
theorem refJ_nil : ∀ {m : List Nd}, m.Pairwise ltP → refJ [] m = m
  | [], _ => rfl
  | y :: r, h => by
    rw [List.pairwise_cons] at h
    show refJ (jstep [] y) r = y :: r
    have : jstep [] y = [y] := rfl
    rw [this, refJ_above h.1, refJ_nil h.2]
theorem agree_skip {a b : List Nd} {y : Nd} (h : ∀ z ∈ a, ltP y z) : agreeL a (y :: b) = agreeL a b := by
  induction a with
  | nil => rfl
  | cons x r ih =>
    rw [agreeL_cons, agreeL_cons, ih fun z hz => h z (by simp [hz]), look_cons_ne (ltP_ne (h x (by simp)))]
    cases lookN b x.d <;> rfl
theorem agree_nil : ∀ (a : List Nd), agreeL a [] = true
  | [] => rfl
  | x :: r => by rw [agreeL_cons, agree_nil r]; rfl
theorem join_ref : ∀ (l m : List Nd), l.Pairwise ltP → m.Pairwise ltP → joinL l m = if agreeL l m = true then some (refJ l m) else none := by
  intro l m
  induction l, m using joinL.induct with
  | case1 b => intro _ h; simp [joinL, agreeL, refJ_nil h]
  | case2 x a => intro _ _; simp [joinL, agree_nil, refJ]
  | case3 x a y b h1 ih =>
    intro hl hm
    rw [List.pairwise_cons] at hl
    have hall : ∀ z ∈ y :: b, ltP x z := by
      intro z hz
      rcases List.mem_cons.1 hz with rfl | hz
      · exact h1
      · exact ltP_trans h1 ((List.pairwise_cons.1 hm).1 z hz)
    rw [joinL, if_pos h1, ih hl.2 hm, agreeL_cons, look_above hall, refJ_above hall]
    simp only [Bool.true_and]
    split <;> rfl
  | case4 x a y b h1 h2 ih =>
    intro hl hm
    have hm' := List.pairwise_cons.1 hm
    have hl' := List.pairwise_cons.1 hl
    have hall : ∀ z ∈ x :: a, ltP y z := by
      intro z hz
      rcases List.mem_cons.1 hz with rfl | hz
      · exact h2
      · exact ltP_trans h2 (hl'.1 z hz)
    rw [joinL, if_neg h1, if_pos h2, ih hl hm'.2, agree_skip hall]
    have : refJ (x :: a) (y :: b) = y :: refJ (x :: a) b := by
      show refJ (jstep (x :: a) y) b = _
      rw [jstep_below hall, refJ_above hm'.1]
    rw [this]
    split <;> rfl
  | case5 x a y b h1 h2 h3 =>
    intro hl hm
    have hd : x.d = y.d := by
      rcases dcmp_cases x.d y.d with ⟨_, q, _⟩ | ⟨_, _, q⟩ | ⟨_, _, _, q⟩
      · exact absurd q h1
      · exact absurd q h2
      · exact q
    rw [joinL, if_neg h1, if_neg h2, if_pos h3, agreeL_cons, look_cons_eq hd.symm]
    simp [h3]
  | case6 x a y b h1 h2 h3 ih =>
    intro hl hm
    have hm' := List.pairwise_cons.1 hm
    have hl' := List.pairwise_cons.1 hl
    have hd : x.d = y.d := by
      rcases dcmp_cases x.d y.d with ⟨_, q, _⟩ | ⟨_, _, q⟩ | ⟨_, _, _, q⟩
      · exact absurd q h1
      · exact absurd q h2
      · exact q
    have hya : ∀ z ∈ a, ltP y z := fun z hz => by
      have := hl'.1 z hz
      unfold ltP at this ⊢
      rw [← hd]
      exact this
    have hmb : ∀ z ∈ b, ltP (x.merge y) z := fun z hz => by
      have := hm'.1 z hz
      unfold ltP at this ⊢
      rw [merge_d hd]
      exact this
    rw [joinL, if_neg h1, if_neg h2, if_neg h3, ih hl'.2 hm'.2, agreeL_cons, look_cons_eq hd.symm, agree_skip hya]
    have hr : rmerge x y = x.merge y := by unfold rmerge; rw [if_neg h3]
    have hj : jstep (x :: a) y = x.merge y :: a := by
      unfold jstep
      rw [look_cons_eq hd]
      simp [hr]
    have : refJ (x :: a) (y :: b) = x.merge y :: refJ a b := by
      show refJ (jstep (x :: a) y) b = _
      rw [hj, refJ_above hmb]
    rw [this]
    have h3' : x.clash y = false := by simpa using h3
    simp only [h3', Bool.not_false, Bool.true_and]
    split <;> rfl
theorem store_sorted {l : List Nd} (h : storeL l = true) : l.Pairwise ltP := by
  simp only [storeL, Bool.and_eq_true] at h
  exact chain_pairwise h.2
theorem store_join {l m : List Nd} (hl : storeL l = true) (hm : storeL m = true) : joinL l m = if agreeL l m = true then some (refJ l m) else none := join_ref l m (store_sorted hl) (store_sorted hm)
end Go.AM
end
/-
  Plain laws of the join: by what stands at each dot. Own work of this project.
-/
section
set_option linter.unusedVariables false
set_option linter.unusedSimpArgs false
namespace Go.AM
open Go Go.Proofs

/-- What stands at a dot. -/
def getN (l : List Nd) (d : Dot) : Option Nd := (lookN l d).map (·.2)
theorem getN_nil (d : Dot) : getN [] d = none := rfl
theorem getN_cons (x : Nd) (r : List Nd) (d : Dot) : getN (x :: r) d = if x.d = d then some x else getN r d := by
  unfold getN
  by_cases h : x.d = d
  · rw [look_cons_eq h, if_pos h]; rfl
  · rw [look_cons_ne h, if_neg h]
    cases lookN r d <;> rfl
theorem getN_some : ∀ {l : List Nd} {d : Dot} {x : Nd}, getN l d = some x → x ∈ l ∧ x.d = d
  | [], d, x, h => by simp [getN_nil] at h
  | y :: r, d, x, h => by
    rw [getN_cons] at h
    split at h
    · injection h with h
      subst h
      exact ⟨by simp, by assumption⟩
    · obtain ⟨h1, h2⟩ := getN_some h
      exact ⟨by simp [h1], h2⟩
theorem getN_mem : ∀ {l : List Nd} {x : Nd}, l.Pairwise ltP → x ∈ l → getN l x.d = some x
  | [], x, _, h => by simp at h
  | y :: r, x, hp, h => by
    rw [List.pairwise_cons] at hp
    rw [getN_cons]
    rcases List.mem_cons.1 h with rfl | h
    · rw [if_pos rfl]
    · rw [if_neg (ltP_ne (hp.1 x h)), getN_mem hp.2 h]
theorem getN_none {l : List Nd} {d : Dot} (h : getN l d = none) : ∀ x ∈ l, x.d ≠ d := by
  unfold getN at h
  exact lookN_none (by simpa using h)
theorem getN_above {l : List Nd} {x : Nd} (h : ∀ y ∈ l, ltP x y) : getN l x.d = none := by
  unfold getN
  rw [look_above h]
  rfl
theorem nodup_of {l : List Nd} (h : l.Pairwise ltP) : l.Nodup := h.imp fun {a b} hab e => by
  subst e
  exact ltP_asymm hab hab
theorem getN_ext {l m : List Nd} (hl : l.Pairwise ltP) (hm : m.Pairwise ltP) (h : ∀ d, getN l d = getN m d) : l = m := by
  refine sorted_unique l m ((List.perm_ext_iff_of_nodup (nodup_of hl) (nodup_of hm)).2 fun x => ⟨fun hx => ?_, fun hx => ?_⟩) hl hm
  · have := getN_mem hl hx
    rw [h] at this
    exact (getN_some this).1
  · have := getN_mem hm hx
    rw [← h] at this
    exact (getN_some this).1
def comb : Option Nd → Option Nd → Option Nd
  | some x, some y => some (x.merge y)
  | some x, none => some x
  | none, y => y
theorem comb_dot {p q : Option Nd} {d : Dot} {y : Nd} (h : comb p q = some y) (hp : ∀ u, p = some u → u.d = d) (hq : ∀ u, q = some u → u.d = d) : y.d = d ∧ (p.isSome = true ∨ q.isSome = true) := by
  cases p with
  | none =>
    cases q with
    | none => cases h
    | some v => simp [comb] at h; subst h; exact ⟨hq v rfl, .inr rfl⟩
  | some u =>
    cases q with
    | none => simp [comb] at h; subst h; exact ⟨hp u rfl, .inl rfl⟩
    | some v =>
      simp [comb] at h
      subst h
      exact ⟨by rw [merge_d ((hp u rfl).trans (hq v rfl).symm)]; exact hq v rfl, .inl rfl⟩
theorem joinL_spec : ∀ (l m j : List Nd), l.Pairwise ltP → m.Pairwise ltP → joinL l m = some j → j.Pairwise ltP ∧ ∀ d, getN j d = comb (getN l d) (getN m d) := by
  intro l m
  have low : ∀ {z : Nd} {a b j : List Nd}, j.Pairwise ltP → (∀ d, getN j d = comb (getN a d) (getN b d)) → (∀ y ∈ a, ltP z y) → (∀ y ∈ b, ltP z y) → ∀ y ∈ j, ltP z y := by
    intro z a b j hj hg ha hb y hy
    have h1 := getN_mem hj hy
    rw [hg] at h1
    obtain ⟨_, h2⟩ := comb_dot h1 (fun u hu => (getN_some hu).2) fun u hu => (getN_some hu).2
    have key : ∀ {c : List Nd}, (getN c y.d).isSome = true → (∀ u ∈ c, ltP z u) → ltP z y := by
      intro c hc hz
      obtain ⟨u, hu⟩ := Option.isSome_iff_exists.1 hc
      obtain ⟨u1, u2⟩ := getN_some hu
      have := hz u u1
      unfold ltP at this ⊢
      rw [← u2]
      exact this
    rcases h2 with h2 | h2
    · exact key h2 ha
    · exact key h2 hb
  induction l, m using joinL.induct with
  | case1 b =>
    intro j _ hm h
    simp [joinL] at h
    subst h
    exact ⟨hm, fun d => by rw [getN_nil]; rfl⟩
  | case2 x a =>
    intro j hl _ h
    simp [joinL] at h
    subst h
    refine ⟨hl, fun d => ?_⟩
    rw [getN_nil]
    cases getN (x :: a) d <;> rfl
  | case3 x a y b h1 ih =>
    intro j hl hm h
    have hl' := List.pairwise_cons.1 hl
    have hall : ∀ z ∈ y :: b, ltP x z := by
      intro z hz
      rcases List.mem_cons.1 hz with rfl | hz
      · exact h1
      · exact ltP_trans h1 ((List.pairwise_cons.1 hm).1 z hz)
    rw [joinL, if_pos h1, Option.map_eq_some_iff] at h
    obtain ⟨j', hj, rfl⟩ := h
    obtain ⟨s1, s2⟩ := ih j' hl'.2 hm hj
    refine ⟨List.pairwise_cons.2 ⟨low s1 s2 hl'.1 hall, s1⟩, fun d => ?_⟩
    rw [getN_cons, getN_cons x a]
    by_cases hd : x.d = d
    · rw [if_pos hd, if_pos hd, ← hd, getN_above hall]; rfl
    · rw [if_neg hd, if_neg hd, s2]
  | case4 x a y b h1 h2 ih =>
    intro j hl hm h
    have hl' := List.pairwise_cons.1 hl
    have hm' := List.pairwise_cons.1 hm
    have hall : ∀ z ∈ x :: a, ltP y z := by
      intro z hz
      rcases List.mem_cons.1 hz with rfl | hz
      · exact h2
      · exact ltP_trans h2 (hl'.1 z hz)
    rw [joinL, if_neg h1, if_pos h2, Option.map_eq_some_iff] at h
    obtain ⟨j', hj, rfl⟩ := h
    obtain ⟨s1, s2⟩ := ih j' hl hm'.2 hj
    refine ⟨List.pairwise_cons.2 ⟨low s1 s2 hall hm'.1, s1⟩, fun d => ?_⟩
    rw [getN_cons, getN_cons y b]
    by_cases hd : y.d = d
    · rw [if_pos hd, if_pos hd, ← hd, getN_above hall]; rfl
    · rw [if_neg hd, if_neg hd, s2]
  | case5 x a y b h1 h2 h3 =>
    intro j _ _ h
    rw [joinL, if_neg h1, if_neg h2, if_pos h3] at h
    cases h
  | case6 x a y b h1 h2 h3 ih =>
    intro j hl hm h
    have hl' := List.pairwise_cons.1 hl
    have hm' := List.pairwise_cons.1 hm
    have hd : x.d = y.d := by
      rcases dcmp_cases x.d y.d with ⟨_, q, _⟩ | ⟨_, _, q⟩ | ⟨_, _, _, q⟩
      · exact absurd q h1
      · exact absurd q h2
      · exact q
    have hmd := merge_d hd
    rw [joinL, if_neg h1, if_neg h2, if_neg h3, Option.map_eq_some_iff] at h
    obtain ⟨j', hj, rfl⟩ := h
    obtain ⟨s1, s2⟩ := ih j' hl'.2 hm'.2 hj
    refine ⟨List.pairwise_cons.2 ⟨low s1 s2 (fun z hz => ?_) (fun z hz => ?_), s1⟩, fun d => ?_⟩
    · have := hl'.1 z hz
      unfold ltP at this ⊢
      rw [hmd, ← hd]
      exact this
    · have := hm'.1 z hz
      unfold ltP at this ⊢
      rw [hmd]
      exact this
    · rw [getN_cons, getN_cons x a, getN_cons y b, hmd, hd]
      by_cases hd' : y.d = d
      · rw [if_pos hd', if_pos hd', if_pos hd']; rfl
      · rw [if_neg hd', if_neg hd', if_neg hd', s2]

/-! ### At one dot -/
theorem clash_symm (x y : Nd) : x.clash y = y.clash x := by
  rw [Bool.eq_iff_iff, Nd.clash_true, Nd.clash_true]
  grind
theorem clash_self (x : Nd) : x.clash x = false := by
  rw [Nd.clash_false]
  exact ⟨rfl, rfl, rfl, .inr (.inr rfl)⟩
theorem merge_self (x : Nd) : x.merge x = x := by
  unfold Nd.merge
  split <;> rfl
theorem merge_comm {x y : Nd} (h : x.clash y = false) : x.merge y = y.merge x := by
  rw [Nd.clash_false] at h
  obtain ⟨⟨_, _⟩, ⟨_, _⟩, _, _⟩ := x
  obtain ⟨⟨_, _⟩, ⟨_, _⟩, _, _⟩ := y
  simp only [Nd.merge] at *
  grind
theorem clash_merge {x y : Nd} (h : x.clash y = false) : x.clash (x.merge y) = false ∧ y.clash (x.merge y) = false := by
  rw [Nd.clash_false] at h
  rw [Nd.clash_false, Nd.clash_false]
  unfold Nd.merge
  split <;> grind
theorem merge_absorb {x y : Nd} (h : x.clash y = false) : x.merge (x.merge y) = x.merge y ∧ (x.merge y).merge x = x.merge y := by
  rw [Nd.clash_false] at h
  obtain ⟨⟨_, _⟩, ⟨_, _⟩, _, _⟩ := x
  obtain ⟨⟨_, _⟩, ⟨_, _⟩, _, _⟩ := y
  simp only [Nd.merge] at *
  grind
theorem merge_assoc {x y z : Nd} (h : x.clash y = false) (k : x.clash z = false) (j : y.clash z = false) : (x.merge y).merge z = x.merge (y.merge z) := by
  rw [Nd.clash_false] at h k j
  obtain ⟨⟨_, _⟩, ⟨_, _⟩, _, _⟩ := x
  obtain ⟨⟨_, _⟩, ⟨_, _⟩, _, _⟩ := y
  obtain ⟨⟨_, _⟩, ⟨_, _⟩, _, _⟩ := z
  simp only [Nd.merge] at *
  grind
theorem merge_clash {x y z : Nd} (h : x.clash y = false) (k : x.clash z = false) (j : y.clash z = false) : (x.merge y).clash z = false := by
  unfold Nd.merge
  split <;> assumption
theorem merge_dead {x y : Nd} (h : x.x = 0) : (x.merge y).x = 0 := by
  unfold Nd.merge
  split <;> assumption
theorem agree_iff {l m : List Nd} (hl : l.Pairwise ltP) : agreeL l m = true ↔ ∀ d x y, getN l d = some x → getN m d = some y → x.clash y = false := by
  unfold agreeL
  rw [List.all_eq_true]
  constructor
  · intro h d x y hx hy
    obtain ⟨h1, h2⟩ := getN_some hx
    have := h x h1
    unfold getN at hy
    rw [← h2] at hy
    cases hk : lookN m x.d with
    | none => rw [hk] at hy; cases hy
    | some p =>
      obtain ⟨k, y'⟩ := p
      rw [hk] at hy this
      simp at hy this
      rw [← hy]
      exact this
  · intro h x hx
    cases hk : lookN m x.d with
    | none => rfl
    | some p =>
      obtain ⟨k, y⟩ := p
      have := h x.d x y (getN_mem hl hx) (by unfold getN; rw [hk]; rfl)
      simp [this]
end Go.AM
end
/-
  The answers of join.Agree, Within and Join as plain pairs. Own work of this project; in part printed by a program of it.
-/
section
set_option linter.unusedVariables false
set_option linter.unusedSimpArgs false
set_option maxRecDepth 100000
set_option maxHeartbeats 8000000
namespace Go.AM
open Go Go.Proofs

theorem tb_at (g : Nat) (c : Con) (r : List (Nat × Con)) (f : Nat) : tb ((g, c) :: r) f = if f = g then c else tb r f := nrfl rfl
def agreeP (l m : List Nd) : Bool × Int := if storeL l = true ∧ storeL m = true then (if agreeL l m = true then (true, 0) else (false, 0)) else (false, 2)
def withinP (l m : List Nd) : Bool × Int := if storeL l = true ∧ storeL m = true then (if agreeL l m = true then (decide (refJ l m = m), 0) else (false, 15)) else (false, 2)
def joinsP (l m : List Nd) : List Nd × Int := if storeL l = true ∧ storeL m = true then (if agreeL l m = true then (refJ l m, 0) else ([], 15)) else ([], 2)
theorem gJoin_P (l m : List Nd) : gJoin l m = some ((joinsP l m).1, some (.int .i64 (joinsP l m).2)) := by
  unfold gJoin joinsP
  by_cases h : storeL l = true ∧ storeL m = true
  · rw [if_pos h, if_pos h, store_join h.1 h.2]
    by_cases ha : agreeL l m = true
    · simp [ha]
    · simp [ha]
  · rw [if_neg h, if_neg h]
theorem agreeV_P (l m : List Nd) : agreeV l m = .tup [.bool (agreeP l m).1, .int .i64 (agreeP l m).2] := by
  unfold agreeV agreeP
  rw [gJoin_P]
  unfold joinsP
  by_cases h : storeL l = true ∧ storeL m = true
  · rw [if_pos h, if_pos h]
    by_cases ha : agreeL l m = true
    · rw [if_pos ha, if_pos ha]; rfl
    · rw [if_neg ha, if_neg ha]; rfl
  · rw [if_neg h, if_neg h]; rfl
theorem withinV_P (l m : List Nd) : withinV l m = .tup [.bool (withinP l m).1, .int .i64 (withinP l m).2] := by
  unfold withinV withinP
  rw [gJoin_P]
  unfold joinsP
  by_cases h : storeL l = true ∧ storeL m = true
  · rw [if_pos h, if_pos h]
    by_cases ha : agreeL l m = true
    · rw [if_pos ha, if_pos ha]; rfl
    · rw [if_neg ha, if_neg ha]; rfl
  · rw [if_neg h, if_neg h]; rfl
theorem joinsP_len (l m : List Nd) : (joinsP l m).1.length ≤ l.length + m.length := by
  rcases gJoin_cases l m with ⟨j, _, _, hj, hg⟩ | ⟨_, _, _, hg⟩ | ⟨_, hg⟩ <;> (rw [gJoin_P] at hg; injection hg with hg; have hg := (Prod.mk.inj hg).1; rw [hg])
  · exact joinL_len _ _ _ hj
  · simp
  · simp
theorem beq_eq_dec (a b : Bool) : (a == b) = decide (a = b) := by cases a <;> cases b <;> rfl

end Go.AM
end
/-
  Plain laws: the join of what does not clash is determined by what is in it. Own work of this project.
-/
section
set_option linter.unusedVariables false
set_option linter.unusedSimpArgs false
namespace Go.AM
open Go Go.Proofs

/-- No two of them clash. -/
def NC (S : Nd → Prop) : Prop := ∀ x y, S x → S y → x.d = y.d → x.clash y = false
theorem NC.sub {S T : Nd → Prop} (h : NC S) (k : ∀ x, T x → S x) : NC T := fun x y hx hy e => h x y (k x hx) (k y hy) e
/-- All dots of S, each once, in order; dead where one is dead. -/
structure Res (S : Nd → Prop) (j : List Nd) : Prop where
  sorted : j.Pairwise ltP
  sub : ∀ y ∈ j, S y
  dead : ∀ y ∈ j, ∀ z, S z → z.d = y.d → z.x = 0 → y.x = 0
  cover : ∀ z, S z → ∃ y ∈ j, y.d = z.d
theorem nd_eq {x y : Nd} (hc : x.clash y = false) (h0 : x.x = 0 ↔ y.x = 0) : x = y := by
  rw [Nd.clash_false] at hc
  obtain ⟨⟨_, _⟩, ⟨_, _⟩, _, _⟩ := x
  obtain ⟨⟨_, _⟩, ⟨_, _⟩, _, _⟩ := y
  simp only at *
  grind
theorem Res.mem {S : Nd → Prop} (hS : NC S) {j k : List Nd} (h : Res S j) (g : Res S k) {y : Nd} (hy : y ∈ j) : y ∈ k := by
  obtain ⟨y', h1, h2⟩ := g.cover y (h.sub y hy)
  have hc := hS y y' (h.sub y hy) (g.sub y' h1) h2.symm
  have : y = y' := nd_eq hc ⟨fun e => g.dead y' h1 y (h.sub y hy) h2.symm e, fun e => h.dead y hy y' (g.sub y' h1) h2 e⟩
  rw [this]
  exact h1
theorem Res.uniq {S : Nd → Prop} (hS : NC S) {j k : List Nd} (h : Res S j) (g : Res S k) : j = k :=
  sorted_unique j k ((List.perm_ext_iff_of_nodup (nodup_of h.sorted) (nodup_of g.sorted)).2 fun x => ⟨fun hx => h.mem hS g hx, fun hx => g.mem hS h hx⟩) h.sorted g.sorted
theorem Res.congr {S T : Nd → Prop} {j : List Nd} (h : Res S j) (e : ∀ x, S x ↔ T x) : Res T j :=
  ⟨h.sorted, fun y hy => (e y).1 (h.sub y hy), fun y hy z hz => h.dead y hy z ((e z).2 hz), fun z hz => h.cover z ((e z).2 hz)⟩
def M2 (l m : List Nd) (x : Nd) : Prop := x ∈ l ∨ x ∈ m
/-- The join of a join. -/
theorem Res.step {S T : Nd → Prop} {j k : List Nd} (h : Res S j) (g : Res (fun x => x ∈ j ∨ T x) k) : Res (fun x => S x ∨ T x) k := by
  refine ⟨g.sorted, fun y hy => ?_, fun y hy z hz e z0 => ?_, fun z hz => ?_⟩
  · rcases g.sub y hy with q | q
    · exact .inl (h.sub y q)
    · exact .inr q
  · rcases hz with q | q
    · obtain ⟨y', h1, h2⟩ := h.cover z q
      exact g.dead y hy y' (.inl h1) (h2.trans e) (h.dead y' h1 z q h2.symm z0)
    · exact g.dead y hy z (.inr q) e z0
  · rcases hz with q | q
    · obtain ⟨y', h1, h2⟩ := h.cover z q
      obtain ⟨y, h3, h4⟩ := g.cover y' (.inl h1)
      exact ⟨y, h3, h4.trans h2⟩
    · exact g.cover z (.inr q)
theorem sorted_dot {l : List Nd} (hl : l.Pairwise ltP) {x y : Nd} (hx : x ∈ l) (hy : y ∈ l) (e : x.d = y.d) : x = y := by
  have h1 := getN_mem hl hx
  have h2 := getN_mem hl hy
  rw [e, h2] at h1
  injection h1 with h1
  exact h1.symm
theorem nc_agree {l m : List Nd} (hl : l.Pairwise ltP) (hm : m.Pairwise ltP) : agreeL l m = true ↔ NC (M2 l m) := by
  rw [agree_iff hl]
  constructor
  · intro h x y hx hy e
    rcases hx with hx | hx <;> rcases hy with hy | hy
    · rw [sorted_dot hl hx hy e]; exact clash_self y
    · exact h x.d x y (getN_mem hl hx) (by rw [e]; exact getN_mem hm hy)
    · rw [clash_symm]
      exact h y.d y x (getN_mem hl hy) (by rw [← e]; exact getN_mem hm hx)
    · rw [sorted_dot hm hx hy e]; exact clash_self y
  · intro h d x y hx hy
    obtain ⟨h1, h2⟩ := getN_some hx
    obtain ⟨h3, h4⟩ := getN_some hy
    exact h x y (.inl h1) (.inr h3) (h2.trans h4.symm)
theorem res_join {l m : List Nd} (hl : l.Pairwise ltP) (hm : m.Pairwise ltP) (ha : agreeL l m = true) : Res (M2 l m) (refJ l m) := by
  have hj := join_ref l m hl hm
  rw [if_pos ha] at hj
  obtain ⟨hs, hg⟩ := joinL_spec l m _ hl hm hj
  have key : ∀ y ∈ refJ l m, comb (getN l y.d) (getN m y.d) = some y := fun y hy => by rw [← hg]; exact getN_mem hs hy
  refine ⟨hs, fun y hy => ?_, fun y hy z hz e z0 => ?_, fun z hz => ?_⟩
  · have hk := key y hy
    cases h1 : getN l y.d with
    | none =>
      cases h2 : getN m y.d with
      | none => rw [h1, h2] at hk; cases hk
      | some v => rw [h1, h2] at hk; simp [comb] at hk; subst hk; exact .inr (getN_some h2).1
    | some u =>
      cases h2 : getN m y.d with
      | none => rw [h1, h2] at hk; simp [comb] at hk; subst hk; exact .inl (getN_some h1).1
      | some v =>
        rw [h1, h2] at hk
        simp only [comb, Option.some.injEq] at hk
        unfold Nd.merge at hk
        split at hk
        · rw [← hk]; exact .inr (getN_some h2).1
        · rw [← hk]; exact .inl (getN_some h1).1
  · have hk := key y hy
    rcases hz with hz | hz
    · have h1 := getN_mem hl hz
      rw [e] at h1
      rw [h1] at hk
      cases h2 : getN m y.d with
      | none => rw [h2] at hk; simp [comb] at hk; rw [← hk]; exact z0
      | some v =>
        rw [h2] at hk
        simp only [comb, Option.some.injEq] at hk
        rw [← hk]
        exact merge_dead z0
    · have h1 := getN_mem hm hz
      rw [e] at h1
      rw [h1] at hk
      cases h2 : getN l y.d with
      | none => rw [h2] at hk; simp [comb] at hk; rw [← hk]; exact z0
      | some v =>
        rw [h2] at hk
        simp only [comb, Option.some.injEq] at hk
        rw [← hk]
        unfold Nd.merge
        rw [if_pos z0]
        exact z0
  · have : (getN (refJ l m) z.d).isSome = true := by
      rw [hg]
      rcases hz with hz | hz
      · rw [getN_mem hl hz]
        cases getN m z.d <;> rfl
      · rw [getN_mem hm hz]
        cases getN l z.d <;> rfl
    obtain ⟨y, hy⟩ := Option.isSome_iff_exists.1 this
    obtain ⟨h1, h2⟩ := getN_some hy
    exact ⟨y, h1, h2⟩

/-! ### store.Of: one list with all -/
theorem updN_mem' {l : List Nd} {x y : Nd} (hn : (l.map Nd.d).Nodup) (h : y ∈ updN l x) : y = x ∨ (y ∈ l ∧ y.d ≠ x.d) := by
  unfold updN at h
  split at h
  · rename_i j old hj
    obtain ⟨h1, h2⟩ := lookN_some hj
    obtain ⟨i, hi⟩ := List.getElem?_of_mem h
    by_cases hij : j = i
    · subst hij
      rw [List.getElem?_set_self (getlt h1)] at hi
      injection hi with hi
      exact .inl hi.symm
    · rw [List.getElem?_set_ne hij] at hi
      refine .inr ⟨List.mem_of_getElem? hi, fun e => hij ?_⟩
      have hlt : j < (l.map Nd.d).length := by simpa using getlt h1
      have he : (l.map Nd.d)[j]? = (l.map Nd.d)[i]? := by
        rw [List.getElem?_map, List.getElem?_map, h1, hi]
        simp [h2, e]
      exact (List.getElem?_inj hlt hn).1 he
  · rename_i hj
    rcases List.mem_append.1 h with h | h
    · exact .inr ⟨h, lookN_none hj y h⟩
    · exact .inl (by simpa using h)
theorem updN_self (l : List Nd) (x : Nd) : x ∈ updN l x := by
  unfold updN
  split
  · rename_i j old hj
    obtain ⟨h1, _⟩ := lookN_some hj
    exact List.mem_of_getElem? (List.getElem?_set_self (getlt h1))
  · simp
theorem updN_old {l : List Nd} {x z : Nd} (h : z ∈ l) (e : z.d ≠ x.d) : z ∈ updN l x := by
  unfold updN
  split
  · rename_i j old hj
    obtain ⟨h1, h2⟩ := lookN_some hj
    obtain ⟨i, hi⟩ := List.getElem?_of_mem h
    have hij : j ≠ i := by
      rintro rfl
      rw [h1] at hi
      injection hi with hi
      subst hi
      exact e h2
    exact List.mem_of_getElem? (by rw [List.getElem?_set_ne hij]; exact hi)
  · exact List.mem_append.2 (.inl h)
theorem updN_cov {l : List Nd} {x z : Nd} (h : z ∈ l) : ∃ y ∈ updN l x, y.d = z.d := by
  by_cases e : z.d = x.d
  · exact ⟨x, updN_self l x, e.symm⟩
  · exact ⟨z, updN_old h e, rfl⟩
def clA (A : List Nd) (n : Nd) : Bool := match lookN A n.d with
  | some (_, x) => x.clash n
  | none => false
theorem ofStep_eq (M A : List Nd) (n : Nd) : ofStep M A n = if clA A n = true then none else match lookN M n.d with
    | some (_, old) => if old.clash n = true then none else some (updN M (old.merge n), if n.x = 0 then A else updN A n)
    | none => some (updN M n, if n.x = 0 then A else updN A n) := rfl
structure OInv (p M A : List Nd) : Prop where
  nc : NC (· ∈ p)
  nd : (M.map Nd.d).Nodup
  sub : ∀ y ∈ M, y ∈ p
  dead : ∀ y ∈ M, ∀ z ∈ p, z.d = y.d → z.x = 0 → y.x = 0
  cover : ∀ z ∈ p, ∃ y ∈ M, y.d = z.d
  asub : ∀ y ∈ A, y ∈ p ∧ y.x ≠ 0
  acov : ∀ z ∈ p, z.x ≠ 0 → ∃ y ∈ A, y.d = z.d
theorem OInv.nil : OInv [] [] [] := ⟨fun x y h => by simp at h, by simp, by simp, by simp, by simp, by simp, by simp⟩
theorem look_in {l : List Nd} {d : Dot} (h : ∃ y ∈ l, y.d = d) : ∃ j y, lookN l d = some (j, y) := by
  obtain ⟨y, h1, h2⟩ := h
  cases hk : lookN l d with
  | none => exact absurd h2 (lookN_none hk y h1)
  | some p => exact ⟨p.1, p.2, rfl⟩
theorem OInv.step {p M A : List Nd} (h : OInv p M A) (n : Nd) : match ofStep M A n with
    | some (M', A') => OInv (p ++ [n]) M' A'
    | none => ∃ x ∈ p, x.d = n.d ∧ x.clash n = true := by
  have hA : ∀ z ∈ p, z.x ≠ 0 → z.d = n.d → clA A n = false → z.clash n = false := by
    intro z hz z0 hd hc
    obtain ⟨j, y, hj⟩ := look_in (h.acov z hz z0)
    rw [hd] at hj
    obtain ⟨h1, h2⟩ := lookN_some hj
    obtain ⟨y1, y2⟩ := h.asub y (List.mem_of_getElem? h1)
    unfold clA at hc
    rw [hj] at hc
    simp only at hc
    have : z = y := nd_eq (h.nc z y hz y1 (hd.trans h2.symm)) ⟨fun e => absurd e z0, fun e => absurd e y2⟩
    rw [this]
    exact hc
  have mk : ∀ m : Nd, m.d = n.d → (m = n ∨ m ∈ M) → (n.x = 0 → m.x = 0) → (∀ z ∈ p, z.d = n.d → z.x = 0 → m.x = 0) → (∀ z ∈ p, z.d = n.d → z.clash n = false) → OInv (p ++ [n]) (updN M m) (if n.x = 0 then A else updN A n) := by
    intro m md hm m0 mp hnc
    have hmem : ∀ x, x ∈ p ++ [n] ↔ x ∈ p ∨ x = n := by simp
    refine ⟨fun x y hx hy e => ?_, updN_nodup h.nd, fun y hy => ?_, fun y hy z hz e z0 => ?_, fun z hz => ?_, fun y hy => ?_, fun z hz z0 => ?_⟩
    · rcases (hmem x).1 hx with kx | kx <;> rcases (hmem y).1 hy with ky | ky
      · exact h.nc x y kx ky e
      · rw [ky]; exact hnc x kx (by rw [e, ky])
      · rw [clash_symm, kx]; exact hnc y ky (by rw [← e, kx])
      · rw [kx, ky]; exact clash_self _
    · rw [hmem]
      rcases updN_mem hy with rfl | hy
      · rcases hm with rfl | hm
        · exact .inr rfl
        · exact .inl (h.sub _ hm)
      · exact .inl (h.sub y hy)
    · rw [hmem] at hz
      rcases updN_mem' h.nd hy with rfl | ⟨hy, hyd⟩
      · rcases hz with hz | rfl
        · exact mp z hz (e.trans md) z0
        · exact m0 z0
      · rcases hz with hz | rfl
        · exact h.dead y hy z hz e z0
        · exact absurd (e.symm.trans md.symm) hyd
    · rw [hmem] at hz
      rcases hz with hz | rfl
      · obtain ⟨y, h1, h2⟩ := h.cover z hz
        obtain ⟨y', h3, h4⟩ := updN_cov (x := m) h1
        exact ⟨y', h3, h4.trans h2⟩
      · exact ⟨m, updN_self M m, md⟩
    · split at hy
      · exact ⟨(hmem y).2 (.inl (h.asub y hy).1), (h.asub y hy).2⟩
      · rename_i hn0
        rcases updN_mem hy with rfl | hy
        · exact ⟨(hmem _).2 (.inr rfl), hn0⟩
        · exact ⟨(hmem y).2 (.inl (h.asub y hy).1), (h.asub y hy).2⟩
    · rw [hmem] at hz
      rcases hz with hz | rfl
      · obtain ⟨y, h1, h2⟩ := h.acov z hz z0
        split
        · exact ⟨y, h1, h2⟩
        · obtain ⟨y', h3, h4⟩ := updN_cov (x := n) h1
          exact ⟨y', h3, h4.trans h2⟩
      · rw [if_neg z0]
        exact ⟨z, updN_self A z, rfl⟩
  rw [ofStep_eq]
  by_cases hc : clA A n = true
  · rw [if_pos hc]
    unfold clA at hc
    cases hk : lookN A n.d with
    | none => rw [hk] at hc; cases hc
    | some q =>
      obtain ⟨j, y⟩ := q
      rw [hk] at hc
      obtain ⟨h1, h2⟩ := lookN_some hk
      exact ⟨y, (h.asub y (List.mem_of_getElem? h1)).1, h2, hc⟩
  · rw [if_neg hc]
    have hc' : clA A n = false := by simpa using hc
    cases hm : lookN M n.d with
    | none =>
      have hno : ∀ z ∈ p, z.d ≠ n.d := fun z hz e => by
        obtain ⟨y, h1, h2⟩ := h.cover z hz
        exact lookN_none hm y h1 (h2.trans e)
      exact mk n rfl (.inl rfl) (fun e => e) (fun z hz e => absurd e (hno z hz)) fun z hz e => absurd e (hno z hz)
    | some q =>
      obtain ⟨j, old⟩ := q
      obtain ⟨h1, h2⟩ := lookN_some hm
      have ho := List.mem_of_getElem? h1
      simp only
      by_cases hco : old.clash n = true
      · rw [if_pos hco]
        exact ⟨old, h.sub old ho, h2, hco⟩
      · rw [if_neg hco]
        have hco' : old.clash n = false := by simpa using hco
        refine mk (old.merge n) (merge_d h2) ?_ (fun e => ?_) (fun z hz e z0 => ?_) fun z hz e => ?_
        · unfold Nd.merge
          split
          · exact .inl rfl
          · exact .inr ho
        · unfold Nd.merge
          rw [if_pos e]
          exact e
        · exact merge_dead (h.dead old ho z hz (e.trans h2.symm) z0)
        · by_cases z0 : z.x = 0
          · have hzo := h.nc z old hz (h.sub old ho) (e.trans h2.symm)
            rw [Nd.clash_false] at hzo hco' ⊢
            grind
          · exact hA z hz z0 e hc'
theorem of_fold : ∀ (r p M A : List Nd), OInv p M A → match ofFold r M A with
    | some M' => ∃ A', OInv (p ++ r) M' A'
    | none => ¬ NC (· ∈ p ++ r)
  | [], p, M, A, h => by
    rw [List.append_nil]
    exact ⟨A, h⟩
  | n :: r, p, M, A, h => by
    have hs := h.step n
    rw [ofFold]
    cases hk : ofStep M A n with
    | none =>
      rw [hk] at hs
      obtain ⟨x, h1, h2, h3⟩ := hs
      intro hn
      have := hn x n (List.mem_append.2 (.inl h1)) (by simp) h2
      rw [this] at h3
      cases h3
    | some q =>
      obtain ⟨M', A'⟩ := q
      rw [hk] at hs
      have := of_fold r (p ++ [n]) M' A' hs
      rw [List.append_assoc, List.singleton_append] at this
      exact this
theorem gof_res {l : List Nd} (hv : l.all Nd.valid = true) : (NC (· ∈ l) ∧ ∃ j, gOf l = some (j, some (.int .i64 0)) ∧ Res (· ∈ l) j) ∨ (¬ NC (· ∈ l) ∧ gOf l = some ([], some (.int .i64 15))) := by
  have h := of_fold l [] [] [] .nil
  rw [List.nil_append] at h
  unfold gOf
  rw [if_pos hv]
  cases hk : ofFold l [] [] with
  | none =>
    rw [hk] at h
    exact .inr ⟨h, rfl⟩
  | some M =>
    rw [hk] at h
    obtain ⟨A, h⟩ := h
    have hp := sortN_perm M
    refine .inl ⟨h.nc, sortN M, rfl, sortN_sorted M h.nd, fun y hy => h.sub y (hp.mem_iff.1 hy), fun y hy z hz e z0 => h.dead y (hp.mem_iff.1 hy) z hz e z0, fun z hz => ?_⟩
    obtain ⟨y, h1, h2⟩ := h.cover z hz
    exact ⟨y, hp.mem_iff.2 h1, h2⟩

/-! ### join.All -/
def ofP (l : List Nd) : List Nd × Int := match gOf l with
  | some (j, some (.int _ e)) => (j, e)
  | _ => ([], 2)
def allP (ls : List (List Nd)) : List Nd × Int := if ls.all storeL = true then ofP ls.flatten else ([], 2)
theorem gOf_P (l : List Nd) : gOf l = some ((ofP l).1, some (.int .i64 (ofP l).2)) := by
  unfold ofP gOf
  split
  · split <;> rfl
  · rfl
theorem store_valid {l : List Nd} (h : storeL l = true) : l.all Nd.valid = true := by
  simp only [storeL, Bool.and_eq_true] at h
  exact h.1
theorem flat_valid {ls : List (List Nd)} (h : ls.all storeL = true) : ls.flatten.all Nd.valid = true := by
  rw [List.all_eq_true] at h ⊢
  intro x hx
  obtain ⟨l, h1, h2⟩ := List.mem_flatten.1 hx
  exact List.all_eq_true.1 (store_valid (h l h1)) x h2
theorem allP_res {ls : List (List Nd)} {S : Nd → Prop} {j : List Nd} (hs : ls.all storeL = true) (e : ∀ x, S x ↔ x ∈ ls.flatten) (hn : NC S) (h : Res S j) : allP ls = (j, 0) := by
  unfold allP ofP
  rw [if_pos hs]
  rcases gof_res (flat_valid hs) with ⟨h1, k, h2, h3⟩ | ⟨h1, _⟩
  · rw [h2, h3.uniq h1 (h.congr e)]
  · exact absurd (hn.sub fun x hx => (e x).2 hx) h1
theorem allP_clash {ls : List (List Nd)} {S : Nd → Prop} (hs : ls.all storeL = true) (e : ∀ x, S x ↔ x ∈ ls.flatten) (hn : ¬ NC S) : allP ls = ([], 15) := by
  unfold allP ofP
  rw [if_pos hs]
  rcases gof_res (flat_valid hs) with ⟨h1, _⟩ | ⟨_, h2⟩
  · exact absurd (h1.sub fun x hx => (e x).1 hx) hn
  · rw [h2]

/-! ### What JoinHolds asks -/
theorem store_of_res {S : Nd → Prop} {j : List Nd} (h : Res S j) (hv : ∀ x, S x → x.valid = true) : storeL j = true := by
  simp only [storeL, Bool.and_eq_true]
  exact ⟨List.all_eq_true.2 fun x hx => hv x (h.sub x hx), pairwise_chain h.sorted⟩
theorem store_mem {l : List Nd} (h : storeL l = true) {x : Nd} (hx : x ∈ l) : x.valid = true := List.all_eq_true.1 (store_valid h) x hx
theorem res_self {l : List Nd} (hl : l.Pairwise ltP) : Res (M2 l l) l :=
  ⟨hl, fun y hy => .inl hy, fun y hy z hz e z0 => by
    have hz : z ∈ l := by rcases hz with hz | hz <;> exact hz
    rw [← sorted_dot hl hz hy e]
    exact z0, fun z hz => ⟨z, by rcases hz with hz | hz <;> exact hz, rfl⟩⟩
theorem agree_self {l : List Nd} (hl : l.Pairwise ltP) : agreeL l l = true := (nc_agree hl hl).2 fun x y hx hy e => by
  have hx : x ∈ l := by rcases hx with h | h <;> exact h
  have hy : y ∈ l := by rcases hy with h | h <;> exact h
  rw [sorted_dot hl hx hy e]
  exact clash_self y
theorem M2_symm (l m : List Nd) (x : Nd) : M2 l m x ↔ M2 m l x := Or.comm
theorem agree_symm {l m : List Nd} (hl : l.Pairwise ltP) (hm : m.Pairwise ltP) : agreeL l m = agreeL m l := by
  rw [Bool.eq_iff_iff, nc_agree hl hm, nc_agree hm hl]
  exact ⟨fun h => h.sub fun x hx => (M2_symm _ _ x).1 hx, fun h => h.sub fun x hx => (M2_symm _ _ x).1 hx⟩
theorem refJ_uniq {S : Nd → Prop} (hS : NC S) {l m j : List Nd} (hl : l.Pairwise ltP) (hm : m.Pairwise ltP) (h : Res S j) (e : ∀ x, S x ↔ M2 l m x) : agreeL l m = true ∧ refJ l m = j := by
  have ha : agreeL l m = true := (nc_agree hl hm).2 (hS.sub fun x hx => (e x).2 hx)
  exact ⟨ha, ((res_join hl hm ha).congr fun x => (e x).symm).uniq hS h⟩
theorem refJ_self {l : List Nd} (hl : l.Pairwise ltP) : refJ l l = l :=
  (refJ_uniq ((nc_agree hl hl).1 (agree_self hl)) hl hl (res_self hl) fun x => Iff.rfl).2
theorem refJ_symm {l m : List Nd} (hl : l.Pairwise ltP) (hm : m.Pairwise ltP) (ha : agreeL l m = true) : refJ m l = refJ l m :=
  (refJ_uniq ((nc_agree hl hm).1 ha) hm hl (res_join hl hm ha) fun x => M2_symm _ _ x).2
/-- What is in a join already changes nothing. -/
theorem refJ_in {S : Nd → Prop} {l j : List Nd} (hS : NC S) (hl : l.Pairwise ltP) (h : Res S j) (hin : ∀ x ∈ l, S x) : agreeL l j = true ∧ refJ l j = j ∧ agreeL j l = true ∧ refJ j l = j := by
  have hR : Res (M2 l j) j := ⟨h.sorted, fun y hy => .inr hy, fun y hy z hz e z0 => h.dead y hy z (by
    rcases hz with hz | hz
    · exact hin z hz
    · exact h.sub z hz) e z0, fun z hz => h.cover z (by
    rcases hz with hz | hz
    · exact hin z hz
    · exact h.sub z hz)⟩
  have hN : NC (M2 l j) := hS.sub fun x hx => by
    rcases hx with hx | hx
    · exact hin x hx
    · exact h.sub x hx
  obtain ⟨a1, a2⟩ := refJ_uniq hN hl h.sorted hR fun x => Iff.rfl
  obtain ⟨a3, a4⟩ := refJ_uniq hN h.sorted hl hR fun x => M2_symm _ _ x
  exact ⟨a1, a2, a3, a4⟩
theorem joinsP_ok {l m j : List Nd} (hl : storeL l = true) (hm : storeL m = true) (ha : agreeL l m = true) (hj : refJ l m = j) : joinsP l m = (j, 0) := by
  unfold joinsP
  rw [if_pos ⟨hl, hm⟩, if_pos ha, hj]
theorem joinsP_clash {l m : List Nd} (hl : storeL l = true) (hm : storeL m = true) (ha : agreeL l m = false) : joinsP l m = ([], 15) := by
  unfold joinsP
  rw [if_pos ⟨hl, hm⟩, if_neg (by simp [ha])]
theorem withinP_ok {l m : List Nd} (hl : storeL l = true) (hm : storeL m = true) (ha : agreeL l m = true) : withinP l m = (decide (refJ l m = m), 0) := by
  unfold withinP
  rw [if_pos ⟨hl, hm⟩, if_pos ha]
theorem agreeP_ok {l m : List Nd} (hl : storeL l = true) (hm : storeL m = true) : agreeP l m = (agreeL l m, 0) := by
  unfold agreeP
  rw [if_pos ⟨hl, hm⟩]
  cases agreeL l m <;> rfl
def M3 (a b c : List Nd) (x : Nd) : Prop := x ∈ a ∨ x ∈ b ∨ x ∈ c
theorem nc3 {a b c : List Nd} (ha : a.Pairwise ltP) (hb : b.Pairwise ltP) (hc : c.Pairwise ltP) (h1 : agreeL a b = true) (h2 : agreeL a c = true) (h3 : agreeL b c = true) : NC (M3 a b c) := by
  have n1 := (nc_agree ha hb).1 h1
  have n2 := (nc_agree ha hc).1 h2
  have n3 := (nc_agree hb hc).1 h3
  intro x y hx hy e
  rcases hx with hx | hx | hx <;> rcases hy with hy | hy | hy
  · exact n1 x y (.inl hx) (.inl hy) e
  · exact n1 x y (.inl hx) (.inr hy) e
  · exact n2 x y (.inl hx) (.inr hy) e
  · exact n1 x y (.inr hx) (.inl hy) e
  · exact n1 x y (.inr hx) (.inr hy) e
  · exact n3 x y (.inl hx) (.inr hy) e
  · exact n2 x y (.inr hx) (.inl hy) e
  · exact n3 x y (.inr hx) (.inl hy) e
  · exact n3 x y (.inr hx) (.inr hy) e
structure Holds3 (a b c : List Nd) (bc all : List Nd) : Prop where
  s : storeL bc = true
  j1 : joinsP b c = (bc, 0)
  j2 : joinsP a bc = (all, 0)
  j3 : joinsP (refJ a b) c = (all, 0)
  a1 : allP [a, b, c] = (all, 0)
  a2 : allP [c, b, b, a, c] = (all, 0)
theorem holds_ab {a b : List Nd} (sa : storeL a = true) (sb : storeL b = true) (h : agreeL a b = true) : storeL (refJ a b) = true ∧ withinP a (refJ a b) = (true, 0) ∧ withinP b (refJ a b) = (true, 0) ∧ joinsP (refJ a b) a = (refJ a b, 0) ∧
    joinsP b a = (refJ a b, 0) ∧ withinP a b = (decide (refJ a b = b), 0) ∧ withinP b a = (decide (refJ a b = a), 0) ∧ ∀ n, M2 a b n → ∃ k y, lookN (refJ a b) n.d = some (k, y) ∧ (n.x = 0 → y.x = 0) := by
  have ha := store_sorted sa
  have hb := store_sorted sb
  have hN := (nc_agree ha hb).1 h
  have hR := res_join ha hb h
  have hs : storeL (refJ a b) = true := store_of_res hR fun x hx => by
    rcases hx with hx | hx
    · exact store_mem sa hx
    · exact store_mem sb hx
  obtain ⟨p1, p2, p3, p4⟩ := refJ_in hN ha hR fun x hx => .inl hx
  obtain ⟨q1, q2, _, _⟩ := refJ_in hN hb hR fun x hx => .inr hx
  have hba : agreeL b a = true := by rw [← agree_symm ha hb]; exact h
  refine ⟨hs, ?_, ?_, joinsP_ok hs sa p3 p4, joinsP_ok sb sa hba (refJ_symm ha hb h), withinP_ok sa sb h, ?_, fun n hn => ?_⟩
  · rw [withinP_ok sa hs p1, p2]; simp
  · rw [withinP_ok sb hs q1, q2]; simp
  · rw [withinP_ok sb sa hba, refJ_symm ha hb h]
  · obtain ⟨y, h1, h2⟩ := hR.cover n hn
    have h3 := getN_mem hR.sorted h1
    unfold getN at h3
    rw [h2] at h3
    cases hk : lookN (refJ a b) n.d with
    | none => rw [hk] at h3; cases h3
    | some q =>
      obtain ⟨k, z⟩ := q
      rw [hk] at h3
      simp at h3
      subst h3
      exact ⟨k, z, rfl, fun e => hR.dead z h1 n hn h2.symm e⟩
theorem holds_self {a : List Nd} (sa : storeL a = true) : joinsP a a = (a, 0) ∧ withinP a a = (true, 0) := by
  have ha := store_sorted sa
  refine ⟨joinsP_ok sa sa (agree_self ha) (refJ_self ha), ?_⟩
  rw [withinP_ok sa sa (agree_self ha), refJ_self ha]
  simp
theorem holds_3 {a b c : List Nd} (sa : storeL a = true) (sb : storeL b = true) (sc : storeL c = true) (h1 : agreeL a b = true) (h2 : agreeL a c = true) (h3 : agreeL b c = true) : ∃ bc all, Holds3 a b c bc all := by
  have ha := store_sorted sa
  have hb := store_sorted sb
  have hc := store_sorted sc
  have hN := nc3 ha hb hc h1 h2 h3
  have hab := res_join ha hb h1
  have hbc := res_join hb hc h3
  have sbc : storeL (refJ b c) = true := store_of_res hbc fun x hx => by
    rcases hx with hx | hx
    · exact store_mem sb hx
    · exact store_mem sc hx
  have sab : storeL (refJ a b) = true := (holds_ab sa sb h1).1
  have aabc : agreeL a (refJ b c) = true := (nc_agree ha hbc.sorted).2 (hN.sub fun x hx => by
    rcases hx with hx | hx
    · exact .inl hx
    · rcases hbc.sub x hx with hx | hx
      · exact .inr (.inl hx)
      · exact .inr (.inr hx))
  have hall : Res (M3 a b c) (refJ a (refJ b c)) := by
    have := (res_join ha hbc.sorted aabc).congr (fun x => M2_symm _ _ x)
    have := Res.step (T := (· ∈ a)) hbc this
    exact this.congr fun x => by unfold M2 M3; grind
  have aabc2 : agreeL (refJ a b) c = true := (nc_agree hab.sorted hc).2 (hN.sub fun x hx => by
    rcases hx with hx | hx
    · rcases hab.sub x hx with hx | hx
      · exact .inl hx
      · exact .inr (.inl hx)
    · exact .inr (.inr hx))
  have hall2 : Res (M3 a b c) (refJ (refJ a b) c) := by
    have := Res.step (T := (· ∈ c)) hab (res_join hab.sorted hc aabc2)
    exact this.congr fun x => by unfold M2 M3; grind
  have hst : ∀ l ∈ [a, b, c], storeL l = true := by
    intro l hl
    simp at hl
    rcases hl with rfl | rfl | rfl <;> assumption
  exact ⟨refJ b c, refJ a (refJ b c), sbc, joinsP_ok sb sc h3 rfl, joinsP_ok sa sbc aabc rfl, joinsP_ok sab sc aabc2 (hall2.uniq hN hall), allP_res (by simp [sa, sb, sc]) (fun x => by unfold M3; simp) hN hall, allP_res (by simp [sa, sb, sc]) (fun x => by unfold M3; simp; grind) hN hall⟩
theorem clash_3 {a b c : List Nd} (sa : storeL a = true) (sb : storeL b = true) (sc : storeL c = true) (h : ¬ (agreeL a c = true ∧ agreeL b c = true)) : allP [a, b, c] = ([], 15) := by
  have ha := store_sorted sa
  have hb := store_sorted sb
  have hc := store_sorted sc
  refine allP_clash (S := M3 a b c) (by simp [sa, sb, sc]) (fun x => by unfold M3; simp) fun hn => h ⟨(nc_agree ha hc).2 (hn.sub fun x hx => ?_), (nc_agree hb hc).2 (hn.sub fun x hx => ?_)⟩
  · rcases hx with hx | hx
    · exact .inl hx
    · exact .inr (.inr hx)
  · rcases hx with hx | hx
    · exact .inr (.inl hx)
    · exact .inr (.inr hx)
end Go.AM
end
/-
  Lists of lists; join.All. Own work of this project; in part printed by a program of it.
-/
section
set_option linter.unusedVariables false
set_option linter.unusedSimpArgs false
set_option maxRecDepth 100000
set_option maxHeartbeats 8000000
namespace Go.AM
open Go Go.Proofs

variable {s t : St}
/-! ### Lists of lists -/
def shownV (s : St) : AV → Option (List AV)
  | .nils => some []
  | .sl id off n _ z => if z = 1 then match s.get id with
      | some (.row cs _) => if off + n ≤ cs.length then some ((cs.drop off).take n) else none
      | _ => none
    else none
  | _ => none
def readA (s : St) : List AV → Option (List (List Nd))
  | [] => some []
  | v :: r => match read ndC s v, readA s r with
    | some l, some ls => some (l :: ls)
    | _, _ => none
def rdLL (s : St) (v : AV) : Option (List (List Nd)) := match shownV s v with
  | some vs => readA s vs
  | none => none
theorem readA_low (s : St) (n : Nat) : ∀ vs : List AV, readA { heap := s.heap, next := s.next, low := n } vs = readA s vs
  | [] => rfl
  | v :: r => by simp only [readA, read_low, readA_low s n r]
theorem shownV_low (s : St) (n : Nat) (v : AV) : shownV { heap := s.heap, next := s.next, low := n } v = shownV s v := by cases v <;> rfl
theorem rdLL_low (s : St) (n : Nat) (v : AV) : rdLL { heap := s.heap, next := s.next, low := n } v = rdLL s v := by
  unfold rdLL
  rw [shownV_low]
  cases shownV s v with
  | none => rfl
  | some vs => exact readA_low s n vs
theorem readA_len : ∀ {vs : List AV} {ls : List (List Nd)}, readA s vs = some ls → vs.length = ls.length
  | [], ls, h => by simp [readA] at h; subst h; rfl
  | v :: r, ls, h => by
    simp only [readA] at h
    split at h
    · rename_i l ls' h1 h2
      injection h with h
      subst h
      simp [readA_len h2]
    · cases h
theorem readA_at : ∀ {vs : List AV} {ls : List (List Nd)}, readA s vs = some ls → ∀ {i : Nat} {l : List Nd}, ls[i]? = some l → ∃ x, vs[i]? = some x ∧ read ndC s x = some l
  | [], ls, h, i, l, hi => by simp [readA] at h; subst h; simp at hi
  | v :: r, ls, h, i, l, hi => by
    simp only [readA] at h
    split at h
    · rename_i l0 ls' h1 h2
      injection h with h
      subst h
      cases i with
      | zero => simp at hi; subst hi; exact ⟨v, by simp, h1⟩
      | succ i => exact readA_at h2 (by simpa using hi)
    · cases h
theorem readA_keep (hK : Keep s t) : ∀ {vs : List AV} {ls : List (List Nd)}, readA s vs = some ls → readA t vs = some ls
  | [], ls, h => h
  | v :: r, ls, h => by
    simp only [readA] at h ⊢
    split at h
    · rename_i l0 ls' h1 h2
      rw [hK.read h1, readA_keep hK h2]
      exact h
    · cases h
theorem rdLL_keep (hK : Keep s t) {v : AV} {ls : List (List Nd)} (h : rdLL s v = some ls) : rdLL t v = some ls := by
  unfold rdLL at h ⊢
  cases v with
  | nils => exact h
  | sl id off n cap z =>
    split at h
    · rename_i vs hv
      simp only [shownV] at hv ⊢
      split at hv
      · rename_i hz
        split at hv
        · rename_i cs own hg
          rw [if_pos hz, hK.blk hg]
          simp only
          rw [hv]
          exact readA_keep hK h
        · cases hv
      · cases hv
    · cases h
  | _ => simp [shownV] at h
theorem rdLL_at {v : AV} {ls : List (List Nd)} (h : rdLL s v = some ls) {i : Nat} {l : List Nd} (hi : ls[i]? = some l) : ∃ x, iadV 1 v (.int .i64 (i : Int)) = some (.ptr (bid v) (boff v + i)) ∧ (∀ t, Keep s t → lod1 t (.ptr (bid v) (boff v + i)) = some x ∧ ltN (bid v) t) ∧ read ndC s x = some l := by
  unfold rdLL at h
  cases v with
  | nils => simp [shownV, readA] at h; subst h; simp at hi
  | sl id off n cap z =>
    split at h
    · rename_i vs hv
      simp only [shownV] at hv
      split at hv
      · rename_i hz
        subst hz
        split at hv
        · rename_i cs own hg
          split at hv
          · rename_i hle
            injection hv with hv
            subst hv
            obtain ⟨x, hx, hr⟩ := readA_at h hi
            have hn := (List.getElem?_eq_some_iff.1 hx).1
            simp only [List.length_take, List.length_drop] at hn
            refine ⟨x, ?_, fun t hK => ⟨?_, ?_⟩, hr⟩
            · simp only [iadV, bid, boff]
              rw [if_pos ⟨trivial, by omega, by omega⟩]
              simp
            · rw [List.getElem?_take_of_lt (by omega), List.getElem?_drop] at hx
              simp only [lod1, bid, boff, hK.blk hg]
              exact hx
            · exact St.get_lt (hK.blk hg)
          · cases hv
        · cases hv
      · cases hv
    · cases h
  | _ => simp [shownV] at h
theorem rdLL_len {v : AV} {ls : List (List Nd)} (h : rdLL s v = some ls) : lenV v = some (.int .i64 (ls.length : Int)) := by
  unfold rdLL at h
  cases v with
  | nils => simp [shownV, readA] at h; subst h; rfl
  | sl id off n cap z =>
    split at h
    · rename_i vs hv
      have hl := readA_len h
      simp only [shownV] at hv
      split at hv
      · split at hv
        · split at hv
          · injection hv with hv
            subst hv
            rw [List.length_take, List.length_drop] at hl
            simp only [lenV]
            congr 3
            omega
          · cases hv
        · cases hv
      · cases hv
    · cases h
  | _ => simp [shownV] at h
theorem rdLL_new {s : St} {vs : List AV} {ls : List (List Nd)} (h : readA s vs = some ls) (n : Nat) (hn : n = vs.length) : rdLL (s.push (.row vs true)) (.sl s.next 0 n (some n) 1) = some ls := by
  subst hn
  have hs : shownV (s.push (.row vs true)) (.sl s.next 0 vs.length (some vs.length) 1) = some vs := by
    simp [shownV, St.get_push_new]
  unfold rdLL
  rw [hs]
  exact readA_keep ((Keep.refl s).push _) h
def bslV (z : List AV) (len sz : Nat) (ps : List (Nat × AV)) : Option ((Nat → AV) × AB) := (fillP [] z (ps.map fun p => (p.1 * sz, sz, .c p.2))).map fun cs => (fun id => .sl id 0 len (some len) sz, .row cs true)
theorem fillP_aev (env : Env) : ∀ (ps : List (Nat × Nat × AO)) (z : List AV), fillP env z ps = fillP [] z (ps.map fun p => (p.1, p.2.1, .c (aev env p.2.2)))
  | [], z => rfl
  | (a, b, x) :: r, z => by
    simp only [fillP, List.map_cons]
    show (if _ then _ else _) = (if _ then _ else _)
    rw [fillP_aev env r]
    rfl
theorem aa_bsl {env : Env} (z : List AV) (len sz : Nat) (ps : List (Nat × AO)) : aalloc env (.bsl z len sz ps) = bslV z len sz (ps.map fun p => (p.1, aev env p.2)) := by
  simp only [aalloc, bslV]
  rw [fillP_aev]
  simp only [List.map_map, Function.comp_def]
theorem sg_bsl {call : Nat → List AV → St → Option (AV × St)} {base : Nat} {d : Option Nat} {r : Option Nat} {fr : Bool} {rest : List AOper} {Q : Env → St → Prop} {env : Env} (z : List AV) (l n : Nat) (ps : List (Nat × AO)) (t : Nat) (w : Bool) :
    awops call base (⟨d, .bsl z l n ps, some (t, w), r, fr⟩ :: rest) Q env s = gstep (E env t) w (awops call base (⟨d, .bsl z l n ps, none, r, fr⟩ :: rest) Q env s) (awops call base rest Q (pE env d .und) s) := st_guard _ _ _
theorem read_one {v : AV} {l : List Nd} (h : read ndC s v = some l) : v.cells = [v] ∧ v.one = true := by
  cases v <;> first | exact ⟨rfl, rfl⟩ | simp [read] at h
theorem fill1 {v : AV} {l : List Nd} (h : read ndC s v = some l) (cs : List AV) (i : Nat) (hi : i + 1 ≤ cs.length) (r : List (Nat × Nat × AO)) : fillP [] cs ((i * 1, 1, .c v) :: r) = fillP [] (setAt cs i [v]) r := by
  obtain ⟨h1, h2⟩ := read_one h
  simp only [fillP, aev, h1, Nat.mul_one]
  rw [if_pos ⟨rfl, by simp [h2], by simpa using hi⟩]
theorem bsl2 {a b : AV} {la lb : List Nd} (ha : read ndC s a = some la) (hb : read ndC s b = some lb) : bslV [.nils, .nils] 2 1 [(0, a), (1, b)] = some (fun id => .sl id 0 2 (some 2) 1, .row [a, b] true) := by
  simp only [bslV, List.map_cons, List.map_nil]
  rw [fill1 ha _ _ (by simp), fill1 hb _ _ (by simp [setAt])]
  rfl
theorem bsl3 {a b c : AV} {la lb lc : List Nd} (ha : read ndC s a = some la) (hb : read ndC s b = some lb) (hc : read ndC s c = some lc) : bslV [.nils, .nils, .nils] 3 1 [(0, a), (1, b), (2, c)] = some (fun id => .sl id 0 3 (some 3) 1, .row [a, b, c] true) := by
  simp only [bslV, List.map_cons, List.map_nil]
  rw [fill1 ha _ _ (by simp), fill1 hb _ _ (by simp [setAt]), fill1 hc _ _ (by simp [setAt])]
  rfl
theorem bsl5 {a b c d e : AV} {la lb lc ld le : List Nd} (ha : read ndC s a = some la) (hb : read ndC s b = some lb) (hc : read ndC s c = some lc) (hd : read ndC s d = some ld) (he : read ndC s e = some le) : bslV [.nils, .nils, .nils, .nils, .nils] 5 1 [(0, a), (1, b), (2, c), (3, d), (4, e)] = some (fun id => .sl id 0 5 (some 5) 1, .row [a, b, c, d, e] true) := by
  simp only [bslV, List.map_cons, List.map_nil]
  rw [fill1 ha _ _ (by simp), fill1 hb _ _ (by simp [setAt]), fill1 hc _ _ (by simp [setAt]), fill1 hd _ _ (by simp [setAt]), fill1 he _ _ (by simp [setAt])]
  rfl

/-! ### join.All -/
def pAll : List AV → St → Option (List Nd × Option AV) := fun xs s => match xs with
  | [v] => match rdLL s v with
    | some ls => if ls.flatten.length ≤ 100000 ∧ ls.length ≤ 100000 then some ((allP ls).1, some (.int .i64 (allP ls).2)) else none
    | none => none
  | _ => none
theorem pAll_some {xs : List AV} {s : St} {l : List Nd} {e : Option AV} (h : pAll xs s = some (l, e)) : ∃ v ls, xs = [v] ∧ rdLL s v = some ls ∧ ls.flatten.length ≤ 100000 ∧ ls.length ≤ 100000 ∧ l = (allP ls).1 ∧ e = some (.int .i64 (allP ls).2) := by
  unfold pAll at h
  split at h
  · split at h
    · split at h
      · rename_i v _ ls hr hl
        injection h with h
        obtain ⟨rfl, rfl⟩ := Prod.mk.inj h
        exact ⟨v, ls, rfl, hr, hl.1, hl.2, rfl, rfl⟩
      · cases h
    · cases h
  · cases h
theorem flat_step {ls : List (List Nd)} {i : Nat} {l : List Nd} (h : ls[i]? = some l) : (ls.take (i + 1)).flatten = (ls.take i).flatten ++ l := by
  have hlt := (List.getElem?_eq_some_iff.1 h).1
  have e : ls.take (i + 1) = ls.take i ++ [l] := by
    rw [List.take_add_one, h]
    rfl
  rw [e, List.flatten_append]
  simp
theorem flat_take (ls : List (List Nd)) (i : Nat) : (ls.take i).flatten.length ≤ ls.flatten.length := by
  conv => rhs; rw [← List.take_append_drop i ls, List.flatten_append, List.length_append]
  omega
theorem all_step {ls : List (List Nd)} {i : Nat} {l : List Nd} (h : ls[i]? = some l) (h1 : (ls.take i).all storeL = true) (h2 : storeL l = true) : (ls.take (i + 1)).all storeL = true := by
  rw [List.take_add_one, h]
  simp only [List.all_append, h1, Bool.true_and]
  simp [h2]
theorem s_All : SoundAt Try.prog 25 (conF ndC pAll) :=
  con_fresh (tb_sound (l := [(35, conL ndC fValid), (40, conF ndC (pL ndC gOf))]) (by simpa using ⟨s_JValid, s_Of⟩)) mixed Try.func25 k25 c25 fun args s r ee h => by
    obtain ⟨v, ls, rfl, hr, hfl, hll, rfl, rfl⟩ := pAll_some h
    refine ⟨fun x hx => by injection hx with hx; subst hx; rfl, by simp [a25], fun env hlen ha => ?_⟩
    have h0 : E env 0 = _ := ha 0 _ rfl
    have hlen : elen env = _ := hlen
    simp only [a25] at hlen
    unfold a25
    have hL := rdLL_len hr
    simp (config := {contextual := true, maxDischargeDepth := 12}) only [tb_at, q_known, h0, hlen, hL, ↓bD0, ↓bD1, ↓bD2, ↓bD3, ↓bD4, ↓bD5, ↓bD6, bU0, bU1, bU2, bU3, bU4, bU5, bU6, bU7, bU8, bU9, bU10, bU11, bU12, bU13, forall_const, List.all_cons, List.all_nil, Option.map_some, List.map_cons, List.map_nil, ne_eq, implies_true, isNx, cs_dec, cs_not, cs_and, cs_or, cs_valid, eq_self, ↓wp_cond, ↓wp_loop, ↓reduceIte, reduceCtorEq, Nat.reduceEqDiff, Nat.reduceLT, Nat.reduceAdd, Nat.reduceMul, Int.ofNat_lt, Int.ofNat_le, exists_const, ae_app, ap_slc, Option.map_none, mkR_none, mkR_some, ar_look, ae_mset, ae_rng, ae_mkmap0, ar_ent, lookV_push, lookV_lowed, msetV_push, msetV_lowed, lt_put, same_put, sto_over, sto_lowed, cs_dead, Option.map_some, beq_self_eq_true, decide_true, cs_true, cs_false, aa_bsl, ↓sg_bsl]
    obtain ⟨I, hI⟩ : ∃ I : Nat → Env → St → Prop, ∀ n e t, I n e t = (Keep s t ∧ ∃ i : Nat, n + i = ls.length ∧ elen e = 24 ∧ E e 7 = v ∧ E e 8 = .int .i64 (ls.length : Int) ∧ E e 9 = .int .i64 (i : Int) ∧ Own ndC s t (E e 4) (ls.take i).flatten ∧ (ls.take i).all storeL = true) := ⟨fun n e t => (Keep s t ∧ ∃ i : Nat, n + i = ls.length ∧ elen e = 24 ∧ E e 7 = v ∧ E e 8 = .int .i64 (ls.length : Int) ∧ E e 9 = .int .i64 (i : Int) ∧ Own ndC s t (E e 4) (ls.take i).flatten ∧ (ls.take i).all storeL = true), fun _ _ _ => rfl⟩
    refine lwp_inv I (n := ls.length) ?_ ?_
    · rw [hI]
      exact ⟨.refl s, 0, by omega, by simp only [E_pne, E_psame, elen_put, Nat.reduceEqDiff, ne_eq, not_false_eq_true, Nat.reduceLT, hlen], by simp only [E_pne, E_psame, elen_put, Nat.reduceEqDiff, ne_eq, not_false_eq_true, Nat.reduceLT, h0, hlen], by simp only [E_pne, E_psame, elen_put, Nat.reduceEqDiff, ne_eq, not_false_eq_true, Nat.reduceLT, hlen], by simp only [E_pne, E_psame, elen_put, Nat.reduceEqDiff, ne_eq, not_false_eq_true, Nat.reduceLT, hlen]; rfl, by simp only [E_pne, E_psame, elen_put, Nat.reduceEqDiff, ne_eq, not_false_eq_true, Nat.reduceLT, hlen]; exact .nil _ _ _, rfl⟩
    intro n e t hi
    rw [hI] at hi
    obtain ⟨hK, i, hn, he, e7, e8, e9, hO, hst⟩ := hi
    by_cases hlt : i < ls.length
    · obtain ⟨l, hl⟩ := getsome hlt
      have hw2 := wrap_add1 (n := i) (by omega)
      obtain ⟨x, i1, hx, hxr⟩ := rdLL_at hr hl
      obtain ⟨a1, al⟩ := hx t hK
      have hfs := flat_step hl
      have hft := flat_take ls (i + 1)
      rw [hfs, List.length_append] at hft
      have q1 := q_StValid false (hK.read hxr) (by unfold lim; omega)
      cases hv : storeL l
      · rw [hv] at q1
        have hres : allP ls = ([], 2) := by
          unfold allP
          rw [if_neg]
          intro ha
          have := List.all_eq_true.1 ha l (List.mem_of_getElem? hl)
          rw [hv] at this
          cases this
        rw [hres]
        simp (config := {contextual := true, maxDischargeDepth := 12}) only [tb_at, q_known, e7, e8, e9, he, hlt, i1, a1, al, q1, ↓bD0, ↓bD1, ↓bD2, ↓bD3, ↓bD4, ↓bD5, ↓bD6, bU0, bU1, bU2, bU3, bU4, bU5, bU6, bU7, bU8, bU9, bU10, bU11, bU12, bU13, forall_const, List.all_cons, List.all_nil, Option.map_some, List.map_cons, List.map_nil, ne_eq, implies_true, isNx, cs_dec, cs_not, cs_and, cs_or, cs_valid, eq_self, ↓wp_cond, ↓wp_loop, ↓reduceIte, reduceCtorEq, Nat.reduceEqDiff, Nat.reduceLT, Nat.reduceAdd, Nat.reduceMul, Int.ofNat_lt, Int.ofNat_le, exists_const, ae_app, ap_slc, Option.map_none, mkR_none, mkR_some, ar_look, ae_mset, ae_rng, ae_mkmap0, ar_ent, lookV_push, lookV_lowed, msetV_push, msetV_lowed, lt_put, same_put, sto_over, sto_lowed, cs_dead, Option.map_some, beq_self_eq_true, decide_true, cs_true, cs_false, aa_bsl, ↓sg_bsl]
        exact ⟨hK, _, rfl, .nil _ _ _⟩
      · rw [hv] at q1
        obtain ⟨u, t2, hap, hK2, hO2⟩ := appV_list hK hO (hK.read hxr) 48 (by unfold roomBytes; omega)
        have hap : appV t 6 48 (E e 4) x = some (u, t2) := hap
        simp (config := {contextual := true, maxDischargeDepth := 12}) only [tb_at, q_known, e7, e8, e9, he, hlt, i1, a1, al, q1, hap, hw2, ↓bD0, ↓bD1, ↓bD2, ↓bD3, ↓bD4, ↓bD5, ↓bD6, bU0, bU1, bU2, bU3, bU4, bU5, bU6, bU7, bU8, bU9, bU10, bU11, bU12, bU13, forall_const, List.all_cons, List.all_nil, Option.map_some, List.map_cons, List.map_nil, ne_eq, implies_true, isNx, cs_dec, cs_not, cs_and, cs_or, cs_valid, eq_self, ↓wp_cond, ↓wp_loop, ↓reduceIte, reduceCtorEq, Nat.reduceEqDiff, Nat.reduceLT, Nat.reduceAdd, Nat.reduceMul, Int.ofNat_lt, Int.ofNat_le, exists_const, ae_app, ap_slc, Option.map_none, mkR_none, mkR_some, ar_look, ae_mset, ae_rng, ae_mkmap0, ar_ent, lookV_push, lookV_lowed, msetV_push, msetV_lowed, lt_put, same_put, sto_over, sto_lowed, cs_dead, Option.map_some, beq_self_eq_true, decide_true, cs_true, cs_false, aa_bsl, ↓sg_bsl]
        refine ⟨n - 1, by omega, ?_⟩
        rw [hI]
        refine ⟨hK2, i + 1, by omega, by simp only [E_pne, E_psame, elen_put, Nat.reduceEqDiff, ne_eq, not_false_eq_true, Nat.reduceLT, he], by simp only [E_pne, E_psame, elen_put, Nat.reduceEqDiff, ne_eq, not_false_eq_true, Nat.reduceLT, e7], by simp only [E_pne, E_psame, elen_put, Nat.reduceEqDiff, ne_eq, not_false_eq_true, Nat.reduceLT, e8], by simp only [E_pne, E_psame, elen_put, Nat.reduceEqDiff, ne_eq, not_false_eq_true, Nat.reduceLT, he], ?_, all_step hl hst hv⟩
        rw [hfs]
        simp only [E_pne, E_psame, elen_put, Nat.reduceEqDiff, ne_eq, not_false_eq_true, Nat.reduceLT, he]
        exact hO2
    · obtain rfl : i = ls.length := by omega
      rw [List.take_length] at hO hst
      have hres : allP ls = ofP ls.flatten := by
        unfold allP
        rw [if_pos hst]
      have hg := gOf_P ls.flatten
      obtain ⟨u, t2, hc, hK2, hO2⟩ := fresh_L (D := ndC) (f := gOf) hO.read (by unfold lim; omega) hg (gOf_plain hg)
      rw [mkR_some] at hc
      rw [hres]
      simp (config := {contextual := true, maxDischargeDepth := 12}) only [tb_at, q_known, e7, e8, e9, he, hlt, hc, ↓bD0, ↓bD1, ↓bD2, ↓bD3, ↓bD4, ↓bD5, ↓bD6, bU0, bU1, bU2, bU3, bU4, bU5, bU6, bU7, bU8, bU9, bU10, bU11, bU12, bU13, forall_const, List.all_cons, List.all_nil, Option.map_some, List.map_cons, List.map_nil, ne_eq, implies_true, isNx, cs_dec, cs_not, cs_and, cs_or, cs_valid, eq_self, ↓wp_cond, ↓wp_loop, ↓reduceIte, reduceCtorEq, Nat.reduceEqDiff, Nat.reduceLT, Nat.reduceAdd, Nat.reduceMul, Int.ofNat_lt, Int.ofNat_le, exists_const, ae_app, ap_slc, Option.map_none, mkR_none, mkR_some, ar_look, ae_mset, ae_rng, ae_mkmap0, ar_ent, lookV_push, lookV_lowed, msetV_push, msetV_lowed, lt_put, same_put, sto_over, sto_lowed, cs_dead, Option.map_some, beq_self_eq_true, decide_true, cs_true, cs_false, aa_bsl, ↓sg_bsl]
      exact ⟨hK.trans hK2, _, rfl, hO2.from hK.next⟩

theorem ofFold_len : ∀ (r M A M' : List Nd), ofFold r M A = some M' → M'.length ≤ M.length + r.length
  | [], M, A, M', h => by simp [ofFold] at h; subst h; simp
  | n :: r, M, A, M', h => by
    rw [ofFold, ofStep_eq] at h
    split at h
    · rename_i M2 A2 hs
      have ih := ofFold_len r M2 A2 M' h
      have : M2.length ≤ M.length + 1 := by
        repeat' split at hs
        all_goals first | cases hs | skip
        all_goals exact updN_len _ _
      simp
      omega
    · cases h
theorem ofP_len (l : List Nd) : (ofP l).1.length ≤ l.length := by
  have h := gOf_P l
  unfold gOf at h
  split at h
  · split at h
    · rename_i M hM
      injection h with h
      rw [← (Prod.mk.inj h).1, sortN_len]
      simpa using ofFold_len _ _ _ _ hM
    · injection h with h
      rw [← (Prod.mk.inj h).1]
      simp
  · injection h with h
    rw [← (Prod.mk.inj h).1]
    simp
theorem allP_len (ls : List (List Nd)) : (allP ls).1.length ≤ ls.flatten.length := by
  unfold allP
  split
  · exact ofP_len _
  · simp

end Go.AM
end
/-
  A function's own code as its contract (run with as much fuel as it takes); what a call that changes memory leaves. Own work of this project.
-/
section
set_option linter.unusedVariables false
set_option linter.unusedSimpArgs false
namespace Go.AM
open Go

variable {call : Nat → List AV → St → Option (AV × St)}

/-! ### More fuel changes nothing -/
theorem aexec_mono : ∀ {n m : Nat} {c : AC} {env : Env} {s : St} {r : AEx × Env × St}, n ≤ m → aexec call n c env s = some r → aexec call m c env s = some r
  | 0, _, _, _, _, _, _, h => by simp [aexec] at h
  | n + 1, 0, _, _, _, _, hm, _ => by omega
  | n + 1, m + 1, c, env, s, r, hm, h => by
    have hm' : n ≤ m := by omega
    cases c with
    | skip => exact h
    | exit i => exact h
    | ret => exact h
    | bad => exact h
    | reg os => exact h
    | regd k os => exact h
    | seq a b =>
      simp only [aexec] at h ⊢
      cases ha : aexec call n a env s with
      | none => rw [ha] at h; cases h
      | some r1 =>
        rw [ha] at h
        rw [aexec_mono hm' ha]
        obtain ⟨x, e1, s1⟩ := r1
        cases x with
        | nor => exact aexec_mono hm' h
        | exit i => exact h
        | ret => exact h
    | cond c a b =>
      simp only [aexec] at h ⊢
      split at h
      · exact aexec_mono hm' h
      · exact aexec_mono hm' h
      · cases h
    | block id c =>
      simp only [aexec] at h ⊢
      cases ha : aexec call n c env s with
      | none => rw [ha] at h; cases h
      | some r1 =>
        rw [ha] at h
        rw [aexec_mono hm' ha]
        exact h
    | loop c =>
      simp only [aexec] at h ⊢
      cases ha : aexec call n c env s with
      | none => rw [ha] at h; cases h
      | some r1 =>
        rw [ha] at h
        rw [aexec_mono hm' ha]
        obtain ⟨x, e1, s1⟩ := r1
        cases x with
        | nor => exact aexec_mono hm' h
        | exit i => exact h
        | ret => exact h
/-- No range over a map in it. -/
def noNxtC : AC → Bool
  | .reg os | .regd _ os => noNxt os
  | .seq a b | .cond _ a b => noNxtC a && noNxtC b
  | .block _ c | .loop c => noNxtC c
  | _ => true
theorem awp_exec : ∀ (c : AC) {Q : AEx → Env → St → Prop} {env : Env} {s : St}, noNxtC c = true → awp call c Q env s → ∃ n x e t, aexec call n c env s = some (x, e, t) ∧ Q x e t
  | .skip, _, _, _, _, k => ⟨1, _, _, _, rfl, k⟩
  | .exit _, _, _, _, _, k => ⟨1, _, _, _, rfl, k⟩
  | .ret, _, _, _, _, k => ⟨1, _, _, _, rfl, k⟩
  | .bad, _, _, _, _, k => k.elim
  | .reg os, _, env, s, hn, k => by
    obtain ⟨e, t, h1, h2⟩ := awops_some os env s hn k
    exact ⟨1, _, _, _, by simp only [aexec, h1], h2⟩
  | .regd _ os, _, _, _, _, k => by
    obtain ⟨e, t, h1, h2⟩ := k
    exact ⟨1, _, _, _, by simp only [aexec, h1], h2⟩
  | .seq a b, Q, env, s, hn, k => by
    simp only [noNxtC, Bool.and_eq_true] at hn
    obtain ⟨n, x, e, t, h1, h2⟩ := awp_exec a hn.1 k
    cases x with
    | nor =>
      obtain ⟨m, x', e', t', h3, h4⟩ := awp_exec b hn.2 h2
      refine ⟨max n m + 1, x', e', t', ?_, h4⟩
      simp only [aexec]
      rw [aexec_mono (Nat.le_max_left n m) h1]
      exact aexec_mono (Nat.le_max_right n m) h3
    | exit i => exact ⟨n + 1, _, _, _, by simp only [aexec, h1], h2⟩
    | ret => exact ⟨n + 1, _, _, _, by simp only [aexec, h1], h2⟩
  | .cond c a b, Q, env, s, hn, k => by
    simp only [noNxtC, Bool.and_eq_true] at hn
    simp only [awp] at k
    split at k
    · rename_i hc
      obtain ⟨n, x, e, t, h1, h2⟩ := awp_exec a hn.1 k
      exact ⟨n + 1, x, e, t, by simp only [aexec, hc, h1], h2⟩
    · rename_i hc
      obtain ⟨n, x, e, t, h1, h2⟩ := awp_exec b hn.2 k
      exact ⟨n + 1, x, e, t, by simp only [aexec, hc, h1], h2⟩
    · exact k.elim
  | .block id c, Q, env, s, hn, k => by
    obtain ⟨n, x, e, t, h1, h2⟩ := awp_exec c hn k
    cases x with
    | nor => exact ⟨n + 1, _, _, _, by simp only [aexec, h1], h2⟩
    | exit i =>
      simp only at h2
      split at h2
      · rename_i hi
        exact ⟨n + 1, _, _, _, by simp only [aexec, h1, if_pos hi], h2⟩
      · rename_i hi
        exact ⟨n + 1, _, _, _, by simp only [aexec, h1, if_neg hi], h2⟩
    | ret => exact ⟨n + 1, _, _, _, by simp only [aexec, h1], h2⟩
  | .loop c, Q, env, s, hn, k => by
    obtain ⟨r, k⟩ := k
    revert env s k
    induction r with
    | zero => exact fun env s k => k.elim
    | succ r ih =>
      intro env s k
      simp only [arounds] at k
      obtain ⟨n, x, e, t, h1, h2⟩ := awp_exec c hn k
      cases x with
      | nor =>
        obtain ⟨m, x', e', t', h3, h4⟩ := ih _ _ h2
        refine ⟨max n m + 1, x', e', t', ?_, h4⟩
        simp only [aexec]
        rw [aexec_mono (Nat.le_max_left n m) h1]
        exact aexec_mono (Nat.le_max_right n m) h3
      | exit i => exact ⟨n + 1, _, _, _, by simp only [aexec, h1], h2⟩
      | ret => exact ⟨n + 1, _, _, _, by simp only [aexec, h1], h2⟩

/-! ### The code as a contract -/
open Classical in
noncomputable def runFn (call : Nat → List AV → St → Option (AV × St)) (fn : AFn) : Con := fun args s =>
  if h : ∃ n r, acallFn call n fn args s = some r then some (Classical.choose (Classical.choose_spec h)) else none
theorem run_sound {P : Program} (hS : Sound P call) (hm : P.follows .mixedOrders = true) {f : Nat} {fn : Func} {afn : AFn} (hf : P.funcs[f]? = some fn) (hcal : callable P f = true) (hc : cfn P fn = some afn) : SoundAt P f (runFn call afn) := by
  intro args s r s' h
  unfold runFn at h
  split at h
  · rename_i hx
    injection h with h
    have := Classical.choose_spec (Classical.choose_spec hx)
    rw [h] at this
    exact fn_sound hS hm hf hcal hc _ args s r s' this
  · cases h
theorem acallFn_mono {fn : AFn} {n m : Nat} (h : n ≤ m) {args : List AV} {s : St} {r : AV × St} (k : acallFn call n fn args s = some r) : acallFn call m fn args s = some r := by
  unfold acallFn at k ⊢
  cases ha : aexec call n fn.body (args ++ List.replicate (fn.ntmps - args.length) .und) s with
  | none => rw [ha] at k; cases k
  | some q =>
    rw [ha] at k
    rw [aexec_mono h ha]
    exact k
theorem run_of {fn : AFn} {n : Nat} {args : List AV} {s : St} {r : AV × St} (k : acallFn call n fn args s = some r) : runFn call fn args s = some r := by
  have hx : ∃ n r, acallFn call n fn args s = some r := ⟨n, r, k⟩
  unfold runFn
  rw [dif_pos hx]
  have := Classical.choose_spec (Classical.choose_spec hx)
  have h1 := acallFn_mono (Nat.le_max_left n (Classical.choose hx)) k
  have h2 := acallFn_mono (Nat.le_max_right n (Classical.choose hx)) this
  rw [h1] at h2
  exact h2.symm ▸ rfl
theorem run_awp {fn : AFn} (hn : noNxtC fn.body = true) {args : List AV} (hl : args.length ≤ fn.ntmps) {s : St} {Q : AV → St → Prop}
    (h : ∀ env : Env, elen env = fn.ntmps → (∀ i v, args[i]? = some v → E env i = v) → awp call fn.body (fun x e t => (∀ i, x ≠ .exit i) ∧ ∃ r, aresults e t fn.results = some r ∧ Q r t) env s) :
    ∃ r t, runFn call fn args s = some (r, t) ∧ Q r t := by
  have h := start_env hl h
  obtain ⟨n, x, e, t, h1, hx, r, h2, h3⟩ := awp_exec fn.body hn h
  refine ⟨r, t, run_of (n := n) ?_, h3⟩
  unfold acallFn
  rw [h1]
  cases x with
  | nor => simp only [h2, Option.map_some]
  | exit i => exact absurd rfl (hx i)
  | ret => simp only [h2, Option.map_some]

/-! ### What a call changes -/
/-- Only the blocks of M, and what is new. -/
structure Chg (M : List Nat) (s t : St) : Prop where
  next : s.next ≤ t.next
  get : ∀ id, id < s.next → id ∉ M → t.get id = s.get id
  low : ∀ k, k ≤ s.low → k ≤ s.next → (∀ id ∈ M, k ≤ id) → k ≤ t.low
theorem Chg.refl (M : List Nat) (s : St) : Chg M s s := ⟨Nat.le_refl _, fun _ _ _ => rfl, fun _ h _ _ => h⟩
theorem Keep.chg {s t : St} (h : Keep s t) (M : List Nat) : Chg M s t := ⟨h.next, fun id h1 _ => h.get id h1, fun k h1 h2 _ => by have := h.low; omega⟩
theorem Chg.keep {s t : St} (h : Chg [] s t) : Keep s t := ⟨h.next, fun id h1 => h.get id h1 (by simp), h.low _ (Nat.min_le_left _ _) (Nat.min_le_right _ _) (by simp)⟩
theorem Chg.trans {M M' : List Nat} {a b c : St} (h : Chg M a b) (k : Chg M' b c) (hM : ∀ id ∈ M', id ∈ M ∨ a.next ≤ id) : Chg M a c := by
  refine ⟨Nat.le_trans h.next k.next, fun id h1 h2 => ?_, fun n h1 h2 h3 => ?_⟩
  · rw [k.get id (Nat.lt_of_lt_of_le h1 h.next) fun hm => ?_, h.get id h1 h2]
    rcases hM id hm with q | q
    · exact h2 q
    · omega
  · refine k.low n (h.low n h1 h2 h3) (Nat.le_trans h2 h.next) fun id hid => ?_
    rcases hM id hid with q | q
    · exact h3 id q
    · omega
theorem Chg.mono {M M' : List Nat} {s t : St} (h : Chg M s t) (hM : ∀ id ∈ M, id ∈ M') : Chg M' s t :=
  ⟨h.next, fun id h1 h2 => h.get id h1 fun q => h2 (hM id q), fun k h1 h2 h3 => h.low k h1 h2 fun id q => h3 id (hM id q)⟩
theorem Chg.push {M : List Nat} {s t : St} (h : Chg M s t) (b : AB) : Chg M s (t.push b) :=
  h.trans (M' := []) (((Keep.refl t).push b).chg []) (by simp)
theorem Chg.put {M : List Nat} {s t : St} (h : Chg M s t) {id : Nat} (b : AB) (hid : id ∈ M ∨ s.next ≤ id) (hlt : id < t.next) : Chg M s (t.put id b) := by
  refine ⟨by simpa using h.next, fun j h1 h2 => ?_, fun k h1 h2 h3 => ?_⟩
  · rw [St.get_put_ne _ _ hlt fun e => ?_, h.get j h1 h2]
    subst e
    rcases hid with q | q
    · exact h2 q
    · omega
  · have := h.low k h1 h2 h3
    have : k ≤ id := by
      rcases hid with q | q
      · exact h3 id q
      · omega
    simp
    omega
/-- What was made in the meantime may be changed. -/
theorem Chg.new {M M' : List Nat} {a s t : St} (h : Chg M a s) (k : Chg M' s t) (hM : ∀ id ∈ M', a.next ≤ id ∨ id ∈ M) : Chg M a t := h.trans k fun id q => (hM id q).symm
theorem Keep.chgn {M' : List Nat} {a s t : St} (h : Keep a s) (k : Chg M' s t) (hM : ∀ id ∈ M', a.next ≤ id) : Keep a t :=
  ((h.chg []).trans k fun id q => .inr (hM id q)).keep
theorem Chg.blk {M : List Nat} {s t : St} (h : Chg M s t) {id : Nat} {b : AB} (hb : s.get id = some b) (hm : id ∉ M) : t.get id = some b := by rw [h.get id (St.get_lt hb) hm, hb]
@[reducible] def lowd (s : St) : St := { heap := s.heap, next := s.next, low := s.next }
/-- The call answers what names no block, and has changed nothing. -/
theorem acall_same {c : Con} {cl : Bool} {args : List AV} {s t : St} {r : AV} (h : c args (lowd s) = some (r, t)) (hk : Keep (lowd s) t) (hg : r.ground = true) : acall c cl args s = some (r, s) := by
  have hl := hk.low
  have hl : s.next ≤ t.low := by
    have : min s.next s.next ≤ t.low := hl
    omega
  simp only [acall]
  rw [show ({ heap := s.heap, next := s.next, low := s.next } : St) = lowd s from rfl, h]
  simp [hg, hl]
theorem acall_new {c : Con} {args : List AV} {M : List Nat} {s t : St} {r : AV} (h : c args (lowd s) = some (r, t)) (hk : Chg M (lowd s) t) (hng : r.ground = false ∨ t.low < s.next) :
    ∃ t', acall c false args s = some (r, t') ∧ (∀ id, t'.get id = t.get id) ∧ t'.next = t.next ∧ Chg M s t' := by
  refine ⟨{ heap := t.heap, next := t.next, low := min s.low t.low }, ?_, fun _ => rfl, rfl, hk.next, hk.get, fun k h1 h2 h3 => ?_⟩
  · simp only [acall]
    rw [show ({ heap := s.heap, next := s.next, low := s.next } : St) = lowd s from rfl, h]
    simp only
    rw [if_neg]
    · simp
    · simp only [Bool.and_eq_true, decide_eq_true_eq]
      rintro ⟨h1, h2⟩
      rcases hng with q | q
      · rw [h1] at q; cases q
      · omega
  · have := hk.low k h2 h2 h3
    show k ≤ min s.low t.low
    omega
theorem run_same {fn : AFn} (hn : noNxtC fn.body = true) {args : List AV} (hl : args.length ≤ fn.ntmps) {cl : Bool} {s : St} {r : AV} (hg : r.ground = true)
    (h : ∀ env : Env, elen env = fn.ntmps → (∀ i v, args[i]? = some v → E env i = v) → awp call fn.body (fun x e t => (∀ i, x ≠ .exit i) ∧ aresults e t fn.results = some r ∧ Keep (lowd s) t) env (lowd s)) :
    acall (runFn call fn) cl args s = some (r, s) := by
  obtain ⟨r', t, h1, h2, h3⟩ := run_awp hn hl (Q := fun r' t => r' = r ∧ Keep (lowd s) t) fun env h1 h2 => awp_mono _ (fun x e t q => ⟨q.1, r, q.2.1, rfl, q.2.2⟩) (h env h1 h2)
  subst h2
  exact acall_same h1 h3 hg
/-- The answer names a block, or something was changed. -/
theorem run_new {fn : AFn} (hn : noNxtC fn.body = true) {args : List AV} (hl : args.length ≤ fn.ntmps) {s : St} {M : List Nat} {Q : AV → St → Prop} (hQ : ∀ r t t', (∀ id, t'.get id = t.get id) → t'.next = t.next → Q r t → Q r t')
    (h : ∀ env : Env, elen env = fn.ntmps → (∀ i v, args[i]? = some v → E env i = v) → awp call fn.body (fun x e t => (∀ i, x ≠ .exit i) ∧ ∃ r, aresults e t fn.results = some r ∧ Q r t ∧ Chg M (lowd s) t ∧ (r.ground = false ∨ t.low < s.next)) env (lowd s)) :
    ∃ r t, acall (runFn call fn) false args s = some (r, t) ∧ Q r t ∧ Chg M s t := by
  obtain ⟨r, t, h1, h2, h3, h4⟩ := run_awp hn hl h
  obtain ⟨t', g1, g2, g3, g4⟩ := acall_new h1 h3 h4
  exact ⟨r, t', g1, hQ r t t' g2 g3 h2, g4⟩

theorem acall_newl {c : Con} {args : List AV} {M : List Nat} {s t : St} {r : AV} (h : c args (lowd s) = some (r, t)) (hk : Chg M (lowd s) t) (hng : r.ground = false ∨ t.low < s.next) :
    ∃ t', acall c false args s = some (r, t') ∧ (∀ id, t'.get id = t.get id) ∧ t'.next = t.next ∧ Chg M s t' ∧ (r.ground = false ∨ t'.low < s.next) := by
  refine ⟨{ heap := t.heap, next := t.next, low := min s.low t.low }, ?_, fun _ => rfl, rfl, ⟨hk.next, hk.get, fun k h1 h2 h3 => ?_⟩, hng.imp id fun h => Nat.lt_of_le_of_lt (Nat.min_le_right _ _) h⟩
  · simp only [acall]
    rw [show ({ heap := s.heap, next := s.next, low := s.next } : St) = lowd s from rfl, h]
    simp only
    rw [if_neg]
    · simp
    · simp only [Bool.and_eq_true, decide_eq_true_eq]
      rintro ⟨h1, h2⟩
      rcases hng with q | q
      · rw [h1] at q; cases q
      · omega
  · have := hk.low k h2 h2 h3
    show k ≤ min s.low t.low
    omega
theorem run_newl {fn : AFn} (hn : noNxtC fn.body = true) {args : List AV} (hl : args.length ≤ fn.ntmps) {s : St} {M : List Nat} {Q : AV → St → Prop} (hQ : ∀ r t t', (∀ id, t'.get id = t.get id) → t'.next = t.next → Q r t → Q r t')
    (h : ∀ env : Env, elen env = fn.ntmps → (∀ i v, args[i]? = some v → E env i = v) → awp call fn.body (fun x e t => (∀ i, x ≠ .exit i) ∧ ∃ r, aresults e t fn.results = some r ∧ Q r t ∧ Chg M (lowd s) t ∧ (r.ground = false ∨ t.low < s.next)) env (lowd s)) :
    ∃ r t, acall (runFn call fn) false args s = some (r, t) ∧ Q r t ∧ Chg M s t ∧ (r.ground = false ∨ t.low < s.next) := by
  obtain ⟨r, t, h1, h2, h3, h4⟩ := run_awp hn hl h
  obtain ⟨t', g1, g2, g3, g4, g5⟩ := acall_newl h1 h3 h4
  exact ⟨r, t', g1, hQ r t t' g2 g3 h2, g4, g5⟩
theorem run_fresh {β : Type} {D : Cod β} {fn : AFn} (hn : noNxtC fn.body = true) {args : List AV} (hl : args.length ≤ fn.ntmps) {s : St} {l : List β} (mk : AV → AV) (hmk : ∀ j off n cap z, (mk (.sl j off n cap z)).ground = false)
    (h : ∀ env : Env, elen env = fn.ntmps → (∀ i v, args[i]? = some v → E env i = v) → awp call fn.body (fun x e t => (∀ i, x ≠ .exit i) ∧ Keep (lowd s) t ∧ ∃ v, aresults e t fn.results = some (mk v) ∧ Own D (lowd s) t v l) env (lowd s)) :
    ∃ v t, acall (runFn call fn) false args s = some (mk v, t) ∧ Own D s t v l ∧ Keep s t := by
  obtain ⟨r, t, h1, h2, v, rfl, h3⟩ := run_awp hn hl (Q := fun r t => Keep (lowd s) t ∧ ∃ v, r = mk v ∧ Own D (lowd s) t v l) fun env h1 h2 => awp_mono _ (fun x e t q => by
    obtain ⟨q1, q2, v, q3, q4⟩ := q
    exact ⟨q1, mk v, q3, q2, v, rfl, q4⟩) (h env h1 h2)
  have hnew : (mk v).ground = false → ∃ v t, acall (runFn call fn) false args s = some (mk v, t) ∧ Own D s t v l ∧ Keep s t := by
    intro hg
    obtain ⟨t', g1, g2, g3, g4⟩ := acall_new h1 (h2.chg []) (.inl hg)
    exact ⟨v, t', g1, h3.mono fun id b hb => by rw [g2]; exact hb, g4.keep⟩
  rcases h3 with ⟨rfl, rfl⟩ | ⟨j, rfl, h4⟩
  · by_cases hg : (mk .nils).ground = true
    · exact ⟨.nils, s, acall_same h1 h2 hg, .nil _ _ _, .refl s⟩
    · exact hnew (by simpa using hg)
  · exact hnew (hmk _ _ _ _ _)
/-! ### A call that answers with new memory, in a region that draws its order -/
def acallF (c : Con) (args : List AV) (s : St) : Option (AV × St) := match acall c false args (lowd s) with
  | some (v, t) => if s.next ≤ t.low then some (v, { heap := t.heap, next := t.next, low := min s.low t.low }) else none
  | none => none
variable {base : Nat} {d : Option Nat} {r : Option Nat} {rest : List AOper} {Q : Env → St → Prop} {env : Env} {s : St}
theorem st_callf (f : Nat) (l : List AO) : awops call base (⟨d, .call f false l, none, r, true⟩ :: rest) Q env s = estep (acallF (call f) (l.map (aev env)) s) fun v t => awops call base rest Q (pE env d v) t := by
  rw [st_efff (op := .call f false l) (by simp) rfl rfl rfl]
  simp only [aeff, acallF, AOp.floor, AOp.isStore, Bool.false_eq_true, if_false]
  cases acall (call f) false (l.map (aev env)) (lowd s) with
  | none => rfl
  | some q =>
    obtain ⟨v, t⟩ := q
    simp only [estep]
    by_cases h : s.next ≤ t.low
    · rw [if_pos h, if_pos h]
    · rw [if_neg h, if_neg h]
theorem acallF_keep {c : Con} {args : List AV} {s t : St} {v : AV} (h : acall c false args (lowd s) = some (v, t)) (hk : Keep (lowd s) t) : ∃ t', acallF c args s = some (v, t') ∧ (∀ id, t'.get id = t.get id) ∧ t'.next = t.next ∧ Keep s t' := by
  have hl : s.next ≤ t.low := by
    have := hk.low
    have : min s.next s.next ≤ t.low := this
    omega
  refine ⟨{ heap := t.heap, next := t.next, low := min s.low t.low }, ?_, fun _ => rfl, rfl, hk.next, hk.get, ?_⟩
  · simp only [acallF, h, if_pos hl]
  · show min s.low s.next ≤ min s.low t.low
    omega
end Go.AM
end
