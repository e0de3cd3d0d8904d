/-
  The contract of slices.SortFunc at a new list of nodes, sorted by their dots. Own work of this project.
-/
import Derived.Test.YtihjheckdjocoaaAmFE
import Derived.Test.YtihjheckdjocoaaAmSort
import Derived.Shelf.SlSortCmp.NoneTotal
set_option linter.unusedVariables false
set_option linter.unusedSimpArgs false
set_option maxHeartbeats 1000000
namespace Go.AM
open Go Go.Proofs
open Go.Sort (HoldsK putRowK flatK get_flatK size_flatK)

instance : Inhabited Nd := ⟨nd0⟩
def toVal : AV → Value
  | .int k n => .int k n
  | _ => undef
def nvals (x : Nd) : List Value := (Nd.av x).map toVal
theorem nvals_len (x : Nd) : (nvals x).length = 6 := rfl
theorem nvals_one (x : Nd) : ∀ v ∈ nvals x, v.oneCell' = true := by
  intro v hv
  simp only [nvals, Nd.av, List.map_cons, List.map_nil, toVal, List.mem_cons, List.not_mem_nil, or_false] at hv
  rcases hv with rfl | rfl | rfl | rfl | rfl | rfl <;> rfl
theorem nd_val {ρ : Ren} {x : Nd} {i : Nat} {v : AV} {c : Value} (h : (Nd.av x)[i]? = some v) (k : VR ρ v c) : (nvals x)[i]? = some c := by
  simp only [nvals, List.getElem?_map, h, Option.map_some, Option.some.injEq]
  have : v ∈ Nd.av x := List.mem_of_getElem? h
  simp only [Nd.av, List.mem_cons, List.not_mem_nil, or_false] at this
  rcases this with rfl | rfl | rfl | rfl | rfl | rfl <;> (simp only [VR] at k; rw [k]; rfl)
theorem nd_VR {ρ : Ren} {x : Nd} {i : Nat} {v : AV} (h : (Nd.av x)[i]? = some v) : ∃ c, (nvals x)[i]? = some c ∧ VR ρ v c := by
  refine ⟨toVal v, by simp [nvals, h], ?_⟩
  have : v ∈ Nd.av x := List.mem_of_getElem? h
  simp only [Nd.av, List.mem_cons, List.not_mem_nil, or_false] at this
  rcases this with rfl | rfl | rfl | rfl | rfl | rfl <;> simp [VR, toVal]
theorem cells_get : ∀ (l : List Nd) (t : Nat), (ndC.cells l)[t]? = (l[t / 6]?).bind fun x => (Nd.av x)[t % 6]?
  | [], t => by simp [cells_nil]
  | x :: l, t => by
    rw [cells_cons]
    have hl : (ndC.enc x).length = 6 := rfl
    by_cases h : t < 6
    · rw [List.getElem?_append_left (by omega), Nat.div_eq_of_lt h, Nat.mod_eq_of_lt h]
      rfl
    · rw [List.getElem?_append_right (by omega), hl, cells_get l (t - 6)]
      have e1 : t / 6 = (t - 6) / 6 + 1 := by omega
      have e2 : t % 6 = (t - 6) % 6 := by omega
      rw [e1, e2]
      rfl
theorem before_irr (a : Dot) : a.before a = false := by simp [Dot.before]
theorem swo : Sort.SWO (ltOf fun x y : Nd => dcmp x.d y.d) := by
  have e : ∀ x y : Nd, ltOf (fun x y : Nd => dcmp x.d y.d) x y = x.d.before y.d := by
    intro x y
    unfold ltOf
    rcases dcmp_cases x.d y.d with ⟨h, h1, _⟩ | ⟨h, h1, _⟩ | ⟨h, h1, _⟩ <;> simp only [h, h1] <;> decide
  refine ⟨fun x => by rw [e]; exact before_irr _, fun x y z => ?_, fun x y z => ?_⟩
  · rw [e, e, e]
    obtain ⟨⟨_, _⟩, _, _, _⟩ := x
    obtain ⟨⟨_, _⟩, _, _, _⟩ := y
    obtain ⟨⟨_, _⟩, _, _, _⟩ := z
    simp only [Dot.before, Bool.or_eq_true, Bool.and_eq_true, decide_eq_true_eq]
    omega
  · rw [e, e, e]
    obtain ⟨⟨_, _⟩, _, _, _⟩ := x
    obtain ⟨⟨_, _⟩, _, _, _⟩ := y
    obtain ⟨⟨_, _⟩, _, _, _⟩ := z
    simp only [Dot.before, Bool.or_eq_false_iff, Bool.and_eq_false_iff, decide_eq_false_iff_not]
    omega
theorem clean_grow {W W' : World} (h : Clean W W') : ∃ q os, W' = Sort.grow (W.drewN q) os := by
  refine ⟨W'.drawn - W.drawn, W'.heap.extract W.heap.size W'.heap.size, ?_⟩
  have hd := h.drawn
  have hh : W'.heap = W.heap ++ W'.heap.extract W.heap.size W'.heap.size := by
    have hs := h.size
    apply Array.ext_getElem?
    intro i
    rw [Array.getElem?_append]
    split
    · exact h.block i (by assumption)
    · rw [Array.getElem?_extract]
      by_cases hi : i < W'.heap.size
      · rw [if_pos (by omega)]
        congr 1
        omega
      · rw [if_neg (by omega), Array.getElem?_eq_none (by omega)]
  have h1 := h.os
  have h2 := h.tape
  have h3 := h.output
  cases W'
  cases W
  simp only [Sort.grow, World.drewN] at *
  subst h1; subst h2; subst h3
  congr 1
  omega
theorem cmp_lays (w : World) (blk off size : Nat) : CmpLays Try.prog 55 #[] nvals 6 (fun x y : Nd => dcmp x.d y.d) blk off size w := by
  intro m os dk hdk x y
  obtain ⟨_, _, h⟩ := s_nodeCmp [.agg (Nd.av x), .agg (Nd.av y)] St.empty (.int .i64 (dcmp x.d y.d)) St.empty rfl
  have hv : ∀ x : Nd, VRs (fun _ => none) (Nd.av x) (nvals x) := fun x => by
    simp [Nd.av, nvals, toVal, VRs, VR]
  have := h (fun _ => none) (sortWorldK nvals 6 w blk off m dk os) [.agg (nvals x).toArray, .agg (nvals y).toArray] (fun _ _ => rfl) (R_empty _) (by
    rw [VRs_cons, VRs_cons]
    exact ⟨by simp only [VR]; exact ⟨_, rfl, hv x⟩, by simp only [VR]; exact ⟨_, rfl, hv y⟩, VRs_nil⟩)
  refine Calls.mono (by simpa using this) fun e w' hp => ?_
  obtain ⟨ρ', v, rfl, hv, hst, _⟩ := hp
  simp only [VR] at hv
  subst hv
  exact ⟨rfl, clean_grow (hst.clean (by simp [St.empty]))⟩
/-! ### Sorting nodes -/
def insN (x : Nd) : List Nd → List Nd
  | [] => [x]
  | y :: r => if x.d.before y.d = true then x :: y :: r else y :: insN x r
def sortN : List Nd → List Nd
  | [] => []
  | x :: r => insN x (sortN r)
def ltP (x y : Nd) : Prop := x.d.before y.d = true
theorem insN_perm (x : Nd) : ∀ l, (insN x l).Perm (x :: l)
  | [] => .refl _
  | y :: r => by
    unfold insN
    split
    · exact .refl _
    · exact ((insN_perm x r).cons y).trans (.swap x y r)
theorem sortN_perm : ∀ l, (sortN l).Perm l
  | [] => .refl _
  | x :: r => (insN_perm x _).trans ((sortN_perm r).cons x)
theorem sortN_len (l : List Nd) : (sortN l).length = l.length := (sortN_perm l).length_eq
theorem ltP_trans {x y z : Nd} (h : ltP x y) (k : ltP y z) : ltP x z := by
  unfold ltP at *
  obtain ⟨⟨_, _⟩, _, _, _⟩ := x
  obtain ⟨⟨_, _⟩, _, _, _⟩ := y
  obtain ⟨⟨_, _⟩, _, _, _⟩ := z
  simp only [Dot.before, Bool.or_eq_true, Bool.and_eq_true, decide_eq_true_eq] at *
  omega
theorem ltP_asymm {x y : Nd} (h : ltP x y) (k : ltP y x) : False := by
  have := ltP_trans h k
  unfold ltP at this
  rw [before_irr] at this
  cases this
theorem ltP_tri (x y : Nd) (h : x.d ≠ y.d) : ltP x y ∨ ltP y x := by
  unfold ltP
  rcases dcmp_cases x.d y.d with ⟨_, h1, _⟩ | ⟨_, _, h1⟩ | ⟨_, _, _, h1⟩
  · exact .inl h1
  · exact .inr h1
  · exact absurd h1 h
theorem insN_sorted (x : Nd) : ∀ l : List Nd, l.Pairwise ltP → (∀ y ∈ l, x.d ≠ y.d) → (insN x l).Pairwise ltP
  | [], _, _ => by simp [insN]
  | y :: r, h, hx => by
    unfold insN
    rw [List.pairwise_cons] at h
    split
    · rename_i hb
      rw [List.pairwise_cons, List.pairwise_cons]
      refine ⟨fun z hz => ?_, h⟩
      rcases List.mem_cons.1 hz with rfl | hz
      · exact hb
      · exact ltP_trans hb (h.1 z hz)
    · rename_i hb
      have hyx : ltP y x := (ltP_tri x y (hx y (by simp))).resolve_left hb
      rw [List.pairwise_cons]
      refine ⟨fun z hz => ?_, insN_sorted x r h.2 fun y hy => hx y (by simp [hy])⟩
      rcases List.mem_cons.1 ((insN_perm x r).mem_iff.1 hz) with rfl | hz
      · exact hyx
      · exact h.1 z hz
theorem sortN_sorted : ∀ l : List Nd, (l.map Nd.d).Nodup → (sortN l).Pairwise ltP
  | [], _ => by simp [sortN]
  | x :: r, h => by
    simp only [List.map_cons, List.nodup_cons] at h
    refine insN_sorted x _ (sortN_sorted r h.2) fun y hy e => h.1 ?_
    rw [e]
    exact List.mem_map_of_mem ((sortN_perm r).mem_iff.1 hy)
theorem sorted_unique : ∀ (l m : List Nd), l.Perm m → l.Pairwise ltP → m.Pairwise ltP → l = m
  | [], m, h, _, _ => (List.nil_perm.1 h).symm
  | x :: l, [], h, _, _ => absurd h.length_eq (by simp)
  | x :: l, y :: m, h, h1, h2 => by
    rw [List.pairwise_cons] at h1 h2
    have e : x = y := by
      by_cases e : x = y
      · exact e
      · have hx : x ∈ m := by
          rcases List.mem_cons.1 (h.mem_iff.1 (List.mem_cons_self ..)) with q | q
          · exact absurd q e
          · exact q
        have hy : y ∈ l := by
          rcases List.mem_cons.1 (h.mem_iff.2 (List.mem_cons_self ..)) with q | q
          · exact absurd q.symm e
          · exact q
        exact (ltP_asymm (h1.1 y hy) (h2.1 x hx)).elim
    subst e
    rw [sorted_unique l m h.cons_inv h1.2 h2.2]
def cSort (g : Nat) : Con := fun xs s => match xs with
  | [.nils, .fn g' []] => if g' = g then some (.tup [], s.lowed) else none
  | [.sl j 0 n none 6, .fn g' []] => if g' = g then match s.get j with
      | some (.row cs true) => match decL ndC n cs with
        | some l => if cs.length = n * 6 ∧ (l.map Nd.d).Nodup ∧ 0 < n ∧ n ≤ lim then some (.tup [], s.put j (.row (ndC.cells (sortN l)) true)) else none
        | none => none
      | _ => none
    else none
  | _ => none
theorem holds_of {ρ : Ren} {L : Loc} {w : World} {l : List Nd} (h : BlkOk ρ L w (.row (ndC.cells l) true)) : HoldsK nvals 6 w L.b L.o l.toArray := by
  simp only [BlkOk] at h
  obtain ⟨cs, e, fr, h1, h2, h3, h4, h5, _⟩ := h
  rw [cells_len] at h3
  intro j hj
  have hj : j < l.length * 6 := by simpa using hj
  obtain ⟨x, hx⟩ := getsome (l := l) (i := j / 6) (by omega)
  have h6 : (Nd.av x).length = 6 := rfl
  obtain ⟨v, hv⟩ : ∃ v, (Nd.av x)[j % 6]? = some v := ⟨(Nd.av x)[j % 6]'(by omega), by simp⟩
  obtain ⟨c, hc, hr⟩ := h4 j v (by rw [cells_get, hx]; exact hv)
  have hn := nd_val hv hr
  have e1 : (flatK nvals 6 l.toArray)[j]! = c := by
    rw [get_flatK _ _ _ _ (by simpa using hj)]
    have : l.toArray[j / 6]! = x := by simp [hx]
    rw [this]
    simp [hn]
  have h66 : ndC.sz = 6 := rfl
  rw [h66] at h3
  have hfr := h5 trivial (L.o + j) (by omega)
  constructor
  · simp only [World.cell?, h1, id, e1]
    simpa using hc
  · simp only [World.frozen?, h1]
    exact hfr
theorem blk_after {ρ : Ren} {L : Loc} {w : World} {l m : List Nd} (h : BlkOk ρ L w (.row (ndC.cells l) true)) (hm : m.length = l.length) (n : Nat) : BlkOk ρ L (putRowK nvals 6 (Sort.ahead w n) L.b L.o m.toArray) (.row (ndC.cells m) true) := by
  simp only [BlkOk] at h ⊢
  obtain ⟨cs, e, fr, h1, h2, h3, h4, h5, _⟩ := h
  rw [cells_len] at h3
  have h6 : ndC.sz = 6 := rfl
  refine ⟨Sort.putCells id L.o (flatK nvals 6 m.toArray) cs, e, fr, ?_, by simp [Sort.putCells, h2], by rw [cells_len, hm]; exact h3, fun i v hv => ?_, h5, cells_one' ndC m⟩
  · simp only [putRowK, Sort.putRow, Sort.mapBlock, Sort.ahead]
    rw [Array.getElem?_modify]
    simp [h1, Sort.onCells]
  · have hi := (List.getElem?_eq_some_iff.1 hv).1
    rw [cells_len] at hi
    rw [cells_get] at hv
    rw [h6] at hi
    obtain ⟨x, hx⟩ := getsome (l := m) (i := i / 6) (by omega)
    rw [hx] at hv
    obtain ⟨c, hc, hr⟩ := nd_VR (ρ := ρ) hv
    refine ⟨c, ?_, hr⟩
    have e1 : (flatK nvals 6 m.toArray)[i]! = c := by
      rw [get_flatK _ _ _ _ (by simp; omega)]
      have : m.toArray[i / 6]! = x := by simp [hx]
      rw [this]
      simp [hc]
    simp only [Sort.putCells, Array.getElem?_mapIdx]
    have hlt : L.o + i < cs.size := by
      rw [h6, ← hm] at h3
      rw [h2]
      omega
    rw [Array.getElem?_eq_getElem hlt]
    simp only [Option.map_some, size_flatK, List.size_toArray]
    rw [if_pos (by omega)]
    simp [e1]
theorem s_sort : SoundAt Try.prog 54 (cSort 55) := by
  intro xs s r s' h
  have hk : callable Try.prog 54 = true := k54
  have hf : Try.sortNode_ren.f 6 = 54 := rfl
  unfold cSort at h
  split at h
  · split at h
    · rename_i e
      subst e
      injection h with h
      obtain ⟨rfl, rfl⟩ := Prod.mk.inj h
      refine ⟨hk, (keep_lowed s).grow, fun ρ w cargs hfree hR hargs => ?_⟩
      obtain ⟨a1, r1, rfl, v1, w1⟩ : ∃ c r, cargs = c :: r ∧ VR ρ .nils c ∧ VRs ρ [.fn 55 []] r := by simpa only [VRs] using hargs
      obtain ⟨a2, r2, rfl, v2, w2⟩ : ∃ c r, r1 = c :: r ∧ VR ρ (.fn 55 []) c ∧ VRs ρ [] r := by simpa only [VRs] using w1
      simp only [VRs] at w2
      subst w2
      simp only [VR] at v1
      subst v1
      refine (AnyF.slices_SortFunc_none Try.sortNode none 0 a2 w).mono fun e w' hp => ?_
      obtain ⟨rfl, rfl⟩ := hp
      have hst := Step.refl s ρ w'
      exact ⟨ρ, _, rfl, by simp [VR, VRs], ⟨Nat.le_refl _, Nat.min_le_left _ _, hst.ren, hst.size, rfl, rfl, rfl, hst.drawn, fun b hb H => rfl, hst.old, fun id L blk e1 _ e3 _ => absurd (St.get_lt e3) (by rw [lowed_next]; omega), fun _ _ _ => rfl⟩, ⟨hR.bound, hR.blk, hR.inj⟩⟩
    · cases h
  · rename_i j n g'
    split at h
    · rename_i e
      subst e
      split at h
      · rename_i cs hg
        split at h
        · rename_i l hd
          split at h
          · rename_i hc
            obtain ⟨hc1, hnd, hpos, hlim⟩ := hc
            injection h with h
            obtain ⟨rfl, rfl⟩ := Prod.mk.inj h
            obtain ⟨d1, d2, d3⟩ := decL_some hd
            have hcs : cs = ndC.cells l := by rw [← d3, show n * ndC.sz = cs.length from hc1.symm]; simp
            subst hcs
            refine ⟨hk, grow_put _ hg, fun ρ w cargs hfree hR hargs => ?_⟩
            obtain ⟨a1, r1, rfl, v1, w1⟩ : ∃ c r, cargs = c :: r ∧ VR ρ (.sl j 0 n none 6) c ∧ VRs ρ [.fn 55 []] r := by simpa only [VRs] using hargs
            obtain ⟨a2, r2, rfl, v2, w2⟩ : ∃ c r, r1 = c :: r ∧ VR ρ (.fn 55 []) c ∧ VRs ρ [] r := by simpa only [VRs] using w1
            simp only [VRs] at w2
            subst w2
            simp only [VR] at v1 v2
            obtain ⟨L, a, c, hL, rfl, hle, _, hca⟩ := v1
            obtain ⟨cb, rfl, hcb⟩ := v2
            simp only [VRs] at hcb
            subst hcb
            rcases hca with rfl | ⟨rfl, hcap⟩
            · omega
            have hb := hR.blk j _ L hg hL
            have hH := holds_of hb
            have hlt := hR.bound j L hL
            have hsz : l.toArray.size = n := by simpa using d1
            have main := AnyQ.slices_SortFunc Try.sortNode 6 Try.isAgg44 Try.sizeOf44 nvals nvals_len nvals_one (fun x y : Nd => dcmp x.d y.d) swo 55 #[] L.b L.o c l.toArray w (enters_of Try.func55 (by kernel_rfl) rfl) (cmp_lays w L.b L.o l.toArray.size) hH hlt (by rw [hsz]; unfold lim at hlim; omega)
            rw [hsz] at main
            have main : Calls Try.prog 54 _ w _ := main
            refine main.mono fun e w' hp => ?_
            obtain ⟨rfl, d', nn, os, ⟨p1, _, p2⟩, hsrt, rfl⟩ := hp
            have hsz' : d'.size = n := by rw [p1, hsz]
            have hd' : d'.toList = sortN l := by
              have hp : d'.toList.Perm l := by
                have e1 : d'.extract 0 n = d' := by rw [← hsz']; simp
                have e2 : l.toArray.extract 0 n = l.toArray := by rw [← hsz]; simp
                rw [e1, e2] at p2
                exact p2
              refine sorted_unique _ _ (hp.trans (sortN_perm l).symm) ?_ (sortN_sorted l hnd)
              rw [List.pairwise_iff_getElem]
              intro i j hi hj hij
              have h1 := hsrt i j (Nat.zero_le _) hij (by simpa [hsz'] using hj)
              have hnd' : (d'.toList.map Nd.d).Nodup := (hp.map Nd.d).nodup_iff.2 hnd
              have hne : d'.toList[i].d ≠ d'.toList[j].d := by
                have := List.pairwise_iff_getElem.1 hnd' i j (by simpa using hi) (by simpa using hj) hij
                simpa using this
              have e1 : d'[i]! = d'.toList[i] := by
                simp at hi
                simp [hi]
              have e2 : d'[j]! = d'.toList[j] := by
                simp at hj
                simp [hj]
              rw [e1, e2] at h1
              rcases ltP_tri _ _ hne with q | q
              · exact q
              · unfold ltP at q
                unfold ltOf at h1
                rcases dcmp_cases d'.toList[j].d d'.toList[i].d with ⟨hh, _, _⟩ | ⟨hh, hh2, _⟩ | ⟨hh, hh2, _⟩
                · simp only [hh] at h1; exact absurd h1 (by decide)
                · rw [hh2] at q; cases q
                · rw [hh2] at q; cases q
            have hd'' : d' = (sortN l).toArray := by rw [← hd']
            subst hd''
            obtain ⟨hR1, hS1⟩ := R.put (b := .row (ndC.cells (sortN l)) true) hR hg rfl hL (blk_after hb (sortN_len l) nn) (by simp [putRowK, Sort.putRow, Sort.mapBlock, Sort.ahead]) rfl rfl rfl (by show w.drawn ≤ w.drawn + nn; omega) (by
              intro k hk'
              simp only [putRowK, Sort.putRow, Sort.mapBlock, Sort.ahead]
              rw [Array.getElem?_modify, if_neg (Ne.symm hk')])
            have hcl : Clean (putRowK nvals 6 (Sort.ahead w nn) L.b L.o (sortN l).toArray) (sortWorldK nvals 6 w L.b L.o nn (sortN l).toArray os) := by
              refine ⟨by simp [sortWorldK, Sort.grow], rfl, rfl, rfl, Nat.le_refl _, fun b hb => ?_⟩
              simp only [sortWorldK, Sort.grow]
              rw [Array.getElem?_append_left hb]
            exact ⟨ρ, _, rfl, by simp [VR, VRs], hS1.trans (hcl.step _ ρ), hR1.clean hcl⟩
          · cases h
        · cases h
      · cases h
    · cases h
  · cases h
end Go.AM
