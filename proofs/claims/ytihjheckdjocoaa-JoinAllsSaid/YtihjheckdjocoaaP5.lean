/-
  Plain laws: the joins of a list of stores, one after the other. Own work of this project.
-/
import Derived.Test.YtihjheckdjocoaaP4
import Derived.ProofKit
import Derived.Carry
import Derived.Deep.Slices
import Derived.HandedShaped
import Derived.OpenShut
import Derived.KernelRfl
section
set_option linter.unusedVariables false
set_option linter.unusedSimpArgs false
namespace Go.AM
open Go Go.Proofs

/-- Any two of them agree. -/
def PW (ls : List (List Nd)) : Prop := ∀ x ∈ ls, ∀ y ∈ ls, agreeL x y = true
def Stores (ls : List (List Nd)) : Prop := ∀ x ∈ ls, storeL x = true
def InF (ls : List (List Nd)) (n : Nd) : Prop := n ∈ ls.flatten
theorem nc_of_pw {ls : List (List Nd)} (hs : Stores ls) (h : PW ls) : NC (InF ls) := by
  intro x y hx hy e
  obtain ⟨l, hl, hxl⟩ := List.mem_flatten.1 hx
  obtain ⟨m, hm, hym⟩ := List.mem_flatten.1 hy
  exact (nc_agree (store_sorted (hs l hl)) (store_sorted (hs m hm))).1 (h l hl m hm) x y (.inl hxl) (.inr hym) e
theorem pw_of_nc {ls : List (List Nd)} (hs : Stores ls) (h : NC (InF ls)) : PW ls := fun l hl m hm =>
  (nc_agree (store_sorted (hs l hl)) (store_sorted (hs m hm))).2 (h.sub fun x hx => by
    rcases hx with hx | hx
    · exact List.mem_flatten.2 ⟨l, hl, hx⟩
    · exact List.mem_flatten.2 ⟨m, hm, hx⟩)
theorem fold_res_aux : ∀ (ls : List (List Nd)) (S : Nd → Prop) (j : List Nd), Stores ls → Res S j → NC (fun x => S x ∨ InF ls x) → Res (fun x => S x ∨ InF ls x) (ls.foldl refJ j)
  | [], S, j, _, h, _ => h.congr fun x => by simp [InF]
  | l :: ls, S, j, hs, h, hn => by
    have hl := store_sorted (hs l (by simp))
    have ha : agreeL j l = true := (nc_agree h.sorted hl).2 (hn.sub fun x hx => by
      rcases hx with hx | hx
      · exact .inl (h.sub x hx)
      · exact .inr (by simp [InF, hx]))
    have h1 := Res.step (T := (· ∈ l)) h (res_join h.sorted hl ha)
    have h2 := fold_res_aux ls (fun x => S x ∨ x ∈ l) (refJ j l) (fun x hx => hs x (by simp [hx])) h1 (hn.sub fun x hx => by
      unfold InF at *
      simp only [List.flatten_cons, List.mem_append]
      grind)
    exact h2.congr fun x => by
      unfold InF
      simp only [List.flatten_cons, List.mem_append]
      grind
theorem res_nil : Res (fun _ => False) [] := ⟨List.Pairwise.nil, fun _ h => by simp at h, fun _ h => by simp at h, fun _ h => h.elim⟩
theorem fold_res {ls : List (List Nd)} (hs : Stores ls) (hn : NC (InF ls)) : Res (InF ls) (ls.foldl refJ []) :=
  (fold_res_aux ls (fun _ => False) [] hs res_nil (hn.sub fun x hx => hx.resolve_left id)).congr fun x => by simp
theorem stores_all {ls : List (List Nd)} (hs : Stores ls) : ls.all storeL = true := List.all_eq_true.2 hs
theorem allP_fold {ls : List (List Nd)} (hs : Stores ls) (h : PW ls) : allP ls = (ls.foldl refJ [], 0) :=
  allP_res (stores_all hs) (fun x => Iff.rfl) (nc_of_pw hs h) (fold_res hs (nc_of_pw hs h))
theorem allP_not {ls : List (List Nd)} (hs : Stores ls) (h : ¬ PW ls) : allP ls = ([], 15) :=
  allP_clash (S := InF ls) (stores_all hs) (fun x => Iff.rfl) fun hn => h (pw_of_nc hs hn)
theorem fold_store {ls : List (List Nd)} (hs : Stores ls) (h : PW ls) : storeL (ls.foldl refJ []) = true :=
  store_of_res (fold_res hs (nc_of_pw hs h)) fun x hx => by
    obtain ⟨l, hl, hxl⟩ := List.mem_flatten.1 hx
    exact store_mem (hs l hl) hxl
/-- Each of them is within their join. -/
theorem fold_within {ls : List (List Nd)} (hs : Stores ls) (h : PW ls) {l : List Nd} (hl : l ∈ ls) : withinP l (ls.foldl refJ []) = (true, 0) := by
  obtain ⟨p1, p2, _, _⟩ := refJ_in (nc_of_pw hs h) (store_sorted (hs l hl)) (fold_res hs (nc_of_pw hs h)) fun x hx => List.mem_flatten.2 ⟨l, hl, hx⟩
  rw [withinP_ok (hs l hl) (fold_store hs h) p1, p2]
  simp
theorem PW.sub {ls ms : List (List Nd)} (h : PW ls) (k : ∀ x ∈ ms, x ∈ ls) : PW ms := fun x hx y hy => h x (k x hx) y (k y hy)
theorem Stores.sub {ls ms : List (List Nd)} (h : Stores ls) (k : ∀ x ∈ ms, x ∈ ls) : Stores ms := fun x hx => h x (k x hx)
theorem PW.app {ls : List (List Nd)} (h : PW ls) (hs : Stores ls) {d : List Nd} (hd : storeL d = true) (k : ∀ x ∈ ls, agreeL x d = true) : PW (ls ++ [d]) := by
  intro x hx y hy
  have key : ∀ z ∈ ls ++ [d], z ∈ ls ∨ z = d := fun z hz => by simpa using hz
  rcases key x hx with q | rfl <;> rcases key y hy with r | rfl
  · exact h x q y r
  · exact k x q
  · rw [← agree_symm (store_sorted (hs y r)) (store_sorted hd)]
    exact k y r
  · exact agree_self (store_sorted hd)
theorem Stores.app {ls : List (List Nd)} (hs : Stores ls) {d : List Nd} (hd : storeL d = true) : Stores (ls ++ [d]) := by
  intro x hx
  rcases List.mem_append.1 hx with hx | hx
  · exact hs x hx
  · simp at hx; subst hx; exact hd
/-! ### As a loop finds it out -/
def agB (ls : List (List Nd)) : Nat → Bool
  | 0 => true
  | i + 1 => agB ls i && (match ls[i]? with
    | some x => (ls.take i).all (agreeL x)
    | none => true)
theorem agB_step {ls : List (List Nd)} {i : Nat} {x : List Nd} (h : ls[i]? = some x) : agB ls (i + 1) = (agB ls i && (ls.take i).all (agreeL x)) := by
  rw [agB, h]
theorem agB_at {ls : List (List Nd)} : ∀ {n : Nat}, agB ls n = true → ∀ {i k : Nat} {x y : List Nd}, i < n → k < i → ls[i]? = some x → ls[k]? = some y → agreeL x y = true
  | 0, _, i, k, x, y, h, _, _, _ => by omega
  | n + 1, h, i, k, x, y, hi, hk, hx, hy => by
    rw [agB, Bool.and_eq_true] at h
    by_cases e : i = n
    · subst e
      have h2 := h.2
      rw [hx] at h2
      have h2 : (ls.take i).all (agreeL x) = true := h2
      refine List.all_eq_true.1 h2 y ?_
      have : (ls.take i)[k]? = some y := by rw [List.getElem?_take_of_lt hk]; exact hy
      exact List.mem_of_getElem? this
    · exact agB_at h.1 (by omega) hk hx hy
theorem agB_pw {ls : List (List Nd)} (hs : Stores ls) : agB ls ls.length = true ↔ PW ls := by
  constructor
  · intro h x hx y hy
    obtain ⟨i, hi⟩ := List.getElem?_of_mem hx
    obtain ⟨k, hk⟩ := List.getElem?_of_mem hy
    have li := (List.getElem?_eq_some_iff.1 hi).1
    have lk := (List.getElem?_eq_some_iff.1 hk).1
    rcases Nat.lt_trichotomy i k with q | q | q
    · rw [agree_symm (store_sorted (hs x hx)) (store_sorted (hs y hy))]
      exact agB_at h lk q hk hi
    · subst q
      rw [hi] at hk
      injection hk with hk
      subst hk
      exact agree_self (store_sorted (hs x hx))
    · exact agB_at h li q hi hk
  · intro h
    have key : ∀ n, n ≤ ls.length → agB ls n = true := by
      intro n
      induction n with
      | zero => exact fun _ => rfl
      | succ n ih =>
        intro hn
        have hx : ls[n]? = some ls[n] := by simp
        rw [agB_step hx, ih (by omega), Bool.true_and, List.all_eq_true]
        exact fun y hy => h _ (List.mem_of_getElem? hx) y (List.mem_of_mem_take hy)
    exact key _ (Nat.le_refl _)
theorem all_take {ls : List (List Nd)} {p : List Nd → Bool} {i : Nat} {x : List Nd} (h : ls[i]? = some x) : (ls.take (i + 1)).all p = ((ls.take i).all p && p x) := by
  rw [List.take_add_one, h]
  simp [List.all_append]
end Go.AM
end
/-
  The row's last part: a call that leaves what was there alone, and answers true. Own work of this project.
-/
section
set_option linter.unusedVariables false
set_option linter.unusedSimpArgs false
namespace Go.AM
open Go Go.ChangeShapes Go.WideShapes Go.ChangeAt Go.RowKit

variable {H : Type} {enc : TypeId × Value → H} {P : Program}

theorem Clean.below {W W' : World} (h : Clean W W') : Below W.heap.size W W' := ⟨h.os, h.tape, h.output, h.size, h.block⟩
theorem Clean.frozen {W W' : World} (h : Clean W W') {a : Addr} (ha : a.block < W.heap.size) : W'.frozen? a = W.frozen? a := h.below.frozen ha

theorem trodAll_clean (hl : laidOutB P = true) {W W' : World} (hc : Clean W W') (sp : Nat → Bool) : ∀ {ts : List TypeId} {vs : List Value} {ds : List (DataW H)} {ps : List MemPlace}, (∀ t ∈ ts, P.readableRec t = true ∧ t < P.types.size) →
    DataW.TrodAll enc P W 0 (fun _ => true) true ts vs ds ps → (∀ p ∈ ps, sp p.block = true) → DataW.TrodAll enc P W' 0 sp true ts vs ds ps
  | [], vs, ds, ps, _, h, _ => by
    obtain ⟨rfl, rfl, rfl⟩ := trodAll_nil h
    rfl
  | t :: ts, vs, ds, ps, hr, h, hs => by
    obtain ⟨v, vs1, d, ds1, a, b, rfl, rfl, rfl, h1, h2⟩ := trodAll_cons h
    have hlt := DataW.TrodAll.lt h
    refine ⟨a, b, ?_, trodAll_clean hl hc sp (fun t ht => hr t (by simp [ht])) h2 fun p hp => hs p (by simp [hp]), rfl⟩
    exact WideElems.Trod_stays hl (hr t (by simp)).1 (hr t (by simp)).2 h1 (fun x hx => hc.below.same (hlt x (by simp [hx]))) fun x hx => hs x (by simp [hx])

theorem post_of_clean {f : Func} {s : ChangeSpec} {apart fresh handsOn again : Bool} {W W' : World} {args : Array Value} {ds gs : List (DataW H)} {before : List MemPlace} {tb : TypeId} (hl : laidOutB P = true)
    (hread : ∀ t ∈ f.params.toList, P.readableRec t = true ∧ t < P.types.size) (hW : DataW.Whole enc P f.params.toList s.vars apart W args.toList ds gs before) (hv : s.vars = [])
    (hres : (s.fn H (ds ++ gs)).results = [.lit (.bool true)]) (hargs : (s.fn H (ds ++ gs)).args = ds) (hvars : (s.fn H (ds ++ gs)).vars = []) (hrt : f.resultTypes = #[tb]) (hb : P.underlying tb = some .bool) (hc : Clean W W') :
    s.post enc P f apart fresh handsOn again W args (.bool true) W' := by
  have hlt : ∀ p ∈ before, p.block < W.heap.size := hW.lt
  have hW0 := hW
  obtain ⟨pa, pv, hA, hV, rfl, hz, hn⟩ := hW
  have hpv : pv = [] := by
    rw [hv] at hV
    cases gs with
    | nil => exact hV
    | cons g gs => exact hV.elim
  subst hpv
  simp only [List.append_nil] at hW0 hlt hz hn
  have hR : ∀ (b : Nat) (sp : Nat → Bool) (hd : Bool), DataW.TrodAll enc P W' b sp hd [tb] [.bool true] [.lit (.bool true)] [] := fun b sp hd => trodAll_mk1 (shut_bool hb true)
  have hrl : (Value.bool true).resultList f.resultTypes.size = [.bool true] := by simp [hrt, Value.resultList]
  refine ⟨ds, gs, pa, [], pa, [], hW0, ?_, ?_, ?_, ?_, fun _ => ⟨fun j t r h1 h2 => ?_, ?_⟩⟩
  · rw [hrl, hres, hrt]
    exact hR _ _ _
  · rw [hargs]
    exact trodAll_clean hl hc _ hread hA fun p hp => by simpa using hlt p hp
  · rw [hvars, hv]
    rfl
  · exact hc.below.frame _
  · rw [hrl] at h2
    rw [hrt] at h1
    cases j with
    | zero =>
      simp at h1 h2
      subst h1; subst h2
      simp [Value.okWide, hb, Cell.okWide, Cell.ok]
    | succ j => simp at h1
  · refine ⟨[.lit (.bool true)] ++ ds, [], pa, ⟨[] ++ pa, [], ?_, ?_, by simp, ?_, ?_⟩, fun p hp _ => hp⟩
    · rw [hrl, hrt]
      exact trodAll_append (trodAll_clean hl hc _ hread hA fun _ _ => rfl) (hR _ _ _)
    · rw [hv]
      rfl
    · intro b off hp
      rw [hc.frozen (hlt _ hp)]
      exact hz b off hp
    · intro ha
      simpa using hn ha

end Go.AM
end
/-
  From a row's reading of an argument to the abstract machine's memory. Own work of this project.
-/
section
set_option linter.unusedVariables false
set_option linter.unusedSimpArgs false
namespace Go.AM
open Go Go.ChangeShapes Go.WideShapes Go.ChangeAt Go.RowKit Go.Deep

/-- The kinds of plain cells. -/
inductive CK where
  | b | i (k : IntKind) | s
def CK.ok : CK → AV → Prop
  | .b, v => ∃ x, v = .bool x
  | .i k, v => ∃ n, v = .int k n ∧ (Lit.int k n).wf = true
  | .s, v => ∃ x, v = .str x
def CKs : List CK → List AV → Prop
  | [], vs => vs = []
  | k :: ks, vs => ∃ v r, vs = v :: r ∧ k.ok v ∧ CKs ks r
theorem CKs.append : ∀ {ks ks' : List CK} {vs vs' : List AV}, CKs ks vs → CKs ks' vs' → CKs (ks ++ ks') (vs ++ vs')
  | [], ks', vs, vs', h, h' => by simp only [CKs] at h; subst h; exact h'
  | k :: ks, ks', vs, vs', h, h' => by
    simp only [CKs] at h
    obtain ⟨v, r, rfl, h1, h2⟩ := h
    exact ⟨v, r ++ vs', rfl, h1, CKs.append h2 h'⟩
theorem CKs.len : ∀ {ks : List CK} {vs : List AV}, CKs ks vs → vs.length = ks.length
  | [], vs, h => by simp only [CKs] at h; subst h; rfl
  | k :: ks, vs, h => by
    simp only [CKs] at h
    obtain ⟨v, r, rfl, h1, h2⟩ := h
    simp [CKs.len h2]
theorem CK.ok_one {k : CK} {v : AV} (h : k.ok v) : v.one = true := by
  cases k <;> simp only [CK.ok] at h
  · obtain ⟨x, rfl⟩ := h; rfl
  · obtain ⟨x, rfl, _⟩ := h; rfl
  · obtain ⟨x, rfl⟩ := h; rfl
theorem CKs.one : ∀ {ks : List CK} {vs : List AV}, CKs ks vs → vs.all AV.one = true
  | [], vs, h => by simp only [CKs] at h; subst h; rfl
  | k :: ks, vs, h => by
    simp only [CKs] at h
    obtain ⟨v, r, rfl, h1, h2⟩ := h
    simp [CK.ok_one h1, CKs.one h2]

variable (P : Program)
def cks : Nat → TypeId → Option (List CK)
  | 0, _ => none
  | d + 1, t =>
    match P.underlying t with
    | some .bool => some [.b]
    | some (.int k) => some [.i k]
    | some .string => some [.s]
    | some (.struct fs) => cksF (cks d) fs.toList 0 (P.cellsOf t)
    | _ => none
where
  cksF (ok : TypeId → Option (List CK)) : List Field → Nat → Nat → Option (List CK)
    | [], at_, sz => if sz = at_ then some [] else none
    | f :: r, at_, sz =>
      if f.offset = at_ then
        match ok f.type with
        | some ks => if ks.length = P.cellsOf f.type then (cksF ok r (at_ + ks.length) sz).map (ks ++ ·) else none
        | none => none
      else none

variable {P}
variable {H : Type} {enc : TypeId × Value → H} {w : World} {base : Nat} {spare : Nat → Bool} {held : Bool}
def FlatOpen (P : Program) (enc : TypeId × Value → H) (w : World) (base : Nat) (spare : Nat → Bool) (held : Bool) (t : TypeId) (ks : List CK) : Prop :=
  ∀ (fuel : Nat) (cs : List Value) (x : DataW H × List MemPlace), DataW.trod enc P w base spare held fuel t cs = some x → ∃ vs, CKs ks vs ∧ ∀ ρ, VRs ρ vs cs
theorem flat_fields {ok : TypeId → Option (List CK)} (IH : ∀ t ks, ok t = some ks → FlatOpen P enc w base spare held t ks) {n : Nat} {cs : List Value} {sz : Nat} (hcs : cs.length = sz) : ∀ (fs : List Field) (at_ : Nat) (ks : List CK),
    cks.cksF P ok fs at_ sz = some ks → (∀ f ∈ fs, ∃ x, DataW.trod enc P w base spare held n f.type ((cs.drop f.offset).take (P.cellsOf f.type)) = some x) → ∃ vs, CKs ks vs ∧ ∀ ρ, VRs ρ vs (cs.drop at_)
  | [], at_, ks, h, _ => by
    simp only [cks.cksF] at h
    split at h
    · rename_i hsz
      injection h with h; subst h
      refine ⟨[], rfl, fun ρ => ?_⟩
      rw [List.drop_eq_nil_of_le (by omega)]
      exact VRs_nil
    · cases h
  | f :: r, at_, ks, h, hx => by
    simp only [cks.cksF] at h
    split at h
    · rename_i hoff
      split at h
      · rename_i ks1 hk
        split at h
        · rename_i hl
          obtain ⟨ks2, h2, rfl⟩ := Option.map_eq_some_iff.1 h
          obtain ⟨x, hxf⟩ := hx f (by simp)
          obtain ⟨vs1, c1, r1⟩ := IH f.type ks1 hk n _ x hxf
          obtain ⟨vs2, c2, r2⟩ := flat_fields IH hcs r (at_ + ks1.length) ks2 h2 fun g hg => hx g (by simp [hg])
          refine ⟨vs1 ++ vs2, c1.append c2, fun ρ => ?_⟩
          have := (r1 ρ).append (r2 ρ)
          rw [hoff, hl, ← List.drop_drop, List.take_append_drop] at this
          exact this
        · cases h
      · cases h
    · cases h
theorem flat_open : ∀ (d : Nat) (t : TypeId) (ks : List CK), cks P d t = some ks → FlatOpen P enc w base spare held t ks
  | 0, t, ks, h => by simp [cks] at h
  | d + 1, t, ks, h => by
    intro fuel cs x hx
    simp only [cks] at h
    split at h
    · rename_i hu
      injection h with h; subst h
      obtain ⟨b, rfl, _⟩ := DataW.trod_bool hu hx
      exact ⟨[.bool b], ⟨_, _, rfl, ⟨b, rfl⟩, rfl⟩, fun ρ => VRs_cons.2 ⟨by simp [VR], VRs_nil⟩⟩
    · rename_i k hu
      injection h with h; subst h
      obtain ⟨b, rfl, _, hw⟩ := DataW.trod_int hu hx
      exact ⟨[.int k b], ⟨_, _, rfl, ⟨b, rfl, hw⟩, rfl⟩, fun ρ => VRs_cons.2 ⟨by simp [VR], VRs_nil⟩⟩
    · rename_i hu
      injection h with h; subst h
      obtain ⟨b, rfl, _⟩ := DataW.trod_string hu hx
      exact ⟨[.str b], ⟨_, _, rfl, ⟨b, rfl⟩, rfl⟩, fun ρ => VRs_cons.2 ⟨by simp [VR], VRs_nil⟩⟩
    · rename_i fs hu
      obtain ⟨xs, n, _, _, hl, hxl, hf⟩ := DataW.trod_struct hu hx
      obtain ⟨vs, h1, h2⟩ := flat_fields (fun t ks hk => flat_open d t ks hk) hl fs.toList 0 ks h (n := n) fun f hmem => by
        obtain ⟨i, hi⟩ := List.getElem?_of_mem hmem
        have hi' : fs[i]? = some f := by simpa using hi
        have hlt : i < xs.length := by
          have := (Array.getElem?_eq_some_iff.1 hi').1
          omega
        exact ⟨xs[i], by rw [hf i f hi']; simp [hlt]⟩
      exact ⟨vs, h1, fun ρ => by simpa using h2 ρ⟩
    · cases h

theorem cell_some {a : Addr} {v : Value} (h : w.cell? a = some v) : ∃ cells el fr, w.heap[a.block]? = some (.cells cells el fr) ∧ a.spot = none := by
  unfold World.cell? at h
  split at h
  · rename_i c el fr hh
    split at h
    · cases h
    · rename_i hs
      exact ⟨c, el, fr, hh, by simpa using hs⟩
  · cases h
theorem addr_block (a : Addr) (i : Nat) : (a.add i).block = a.block := by unfold Addr.add; split <;> rfl
theorem addr_spot (a : Addr) (i : Nat) (h : (a.add i).spot = none) (h0 : i = 0 ∨ True) : i = 0 → a.spot = none := by
  intro hi
  subst hi
  unfold Addr.add at h
  simpa using h

/-- Cells, each kind in its turn, again and again. -/
def Rows (ks : List CK) (rows : List (List AV)) : Prop := ∀ r ∈ rows, CKs ks r
/-- A slice of plain elements: nil, or its elements lie in a row. -/
theorem slice_open {t e : TypeId} {ks : List CK} {d fuel : Nat} {cs : List Value} {x : DataW H × List MemPlace} (hu : P.underlying t = some (.slice e)) (hk : cks P d e = some ks) (hlen : ks.length = P.cellsOf e) (h0 : ks.length ≠ 0)
    (h : DataW.trod enc P w base (fun _ => true) held fuel t cs = some x) : cs = [.slice none 0 0] ∨
    (∃ a, cs = [.slice (some a) 0 0]) ∨
    ∃ (b off len cap : Nat) (cells : Array Value) (el : TypeId) (fr : Nat × Nat) (rows : List (List AV)), cs = [.slice (some ⟨b, off, none⟩) len cap] ∧ 0 < cap ∧ len ≤ cap ∧ cap ≤ maxLen ∧ w.heap[b]? = some (.cells cells el fr) ∧ off + cap * ks.length ≤ cells.size ∧
      rows.length = cap ∧ Rows ks rows ∧ ∀ ρ, VRs ρ rows.flatten ((cells.toList.drop off).take (cap * ks.length)) := by
  rcases open_slice hu h with ⟨rfl, _⟩ | ⟨a, len, cap, m, n, D, Pl, rfl, hb, hl, hm, hmm, _, hx⟩
  · exact .inl rfl
  right
  simp only [if_true] at hmm
  subst hmm
  by_cases hc : m = 0
  · left
    subst hc
    have : len = 0 := by omega
    subst this
    exact ⟨a, rfl⟩
  right
  have hcell : ∀ i, i < m → ∃ cs' vs, w.cells? base (a.add (i * P.cellsOf e)) (P.cellsOf e) = some cs' ∧ CKs ks vs ∧ ∀ ρ, VRs ρ vs cs' := by
    intro i hi
    obtain ⟨cs', h1, h2⟩ := hx i hi
    obtain ⟨vs, h3, h4⟩ := flat_open d e ks hk n cs' _ h2
    exact ⟨cs', vs, h1, h3, h4⟩
  -- the block
  obtain ⟨cs0, vs0, h1, _, _⟩ := hcell 0 (by omega)
  obtain ⟨_, hl0, hat0⟩ := World.cells?_some h1
  have hc0 := hat0 0 (by omega)
  obtain ⟨b, off, spot⟩ := a
  have hsome : ∃ v, cs0[0]? = some v := ⟨cs0[0]'(by omega), by simp⟩
  obtain ⟨v0, hv0⟩ := hsome
  rw [hv0] at hc0
  obtain ⟨cells, el, fr, hh, hsp⟩ := cell_some hc0
  rw [addr_block, addr_block] at hh
  simp only at hh
  have hspot : spot = none := by
    have h2 := addr_spot _ 0 hsp (.inl rfl) rfl
    have h3 := addr_spot _ (0 * P.cellsOf e) h2 (.inr trivial) (by simp)
    exact h3
  subst hspot
  have hat : ∀ i, i < m → ∃ vs, CKs ks vs ∧ off + (i + 1) * ks.length ≤ cells.size ∧ ∀ ρ, VRs ρ vs ((cells.toList.drop (off + i * ks.length)).take ks.length) := by
    intro i hi
    obtain ⟨cs', vs, e1, e2, e3⟩ := hcell i hi
    obtain ⟨_, hl', hat'⟩ := World.cells?_some e1
    have hget : ∀ j, j < P.cellsOf e → cells[off + i * P.cellsOf e + j]? = cs'[j]? := by
      intro j hj
      have := hat' j hj
      rw [addr_add, addr_add, cell_at hh] at this
      exact this
    have hsz : off + (i + 1) * ks.length ≤ cells.size := by
      have hj : P.cellsOf e - 1 < P.cellsOf e := by omega
      have := hget _ hj
      rw [List.getElem?_eq_getElem (by omega)] at this
      have hlt := (Array.getElem?_eq_some_iff.1 this).1
      rw [hlen, Nat.succ_mul]
      omega
    refine ⟨vs, e2, hsz, fun ρ => ?_⟩
    have : (cells.toList.drop (off + i * ks.length)).take ks.length = cs' := by
      apply List.ext_getElem?
      intro j
      by_cases hj : j < ks.length
      · rw [List.getElem?_take_of_lt hj, List.getElem?_drop, hlen]
        have := hget j (by omega)
        simpa using this
      · rw [List.getElem?_eq_none (by simp; omega), List.getElem?_eq_none (by omega)]
    rw [this]
    exact e3 ρ
  have hrows : ∀ k, k ≤ m → ∃ rows : List (List AV), rows.length = k ∧ Rows ks rows ∧ ∀ ρ, VRs ρ rows.flatten ((cells.toList.drop off).take (k * ks.length)) := by
    intro k
    induction k with
    | zero => exact fun _ => ⟨[], rfl, fun r hr => by simp at hr, fun ρ => by simpa using VRs_nil⟩
    | succ k ih =>
      intro hk'
      obtain ⟨rows, r1, r2, r3⟩ := ih (by omega)
      obtain ⟨vs, q1, q2, q3⟩ := hat k (by omega)
      refine ⟨rows ++ [vs], by simp [r1], fun r hr => ?_, fun ρ => ?_⟩
      · rcases List.mem_append.1 hr with hr | hr
        · exact r2 r hr
        · simp at hr; subst hr; exact q1
      · have := (r3 ρ).append (q3 ρ)
        rw [List.flatten_append, List.flatten_singleton, Nat.succ_mul]
        rw [← List.drop_drop, ← List.take_add] at this
        exact this
  obtain ⟨rows, r1, r2, r3⟩ := hrows m (Nat.le_refl _)
  obtain ⟨_, _, q2, _⟩ := hat (m - 1) (by omega)
  rw [show m - 1 + 1 = m by omega] at q2
  exact ⟨b, off, len, m, cells, el, fr, rows, rfl, by omega, hl, hm, hh, q2, r1, r2, r3⟩

end Go.AM
end
/-
  Arguments with slices in slices and in structs, opened into the abstract machine's memory. Own work of this project.
-/
section
set_option linter.unusedVariables false
set_option linter.unusedSimpArgs false
set_option maxRecDepth 100000
namespace Go.AM
open Go Go.ChangeShapes Go.WideShapes Go.ChangeAt Go.RowKit Go.Deep

/-- Some block of cells is there. -/
def HasCellsD (W : World) : Prop := ∃ (b : Nat) (cs : Array Value) (e : TypeId) (fr : Nat × Nat), W.heap[b]? = some (Obj.cells cs e fr)
theorem dummyD {W : World} (h : HasCellsD W) : ∃ L : Loc, L.b < W.heap.size ∧ ∀ ρ, BlkOk ρ L W (.row [] false) := by
  obtain ⟨b, cs, e, fr, hb⟩ := h
  refine ⟨⟨b, 0, cs.size⟩, (Array.getElem?_eq_some_iff.1 hb).1, fun ρ => ?_⟩
  simp only [BlkOk]
  exact ⟨cs, e, fr, hb, rfl, by simp, fun i v h => by simp at h, by simp, rfl⟩

section
variable (P : Program)
/-- What the memory shows at cells of a type. -/
def RdF (ok : TypeId → List AV → Prop) : List Field → List AV → Prop
  | [], vs => vs = []
  | f :: r, vs => ∃ a b, vs = a ++ b ∧ ok f.type a ∧ RdF ok r b
def RdT (s : St) : Nat → TypeId → List AV → Prop
  | 0, _, _ => False
  | d + 1, t, vs => match P.underlying t with
    | some .bool => ∃ x, vs = [.bool x]
    | some (.int k) => ∃ n, vs = [.int k n] ∧ (Lit.int k n).wf = true
    | some .string => ∃ x, vs = [.str x]
    | some (.struct fs) => RdF (RdT s d) fs.toList vs
    | some (.slice e) => vs = [.nils] ∨ ∃ (id n cap : Nat) (rows : List (List AV)), vs = [.sl id 0 n (some cap) (P.cellsOf e)] ∧ n ≤ cap ∧ cap ≤ maxLen ∧ rows.length = cap ∧ s.get id = some (.row rows.flatten false) ∧ ∀ r ∈ rows, RdT s d e r ∧ r.length = P.cellsOf e
    | _ => False
def okF (ok : TypeId → Bool) : List Field → Nat → Nat → Bool
  | [], at_, sz => decide (sz = at_)
  | f :: r, at_, sz => decide (f.offset = at_) && ok f.type && okF ok r (at_ + P.cellsOf f.type) sz
def okT : Nat → TypeId → Bool
  | 0, _ => false
  | d + 1, t => match P.underlying t with
    | some .bool | some (.int _) | some .string => true
    | some (.struct fs) => okF P (okT d) fs.toList 0 (P.cellsOf t)
    | some (.slice e) => decide (P.cellsOf e ≠ 0) && okT d e
    | _ => false
end

variable {P : Program} {H : Type} {enc : TypeId × Value → H} {W : World} {base : Nat} {held : Bool}
/-- Cells, and the blocks that they reach, numbered from 'start' on. -/
structure Opn (W : World) (Q : St → List AV → Prop) (start : Nat) (cs : List Value) (vs : List AV) (bl : List (AB × Loc)) : Prop where
  lt : ∀ p ∈ bl, p.2.b < W.heap.size
  own : ∀ p ∈ bl, p.1.owned = false
  vr : ∀ ρ : Ren, (∀ i p, bl[i]? = some p → ρ (start + i) = some p.2) → VRs ρ vs cs ∧ ∀ p ∈ bl, BlkOk ρ p.2 W p.1
  rd : ∀ s : St, (∀ i p, bl[i]? = some p → s.get (start + i) = some p.1) → Q s vs
  one : vs.all AV.one = true
  len : vs.length = cs.length
theorem Opn.plain {Q : St → List AV → Prop} {start : Nat} {cs : List Value} {vs : List AV} (h : ∀ ρ, VRs ρ vs cs) (hq : ∀ s, Q s vs) (ho : vs.all AV.one = true) (hl : vs.length = cs.length) : Opn W Q start cs vs [] :=
  ⟨by simp, by simp, fun ρ _ => ⟨h ρ, by simp⟩, fun s _ => hq s, ho, hl⟩
theorem Opn.app {Q1 Q2 : St → List AV → Prop} {start : Nat} {c1 c2 : List Value} {v1 v2 : List AV} {b1 b2 : List (AB × Loc)} (h : Opn W Q1 start c1 v1 b1) (k : Opn W Q2 (start + b1.length) c2 v2 b2) :
    Opn W (fun s _ => Q1 s v1 ∧ Q2 s v2) start (c1 ++ c2) (v1 ++ v2) (b1 ++ b2) := by
  have e1 : ∀ {i : Nat} {p}, b1[i]? = some p → (b1 ++ b2)[i]? = some p := fun {i p} hp => by
    rw [List.getElem?_append_left (List.getElem?_eq_some_iff.1 hp).1]; exact hp
  have e2 : ∀ {i : Nat} {p}, b2[i]? = some p → (b1 ++ b2)[b1.length + i]? = some p := fun {i p} hp => by
    rw [List.getElem?_append_right (by omega), Nat.add_sub_cancel_left]; exact hp
  refine ⟨fun p hp => ?_, fun p hp => ?_, fun ρ hρ => ?_, fun s hs => ⟨h.rd s fun i p hp => hs i p (e1 hp), k.rd s fun i p hp => ?_⟩, by simp [h.one, k.one], by simp [h.len, k.len]⟩
  · rcases List.mem_append.1 hp with q | q
    · exact h.lt p q
    · exact k.lt p q
  · rcases List.mem_append.1 hp with q | q
    · exact h.own p q
    · exact k.own p q
  · obtain ⟨r1, r2⟩ := h.vr ρ fun i p hp => hρ i p (e1 hp)
    obtain ⟨r3, r4⟩ := k.vr ρ fun i p hp => by have := hρ _ p (e2 hp); rwa [← Nat.add_assoc] at this
    refine ⟨r1.append r3, fun p hp => ?_⟩
    rcases List.mem_append.1 hp with q | q
    · exact r2 p q
    · exact r4 p q
  · have := hs _ p (e2 hp)
    rwa [← Nat.add_assoc] at this
theorem Opn.imp {Q Q' : St → List AV → Prop} {start : Nat} {cs : List Value} {vs : List AV} {bl : List (AB × Loc)} (h : Opn W Q start cs vs bl) (k : ∀ s, Q s vs → Q' s vs) : Opn W Q' start cs vs bl :=
  ⟨h.lt, h.own, h.vr, fun s hs => k s (h.rd s hs), h.one, h.len⟩

/-- A slice's place, its elements as they are read one by one. -/
theorem slice_geo {t e : TypeId} {fuel : Nat} {cs : List Value} {x : DataW H × List MemPlace} (hu : P.underlying t = some (.slice e)) (h0 : P.cellsOf e ≠ 0)
    (h : DataW.trod enc P W base (fun _ => true) held fuel t cs = some x) : cs = [.slice none 0 0] ∨ (∃ a, cs = [.slice (some a) 0 0]) ∨
    ∃ (b off len cap : Nat) (cells : Array Value) (el : TypeId) (fr : Nat × Nat) (n : Nat), cs = [.slice (some ⟨b, off, none⟩) len cap] ∧ 0 < cap ∧ len ≤ cap ∧ cap ≤ maxLen ∧ W.heap[b]? = some (.cells cells el fr) ∧ off + cap * P.cellsOf e ≤ cells.size ∧
      ∀ i, i < cap → ∃ x, DataW.trod enc P W base (fun _ => true) held n e ((cells.toList.drop (off + i * P.cellsOf e)).take (P.cellsOf e)) = some x := by
  rcases open_slice hu h with ⟨rfl, _⟩ | ⟨a, len, cap, m, n, D, Pl, rfl, hb, hl, hm, hmm, _, hx⟩
  · exact .inl rfl
  right
  simp only [if_true] at hmm
  subst hmm
  by_cases hc : m = 0
  · left
    subst hc
    have : len = 0 := by omega
    subst this
    exact ⟨a, rfl⟩
  right
  obtain ⟨cs0, h1, _⟩ := hx 0 (by omega)
  obtain ⟨_, hl0, hat0⟩ := World.cells?_some h1
  have hc0 := hat0 0 (by omega)
  obtain ⟨b, off, spot⟩ := a
  have hsome : ∃ v, cs0[0]? = some v := ⟨cs0[0]'(by omega), by simp⟩
  obtain ⟨v0, hv0⟩ := hsome
  rw [hv0] at hc0
  obtain ⟨cells, el, fr, hh, hsp⟩ := cell_some hc0
  rw [addr_block, addr_block] at hh
  simp only at hh
  have hspot : spot = none := by
    have h2 := addr_spot _ 0 hsp (.inl rfl) rfl
    have h3 := addr_spot _ (0 * P.cellsOf e) h2 (.inr trivial) (by simp)
    exact h3
  subst hspot
  have hat : ∀ i, i < m → off + (i + 1) * P.cellsOf e ≤ cells.size ∧ ∃ x, DataW.trod enc P W base (fun _ => true) held n e ((cells.toList.drop (off + i * P.cellsOf e)).take (P.cellsOf e)) = some x := by
    intro i hi
    obtain ⟨cs', e1, e2⟩ := hx i hi
    obtain ⟨_, hl', hat'⟩ := World.cells?_some e1
    have hget : ∀ j, j < P.cellsOf e → cells[off + i * P.cellsOf e + j]? = cs'[j]? := by
      intro j hj
      have := hat' j hj
      rw [addr_add, addr_add, cell_at hh] at this
      exact this
    have hsz : off + (i + 1) * P.cellsOf e ≤ cells.size := by
      have hj : P.cellsOf e - 1 < P.cellsOf e := by omega
      have := hget _ hj
      rw [List.getElem?_eq_getElem (by omega)] at this
      have hlt := (Array.getElem?_eq_some_iff.1 this).1
      rw [Nat.succ_mul]
      omega
    refine ⟨hsz, (D i, Pl i), ?_⟩
    have : (cells.toList.drop (off + i * P.cellsOf e)).take (P.cellsOf e) = cs' := by
      apply List.ext_getElem?
      intro j
      by_cases hj : j < P.cellsOf e
      · rw [List.getElem?_take_of_lt hj, List.getElem?_drop]
        have := hget j (by omega)
        simpa using this
      · rw [List.getElem?_eq_none (by simp; omega), List.getElem?_eq_none (by omega)]
    rw [this]
    exact e2
  obtain ⟨q2, _⟩ := hat (m - 1) (by omega)
  rw [show m - 1 + 1 = m by omega] at q2
  exact ⟨b, off, len, m, cells, el, fr, n, rfl, by omega, hl, hm, hh, q2, fun i hi => (hat i hi).2⟩

def DeepOk (P : Program) (enc : TypeId × Value → H) (W : World) (base : Nat) (held : Bool) (d : Nat) (t : TypeId) : Prop :=
  ∀ (fuel : Nat) (cs : List Value) (x : DataW H × List MemPlace), DataW.trod enc P W base (fun _ => true) held fuel t cs = some x → ∀ start, ∃ vs bl, Opn W (fun s vs => RdT P s d t vs) start cs vs bl

theorem deep_fields {d : Nat} (IH : ∀ t, okT P d t = true → DeepOk P enc W base held d t) {n : Nat} {cs : List Value} {sz : Nat} (hcs : cs.length = sz) : ∀ (fs : List Field) (at_ : Nat), okF P (okT P d) fs at_ sz = true →
    (∀ f ∈ fs, ∃ x, DataW.trod enc P W base (fun _ => true) held n f.type ((cs.drop f.offset).take (P.cellsOf f.type)) = some x) → ∀ start, ∃ vs bl, Opn W (fun s vs => RdF (RdT P s d) fs vs) start (cs.drop at_) vs bl
  | [], at_, h, _, start => by
    simp only [okF, decide_eq_true_eq] at h
    rw [List.drop_eq_nil_of_le (by omega)]
    exact ⟨[], [], .plain (fun _ => VRs_nil) (fun _ => rfl) rfl rfl⟩
  | f :: r, at_, h, hx, start => by
    simp only [okF, Bool.and_eq_true, decide_eq_true_eq] at h
    obtain ⟨⟨hoff, hok⟩, hr⟩ := h
    obtain ⟨x, hxf⟩ := hx f (by simp)
    obtain ⟨v1, b1, o1⟩ := IH f.type hok n _ x hxf start
    obtain ⟨v2, b2, o2⟩ := deep_fields IH hcs r (at_ + P.cellsOf f.type) hr (fun g hg => hx g (by simp [hg])) (start + b1.length)
    refine ⟨v1 ++ v2, b1 ++ b2, ?_⟩
    have := o1.app o2
    rw [hoff, ← List.drop_drop, List.take_append_drop] at this
    exact this.imp fun s q => ⟨v1, v2, rfl, q⟩
theorem deep_rows {d : Nat} {e : TypeId} {n : Nat} (IH : DeepOk P enc W base held d e) (cells : List Value) (off : Nat) : ∀ (k : Nat), off + k * P.cellsOf e ≤ cells.length →
    (∀ i, i < k → ∃ x, DataW.trod enc P W base (fun _ => true) held n e ((cells.drop (off + i * P.cellsOf e)).take (P.cellsOf e)) = some x) → ∀ start, ∃ (rows : List (List AV)) (bl : List (AB × Loc)), rows.length = k ∧
      Opn W (fun s _ => ∀ r ∈ rows, RdT P s d e r ∧ r.length = P.cellsOf e) start ((cells.drop off).take (k * P.cellsOf e)) rows.flatten bl
  | 0, _, _, start => ⟨[], [], rfl, .plain (fun _ => by simpa using VRs_nil) (fun _ r hr => by simp at hr) rfl (by simp)⟩
  | k + 1, hle, hx, start => by
    obtain ⟨rows, b1, h1, o1⟩ := deep_rows IH cells off k (by rw [Nat.succ_mul] at hle; omega) (fun i hi => hx i (by omega)) start
    obtain ⟨x, hxk⟩ := hx k (by omega)
    obtain ⟨v2, b2, o2⟩ := IH n _ x hxk (start + b1.length)
    refine ⟨rows ++ [v2], b1 ++ b2, by simp [h1], ?_⟩
    have hl2 : v2.length = P.cellsOf e := by
      rw [o2.len, List.length_take, List.length_drop]
      rw [Nat.succ_mul] at hle
      omega
    have := o1.app o2
    rw [List.flatten_append, List.flatten_singleton, Nat.succ_mul, List.take_add, List.drop_drop]
    refine this.imp fun s hq r hr => ?_
    rcases List.mem_append.1 hr with q | q
    · exact hq.1 r q
    · simp at q
      subst q
      exact ⟨hq.2, hl2⟩
theorem VRs.cell {ρ : Ren} {vs : List AV} {cs : List Value} (h : VRs ρ vs cs) {i : Nat} {v : AV} (hi : vs[i]? = some v) : ∃ c, cs[i]? = some c ∧ VR ρ v c := VRs.at_ i h hi
theorem deep_open (hc : HasCellsD W) : ∀ (d : Nat) (t : TypeId), okT P d t = true → DeepOk P enc W base held d t
  | 0, t, h => by simp [okT] at h
  | d + 1, t, h => by
    intro fuel cs x hx start
    simp only [okT] at h
    split at h
    · rename_i hu
      obtain ⟨b, rfl, _⟩ := DataW.trod_bool hu hx
      exact ⟨[.bool b], [], .plain (fun ρ => VRs_cons.2 ⟨by simp [VR], VRs_nil⟩) (fun s => by simp only [RdT, hu]; exact ⟨b, rfl⟩) rfl rfl⟩
    · rename_i k hu
      obtain ⟨b, rfl, _, hw⟩ := DataW.trod_int hu hx
      exact ⟨[.int k b], [], .plain (fun ρ => VRs_cons.2 ⟨by simp [VR], VRs_nil⟩) (fun s => by simp only [RdT, hu]; exact ⟨b, rfl, hw⟩) rfl rfl⟩
    · rename_i hu
      obtain ⟨b, rfl, _⟩ := DataW.trod_string hu hx
      exact ⟨[.str b], [], .plain (fun ρ => VRs_cons.2 ⟨by simp [VR], VRs_nil⟩) (fun s => by simp only [RdT, hu]; exact ⟨b, rfl⟩) rfl rfl⟩
    · rename_i fs hu
      obtain ⟨xs, n, _, _, hl, hxl, hf⟩ := DataW.trod_struct hu hx
      obtain ⟨vs, bl, ho⟩ := deep_fields (fun t hk => deep_open hc d t hk) hl fs.toList 0 h (n := n) (fun f hmem => by
        obtain ⟨i, hi⟩ := List.getElem?_of_mem hmem
        have hi' : fs[i]? = some f := by simpa using hi
        have hlt : i < xs.length := by
          have := (Array.getElem?_eq_some_iff.1 hi').1
          omega
        exact ⟨xs[i], by rw [hf i f hi']; simp [hlt]⟩) start
      rw [List.drop_zero] at ho
      exact ⟨vs, bl, ho.imp fun s q => by simp only [RdT, hu]; exact q⟩
    · rename_i e hu
      simp only [Bool.and_eq_true, decide_eq_true_eq] at h
      obtain ⟨L, hL1, hL2⟩ := dummyD hc
      rcases slice_geo hu h.1 hx with rfl | ⟨a, rfl⟩ | ⟨b, off, len, cap, cells, el, fr, n, rfl, h2, h3, h4, h5, h6, h7⟩
      · exact ⟨[.nils], [], .plain (fun ρ => VRs_cons.2 ⟨by simp [VR], VRs_nil⟩) (fun s => by simp only [RdT, hu]; exact .inl (by trivial)) rfl rfl⟩
      · refine ⟨[.sl start 0 0 (some 0) (P.cellsOf e)], [(.row [] false, L)], ?_, ?_, fun ρ hρ => ⟨VRs_cons.2 ⟨?_, VRs_nil⟩, ?_⟩, fun s hs => ?_, rfl, rfl⟩
        · intro p hp
          simp at hp
          subst hp
          exact hL1
        · intro p hp
          simp at hp
          subst hp
          rfl
        · simp only [VR]
          exact ⟨L, a, 0, hρ 0 _ rfl, rfl, Nat.le_refl _, fun k hk => by injection hk, .inl rfl⟩
        · intro p hp
          simp at hp
          subst hp
          exact hL2 ρ
        · simp only [RdT, hu]
          exact .inr ⟨start, 0, 0, [], rfl, Nat.le_refl _, Nat.zero_le _, rfl, hs 0 _ rfl, fun r hr => by simp at hr⟩
      · have hlt := (Array.getElem?_eq_some_iff.1 h5).1
        obtain ⟨rows, bl, hr1, ho⟩ := deep_rows (deep_open hc d e h.2) cells.toList off cap (by simpa using h6) h7 (start + 1)
        have hfl : rows.flatten.length = cap * P.cellsOf e := by
          rw [ho.len, List.length_take, List.length_drop]
          simp
          omega
        have hup : ∀ {ρ : Ren}, (∀ i p, ((AB.row rows.flatten false, (⟨b, off, cells.size⟩ : Loc)) :: bl)[i]? = some p → ρ (start + i) = some p.2) → ∀ i p, bl[i]? = some p → ρ (start + 1 + i) = some p.2 := fun hρ i p hp => by
          have := hρ (i + 1) p (by simpa using hp)
          rwa [show start + (i + 1) = start + 1 + i by omega] at this
        refine ⟨[.sl start 0 len (some cap) (P.cellsOf e)], (.row rows.flatten false, ⟨b, off, cells.size⟩) :: bl, ?_, ?_, fun ρ hρ => ?_, fun s hs => ?_, rfl, rfl⟩
        · intro p hp
          rcases List.mem_cons.1 hp with rfl | hp
          · exact hlt
          · exact ho.lt p hp
        · intro p hp
          rcases List.mem_cons.1 hp with rfl | hp
          · rfl
          · exact ho.own p hp
        · obtain ⟨r1, r2⟩ := ho.vr ρ (hup hρ)
          refine ⟨VRs_cons.2 ⟨?_, VRs_nil⟩, fun p hp => ?_⟩
          · simp only [VR]
            exact ⟨⟨b, off, cells.size⟩, ⟨b, off, none⟩, cap, hρ 0 _ rfl, rfl, h3, fun k hk => by injection hk, .inr ⟨by simp, by simpa using h6⟩⟩
          · rcases List.mem_cons.1 hp with rfl | hp
            · simp only [BlkOk]
              refine ⟨cells, el, fr, h5, rfl, by rw [hfl]; exact h6, fun i v hi => ?_, by simp, ho.one⟩
              have hi' := (List.getElem?_eq_some_iff.1 hi).1
              obtain ⟨c, hc1, hc2⟩ := r1.cell hi
              refine ⟨c, ?_, hc2⟩
              rw [List.getElem?_take_of_lt (by omega), List.getElem?_drop] at hc1
              simpa using hc1
            · exact r2 p hp
        · simp only [RdT, hu]
          refine .inr ⟨start, len, cap, rows, rfl, h3, h4, hr1, hs 0 _ rfl, ?_⟩
          refine ho.rd s fun i p hp => ?_
          have := hs (i + 1) p (by simpa using hp)
          rwa [show start + (i + 1) = start + 1 + i by omega] at this
    · cases h

/-! ### All arguments of a call -/
def argAV (P : Program) (t : TypeId) (vs : List AV) : AV := match P.underlying t with
  | some (.struct _) => .agg vs
  | _ => vs.headD .und
def RdA (P : Program) (s : St) (d : Nat) (t : TypeId) (v : AV) : Prop := ∃ vs, RdT P s d t vs ∧ v = argAV P t vs
def RdAs (P : Program) (s : St) (d : Nat) : List TypeId → List AV → Prop
  | [], xs => xs = []
  | t :: ts, xs => ∃ v r, xs = v :: r ∧ RdA P s d t v ∧ RdAs P s d ts r
structure OpnA (W : World) (Q : St → List AV → Prop) (start : Nat) (cs : List Value) (vs : List AV) (bl : List (AB × Loc)) : Prop where
  lt : ∀ p ∈ bl, p.2.b < W.heap.size
  own : ∀ p ∈ bl, p.1.owned = false
  vr : ∀ ρ : Ren, (∀ i p, bl[i]? = some p → ρ (start + i) = some p.2) → VRs ρ vs cs ∧ ∀ p ∈ bl, BlkOk ρ p.2 W p.1
  rd : ∀ s : St, (∀ i p, bl[i]? = some p → s.get (start + i) = some p.1) → Q s vs
theorem OpnA.cons {Q1 Q2 : St → List AV → Prop} {start : Nat} {c : Value} {cs : List Value} {v : AV} {vs : List AV} {b1 b2 : List (AB × Loc)} (h : OpnA W Q1 start [c] [v] b1) (k : OpnA W Q2 (start + b1.length) cs vs b2) :
    OpnA W (fun s _ => Q1 s [v] ∧ Q2 s vs) start (c :: cs) (v :: vs) (b1 ++ b2) := by
  have e1 : ∀ {i : Nat} {p}, b1[i]? = some p → (b1 ++ b2)[i]? = some p := fun {i p} hp => by
    rw [List.getElem?_append_left (List.getElem?_eq_some_iff.1 hp).1]; exact hp
  have e2 : ∀ {i : Nat} {p}, b2[i]? = some p → (b1 ++ b2)[b1.length + i]? = some p := fun {i p} hp => by
    rw [List.getElem?_append_right (by omega), Nat.add_sub_cancel_left]; exact hp
  refine ⟨fun p hp => ?_, fun p hp => ?_, fun ρ hρ => ?_, fun s hs => ⟨h.rd s fun i p hp => hs i p (e1 hp), k.rd s fun i p hp => ?_⟩⟩
  · rcases List.mem_append.1 hp with q | q
    · exact h.lt p q
    · exact k.lt p q
  · rcases List.mem_append.1 hp with q | q
    · exact h.own p q
    · exact k.own p q
  · obtain ⟨r1, r2⟩ := h.vr ρ fun i p hp => hρ i p (e1 hp)
    obtain ⟨r3, r4⟩ := k.vr ρ fun i p hp => by have := hρ _ p (e2 hp); rwa [← Nat.add_assoc] at this
    refine ⟨r1.append r3, fun p hp => ?_⟩
    rcases List.mem_append.1 hp with q | q
    · exact r2 p q
    · exact r4 p q
  · have := hs _ p (e2 hp)
    rwa [← Nat.add_assoc] at this
theorem arg_deep (hc : HasCellsD W) {d : Nat} {t : TypeId} (hok : okT P (d + 1) t = true) {v : Value} {x : DataW H} {p : List MemPlace} (h : DataW.Trod enc P W base (fun _ => true) held t v x p) {b0 : Nat} (hval : Value.okWide P W .any b0 t v) (start : Nat) :
    ∃ a bl, OpnA W (fun s _ => RdA P s (d + 1) t a) start [v] [a] bl := by
  obtain ⟨fuel, h⟩ := h
  obtain ⟨vs, bl, ho⟩ := deep_open hc (d + 1) t hok fuel _ _ h start
  have hone : ∀ (hv : v.cells.toList = [v]) (ha : argAV P t vs = vs.headD .und), ∃ a bl, OpnA W (fun s _ => RdA P s (d + 1) t a) start [v] [a] bl := by
    intro hv ha
    have hl := ho.len
    rw [hv] at hl
    match vs, hl with
    | [a], _ =>
      refine ⟨a, bl, ho.lt, ho.own, fun ρ hρ => ?_, fun s hs => ⟨[a], ho.rd s hs, by rw [ha]; rfl⟩⟩
      have := ho.vr ρ hρ
      rw [hv] at this
      exact this
  simp only [okT] at hok
  split at hok
  · rename_i hu
    obtain ⟨b, rfl⟩ := okWide_bool hu hval
    exact hone rfl (by simp [argAV, hu])
  · rename_i k hu
    obtain ⟨b, rfl⟩ := okWide_int hu hval
    exact hone rfl (by simp [argAV, hu])
  · rename_i hu
    obtain ⟨b, rfl⟩ := okWide_string hu hval
    exact hone rfl (by simp [argAV, hu])
  · rename_i fs hu
    obtain ⟨cs, rfl, _⟩ := okWide_struct hu hval
    refine ⟨.agg vs, bl, ho.lt, ho.own, fun ρ hρ => ?_, fun s hs => ⟨vs, ho.rd s hs, by simp [argAV, hu]⟩⟩
    obtain ⟨r1, r2⟩ := ho.vr ρ hρ
    refine ⟨VRs_cons.2 ⟨?_, VRs_nil⟩, r2⟩
    simp only [VR]
    exact ⟨cs.toList, by simp, r1⟩
  · rename_i e hu
    obtain ⟨a, len, cap, rfl⟩ := okWide_slice hu hval
    exact hone rfl (by simp [argAV, hu])
  · cases hok
theorem args_deep (hc : HasCellsD W) {d : Nat} : ∀ {ts : List TypeId} {vs : List Value} {ds : List (DataW H)} {ps : List MemPlace}, (∀ t ∈ ts, okT P (d + 1) t = true) → DataW.TrodAll enc P W base (fun _ => true) held ts vs ds ps →
    (∀ (j : Nat) t v, ts[j]? = some t → vs[j]? = some v → ∃ b0, Value.okWide P W .any b0 t v) → ∀ start, ∃ xs bl, OpnA W (fun s _ => RdAs P s (d + 1) ts xs) start vs xs bl
  | [], vs, ds, ps, _, h, _, start => by
    obtain ⟨rfl, rfl, rfl⟩ := trodAll_nil h
    exact ⟨[], [], by simp, by simp, fun ρ _ => ⟨VRs_nil, by simp⟩, fun s _ => rfl⟩
  | t :: ts, vs, ds, ps, hok, h, hval, start => by
    obtain ⟨v, vs1, x, ds1, a, b, rfl, rfl, rfl, h1, h2⟩ := trodAll_cons h
    obtain ⟨b0, hv⟩ := hval 0 t v rfl rfl
    obtain ⟨av, bl1, o1⟩ := arg_deep hc (hok t (by simp)) h1 hv start
    obtain ⟨xs, bl2, o2⟩ := args_deep hc (fun t' ht => hok t' (by simp [ht])) h2 (fun j t' v' e1 e2 => hval (j + 1) t' v' (by simpa using e1) (by simpa using e2)) (start + bl1.length)
    have := o1.cons o2
    exact ⟨av :: xs, bl1 ++ bl2, this.lt, this.own, this.vr, fun s hs => ⟨av, xs, rfl, this.rd s hs⟩⟩
open Classical in
noncomputable def lawC (P : Program) (d : Nat) (ts : List TypeId) : List AV → St → Option (AV × St) := fun xs s => if RdAs P s d ts xs then some (.bool true, { heap := s.heap, next := s.next, low := min s.low s.next }) else none
theorem deep_call {d : Nat} {ts : List TypeId} {args : List Value} {xs : List AV} {bl : List (AB × Loc)} (ho : OpnA W (fun s _ => RdAs P s d ts xs) 0 args xs bl) {f : Nat} (hs : SoundAt P f (lawC P d ts)) : Calls P f args.toArray W fun e W' => e = .returned (.bool true) ∧ Clean W W' := by
  obtain ⟨s0, hs0⟩ : ∃ s0 : St, s0 = ⟨(bl.map (·.1)).reverse, bl.length, 0⟩ := ⟨_, rfl⟩
  have hnx : s0.next = bl.length := by rw [hs0]
  have hget : ∀ i, s0.get i = (bl[i]?).map (·.1) := by
    intro i
    subst hs0
    unfold St.get
    simp only
    split
    · rename_i h
      rw [List.getElem?_reverse (by simp; omega)]
      simp only [List.length_map, List.getElem?_map]
      rw [show bl.length - 1 - (bl.length - 1 - i) = i by omega]
    · rename_i h
      rw [List.getElem?_eq_none (by omega)]
      rfl
  have hown : ∀ i b, s0.get i = some b → b.owned = false := by
    intro i b h
    rw [hget] at h
    obtain ⟨p, hp, rfl⟩ := Option.map_eq_some_iff.1 h
    exact ho.own p (List.mem_of_getElem? hp)
  obtain ⟨ρ, hρ⟩ : ∃ ρ : Ren, ρ = fun i => (bl[i]?).map (·.2) := ⟨_, rfl⟩
  have hρ1 : ∀ i p, bl[i]? = some p → ρ (0 + i) = some p.2 := fun i p hp => by rw [hρ, Nat.zero_add]; simp [hp]
  obtain ⟨hv, hb⟩ := ho.vr ρ hρ1
  have hR : R s0 ρ W := by
    refine ⟨fun i L h => ?_, fun i b L h1 h2 => ?_, fun i j L M bi bj _ _ _ e3 _ e5 _ => ?_⟩
    · rw [hρ] at h
      obtain ⟨p, hp, rfl⟩ := Option.map_eq_some_iff.1 h
      exact ho.lt p (List.mem_of_getElem? hp)
    · rw [hget] at h1
      rw [hρ] at h2
      obtain ⟨p, hp, rfl⟩ := Option.map_eq_some_iff.1 h1
      simp [hp] at h2
      subst h2
      exact hb p (List.mem_of_getElem? hp)
    · rw [hown i bi e3] at e5; cases e5
  have hrd := ho.rd s0 fun i p hp => by rw [Nat.zero_add, hget, hp]; rfl
  obtain ⟨_, _, h⟩ := hs xs s0 _ _ (by unfold lawC; rw [if_pos hrd])
  have := h ρ W args (fun i hi => by rw [hρ]; simp; omega) hR hv
  refine this.mono fun e W' hp => ?_
  obtain ⟨ρ', v, rfl, hv', hst, _⟩ := hp
  simp only [VR] at hv'
  subst hv'
  exact ⟨rfl, hst.size, hst.os, hst.tape, hst.output, hst.drawn, fun b hb => hst.frame b hb fun id L blk _ _ h1 h2 => by rw [hown id blk h1] at h2; cases h2⟩
theorem trodAll_len : ∀ {ts : List TypeId} {vs : List Value} {ds : List (DataW H)} {ps : List MemPlace}, DataW.TrodAll enc P W base (fun _ => true) held ts vs ds ps → ds.length = ts.length
  | [], vs, ds, ps, h => by
    obtain ⟨rfl, rfl, rfl⟩ := trodAll_nil h
    rfl
  | t :: ts, vs, ds, ps, h => by
    obtain ⟨v, vs1, x, ds1, a, b, rfl, rfl, rfl, h1, h2⟩ := trodAll_cons h
    simp [trodAll_len h2]
end Go.AM
end
/-
  What the arguments of the statements show: numbers, nodes, states, lists of states. Own work of this project.
-/
section
set_option linter.unusedVariables false
set_option linter.unusedSimpArgs false
set_option maxRecDepth 100000
namespace Go.AM
open Go Go.Proofs

variable {P : Program} {s : St}
theorem rd_cksF {ok : TypeId → Option (List CK)} {rd : TypeId → List AV → Prop} (IH : ∀ t ks vs, ok t = some ks → rd t vs → CKs ks vs) : ∀ (fs : List Field) (at_ sz : Nat) (ks : List CK) (vs : List AV),
    cks.cksF P ok fs at_ sz = some ks → RdF rd fs vs → CKs ks vs
  | [], at_, sz, ks, vs, h, hr => by
    simp only [cks.cksF] at h
    split at h
    · injection h with h; subst h
      exact hr
    · cases h
  | f :: r, at_, sz, ks, vs, h, hr => by
    simp only [cks.cksF] at h
    split at h
    · split at h
      · rename_i ks1 hk
        split at h
        · obtain ⟨ks2, h2, rfl⟩ := Option.map_eq_some_iff.1 h
          obtain ⟨a, b, rfl, h3, h4⟩ := hr
          exact (IH _ _ _ hk h3).append (rd_cksF IH r _ _ _ _ h2 h4)
        · cases h
      · cases h
    · cases h
theorem rd_cks : ∀ (d : Nat) (t : TypeId) (ks : List CK) (vs : List AV), cks P d t = some ks → RdT P s d t vs → CKs ks vs
  | 0, t, ks, vs, h, _ => by simp [cks] at h
  | d + 1, t, ks, vs, h, hr => by
    simp only [cks] at h
    split at h
    · rename_i hu
      injection h with h; subst h
      simp only [RdT, hu] at hr
      obtain ⟨x, rfl⟩ := hr
      exact ⟨_, _, rfl, ⟨x, rfl⟩, rfl⟩
    · rename_i k hu
      injection h with h; subst h
      simp only [RdT, hu] at hr
      obtain ⟨x, rfl, hw⟩ := hr
      exact ⟨_, _, rfl, ⟨x, rfl, hw⟩, rfl⟩
    · rename_i hu
      injection h with h; subst h
      simp only [RdT, hu] at hr
      obtain ⟨x, rfl⟩ := hr
      exact ⟨_, _, rfl, ⟨x, rfl⟩, rfl⟩
    · rename_i fs hu
      simp only [RdT, hu] at hr
      exact rd_cksF (fun t ks vs h1 h2 => rd_cks d t ks vs h1 h2) _ _ _ _ _ h hr
    · cases h
def ndKs : List CK := [.i .i64, .i .i64, .i .i64, .i .i64, .i .i64, .i .i32]
theorem nd_of_ks {r : List AV} (h : CKs ndKs r) : ∃ x : Nd, r = Nd.av x := by
  simp only [ndKs, CKs] at h
  obtain ⟨_, _, rfl, ⟨a, rfl, _⟩, _, _, rfl, ⟨b, rfl, _⟩, _, _, rfl, ⟨c, rfl, _⟩, _, _, rfl, ⟨d, rfl, _⟩, _, _, rfl, ⟨e, rfl, _⟩, _, _, rfl, ⟨x, rfl, _⟩, rfl⟩ := h
  exact ⟨⟨⟨a, b⟩, ⟨c, d⟩, e, x⟩, rfl⟩
theorem nds_of_rows : ∀ {rows : List (List AV)}, (∀ r ∈ rows, CKs ndKs r) → ∃ l : List Nd, rows.flatten = ndC.cells l ∧ l.length = rows.length
  | [], _ => ⟨[], rfl, rfl⟩
  | r :: rows, h => by
    obtain ⟨x, rfl⟩ := nd_of_ks (h r (by simp))
    obtain ⟨l, h1, h2⟩ := nds_of_rows (rows := rows) fun r' hr' => h r' (by simp [hr'])
    exact ⟨x :: l, by rw [List.flatten_cons, h1, cells_cons]; rfl, by simp [h2]⟩
theorem rd_slice {d : Nat} {t e : TypeId} {vs : List AV} (hu : P.underlying t = some (.slice e)) (h : RdT P s (d + 1) t vs) : vs = [.nils] ∨ ∃ (id n cap : Nat) (rows : List (List AV)), vs = [.sl id 0 n (some cap) (P.cellsOf e)] ∧ n ≤ cap ∧ cap ≤ maxLen ∧ rows.length = cap ∧ s.get id = some (.row rows.flatten false) ∧ ∀ r ∈ rows, RdT P s d e r ∧ r.length = P.cellsOf e := by
  simp only [RdT, hu] at h
  exact h
theorem st_under : Try.prog.underlying 23 = some (.slice 44) := by kernel_rfl
theorem nd_cells : Try.prog.cellsOf 44 = 6 := by kernel_rfl
theorem nd_cks4 : cks Try.prog 4 44 = some ndKs := by kernel_rfl
theorem nd_cks5 : cks Try.prog 5 44 = some ndKs := by kernel_rfl
theorem nd_cks6 : cks Try.prog 6 44 = some ndKs := by kernel_rfl
theorem nd_cks7 : cks Try.prog 7 44 = some ndKs := by kernel_rfl
theorem rd_state {d : Nat} (hd : cks Try.prog d 44 = some ndKs) {vs : List AV} (h : RdT Try.prog s (d + 1) 23 vs) : ∃ v l, vs = [v] ∧ read ndC s v = some l := by
  rcases rd_slice st_under h with rfl | ⟨id, n, cap, rows, rfl, h1, _, h3, h4, h5⟩
  · exact ⟨.nils, [], rfl, rfl⟩
  · obtain ⟨l, e1, e2⟩ := nds_of_rows fun r hr => rd_cks d _ _ _ hd (h5 r hr).1
    rw [nd_cells]
    refine ⟨_, l.take n, rfl, ?_⟩
    have hall : read ndC s (.sl id 0 cap (some cap) 6) = some l := by
      refine read_of (C := ndC) (by omega) h4 ?_ ?_
      · have : (ndC.cells l).length = l.length * 6 := cells_len ndC l
        rw [e1, this]
        show 0 + cap * 6 ≤ _
        omega
      · have : (ndC.cells l).length = l.length * 6 := cells_len ndC l
        rw [e1, List.drop_zero, show cap * ndC.sz = (ndC.cells l).length by rw [this]; show cap * 6 = _; omega, List.take_length]
    exact read_take hall n h1
theorem rd_int {d : Nat} {t : TypeId} {k : IntKind} {vs : List AV} (hu : P.underlying t = some (.int k)) (h : RdT P s (d + 1) t vs) : ∃ n, vs = [.int k n] ∧ (Lit.int k n).wf = true := by
  simp only [RdT, hu] at h
  exact h
theorem rda_int {d : Nat} {t : TypeId} {k : IntKind} {v : AV} (hu : P.underlying t = some (.int k)) (h : RdA P s (d + 1) t v) : ∃ n, v = .int k n ∧ (Lit.int k n).wf = true := by
  obtain ⟨vs, h1, rfl⟩ := h
  obtain ⟨n, rfl, hw⟩ := rd_int hu h1
  exact ⟨n, by simp [argAV, hu], hw⟩
theorem rda_state {d : Nat} (hd : cks Try.prog d 44 = some ndKs) {v : AV} (h : RdA Try.prog s (d + 1) 23 v) : ∃ l, read ndC s v = some l := by
  obtain ⟨vs, h1, rfl⟩ := h
  obtain ⟨v, l, rfl, hr⟩ := rd_state hd h1
  exact ⟨l, by simp [argAV, st_under, hr]⟩
theorem lawC_some {d : Nat} {ts : List TypeId} {xs : List AV} {r : AV} {s' : St} (h : lawC P d ts xs s = some (r, s')) : RdAs P s d ts xs ∧ r = .bool true ∧ s' = s.lowed := by
  unfold lawC at h
  split at h
  · rename_i hr
    injection h with h
    obtain ⟨rfl, rfl⟩ := Prod.mk.inj h
    exact ⟨hr, rfl, rfl⟩
  · cases h
theorem rdas_1 {d : Nat} {t : TypeId} {xs : List AV} (h : RdAs P s d [t] xs) : ∃ v, xs = [v] ∧ RdA P s d t v := by
  obtain ⟨v, r, rfl, h1, h2⟩ := h
  simp only [RdAs] at h2
  subst h2
  exact ⟨v, rfl, h1⟩
theorem rdas_cons {d : Nat} {t : TypeId} {ts : List TypeId} {xs : List AV} (h : RdAs P s d (t :: ts) xs) : ∃ v r, xs = v :: r ∧ RdA P s d t v ∧ RdAs P s d ts r := h
theorem rdas_2 {d : Nat} {t1 t2 : TypeId} {xs : List AV} (h : RdAs P s d [t1, t2] xs) : ∃ v w, xs = [v, w] ∧ RdA P s d t1 v ∧ RdA P s d t2 w := by
  obtain ⟨v, r, rfl, h1, h2⟩ := h
  obtain ⟨w, rfl, h3⟩ := rdas_1 h2
  exact ⟨v, w, rfl, h1, h3⟩
theorem rdas_3 {d : Nat} {t1 t2 t3 : TypeId} {xs : List AV} (h : RdAs P s d [t1, t2, t3] xs) : ∃ v w u, xs = [v, w, u] ∧ RdA P s d t1 v ∧ RdA P s d t2 w ∧ RdA P s d t3 u := by
  obtain ⟨v, r, rfl, h1, h2⟩ := h
  obtain ⟨w, u, rfl, h3, h4⟩ := rdas_2 h2
  exact ⟨v, w, u, rfl, h1, h3, h4⟩
end Go.AM
end
/-
  A list of states among the arguments. Own work of this project.
-/
section
set_option linter.unusedVariables false
set_option linter.unusedSimpArgs false
set_option maxRecDepth 100000
namespace Go.AM
open Go Go.Proofs

variable {s : St}
theorem sts_of_rows {d : Nat} (hd : cks Try.prog d 44 = some ndKs) : ∀ {rows : List (List AV)}, (∀ r ∈ rows, RdT Try.prog s (d + 1) 23 r) → ∃ ls : List (List Nd), readA s rows.flatten = some ls ∧ ls.length = rows.length ∧ rows.flatten.length = rows.length
  | [], _ => ⟨[], rfl, rfl, rfl⟩
  | r :: rows, h => by
    obtain ⟨v, l, rfl, hr⟩ := rd_state hd (h r (by simp))
    obtain ⟨ls, h1, h2, h3⟩ := sts_of_rows hd (rows := rows) fun r' hr' => h r' (by simp [hr'])
    exact ⟨l :: ls, by simp only [List.flatten_cons, List.cons_append, List.nil_append, readA, hr, h1], by simp [h2], by simp [h3]⟩
theorem readA_take : ∀ (n : Nat) {vs : List AV} {ls : List (List Nd)}, readA s vs = some ls → readA s (vs.take n) = some (ls.take n)
  | 0, _, _, _ => rfl
  | n + 1, [], ls, h => by simp [readA] at h; subst h; rfl
  | n + 1, v :: vs, ls, h => by
    simp only [readA] at h
    split at h
    · rename_i l ls' h1 h2
      injection h with h
      subst h
      simp only [List.take_succ_cons, readA, h1, readA_take n h2]
    · cases h
theorem rd_states {d : Nat} (hd : cks Try.prog d 44 = some ndKs) {t : TypeId} (hu : Try.prog.underlying t = some (.slice 23)) (hc : Try.prog.cellsOf 23 = 1) {vs : List AV} (h : RdT Try.prog s (d + 2) t vs) : ∃ v ls, vs = [v] ∧ rdLL s v = some ls := by
  rcases rd_slice hu h with rfl | ⟨id, n, cap, rows, rfl, h1, _, h3, h4, h5⟩
  · exact ⟨.nils, [], rfl, rfl⟩
  · obtain ⟨ls, e1, e2, e3⟩ := sts_of_rows hd fun r hr => (h5 r hr).1
    refine ⟨_, ls.take n, rfl, ?_⟩
    rw [hc]
    unfold rdLL
    have : shownV s (.sl id 0 n (some cap) 1) = some (rows.flatten.take n) := by
      simp only [shownV, if_true, h4]
      rw [if_pos (by omega), List.drop_zero]
    rw [this]
    exact readA_take n e1
theorem rda_states {d : Nat} (hd : cks Try.prog d 44 = some ndKs) {t : TypeId} (hu : Try.prog.underlying t = some (.slice 23)) (hc : Try.prog.cellsOf 23 = 1) {v : AV} (h : RdA Try.prog s (d + 2) t v) : ∃ ls, rdLL s v = some ls := by
  obtain ⟨vs, h1, rfl⟩ := h
  obtain ⟨v, ls, rfl, hr⟩ := rd_states hd hu hc h1
  exact ⟨ls, by simp [argAV, hu, hr]⟩
end Go.AM
end
/-
  JoinAlls in the abstract machine. Own work of this project; in part printed by a program of it.
-/
section
set_option linter.unusedVariables false
set_option linter.unusedSimpArgs false
set_option maxRecDepth 100000
set_option maxHeartbeats 16000000
namespace Go.AM
open Go Go.Proofs

theorem sts_under : Try.prog.underlying 35 = some (.slice 23) := by kernel_rfl
theorem sts_cells : Try.prog.cellsOf 23 = 1 := by kernel_rfl
theorem refJ_len (l : List Nd) : ∀ (m : List Nd), (refJ l m).length ≤ l.length + m.length := by
  intro m
  unfold refJ
  induction m generalizing l with
  | nil => simp
  | cons x m ih =>
    simp only [List.foldl_cons, List.length_cons]
    have := ih (jstep l x)
    have := jstep_len l x
    omega
theorem fold_len (a : List Nd) : ∀ (ls : List (List Nd)), (ls.foldl refJ a).length ≤ a.length + ls.flatten.length := by
  intro ls
  induction ls generalizing a with
  | nil => simp
  | cons l ls ih =>
    simp only [List.foldl_cons, List.flatten_cons, List.length_append]
    have := ih (refJ a l)
    have := refJ_len a l
    omega
theorem flat_small : ∀ (ls : List (List Nd)) (k : Nat), (∀ l ∈ ls, l.length ≤ k) → ls.flatten.length ≤ ls.length * k
  | [], _, _ => by simp
  | l :: ls, k, h => by
    have h1 := h l (by simp)
    have h2 := flat_small ls k fun l hl => h l (by simp [hl])
    simp only [List.flatten_cons, List.length_append, List.length_cons, Nat.succ_mul]
    omega
theorem s_JoinAlls : SoundAt Try.prog 4 (lawC Try.prog 8 [35]) :=
  con_keep (tb_sound (l := [(8, closed [] (.bool true)), (9, conL ndC fStore), (12, conLL ndC ndC fAgree), (16, conF ndC (pLL ndC ndC gRJoin)), (19, conH withinP), (18, conA)]) (by simpa using ⟨s_known, s_Store, s_RAgree, s_RJoin, s_hwithin, s_halls⟩)) mixed Try.func4 k4 c4 fun args s r s' h => by
    obtain ⟨hh, rfl, rfl⟩ := lawC_some h
    obtain ⟨v, rfl, hv⟩ := rdas_1 hh
    obtain ⟨ls, hrd⟩ := rda_states nd_cks6 sts_under sts_cells hv
    refine ⟨rfl, rfl, by simp [a4], fun env hlen ha => ?_⟩
    have h0 : E env 0 = _ := ha 0 _ rfl
    have hlen : elen env = _ := hlen
    simp only [a4] at hlen
    unfold a4
    have hL := rdLL_len hrd
    by_cases hz : (6 : Int) < (ls.length : Int)
    · have hz1 := eq_true hz
      simp (config := {contextual := true, maxDischargeDepth := 12}) only [tb_at, h0, hlen, hL, hz1, ↓bD0, ↓bD1, ↓bD2, ↓bD3, ↓bD4, ↓bD5, ↓bD6, bU0, bU1, bU2, bU3, bU4, bU5, bU6, bU7, bU8, bU9, bU10, bU11, bU12, bU13, forall_const, List.all_cons, List.all_nil, Option.map_some, List.map_cons, List.map_nil, ne_eq, implies_true, isNx, cs_dec, cs_not, cs_and, cs_or, cs_valid, eq_self, ↓wp_cond, ↓wp_loop, ↓reduceIte, reduceCtorEq, Nat.reduceEqDiff, Nat.reduceLT, Nat.reduceAdd, Nat.reduceMul, Int.ofNat_lt, Int.ofNat_le, exists_const, ae_app, ap_slc, Option.map_none, mkR_none, mkR_some, ar_look, ae_mset, ae_rng, ae_mkmap0, ar_ent, lookV_push, lookV_lowed, msetV_push, msetV_lowed, lt_put, same_put, sto_over, sto_lowed, cs_dead, Option.map_some, beq_self_eq_true, decide_true, cs_true, cs_false, aa_bsl, ↓sg_bsl, q_known, mkR_none]
    have hz1 := eq_false hz
    have hn6 : ls.length ≤ 6 := by omega
    simp (config := {contextual := true, maxDischargeDepth := 12}) only [tb_at, h0, hlen, hL, hz1, ↓bD0, ↓bD1, ↓bD2, ↓bD3, ↓bD4, ↓bD5, ↓bD6, bU0, bU1, bU2, bU3, bU4, bU5, bU6, bU7, bU8, bU9, bU10, bU11, bU12, bU13, forall_const, List.all_cons, List.all_nil, Option.map_some, List.map_cons, List.map_nil, ne_eq, implies_true, isNx, cs_dec, cs_not, cs_and, cs_or, cs_valid, eq_self, ↓wp_cond, ↓wp_loop, ↓reduceIte, reduceCtorEq, Nat.reduceEqDiff, Nat.reduceLT, Nat.reduceAdd, Nat.reduceMul, Int.ofNat_lt, Int.ofNat_le, exists_const, ae_app, ap_slc, Option.map_none, mkR_none, mkR_some, ar_look, ae_mset, ae_rng, ae_mkmap0, ar_ent, lookV_push, lookV_lowed, msetV_push, msetV_lowed, lt_put, same_put, sto_over, sto_lowed, cs_dead, Option.map_some, beq_self_eq_true, decide_true, cs_true, cs_false, aa_bsl, ↓sg_bsl, q_known, mkR_none]
    obtain ⟨I1, hI1⟩ : ∃ I1 : Nat → Env → St → Prop, ∀ n e t, I1 n e t = (t = s ∧ ∃ i : Nat, n + i = ls.length ∧ elen e = 100 ∧ E e 0 = v ∧ E e 3 = .bool ((ls.take i).all storeL) ∧ E e 4 = .bool true ∧ E e 5 = .nils ∧ E e 6 = .int .i64 (i : Int) ∧ ∀ l ∈ ls.take i, l.length ≤ 30) := ⟨fun n e t => (t = s ∧ ∃ i : Nat, n + i = ls.length ∧ elen e = 100 ∧ E e 0 = v ∧ E e 3 = .bool ((ls.take i).all storeL) ∧ E e 4 = .bool true ∧ E e 5 = .nils ∧ E e 6 = .int .i64 (i : Int) ∧ ∀ l ∈ ls.take i, l.length ≤ 30), fun _ _ _ => rfl⟩
    refine lwp_inv I1 (n := ls.length) ?_ ?_
    · rw [hI1]
      exact ⟨rfl, 0, by omega, by simp only [E_pne, E_psame, elen_put, Nat.reduceEqDiff, ne_eq, not_false_eq_true, Nat.reduceLT, hlen], by simp only [E_pne, E_psame, elen_put, Nat.reduceEqDiff, ne_eq, not_false_eq_true, Nat.reduceLT, h0], by simp only [E_pne, E_psame, elen_put, Nat.reduceEqDiff, ne_eq, not_false_eq_true, Nat.reduceLT, hlen]; rfl, by simp only [E_pne, E_psame, elen_put, Nat.reduceEqDiff, ne_eq, not_false_eq_true, Nat.reduceLT, hlen], by simp only [E_pne, E_psame, elen_put, Nat.reduceEqDiff, ne_eq, not_false_eq_true, Nat.reduceLT, hlen], by simp only [E_pne, E_psame, elen_put, Nat.reduceEqDiff, ne_eq, not_false_eq_true, Nat.reduceLT, hlen]; rfl, fun l hl => by simp at hl⟩
    intro n e t hi
    rw [hI1] at hi
    obtain ⟨rfl, i, hni, he, e0, e3, e4, e5, e6, hsm⟩ := hi
    by_cases hlt : i < ls.length
    · have hw2 := wrap_add1 (n := i) (by omega)
      have hlt2 : ((i : Int) < (ls.length : Int)) = True := eq_true (by omega)
      obtain ⟨x, hx⟩ := getsome hlt
      obtain ⟨w, i1, hxx, hrw⟩ := rdLL_at hrd hx
      obtain ⟨a1, al⟩ := hxx t (.refl t)
      have hLx := lenV_read hrw
      by_cases h30 : (30 : Int) < (x.length : Int)
      · have hz2 := eq_true h30
        simp (config := {contextual := true, maxDischargeDepth := 12}) only [tb_at, he, e0, e3, e4, e5, e6, hL, hlt2, i1, a1, al, hLx, hz2, ↓bD0, ↓bD1, ↓bD2, ↓bD3, ↓bD4, ↓bD5, ↓bD6, bU0, bU1, bU2, bU3, bU4, bU5, bU6, bU7, bU8, bU9, bU10, bU11, bU12, bU13, forall_const, List.all_cons, List.all_nil, Option.map_some, List.map_cons, List.map_nil, ne_eq, implies_true, isNx, cs_dec, cs_not, cs_and, cs_or, cs_valid, eq_self, ↓wp_cond, ↓wp_loop, ↓reduceIte, reduceCtorEq, Nat.reduceEqDiff, Nat.reduceLT, Nat.reduceAdd, Nat.reduceMul, Int.ofNat_lt, Int.ofNat_le, exists_const, ae_app, ap_slc, Option.map_none, mkR_none, mkR_some, ar_look, ae_mset, ae_rng, ae_mkmap0, ar_ent, lookV_push, lookV_lowed, msetV_push, msetV_lowed, lt_put, same_put, sto_over, sto_lowed, cs_dead, Option.map_some, beq_self_eq_true, decide_true, cs_true, cs_false, aa_bsl, ↓sg_bsl, q_known, mkR_none]
      · have hz2 := eq_false h30
        have qs := q_Store false hrw (by unfold lim; omega)
        have hall := all_take (p := storeL) hx
        cases hb : (ls.take i).all storeL
        · rw [hb] at e3 hall
          simp (config := {contextual := true, maxDischargeDepth := 12}) only [tb_at, he, e0, e3, e4, e5, e6, hL, hlt2, i1, a1, al, hLx, hz2, hw2, ↓bD0, ↓bD1, ↓bD2, ↓bD3, ↓bD4, ↓bD5, ↓bD6, bU0, bU1, bU2, bU3, bU4, bU5, bU6, bU7, bU8, bU9, bU10, bU11, bU12, bU13, forall_const, List.all_cons, List.all_nil, Option.map_some, List.map_cons, List.map_nil, ne_eq, implies_true, isNx, cs_dec, cs_not, cs_and, cs_or, cs_valid, eq_self, ↓wp_cond, ↓wp_loop, ↓reduceIte, reduceCtorEq, Nat.reduceEqDiff, Nat.reduceLT, Nat.reduceAdd, Nat.reduceMul, Int.ofNat_lt, Int.ofNat_le, exists_const, ae_app, ap_slc, Option.map_none, mkR_none, mkR_some, ar_look, ae_mset, ae_rng, ae_mkmap0, ar_ent, lookV_push, lookV_lowed, msetV_push, msetV_lowed, lt_put, same_put, sto_over, sto_lowed, cs_dead, Option.map_some, beq_self_eq_true, decide_true, cs_true, cs_false, aa_bsl, ↓sg_bsl, q_known, mkR_none]
          refine ⟨n - 1, by omega, ?_⟩
          rw [hI1]
          refine ⟨rfl, i + 1, by omega, by simp only [E_pne, E_psame, elen_put, Nat.reduceEqDiff, ne_eq, not_false_eq_true, Nat.reduceLT, he], by simp only [E_pne, E_psame, elen_put, Nat.reduceEqDiff, ne_eq, not_false_eq_true, Nat.reduceLT, e0], by simp only [E_pne, E_psame, elen_put, Nat.reduceEqDiff, ne_eq, not_false_eq_true, Nat.reduceLT, he, hall, Bool.false_and], by simp only [E_pne, E_psame, elen_put, Nat.reduceEqDiff, ne_eq, not_false_eq_true, Nat.reduceLT, e4], by simp only [E_pne, E_psame, elen_put, Nat.reduceEqDiff, ne_eq, not_false_eq_true, Nat.reduceLT, e5], by simp only [E_pne, E_psame, elen_put, Nat.reduceEqDiff, ne_eq, not_false_eq_true, Nat.reduceLT, he], ?_⟩
          intro l hl
          rw [List.take_add_one, hx] at hl
          rcases List.mem_append.1 hl with hl | hl
          · exact hsm l hl
          · have : l = x := by simpa using hl
            subst this
            omega
        · rw [hb] at e3 hall
          simp (config := {contextual := true, maxDischargeDepth := 12}) only [tb_at, he, e0, e3, e4, e5, e6, hL, hlt2, i1, a1, al, hLx, hz2, hw2, qs, ↓bD0, ↓bD1, ↓bD2, ↓bD3, ↓bD4, ↓bD5, ↓bD6, bU0, bU1, bU2, bU3, bU4, bU5, bU6, bU7, bU8, bU9, bU10, bU11, bU12, bU13, forall_const, List.all_cons, List.all_nil, Option.map_some, List.map_cons, List.map_nil, ne_eq, implies_true, isNx, cs_dec, cs_not, cs_and, cs_or, cs_valid, eq_self, ↓wp_cond, ↓wp_loop, ↓reduceIte, reduceCtorEq, Nat.reduceEqDiff, Nat.reduceLT, Nat.reduceAdd, Nat.reduceMul, Int.ofNat_lt, Int.ofNat_le, exists_const, ae_app, ap_slc, Option.map_none, mkR_none, mkR_some, ar_look, ae_mset, ae_rng, ae_mkmap0, ar_ent, lookV_push, lookV_lowed, msetV_push, msetV_lowed, lt_put, same_put, sto_over, sto_lowed, cs_dead, Option.map_some, beq_self_eq_true, decide_true, cs_true, cs_false, aa_bsl, ↓sg_bsl, q_known, mkR_none]
          refine ⟨n - 1, by omega, ?_⟩
          rw [hI1]
          refine ⟨rfl, i + 1, by omega, by simp only [E_pne, E_psame, elen_put, Nat.reduceEqDiff, ne_eq, not_false_eq_true, Nat.reduceLT, he], by simp only [E_pne, E_psame, elen_put, Nat.reduceEqDiff, ne_eq, not_false_eq_true, Nat.reduceLT, e0], by simp only [E_pne, E_psame, elen_put, Nat.reduceEqDiff, ne_eq, not_false_eq_true, Nat.reduceLT, he, hall, Bool.true_and], by simp only [E_pne, E_psame, elen_put, Nat.reduceEqDiff, ne_eq, not_false_eq_true, Nat.reduceLT, e4], by simp only [E_pne, E_psame, elen_put, Nat.reduceEqDiff, ne_eq, not_false_eq_true, Nat.reduceLT, e5], by simp only [E_pne, E_psame, elen_put, Nat.reduceEqDiff, ne_eq, not_false_eq_true, Nat.reduceLT, he], ?_⟩
          intro l hl
          rw [List.take_add_one, hx] at hl
          rcases List.mem_append.1 hl with hl | hl
          · exact hsm l hl
          · have : l = x := by simpa using hl
            subst this
            omega
    have hin : i = ls.length := by omega
    subst hin
    have hlt2 : ((ls.length : Int) < (ls.length : Int)) = False := eq_false (by omega)
    rw [List.take_length] at e3 hsm
    have hfl := flat_small ls 30 hsm
    have hfl2 : ls.flatten.length ≤ 180 := by omega
    cases hst : ls.all storeL
    · rw [hst] at e3
      have hP : allP ls = ([], 2) := by
        unfold allP
        rw [if_neg (by simp [hst])]
      have qa := conA_call hrd (read_nils ndC t) (by omega) (by omega) (by simp) false 2
      rw [hP] at qa
      simp (config := {contextual := true, maxDischargeDepth := 12}) only [tb_at, he, e0, e3, e4, e5, e6, hL, hlt2, ↓bD0, ↓bD1, ↓bD2, ↓bD3, ↓bD4, ↓bD5, ↓bD6, bU0, bU1, bU2, bU3, bU4, bU5, bU6, bU7, bU8, bU9, bU10, bU11, bU12, bU13, forall_const, List.all_cons, List.all_nil, Option.map_some, List.map_cons, List.map_nil, ne_eq, implies_true, isNx, cs_dec, cs_not, cs_and, cs_or, cs_valid, eq_self, ↓wp_cond, ↓wp_loop, ↓reduceIte, reduceCtorEq, Nat.reduceEqDiff, Nat.reduceLT, Nat.reduceAdd, Nat.reduceMul, Int.ofNat_lt, Int.ofNat_le, exists_const, ae_app, ap_slc, Option.map_none, mkR_none, mkR_some, ar_look, ae_mset, ae_rng, ae_mkmap0, ar_ent, lookV_push, lookV_lowed, msetV_push, msetV_lowed, lt_put, same_put, sto_over, sto_lowed, cs_dead, Option.map_some, beq_self_eq_true, decide_true, cs_true, cs_false, aa_bsl, ↓sg_bsl, q_known, mkR_none]
      obtain ⟨I2, hI2⟩ : ∃ I2 : Nat → Env → St → Prop, ∀ n e t1, I2 n e t1 = (t1 = t ∧ elen e = 100 ∧ E e 0 = v ∧ E e 3 = .bool false ∧ E e 7 = .int .i64 0) := ⟨fun n e t1 => (t1 = t ∧ elen e = 100 ∧ E e 0 = v ∧ E e 3 = .bool false ∧ E e 7 = .int .i64 0), fun _ _ _ => rfl⟩
      refine lwp_inv I2 (n := 0) ?_ ?_
      · rw [hI2]
        exact ⟨rfl, by simp only [E_pne, E_psame, elen_put, Nat.reduceEqDiff, ne_eq, not_false_eq_true, Nat.reduceLT, he], by simp only [E_pne, E_psame, elen_put, Nat.reduceEqDiff, ne_eq, not_false_eq_true, Nat.reduceLT, e0], by simp only [E_pne, E_psame, elen_put, Nat.reduceEqDiff, ne_eq, not_false_eq_true, Nat.reduceLT, e3], by simp only [E_pne, E_psame, elen_put, Nat.reduceEqDiff, ne_eq, not_false_eq_true, Nat.reduceLT, he]⟩
      intro n e t1 hi
      rw [hI2] at hi
      obtain ⟨rfl, he, e0, e3, e7⟩ := hi
      by_cases hz0 : (0 : Int) < (ls.length : Int)
      · have hz3 := eq_true hz0
        simp (config := {contextual := true, maxDischargeDepth := 12}) only [tb_at, he, e0, e3, e7, hL, hz3, qa, ↓bD0, ↓bD1, ↓bD2, ↓bD3, ↓bD4, ↓bD5, ↓bD6, bU0, bU1, bU2, bU3, bU4, bU5, bU6, bU7, bU8, bU9, bU10, bU11, bU12, bU13, forall_const, List.all_cons, List.all_nil, Option.map_some, List.map_cons, List.map_nil, ne_eq, implies_true, isNx, cs_dec, cs_not, cs_and, cs_or, cs_valid, eq_self, ↓wp_cond, ↓wp_loop, ↓reduceIte, reduceCtorEq, Nat.reduceEqDiff, Nat.reduceLT, Nat.reduceAdd, Nat.reduceMul, Int.ofNat_lt, Int.ofNat_le, exists_const, ae_app, ap_slc, Option.map_none, mkR_none, mkR_some, ar_look, ae_mset, ae_rng, ae_mkmap0, ar_ent, lookV_push, lookV_lowed, msetV_push, msetV_lowed, lt_put, same_put, sto_over, sto_lowed, cs_dead, Option.map_some, beq_self_eq_true, decide_true, cs_true, cs_false, aa_bsl, ↓sg_bsl, q_known, mkR_none]
      · have hz3 := eq_false hz0
        simp (config := {contextual := true, maxDischargeDepth := 12}) only [tb_at, he, e0, e3, e7, hL, hz3, qa, ↓bD0, ↓bD1, ↓bD2, ↓bD3, ↓bD4, ↓bD5, ↓bD6, bU0, bU1, bU2, bU3, bU4, bU5, bU6, bU7, bU8, bU9, bU10, bU11, bU12, bU13, forall_const, List.all_cons, List.all_nil, Option.map_some, List.map_cons, List.map_nil, ne_eq, implies_true, isNx, cs_dec, cs_not, cs_and, cs_or, cs_valid, eq_self, ↓wp_cond, ↓wp_loop, ↓reduceIte, reduceCtorEq, Nat.reduceEqDiff, Nat.reduceLT, Nat.reduceAdd, Nat.reduceMul, Int.ofNat_lt, Int.ofNat_le, exists_const, ae_app, ap_slc, Option.map_none, mkR_none, mkR_some, ar_look, ae_mset, ae_rng, ae_mkmap0, ar_ent, lookV_push, lookV_lowed, msetV_push, msetV_lowed, lt_put, same_put, sto_over, sto_lowed, cs_dead, Option.map_some, beq_self_eq_true, decide_true, cs_true, cs_false, aa_bsl, ↓sg_bsl, q_known, mkR_none]
    rw [hst] at e3
    have hs : Stores ls := fun l hl => List.all_eq_true.1 hst l hl
    simp (config := {contextual := true, maxDischargeDepth := 12}) only [tb_at, he, e0, e3, e4, e5, e6, hL, hlt2, ↓bD0, ↓bD1, ↓bD2, ↓bD3, ↓bD4, ↓bD5, ↓bD6, bU0, bU1, bU2, bU3, bU4, bU5, bU6, bU7, bU8, bU9, bU10, bU11, bU12, bU13, forall_const, List.all_cons, List.all_nil, Option.map_some, List.map_cons, List.map_nil, ne_eq, implies_true, isNx, cs_dec, cs_not, cs_and, cs_or, cs_valid, eq_self, ↓wp_cond, ↓wp_loop, ↓reduceIte, reduceCtorEq, Nat.reduceEqDiff, Nat.reduceLT, Nat.reduceAdd, Nat.reduceMul, Int.ofNat_lt, Int.ofNat_le, exists_const, ae_app, ap_slc, Option.map_none, mkR_none, mkR_some, ar_look, ae_mset, ae_rng, ae_mkmap0, ar_ent, lookV_push, lookV_lowed, msetV_push, msetV_lowed, lt_put, same_put, sto_over, sto_lowed, cs_dead, Option.map_some, beq_self_eq_true, decide_true, cs_true, cs_false, aa_bsl, ↓sg_bsl, q_known, mkR_none]
    obtain ⟨I2, hI2⟩ : ∃ I2 : Nat → Env → St → Prop, ∀ n e t1, I2 n e t1 = (Keep t t1 ∧ ∃ i : Nat, n + i = ls.length ∧ elen e = 100 ∧ E e 0 = v ∧ E e 3 = .bool true ∧ E e 4 = .bool (agB ls i) ∧ Own ndC t t1 (E e 5) ((ls.take i).foldl refJ []) ∧ E e 7 = .int .i64 (i : Int)) := ⟨fun n e t1 => (Keep t t1 ∧ ∃ i : Nat, n + i = ls.length ∧ elen e = 100 ∧ E e 0 = v ∧ E e 3 = .bool true ∧ E e 4 = .bool (agB ls i) ∧ Own ndC t t1 (E e 5) ((ls.take i).foldl refJ []) ∧ E e 7 = .int .i64 (i : Int)), fun _ _ _ => rfl⟩
    refine lwp_inv I2 (n := ls.length) ?_ ?_
    · rw [hI2]
      exact ⟨.refl t, 0, by omega, by simp only [E_pne, E_psame, elen_put, Nat.reduceEqDiff, ne_eq, not_false_eq_true, Nat.reduceLT, he], by simp only [E_pne, E_psame, elen_put, Nat.reduceEqDiff, ne_eq, not_false_eq_true, Nat.reduceLT, e0], by simp only [E_pne, E_psame, elen_put, Nat.reduceEqDiff, ne_eq, not_false_eq_true, Nat.reduceLT, e3], by simp only [E_pne, E_psame, elen_put, Nat.reduceEqDiff, ne_eq, not_false_eq_true, Nat.reduceLT, e4]; rfl, by simp only [E_pne, E_psame, elen_put, Nat.reduceEqDiff, ne_eq, not_false_eq_true, Nat.reduceLT, e5]; exact .nil _ _ _, by simp only [E_pne, E_psame, elen_put, Nat.reduceEqDiff, ne_eq, not_false_eq_true, Nat.reduceLT, he]; rfl⟩
    clear e3 e4 e5 e6 he e0
    intro n e t1 hi
    rw [hI2] at hi
    obtain ⟨hK, i, hni, he, e0, e3, e4, e5, e7⟩ := hi
    by_cases hlt : i < ls.length
    · have hw2 := wrap_add1 (n := i) (by omega)
      have hlt2 : ((i : Int) < (ls.length : Int)) = True := eq_true (by omega)
      obtain ⟨x, hx⟩ := getsome hlt
      obtain ⟨w, i1, hxx, hrw⟩ := rdLL_at hrd hx
      obtain ⟨a1, al⟩ := hxx t1 hK
      have hxm := hsm x (List.mem_of_getElem? hx)
      obtain ⟨w5, hw5⟩ : ∃ w5, E e 5 = w5 := ⟨_, rfl⟩
      rw [hw5] at e5
      simp (config := {contextual := true, maxDischargeDepth := 12}) only [tb_at, he, e0, e3, e4, hw5, e7, hL, hlt2, ↓bD0, ↓bD1, ↓bD2, ↓bD3, ↓bD4, ↓bD5, ↓bD6, bU0, bU1, bU2, bU3, bU4, bU5, bU6, bU7, bU8, bU9, bU10, bU11, bU12, bU13, forall_const, List.all_cons, List.all_nil, Option.map_some, List.map_cons, List.map_nil, ne_eq, implies_true, isNx, cs_dec, cs_not, cs_and, cs_or, cs_valid, eq_self, ↓wp_cond, ↓wp_loop, ↓reduceIte, reduceCtorEq, Nat.reduceEqDiff, Nat.reduceLT, Nat.reduceAdd, Nat.reduceMul, Int.ofNat_lt, Int.ofNat_le, exists_const, ae_app, ap_slc, Option.map_none, mkR_none, mkR_some, ar_look, ae_mset, ae_rng, ae_mkmap0, ar_ent, lookV_push, lookV_lowed, msetV_push, msetV_lowed, lt_put, same_put, sto_over, sto_lowed, cs_dead, Option.map_some, beq_self_eq_true, decide_true, cs_true, cs_false, aa_bsl, ↓sg_bsl, q_known, mkR_none]
      obtain ⟨I3, hI3⟩ : ∃ I3 : Nat → Env → St → Prop, ∀ n e t2, I3 n e t2 = (t2 = t1 ∧ ∃ k : Nat, n + k = i ∧ elen e = 100 ∧ E e 0 = v ∧ E e 3 = .bool true ∧ E e 4 = .bool (agB ls i && (ls.take k).all (agreeL x)) ∧ E e 5 = w5 ∧ E e 7 = .int .i64 (i : Int) ∧ E e 8 = .int .i64 (k : Int)) := ⟨fun n e t2 => (t2 = t1 ∧ ∃ k : Nat, n + k = i ∧ elen e = 100 ∧ E e 0 = v ∧ E e 3 = .bool true ∧ E e 4 = .bool (agB ls i && (ls.take k).all (agreeL x)) ∧ E e 5 = w5 ∧ E e 7 = .int .i64 (i : Int) ∧ E e 8 = .int .i64 (k : Int)), fun _ _ _ => rfl⟩
      refine lwp_inv I3 (n := i) ?_ ?_
      · rw [hI3]
        exact ⟨rfl, 0, by omega, by simp only [E_pne, E_psame, elen_put, Nat.reduceEqDiff, ne_eq, not_false_eq_true, Nat.reduceLT, he], by simp only [E_pne, E_psame, elen_put, Nat.reduceEqDiff, ne_eq, not_false_eq_true, Nat.reduceLT, e0], by simp only [E_pne, E_psame, elen_put, Nat.reduceEqDiff, ne_eq, not_false_eq_true, Nat.reduceLT, e3], by simp only [E_pne, E_psame, elen_put, Nat.reduceEqDiff, ne_eq, not_false_eq_true, Nat.reduceLT, e4, List.take_zero, List.all_nil, Bool.and_true], by simp only [E_pne, E_psame, elen_put, Nat.reduceEqDiff, ne_eq, not_false_eq_true, Nat.reduceLT, hw5], by simp only [E_pne, E_psame, elen_put, Nat.reduceEqDiff, ne_eq, not_false_eq_true, Nat.reduceLT, e7], by simp only [E_pne, E_psame, elen_put, Nat.reduceEqDiff, ne_eq, not_false_eq_true, Nat.reduceLT, he]; rfl⟩
      clear e3 e4 e7 he e0 hw5
      intro n2 e t2 hi
      rw [hI3] at hi
      obtain ⟨rfl, k, hnk, he, e0, e3, e4, hw5, e7, e8⟩ := hi
      by_cases hki : k < i
      · have hw3 := wrap_add1 (n := k) (by omega)
        have hlt3 : ((k : Int) < (i : Int)) = True := eq_true (by omega)
        obtain ⟨y, hy⟩ := getsome (l := ls) (i := k) (by omega)
        obtain ⟨w', i2, hyy, hrw'⟩ := rdLL_at hrd hy
        obtain ⟨b1, bl⟩ := hyy t2 hK
        have hym := hsm y (List.mem_of_getElem? hy)
        have qa := q_RAgree false (hK.read hrw) (hK.read hrw') (by unfold lim; omega) (by unfold lim; omega)
        have hall := all_take (p := agreeL x) hy
        cases hb : (agB ls i && (ls.take k).all (agreeL x))
        · rw [hb] at e4
          simp (config := {contextual := true, maxDischargeDepth := 12}) only [tb_at, he, e0, e3, e4, hw5, e7, e8, hlt3, i1, a1, al, i2, b1, bl, hw3, ↓bD0, ↓bD1, ↓bD2, ↓bD3, ↓bD4, ↓bD5, ↓bD6, bU0, bU1, bU2, bU3, bU4, bU5, bU6, bU7, bU8, bU9, bU10, bU11, bU12, bU13, forall_const, List.all_cons, List.all_nil, Option.map_some, List.map_cons, List.map_nil, ne_eq, implies_true, isNx, cs_dec, cs_not, cs_and, cs_or, cs_valid, eq_self, ↓wp_cond, ↓wp_loop, ↓reduceIte, reduceCtorEq, Nat.reduceEqDiff, Nat.reduceLT, Nat.reduceAdd, Nat.reduceMul, Int.ofNat_lt, Int.ofNat_le, exists_const, ae_app, ap_slc, Option.map_none, mkR_none, mkR_some, ar_look, ae_mset, ae_rng, ae_mkmap0, ar_ent, lookV_push, lookV_lowed, msetV_push, msetV_lowed, lt_put, same_put, sto_over, sto_lowed, cs_dead, Option.map_some, beq_self_eq_true, decide_true, cs_true, cs_false, aa_bsl, ↓sg_bsl, q_known, mkR_none]
          refine ⟨n2 - 1, by omega, ?_⟩
          rw [hI3]
          refine ⟨rfl, k + 1, by omega, by simp only [E_pne, E_psame, elen_put, Nat.reduceEqDiff, ne_eq, not_false_eq_true, Nat.reduceLT, he], by simp only [E_pne, E_psame, elen_put, Nat.reduceEqDiff, ne_eq, not_false_eq_true, Nat.reduceLT, e0], by simp only [E_pne, E_psame, elen_put, Nat.reduceEqDiff, ne_eq, not_false_eq_true, Nat.reduceLT, e3], by simp only [E_pne, E_psame, elen_put, Nat.reduceEqDiff, ne_eq, not_false_eq_true, Nat.reduceLT, he, hall, ← Bool.and_assoc, hb, Bool.false_and], by simp only [E_pne, E_psame, elen_put, Nat.reduceEqDiff, ne_eq, not_false_eq_true, Nat.reduceLT, hw5], by simp only [E_pne, E_psame, elen_put, Nat.reduceEqDiff, ne_eq, not_false_eq_true, Nat.reduceLT, e7], by simp only [E_pne, E_psame, elen_put, Nat.reduceEqDiff, ne_eq, not_false_eq_true, Nat.reduceLT, he]⟩
        · rw [hb] at e4
          simp (config := {contextual := true, maxDischargeDepth := 12}) only [tb_at, he, e0, e3, e4, hw5, e7, e8, hlt3, i1, a1, al, i2, b1, bl, hw3, qa, ↓bD0, ↓bD1, ↓bD2, ↓bD3, ↓bD4, ↓bD5, ↓bD6, bU0, bU1, bU2, bU3, bU4, bU5, bU6, bU7, bU8, bU9, bU10, bU11, bU12, bU13, forall_const, List.all_cons, List.all_nil, Option.map_some, List.map_cons, List.map_nil, ne_eq, implies_true, isNx, cs_dec, cs_not, cs_and, cs_or, cs_valid, eq_self, ↓wp_cond, ↓wp_loop, ↓reduceIte, reduceCtorEq, Nat.reduceEqDiff, Nat.reduceLT, Nat.reduceAdd, Nat.reduceMul, Int.ofNat_lt, Int.ofNat_le, exists_const, ae_app, ap_slc, Option.map_none, mkR_none, mkR_some, ar_look, ae_mset, ae_rng, ae_mkmap0, ar_ent, lookV_push, lookV_lowed, msetV_push, msetV_lowed, lt_put, same_put, sto_over, sto_lowed, cs_dead, Option.map_some, beq_self_eq_true, decide_true, cs_true, cs_false, aa_bsl, ↓sg_bsl, q_known, mkR_none]
          refine ⟨n2 - 1, by omega, ?_⟩
          rw [hI3]
          refine ⟨rfl, k + 1, by omega, by simp only [E_pne, E_psame, elen_put, Nat.reduceEqDiff, ne_eq, not_false_eq_true, Nat.reduceLT, he], by simp only [E_pne, E_psame, elen_put, Nat.reduceEqDiff, ne_eq, not_false_eq_true, Nat.reduceLT, e0], by simp only [E_pne, E_psame, elen_put, Nat.reduceEqDiff, ne_eq, not_false_eq_true, Nat.reduceLT, e3], by simp only [E_pne, E_psame, elen_put, Nat.reduceEqDiff, ne_eq, not_false_eq_true, Nat.reduceLT, he, hall, ← Bool.and_assoc, hb, Bool.true_and], by simp only [E_pne, E_psame, elen_put, Nat.reduceEqDiff, ne_eq, not_false_eq_true, Nat.reduceLT, hw5], by simp only [E_pne, E_psame, elen_put, Nat.reduceEqDiff, ne_eq, not_false_eq_true, Nat.reduceLT, e7], by simp only [E_pne, E_psame, elen_put, Nat.reduceEqDiff, ne_eq, not_false_eq_true, Nat.reduceLT, he]⟩
      · have hki' : k = i := by omega
        subst hki'
        have hlt3 : ((k : Int) < (k : Int)) = False := eq_false (by omega)
        have hfo := fold_len [] (ls.take k)
        have hft := flat_take ls k
        simp only [List.length_nil, Nat.zero_add] at hfo
        have hgr : gRJoin ((ls.take k).foldl refJ []) x = some (refJ ((ls.take k).foldl refJ []) x, none) := by
          unfold gRJoin
          rw [if_pos ⟨by omega, by omega⟩]
        obtain ⟨u, t3, hc, hK2, hO2⟩ := fresh_LL (D := ndC) (f := gRJoin) e5.read (hK.read hrw) (by unfold lim; omega) (by unfold lim; omega) hgr (fun x hx => by cases hx)
        rw [mkR_none] at hc
        simp (config := {contextual := true, maxDischargeDepth := 12}) only [tb_at, he, e0, e3, e4, hw5, e7, e8, hlt3, i1, a1, al, hc, hw2, ↓bD0, ↓bD1, ↓bD2, ↓bD3, ↓bD4, ↓bD5, ↓bD6, bU0, bU1, bU2, bU3, bU4, bU5, bU6, bU7, bU8, bU9, bU10, bU11, bU12, bU13, forall_const, List.all_cons, List.all_nil, Option.map_some, List.map_cons, List.map_nil, ne_eq, implies_true, isNx, cs_dec, cs_not, cs_and, cs_or, cs_valid, eq_self, ↓wp_cond, ↓wp_loop, ↓reduceIte, reduceCtorEq, Nat.reduceEqDiff, Nat.reduceLT, Nat.reduceAdd, Nat.reduceMul, Int.ofNat_lt, Int.ofNat_le, exists_const, ae_app, ap_slc, Option.map_none, mkR_none, mkR_some, ar_look, ae_mset, ae_rng, ae_mkmap0, ar_ent, lookV_push, lookV_lowed, msetV_push, msetV_lowed, lt_put, same_put, sto_over, sto_lowed, cs_dead, Option.map_some, beq_self_eq_true, decide_true, cs_true, cs_false, aa_bsl, ↓sg_bsl, q_known, mkR_none]
        refine ⟨n - 1, by omega, ?_⟩
        rw [hI2]
        refine ⟨hK.trans hK2, k + 1, by omega, by simp only [E_pne, E_psame, elen_put, Nat.reduceEqDiff, ne_eq, not_false_eq_true, Nat.reduceLT, he], by simp only [E_pne, E_psame, elen_put, Nat.reduceEqDiff, ne_eq, not_false_eq_true, Nat.reduceLT, e0], by simp only [E_pne, E_psame, elen_put, Nat.reduceEqDiff, ne_eq, not_false_eq_true, Nat.reduceLT, e3], by simp only [E_pne, E_psame, elen_put, Nat.reduceEqDiff, ne_eq, not_false_eq_true, Nat.reduceLT, e4, agB_step hx], ?_, by simp only [E_pne, E_psame, elen_put, Nat.reduceEqDiff, ne_eq, not_false_eq_true, Nat.reduceLT, he]⟩
        simp only [E_pne, E_psame, elen_put, Nat.reduceEqDiff, ne_eq, not_false_eq_true, Nat.reduceLT, he]
        rw [List.take_add_one, hx]
        simp only [Option.toList_some, List.foldl_append, List.foldl_cons, List.foldl_nil]
        exact hO2.from hK.next
    have hin : i = ls.length := by omega
    subst hin
    have hlt2 : ((ls.length : Int) < (ls.length : Int)) = False := eq_false (by omega)
    rw [List.take_length] at e5
    obtain ⟨w5, hw5⟩ : ∃ w5, E e 5 = w5 := ⟨_, rfl⟩
    rw [hw5] at e5
    have hrd1 := rdLL_keep hK hrd
    cases hag : agB ls ls.length
    · rw [hag] at e4
      have hP := allP_not hs (fun hp => by rw [(agB_pw hs).2 hp] at hag; cases hag)
      have qa := conA_call hrd1 (read_nils ndC t1) (by omega) (by omega) (by simp) false 15
      rw [hP] at qa
      simp (config := {contextual := true, maxDischargeDepth := 12}) only [tb_at, he, e0, e3, e4, hw5, e7, hL, hlt2, qa, ↓bD0, ↓bD1, ↓bD2, ↓bD3, ↓bD4, ↓bD5, ↓bD6, bU0, bU1, bU2, bU3, bU4, bU5, bU6, bU7, bU8, bU9, bU10, bU11, bU12, bU13, forall_const, List.all_cons, List.all_nil, Option.map_some, List.map_cons, List.map_nil, ne_eq, implies_true, isNx, cs_dec, cs_not, cs_and, cs_or, cs_valid, eq_self, ↓wp_cond, ↓wp_loop, ↓reduceIte, reduceCtorEq, Nat.reduceEqDiff, Nat.reduceLT, Nat.reduceAdd, Nat.reduceMul, Int.ofNat_lt, Int.ofNat_le, exists_const, ae_app, ap_slc, Option.map_none, mkR_none, mkR_some, ar_look, ae_mset, ae_rng, ae_mkmap0, ar_ent, lookV_push, lookV_lowed, msetV_push, msetV_lowed, lt_put, same_put, sto_over, sto_lowed, cs_dead, Option.map_some, beq_self_eq_true, decide_true, cs_true, cs_false, aa_bsl, ↓sg_bsl, q_known, mkR_none]
      exact hK
    rw [hag] at e4
    have hpw := (agB_pw hs).1 hag
    have hP := allP_fold hs hpw
    have hfo := fold_len [] ls
    simp only [List.length_nil, Nat.zero_add] at hfo
    have qa := conA_call hrd1 e5.read (by omega) (by omega) (by unfold lim; omega) false 0
    rw [hP] at qa
    simp (config := {contextual := true, maxDischargeDepth := 12}) only [tb_at, he, e0, e3, e4, hw5, e7, hL, hlt2, ↓bD0, ↓bD1, ↓bD2, ↓bD3, ↓bD4, ↓bD5, ↓bD6, bU0, bU1, bU2, bU3, bU4, bU5, bU6, bU7, bU8, bU9, bU10, bU11, bU12, bU13, forall_const, List.all_cons, List.all_nil, Option.map_some, List.map_cons, List.map_nil, ne_eq, implies_true, isNx, cs_dec, cs_not, cs_and, cs_or, cs_valid, eq_self, ↓wp_cond, ↓wp_loop, ↓reduceIte, reduceCtorEq, Nat.reduceEqDiff, Nat.reduceLT, Nat.reduceAdd, Nat.reduceMul, Int.ofNat_lt, Int.ofNat_le, exists_const, ae_app, ap_slc, Option.map_none, mkR_none, mkR_some, ar_look, ae_mset, ae_rng, ae_mkmap0, ar_ent, lookV_push, lookV_lowed, msetV_push, msetV_lowed, lt_put, same_put, sto_over, sto_lowed, cs_dead, Option.map_some, beq_self_eq_true, decide_true, cs_true, cs_false, aa_bsl, ↓sg_bsl, q_known, mkR_none]
    obtain ⟨I4, hI4⟩ : ∃ I4 : Nat → Env → St → Prop, ∀ n e t2, I4 n e t2 = (t2 = t1 ∧ ∃ k : Nat, n + k = ls.length ∧ elen e = 100 ∧ E e 0 = v ∧ E e 5 = w5 ∧ E e 9 = .int .i64 (k : Int)) := ⟨fun n e t2 => (t2 = t1 ∧ ∃ k : Nat, n + k = ls.length ∧ elen e = 100 ∧ E e 0 = v ∧ E e 5 = w5 ∧ E e 9 = .int .i64 (k : Int)), fun _ _ _ => rfl⟩
    refine lwp_inv I4 (n := ls.length) ?_ ?_
    · rw [hI4]
      exact ⟨rfl, 0, by omega, by simp only [E_pne, E_psame, elen_put, Nat.reduceEqDiff, ne_eq, not_false_eq_true, Nat.reduceLT, he], by simp only [E_pne, E_psame, elen_put, Nat.reduceEqDiff, ne_eq, not_false_eq_true, Nat.reduceLT, e0], by simp only [E_pne, E_psame, elen_put, Nat.reduceEqDiff, ne_eq, not_false_eq_true, Nat.reduceLT, hw5], by simp only [E_pne, E_psame, elen_put, Nat.reduceEqDiff, ne_eq, not_false_eq_true, Nat.reduceLT, he]; rfl⟩
    clear e3 e4 e7 he e0 hw5
    intro n e t2 hi
    rw [hI4] at hi
    obtain ⟨rfl, k, hnk, he, e0, hw5, e9⟩ := hi
    by_cases hlt : k < ls.length
    · have hw2 := wrap_add1 (n := k) (by omega)
      have hlt3 : ((k : Int) < (ls.length : Int)) = True := eq_true (by omega)
      obtain ⟨x, hx⟩ := getsome hlt
      obtain ⟨w, i1, hxx, hrw⟩ := rdLL_at hrd hx
      obtain ⟨a1, al⟩ := hxx t2 hK
      have hxm := hsm x (List.mem_of_getElem? hx)
      have qw := conH_call withinP (hK.read hrw) e5.read (by omega) (by omega) false true 0
      rw [fold_within hs hpw (List.mem_of_getElem? hx)] at qw
      simp (config := {contextual := true, maxDischargeDepth := 12}) only [tb_at, he, e0, hw5, e9, hL, hlt3, i1, a1, al, qw, hw2, ↓bD0, ↓bD1, ↓bD2, ↓bD3, ↓bD4, ↓bD5, ↓bD6, bU0, bU1, bU2, bU3, bU4, bU5, bU6, bU7, bU8, bU9, bU10, bU11, bU12, bU13, forall_const, List.all_cons, List.all_nil, Option.map_some, List.map_cons, List.map_nil, ne_eq, implies_true, isNx, cs_dec, cs_not, cs_and, cs_or, cs_valid, eq_self, ↓wp_cond, ↓wp_loop, ↓reduceIte, reduceCtorEq, Nat.reduceEqDiff, Nat.reduceLT, Nat.reduceAdd, Nat.reduceMul, Int.ofNat_lt, Int.ofNat_le, exists_const, ae_app, ap_slc, Option.map_none, mkR_none, mkR_some, ar_look, ae_mset, ae_rng, ae_mkmap0, ar_ent, lookV_push, lookV_lowed, msetV_push, msetV_lowed, lt_put, same_put, sto_over, sto_lowed, cs_dead, Option.map_some, beq_self_eq_true, decide_true, cs_true, cs_false, aa_bsl, ↓sg_bsl, q_known, mkR_none]
      refine ⟨n - 1, by omega, ?_⟩
      rw [hI4]
      exact ⟨rfl, k + 1, by omega, by simp only [E_pne, E_psame, elen_put, Nat.reduceEqDiff, ne_eq, not_false_eq_true, Nat.reduceLT, he], by simp only [E_pne, E_psame, elen_put, Nat.reduceEqDiff, ne_eq, not_false_eq_true, Nat.reduceLT, e0], by simp only [E_pne, E_psame, elen_put, Nat.reduceEqDiff, ne_eq, not_false_eq_true, Nat.reduceLT, hw5], by simp only [E_pne, E_psame, elen_put, Nat.reduceEqDiff, ne_eq, not_false_eq_true, Nat.reduceLT, he]⟩
    · have hlt3 : ((k : Int) < (ls.length : Int)) = False := eq_false (by omega)
      simp (config := {contextual := true, maxDischargeDepth := 12}) only [tb_at, he, e0, hw5, e9, hL, hlt3, qa, ↓bD0, ↓bD1, ↓bD2, ↓bD3, ↓bD4, ↓bD5, ↓bD6, bU0, bU1, bU2, bU3, bU4, bU5, bU6, bU7, bU8, bU9, bU10, bU11, bU12, bU13, forall_const, List.all_cons, List.all_nil, Option.map_some, List.map_cons, List.map_nil, ne_eq, implies_true, isNx, cs_dec, cs_not, cs_and, cs_or, cs_valid, eq_self, ↓wp_cond, ↓wp_loop, ↓reduceIte, reduceCtorEq, Nat.reduceEqDiff, Nat.reduceLT, Nat.reduceAdd, Nat.reduceMul, Int.ofNat_lt, Int.ofNat_le, exists_const, ae_app, ap_slc, Option.map_none, mkR_none, mkR_some, ar_look, ae_mset, ae_rng, ae_mkmap0, ar_ent, lookV_push, lookV_lowed, msetV_push, msetV_lowed, lt_put, same_put, sto_over, sto_lowed, cs_dead, Option.map_some, beq_self_eq_true, decide_true, cs_true, cs_false, aa_bsl, ↓sg_bsl, q_known, mkR_none]
      exact hK

end Go.AM
end
